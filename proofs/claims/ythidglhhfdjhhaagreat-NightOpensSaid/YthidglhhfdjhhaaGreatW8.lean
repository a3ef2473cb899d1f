/- The answer of queue.play in the example of works(), and the run of works(). -/
import Derived.Test.YthidglhhfdjhhaaGreatW7
import Derived.Test.YthidglhhfdjhhaaGreatMT
set_option linter.unusedVariables false
set_option linter.unusedSimpArgs false
set_option maxRecDepth 100000
namespace Go.Wz
open Go

/-- after the last tick -/
def hE : H := nt h11 4001 (I 1) (slc 648 0 2 1)
noncomputable def hF (M : Nat) : H := match K76 (C76 M) (some (.exit 4, [.one (ptr 423 0)], hE)) with
  | some r => r.2
  | none => hE
theorem sorted76 (M : Nat) : K76 (C76 M) (some (.exit 4, [.one (ptr 423 0)], hE)) = some (.one (ptr 423 0), hF M) := by kernel_rfl
theorem play_all (M : Nat) (hM : 3991 ≤ M) : F76 (C76 M) (M + 10 + 10) [slc 2 0 2 1, I 1] (slc 413 0 2 1) H76 = some (.one (ptr 423 0), hF M) := by
  have e := ticksQ (M + 10) 5 3990 (M + 9) 11 h11 (by decide) h11_quiet (by omega) (by omega) (by omega)
  rw [F76_g, pre76, show M + 10 + 10 = (M + 9) + 11 from rfl, show C76 M = CQ (M + 9 + 11) (5 + 7) from rfl]
  have e2 := ticks11 M (M + 9)
  rw [show M + 10 + 10 = (M + 9) + 11 from rfl, show C76 M = CQ (M + 9 + 11) (5 + 7) from rfl] at e2
  rw [e2]
  rw [show LP76_2 (CQ (M + 9 + 11) (5 + 7)) (M + 9 + 11) (M + 9) [.one (ptr 423 0)] h11 = _ from e]
  exact sorted76 M

/-- what is kept of it -/
def after : List (Nat × Blk) := [(423, .cells [I 1, slc 453 0 2 1, slc 487 0 2 1, I 4001, slc 648 0 2 1] 139 true),
  (464, .cells [I 0, I 3, I 20, slc 375 0 1 1, I 100, I 1, I 14, I (-1), I 4] 192 true),
  (481, .cells [I 0, I 2, I 30, slc 393 0 1 1, I 100, I 1, I 26, I (-1), I 8] 192 true),
  (487, .cells [ptr 464 0, ptr 481 0] 189 true)]
theorem hF_old (M : Nat) : agree l76 (hF M) = true := by kernel_rfl
theorem hF_new (M : Nat) : agree after (hF M) = true := by kernel_rfl
def gP (h : H) : H := ⟨fun i => bif Nat.blt i 422 then h.get i else look after i, 658⟩
def ansP (f : FuncId) (args : List SV) (h : H) : Option (SV × H) :=
  bif Nat.beq f 76 then (match args with
    | [.agg l, .one v] => bif eqVs l [slc 2 0 2 1, I 1] && eqV1 v (slc 413 0 2 1) && Nat.beq h.next 422 && agree l76 h then some (.one (ptr 423 0), gP h) else none
    | _ => none) else none

theorem look_low {n : Nat} : ∀ {l : List (Nat × Blk)}, (l.all fun p => Nat.blt p.1 n && lowB n p.2) = true → ∀ b x, look l b = some x → b < n ∧ lowB n x = true
  | [], _, b, x, e => by cases e
  | (b0, x0) :: l, a, b, x, e => by
    simp only [List.all_cons, Bool.and_eq_true] at a
    simp only [look] at e
    cases hb : Nat.beq b b0 with
    | true =>
      rw [hb] at e
      obtain rfl := Nat.eq_of_beq_eq_true hb
      cases e
      exact ⟨by have := a.1.1; simp [Nat.blt] at this; omega, a.1.2⟩
    | false =>
      rw [hb] at e
      exact look_low a.2 b x e
noncomputable abbrev call76 : CallT := stepF Proofs.Tryz.prog (C76 4100) (CF 0 0) hints (4100 + 10 + 10)
theorem ansP_ok : AnsOK Proofs.Tryz.prog call76 ansP := by
  intro f args h v g e
  unfold ansP at e
  cases h1 : Nat.beq f 76 with
  | false => rw [h1] at e; cases e
  | true =>
    obtain rfl := Nat.eq_of_beq_eq_true h1
    rw [h1] at e
    simp only [cond_true] at e
    split at e
    · rename_i l a
      cases h2 : (eqVs l [slc 2 0 2 1, I 1] && eqV1 a (slc 413 0 2 1) && Nat.beq h.next 422 && agree l76 h) with
      | false => rw [h2] at e; cases e
      | true =>
        rw [h2] at e
        simp only [cond_true, Option.some.injEq, Prod.mk.injEq] at e
        obtain ⟨rfl, rfl⟩ := e
        simp only [Bool.and_eq_true, nbq] at h2
        obtain ⟨⟨⟨h2, h3⟩, h5⟩, h6⟩ := h2
        obtain rfl := eqVs_ok h2; obtain rfl := eqV1_ok h3
        refine ⟨H76, hF 4100, h5.symm, agree_ok h6, ?_, by have : (gP h).next = 658 := rfl; omega, .one rfl, fun b x hb => ?_⟩
        · show execF Proofs.Tryz.prog (C76 4100) hints (4100 + 10 + 10) 76 _ H76 = _
          rw [F76_eq]; exact play_all 4100 (by omega)
        · simp only [gP] at hb
          cases hl : Nat.blt b 422 with
          | true =>
            rw [hl] at hb
            simp only [cond_true] at hb
            cases h0 : H76.get b with
            | none => exact .inr (.inr ⟨hb, rfl⟩)
            | some y =>
              have hy := agree_ok h6 b y h0
              rw [hb] at hy; cases hy
              exact .inl ⟨rfl, fun _ => agree_ok (hF_old 4100) b x h0⟩
          | false =>
            rw [hl] at hb
            simp only [cond_false] at hb
            obtain ⟨k1, k2⟩ := look_low (n := 658) (l := after) (by decide) b x hb
            exact .inr (.inl ⟨agree_ok (hF_new 4100) b x hb, k1, lowB_ok k2⟩)
    · cases e

/-- the calls by which works() is run -/
noncomputable def callW : CallT := callX Proofs.Tryz.prog ansP hints 4120 20
theorem CQ_ok (M d B : Nat) : CallOK Proofs.Tryz.prog B (CQ (M + 10) (d + 7)) := ovr_ok (ansQ_ok M d) (CF_ok _ _ _) (CF_ok _ _ _)
theorem callW_ok (B : Nat) : CallOK Proofs.Tryz.prog B callW :=
  callX_ok tryz_names tryz_mixed hints 4120 ansP_ok (stepF_ok tryz_names tryz_mixed hints _ (CQ_ok (4100 + 10) 5 B) (CF_ok _ _ _)) 20
noncomputable def hW : H := match callW (.func 16) [] H.empty with
  | some r => r.2
  | none => H.empty
theorem works_c : callW (.func 16) [] H.empty = some (.one (.bool true), hW) := by kernel_rfl
end Go.Wz
