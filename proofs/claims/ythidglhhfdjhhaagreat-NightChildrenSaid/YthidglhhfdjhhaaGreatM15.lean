/- The law NightMatches, over the evaluator. -/
import Derived.Test.YthidglhhfdjhhaaGreatM14
set_option linter.unusedVariables false
set_option linter.unusedSimpArgs false
namespace Go.Wz
open Go

/-- append([]T{}, xs..) -/
theorem append0_c {h : H} {b : Nat} {e : TypeId} {s : Nat} {xs : List (List Value)} {sx : Value} (hb : b < h.next) (hg : h.get b = some (.cells [] e true)) (rx : RS h s sx xs) (hlen : xs.length ≤ 2 ^ 30) :
    ∃ v h', h.appS s e sx (slc b 0 0 0) = some (v, h') ∧ Fr h h' ∧ RS h' s v xs ∧ (∀ b', bOf v = some b' → b' = b ∨ h.next ≤ b') := by
  by_cases hx : xs = []
  · subst hx
    refine ⟨slc b 0 0 0, h, ?_, .refl h, ⟨by simp, .inr (.inl ⟨rfl, b, 0, hb, rfl⟩)⟩, fun b' hb' => by rw [bOf_slc] at hb'; cases hb'; exact .inl rfl⟩
    obtain ⟨h1, h2⟩ := rx.els
    simp only [H.appS, h1, h2, Option.bind_some]
    rfl
  · have hm : xs.length ≠ 0 := by simpa using hx
    have hs := rx.els
    refine ⟨slc h.next 0 xs.length 1, h.new (.cells xs.flatten e true), ?_, (Fr.refl h).new _, RS.mk rx.1 ⟨by simp, H.new_get_same _ _⟩ ?_ ?_, fun b' hb' => by rw [bOf_slc] at hb'; cases hb'; exact .inr (Nat.le_refl _)⟩
    · simp only [H.appS, hs.1, hs.2, Option.bind_some]
      show (if xs.length = 0 then _ else if 2 ^ 30 < 0 + xs.length then _ else _) = _
      rw [if_neg hm, if_neg (by omega)]
      rfl
    · rw [flatten_len _ rx.1]; omega
    · rw [List.drop_zero, List.take_of_length_le (by rw [flatten_len _ rx.1]; exact Nat.le_refl _)]

theorem G_len {reps : List Rep} : ∀ (t : List Rep) (i : Nat) (s : MS), (matchG reps i t s).2.2.length ≤ s.2.2.length + s.1.length + t.length
  | [], i, s => by unfold matchG; simp
  | r :: t, i, s => by
    unfold matchG
    have h1 := G_len (reps := reps) t (i + 1) (handAll reps r.at_ 1000 (push r.kind i s))
    have h2 := (handAll_len (reps := reps) (t := r.at_) 1000 (push r.kind i s)).1
    have h3 : (push r.kind i s).2.2.length + (push r.kind i s).1.length ≤ s.2.2.length + s.1.length + 1 := by
      unfold push; split <;> simp <;> omega
    simp only [List.length_cons]
    omega
theorem match_len (reps : List Rep) : (matchP reps).1.length ≤ 60 := by
  unfold matchP
  split
  · simp
  · split
    · have := G_len (reps := reps) reps 0 ([], [], [])
      simp only [List.length_nil] at this
      simp only
      omega
    · simp
theorem same_loop (call : CallT) (N : Nat) {h : H} {va vb : Value} {l : List (Nat × Nat × Int)} (ra : RS h 3 va (l.map encH)) (rb : RS h 3 vb (l.map encH)) (hlen : l.length < 2 ^ 40) :
    ∀ (t : List (Nat × Nat × Int)) (i m : Nat), l.drop i = t → i ≤ l.length → t.length < m → LP9_0 call N m [.one va, .one vb, .one (I i)] h = some (.exit 0, [], h) := by
  intro t
  induction t with
  | nil =>
    intro i m hi hle hm
    obtain ⟨m, rfl⟩ : ∃ q, m = q + 1 := ⟨m - 1, by omega⟩
    rw [LP9_0_succ]; unfold B9_0
    obtain rfl := drop_nil hi hle
    have hl := ra.len
    rw [List.length_map] at hl
    simp [hl]
  | cons x t ih =>
    intro i m hd hle hm
    obtain ⟨m, rfl⟩ : ∃ q, m = q + 1 := ⟨m - 1, by omega⟩
    simp only [List.length_cons] at hm
    obtain ⟨hlt, hx, hdt, hl2⟩ := drop_cons hd
    rw [LP9_0_succ]; unfold B9_0
    have hl := ra.len
    rw [List.length_map] at hl
    have hd' : (l.map encH).drop i = encH x :: t.map encH := by rw [← List.map_drop, hd]; rfl
    obtain ⟨b1, o1, _, a1, a2, _⟩ := ra.atd hd'
    obtain ⟨b2, o2, _, c1, c2, _⟩ := rb.atd hd'
    have h1 : (i : Int) < l.length := by omega
    have e7 : ibin .add (I i) (I 1) = some (I (i + 1 : Nat)) := by rw [add_in (by omega) (by omega)]; rfl
    have hb : binA .neq [false, false, false] (encH x) (encH x) = some (.bool false) := by simp [binA, eqBs, eqB, encH, I]
    simp only [hl, ibin_lssI, Option.bind_some, condV_bool, h1, decide_true, if_true, a1, c1, hideL_nil, pldn_ptr, a2, c2, hb, Bool.false_eq_true, if_false, e7, ih (i + 1) m hdt (by omega) (by omega)]

noncomputable abbrev CH (N d : Nat) : CallT := hookT 16 (CF N d)
theorem CH_ne (N d : Nat) {f : FuncId} (hf : f ≠ 16) (args : List SV) (h : H) : CH N d (.func f) args h = CF N d (.func f) args h := hookT_ne hf _ _ _

theorem matches_law (N d : Nat) (hN : 2000 ≤ N) {h : H} {vl : Value} {reps : List Rep} (r : RS h 3 vl (reps.map Rep.enc)) :
    ∃ h', execF Proofs.Tryz.prog (CH N (d + 7)) hints N 9 [.one vl] h = some (.one (.bool true), h') := by
  rw [F9_eq]; unfold F9
  have hl := r.len
  rw [List.length_map] at hl
  simp only [hl, Option.bind_some, ibin_gtrI, condV_bool]
  by_cases h80 : 80 < reps.length
  · have : (reps.length : Int) > 80 := by omega
    simp only [this, decide_true, if_true]
    exact ⟨h, by rw [show CH N (d + 7) (.func 16) [] h = _ from hookT_self _ _ _]; rfl⟩
  · have : ¬ (reps.length : Int) > 80 := by omega
    simp only [this, decide_false, Bool.false_eq_true, if_false]
    generalize eA : h.new (.cells [] 81 true) = hA
    have fA : Fr h hA := by subst eA; exact (Fr.refl h).new _
    obtain ⟨v1, h1, e1, f1, r1, _⟩ := append0_c (h := hA) (b := h.next) (e := 81) (by subst eA; simp) (by subst eA; simp) (r.fr fA) (by simp; omega)
    obtain ⟨va, h2, e2, f2, o2⟩ := match_c N d hN (reps := reps) r1 (by omega)
    have rr := ((r.fr fA).fr f1).fr f2
    obtain ⟨vb, h3, e3, f3, o3⟩ := matchR_c N (d + 3) hN (reps := reps) rr (by omega)
    rw [← match_same] at e3 o3
    have ra := o2.rs.fr f3
    have rb := o3.rs
    have la := ra.len
    have lb := rb.len
    rw [List.length_map] at la lb
    have hlen := match_len reps
    have k1 := same_loop (CH N (d + 7)) N ra rb (by omega) (matchP reps).1 0 N rfl (by omega) (by omega)
    refine ⟨h3, ?_⟩
    simp only [e1, Option.bind_some, CH_ne N (d + 7) (show (38 : Nat) ≠ 16 by omega), CH_ne N (d + 7) (show (39 : Nat) ≠ 16 by omega), e2, unT_tup, unCons_cons, un1_one, unNil_nil]
    rw [show CF N (d + 7) (.func 39) [.one vl] h2 = _ from e3]
    simp only [Option.bind_some, unT_tup, unCons_cons, un1_one, unNil_nil, la, lb, ibin_neqI, bne_self_eq_false, gsel_false, Bool.false_eq_true, if_false, condV_bool]
    rw [show LP9_0 (CH N (d + 7)) N N [.one va, .one vb, .one (I 0)] h3 = _ from k1]
    simp only [Option.bind_some, outc_exit, ifN_same, unNil_nil]
    rw [show CH N (d + 7) (.func 16) [] h3 = _ from hookT_self _ _ _]
    rfl
end Go.Wz
