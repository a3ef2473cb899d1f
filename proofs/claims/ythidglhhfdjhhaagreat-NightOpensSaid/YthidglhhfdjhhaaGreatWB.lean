import Derived.Test.YthidglhhfdjhhaaGreatWA
import Derived.Test.YthidglhhfdjhhaaGreatZD
/- The example of works(): the heap at the tenth tick; the known answers. -/
set_option linter.unusedVariables false
set_option linter.unusedSimpArgs false
namespace Go.Wz
open Go

theorem nbq {a b : Nat} : Nat.beq a b = true ↔ a = b := ⟨Nat.eq_of_beq_eq_true, fun h => by subst h; exact Nat.beq_refl a⟩
def look (l : List (Nat × Blk)) (i : Nat) : Option Blk := match l with
  | [] => none
  | (b, x) :: l => bif Nat.beq i b then some x else look l i
def eqV1 : Value → Value → Bool
  | .int .i64 a, .int .i64 b => decide (a = b)
  | .bool a, .bool b => a == b
  | .pointer (some ⟨a, o, none⟩), .pointer (some ⟨b, q, none⟩) => Nat.beq a b && Nat.beq o q
  | .slice none n c, .slice none m d => Nat.beq n m && Nat.beq c d
  | .slice (some ⟨a, o, none⟩) n c, .slice (some ⟨b, q, none⟩) m d => Nat.beq a b && Nat.beq o q && Nat.beq n m && Nat.beq c d
  | _, _ => false
theorem eqV1_ok {a b : Value} (e : eqV1 a b = true) : a = b := by
  unfold eqV1 at e
  split at e
  · simp at e; rw [e]
  · simp at e; rw [e]
  · simp only [Bool.and_eq_true, nbq] at e; rw [e.1, e.2]
  · simp only [Bool.and_eq_true, nbq] at e; rw [e.1, e.2]
  · simp only [Bool.and_eq_true, nbq] at e; rw [e.1.1.1, e.1.1.2, e.1.2, e.2]
  · cases e
def eqVs : List Value → List Value → Bool
  | [], [] => true
  | a :: l, b :: m => eqV1 a b && eqVs l m
  | _, _ => false
theorem eqVs_ok : ∀ {a b : List Value}, eqVs a b = true → a = b
  | [], [], _ => rfl
  | a :: l, b :: m, e => by
    simp only [eqVs, Bool.and_eq_true] at e
    rw [eqV1_ok e.1, eqVs_ok e.2]
  | [], _ :: _, e => by cases e
  | _ :: _, [], e => by cases e
def eqBk : Option Blk → Blk → Bool
  | some (.cells vs e w), .cells vs' e' w' => eqVs vs vs' && Nat.beq e e' && (w == w')
  | _, _ => false
theorem eqBk_ok {a : Option Blk} {b : Blk} (e : eqBk a b = true) : a = some b := by
  unfold eqBk at e
  split at e
  · simp only [Bool.and_eq_true, nbq, beq_iff_eq] at e; rw [eqVs_ok e.1.1, e.1.2, e.2]
  · cases e
def agree : List (Nat × Blk) → H → Bool
  | [], _ => true
  | (b, x) :: l, h => eqBk (h.get b) x && agree l h
theorem agree_ok : ∀ {l : List (Nat × Blk)} {h : H}, agree l h = true → ∀ b x, look l b = some x → h.get b = some x
  | [], _, _, b, x, e => by cases e
  | (b0, x0) :: l, h, a, b, x, e => by
    simp only [agree, Bool.and_eq_true] at a
    simp only [look] at e
    cases hb : Nat.beq b b0 with
    | true =>
      rw [hb] at e
      obtain rfl := Nat.eq_of_beq_eq_true hb
      cases e
      exact eqBk_ok a.1
    | false =>
      rw [hb] at e
      exact agree_ok a.2 b x e

def vis : Blk := .cells [I 0, I 0, I 0, .bool true, I 1, I 1, I 1, I 0, I 0, .bool true, I 1, I 5] 59 true
def b10 (t : Int) (l0 l1 : Int) : List (Nat × Blk) := [(423, .cells [I 1, slc 453 0 2 1, slc 487 0 2 1, I t, slc 648 0 2 1] 139 true),
  (432, .cells [I 4, I 2, I 3, I 1, .bool false, nlS, I 5, I 8, nlS, I 10, I l0] 203 true),
  (447, .cells [I 2, I 5, I 2, I 0, .bool false, nlS, I 0, I (-1), nlS, I 0, I l1] 203 true),
  (453, .cells [ptr 432 0, ptr 447 0] 200 true),
  (464, .cells [I 0, I 3, I 20, slc 375 0 1 1, I 100, I 1, I 14, I (-1), I 4] 192 true),
  (481, .cells [I 0, I 2, I 30, slc 393 0 1 1, I 100, I 1, I 26, I (-1), I 8] 192 true),
  (487, .cells [ptr 464 0, ptr 481 0] 189 true),
  (648, vis),
  (2, .cells [I 4, I 2, I 3, I 1, .bool false, I 2, I 5, I 2, I 0, .bool false] 89 true),
  (413, .cells [I 0, I 3, I 20, slc 375 0 1 1, I 100, I 0, I 2, I 30, slc 393 0 1 1, I 100] 61 true), (375, .cells [I 0] 3 true), (393, .cells [I 0] 3 true)]
/-- the heap at the tenth tick -/
def HL : H := ⟨look (b10 10 2 0), 658⟩
theorem HL_quiet : Quiet HL 423 453 487 432 447 464 481 10 (I 1) (slc 648 0 2 1) where
  ln := by decide
  n := rfl
  lr := by decide
  r := rfl
  lp := by decide
  p := rfl
  q0 := ⟨by decide, _, _, _, _, _, _, _, _, _, rfl, by decide⟩
  q1 := ⟨by decide, _, _, _, _, _, _, _, _, _, rfl, by decide⟩
  a0 := ⟨by decide, _, _, _, _, _, _, _, _, _, rfl, by decide, by decide⟩
  a1 := ⟨by decide, _, _, _, _, _, _, _, _, _, rfl, by decide, by decide⟩

def isI : Value → Option Int
  | .int .i64 n => some n
  | _ => none
theorem isI_ok {v : Value} {n : Int} (e : isI v = some n) : v = I n := by
  unfold isI at e
  split at e
  · cases e; rfl
  · cases e
/-- a ride that nobody is on -/
def qbB (x : Option Blk) : Bool := match x with
  | some (.cells [c0, c1, cy, pa, c4, q, be, en, on, tk, l] e w) => (isI cy).isSome && (isI pa).isSome && eqV1 q nlS && (isI be).isSome && (isI en).isSome && eqV1 on nlS && Nat.beq e 203 && w && (match isI l with | some l => decide (0 ≤ l) | none => false)
  | _ => false
theorem qbB_ok {h : H} {b : Nat} (hb : b < h.next) (e : qbB (h.get b) = true) : QB h b := by
  unfold qbB at e
  split at e
  · rename_i c0 c1 cy pa c4 q be en on tk l t w hg
    simp only [Bool.and_eq_true, Option.isSome_iff_exists, nbq] at e
    obtain ⟨⟨⟨⟨⟨⟨⟨⟨⟨a1, e1⟩, ⟨a2, e2⟩⟩, e3⟩, ⟨a4, e4⟩⟩, ⟨a5, e5⟩⟩, e6⟩, e7⟩, e8⟩, e9⟩ := e
    split at e9
    · rename_i l' hl
      obtain rfl := isI_ok e1; obtain rfl := isI_ok e2; obtain rfl := eqV1_ok e3; obtain rfl := isI_ok e4; obtain rfl := isI_ok e5; obtain rfl := eqV1_ok e6; obtain rfl := isI_ok hl
      subst e7; subst e8
      exact ⟨hb, _, _, _, _, _, _, _, _, _, hg, by simpa using e9⟩
    · cases e9
  · cases e
theorem qbB_of {h : H} {b : Nat} (Q : QB h b) : qbB (h.get b) = true := by
  obtain ⟨_, c0, c1, c4, tk, cy, pa, be, en, l, hg, hl⟩ := Q
  rw [hg]
  simp [qbB, isI, I, eqV1, hl]
def qpB (t : Int) (x : Option Blk) : Bool := match x with
  | some (.cells [at_, c1, c2, c3, c4, c5, c6, c, hm] e w) => Nat.beq e 192 && w && (match isI at_, isI c with | some a, some c => decide (a < t) && decide (c < t) | _, _ => false)
  | _ => false
theorem qpB_ok {h : H} {b : Nat} {t : Int} (hb : b < h.next) (e : qpB t (h.get b) = true) : QP h b t := by
  unfold qpB at e
  split at e
  · rename_i at_ c1 c2 c3 c4 c5 c6 c hm ty w hg
    simp only [Bool.and_eq_true, nbq] at e
    obtain ⟨⟨e1, e2⟩, e3⟩ := e
    split at e3
    · rename_i a' c' ha hc
      obtain rfl := isI_ok ha; obtain rfl := isI_ok hc
      subst e1; subst e2
      simp at e3
      exact ⟨hb, _, _, _, _, _, _, _, _, _, hg, e3.1, e3.2⟩
    · cases e3
  · cases e
theorem qpB_of {h : H} {b : Nat} {t : Int} (Q : QP h b t) : qpB t (h.get b) = true := by
  obtain ⟨_, sz, tk, w, pt, wi, pu, hm, at_, c, hg, h1, h2⟩ := Q
  rw [hg]
  simp [qpB, isI, I, h1, h2]
def tickOf (x : Option Blk) : Option Int := match x with
  | some (.cells [_, b, c, t, _] e w) => if eqV1 b (slc 453 0 2 1) && eqV1 c (slc 487 0 2 1) && Nat.beq e 139 && w then isI t else none
  | _ => none
theorem tickOf_ok {h : H} {t : Int} (e : tickOf (h.get 423) = some t) : ∃ w0 vs, h.get 423 = some (.cells [w0, slc 453 0 2 1, slc 487 0 2 1, I t, vs] 139 true) := by
  unfold tickOf at e
  split at e
  · rename_i a b c tv v ty w hg
    split at e
    · rename_i hc
      simp only [Bool.and_eq_true, nbq] at hc
      obtain ⟨⟨⟨h1, h2⟩, h3⟩, h4⟩ := hc
      obtain rfl := eqV1_ok h1; obtain rfl := eqV1_ok h2; obtain rfl := isI_ok e
      subst h3; subst h4
      exact ⟨_, _, hg⟩
    · cases e
  · cases e
theorem tickOf_of {h : H} {t : Int} {w0 vs : Value} (e : h.get 423 = some (.cells [w0, slc 453 0 2 1, slc 487 0 2 1, I t, vs] 139 true)) : tickOf (h.get 423) = some t := by
  rw [e]; rfl
def rows10 : List (Nat × Blk) := [(453, .cells [ptr 432 0, ptr 447 0] 200 true), (487, .cells [ptr 464 0, ptr 481 0] 189 true)]
def quietB (h : H) : Bool := Nat.ble 658 h.next && (match tickOf (h.get 423) with
  | some t => qpB t (h.get 464) && qpB t (h.get 481)
  | none => false) && qbB (h.get 432) && qbB (h.get 447) && agree rows10 h
theorem quietB_ok {h : H} (e : quietB h = true) : ∃ t w0 vs, Quiet h 423 453 487 432 447 464 481 t w0 vs := by
  simp only [quietB, Bool.and_eq_true] at e
  obtain ⟨⟨⟨⟨e1, e2⟩, e3⟩, e4⟩, e5⟩ := e
  have e1 := Nat.le_of_ble_eq_true e1
  split at e2
  · rename_i t ht
    simp only [Bool.and_eq_true] at e2
    obtain ⟨w0, vs, hn⟩ := tickOf_ok ht
    exact ⟨t, w0, vs, { ln := by omega, n := hn, lr := by omega, r := agree_ok e5 453 _ rfl, lp := by omega, p := agree_ok e5 487 _ rfl, q0 := qbB_ok (by omega) e3, q1 := qbB_ok (by omega) e4, a0 := qpB_ok (by omega) e2.1, a1 := qpB_ok (by omega) e2.2 }⟩
  · cases e2
theorem quietB_of {h : H} {t : Int} {w0 vs : Value} (hn : 658 ≤ h.next) (Q : Quiet h 423 453 487 432 447 464 481 t w0 vs) : quietB h = true := by
  have e5 : agree rows10 h = true := by simp only [agree, rows10, Q.r, Q.p]; rfl
  simp only [quietB, tickOf_of Q.n, qpB_of Q.a0, qpB_of Q.a1, qbB_of Q.q0, qbB_of Q.q1, e5, Nat.ble_eq_true_of_le hn, Bool.and_true]

/-- the known answers: leave in a quiet tick; end at the tenth tick -/
def ansQ (f : FuncId) (args : List SV) (h : H) : Option (SV × H) :=
  bif Nat.beq f 133 then (match args with
    | [.one v] => bif eqV1 v (ptr 423 0) && quietB h then some (.tup [], h) else none
    | _ => none) else
  bif Nat.beq f 131 then (match args with
    | [.one v] => bif eqV1 v (ptr 423 0) && (match tickOf (h.get 423) with | some t => decide (t = 10) | none => false) && Nat.beq h.next 658 && agree (b10 10 2 0) h then some (.tup [], HL) else none
    | _ => none) else none
theorem ansQ_ok (M d : Nat) : AnsOK Proofs.Tryz.prog (CF (M + 10) (d + 7)) ansQ := by
  intro f args h v g e
  unfold ansQ at e
  cases h1 : Nat.beq f 133 with
  | true =>
    obtain rfl := Nat.eq_of_beq_eq_true h1
    rw [h1] at e
    simp only [cond_true] at e
    split at e
    · rename_i a
      cases h2 : (eqV1 a (ptr 423 0) && quietB h) with
      | false => rw [h2] at e; cases e
      | true =>
        rw [h2] at e
        simp only [cond_true, Option.some.injEq, Prod.mk.injEq] at e
        obtain ⟨rfl, rfl⟩ := e
        simp only [Bool.and_eq_true] at h2
        obtain rfl := eqV1_ok h2.1
        obtain ⟨t, w0, vs, Q⟩ := quietB_ok h2.2
        obtain ⟨h', e1, f1⟩ := leave_c M d Q
        exact ⟨h, h', rfl, fun _ _ e => e, e1, Nat.le_refl _, .tup0, fun b x hb => .inl ⟨hb, fun hl => (f1.get b hl).trans hb⟩⟩
    · cases e
  | false =>
    rw [h1] at e
    simp only [cond_false] at e
    cases h3 : Nat.beq f 131 with
    | false => rw [h3] at e; cases e
    | true =>
      obtain rfl := Nat.eq_of_beq_eq_true h3
      rw [h3] at e
      simp only [cond_true] at e
      split at e
      · rename_i a
        cases h2 : (eqV1 a (ptr 423 0) && (match tickOf (h.get 423) with | some t => decide (t = 10) | none => false) && Nat.beq h.next 658 && agree (b10 10 2 0) h) with
        | false => rw [h2] at e; cases e
        | true =>
          rw [h2] at e
          simp only [cond_true, Option.some.injEq, Prod.mk.injEq] at e
          obtain ⟨rfl, rfl⟩ := e
          simp only [Bool.and_eq_true, nbq] at h2
          obtain ⟨⟨⟨h2, h4⟩, h5⟩, h6⟩ := h2
          obtain rfl := eqV1_ok h2
          have e1 := end_c M d HL_quiet
          exact ⟨HL, HL, h5.symm, agree_ok h6, e1, Nat.le_of_eq h5, .tup0, fun b x hb => .inl ⟨hb, fun _ => hb⟩⟩
      · cases e
/-- what 'ansQ' says of end in a quiet tick after the tenth -/
theorem ansQ_end {h : H} {t : Int} {w0 vs : Value} (Q : Quiet h 423 453 487 432 447 464 481 t w0 vs) (ht : 10 < t) (args : List SV) : ansQ 131 args h = none := by
  have ht' : decide (t = 10) = false := by
    have : t ≠ 10 := by omega
    simpa using this
  have e : Nat.beq 131 133 = false := rfl
  have e' : Nat.beq 131 131 = true := rfl
  simp only [ansQ, e, e', cond_true, cond_false, tickOf_of Q.n, ht', Bool.and_false, Bool.false_and]
  split <;> rfl
theorem ansQ_leave {h : H} {t : Int} {w0 vs : Value} (hn : 658 ≤ h.next) (Q : Quiet h 423 453 487 432 447 464 481 t w0 vs) : ansQ 133 [.one (ptr 423 0)] h = some (.tup [], h) := by
  have e : Nat.beq 133 133 = true := rfl
  have e' : eqV1 (ptr 423 0) (ptr 423 0) = true := rfl
  simp only [ansQ, e, e', cond_true, quietB_of hn Q, Bool.and_true]
end Go.Wz
/- Quiet ticks with the known answers: the heap stays but for the tick. -/
set_option linter.unusedVariables false
set_option linter.unusedSimpArgs false
namespace Go.Wz
open Go

noncomputable abbrev CQ (N d : Nat) : CallT := ovr ansQ (CF N d)
theorem CQ_of {f : Nat} (N d : Nat) (h1 : Nat.beq f 133 = false) (h2 : Nat.beq f 131 = false) (args : List SV) (h : H) : CQ N d (.func f) args h = CF N d (.func f) args h := by
  simp only [CQ, ovr, ansQ, h1, h2, cond_false]
theorem ovr_none {ans : FuncId → List SV → H → Option (SV × H)} {call : CallT} {f : FuncId} {args : List SV} {h : H} (e : ans f args h = none) : ovr ans call (.func f) args h = call (.func f) args h := by
  simp only [ovr, e]
theorem ovr_some {ans : FuncId → List SV → H → Option (SV × H)} {call : CallT} {f : FuncId} {args : List SV} {h : H} {r : SV × H} (e : ans f args h = some r) : ovr ans call (.func f) args h = some r := by
  simp only [ovr, e]
theorem put_put (h : H) (b : Nat) (x y : Option Blk) : (h.put b x).put b y = h.put b y := by
  simp only [H.put, H.mk.injEq, and_true]
  funext i
  by_cases e : i = b
  · simp [e]
  · simp [e]

theorem begins_roundQ (N d m i : Nat) {h : H} {bn br b : Nat} {cs ns : List Value} {e e' : TypeId} {w w' : Bool} {t : Int} (hi : i < 2) (hr : h.get br = some (.cells cs e w)) (hb : cs[i]? = some (ptr b 0)) (Q : QB h b) (hn : h.get bn = some (.cells ns e' w')) (hn1 : ns[1]? = some (slc br 0 2 1)) (ht : ns[3]? = some (I t)) :
    LP76_3 (CQ N (d + 1)) N (m + 1) [.one (ptr bn 0), .one (I 2), .one (I i)] h = LP76_3 (CQ N (d + 1)) N m [.one (ptr bn 0), .one (I 2), .one (I (i + 1 : Nat))] h := by
  rw [LP76_3_succ]; unfold B76_3
  have h1 : (i : Int) < 2 := by omega
  have b1 := begin_c N d i hi hr hb Q hn hn1 ht
  rw [← CQ_of N (d + 1) (f := 134) rfl rfl] at b1
  simp -implicitDefEqProofs only [ibin_lssI, Option.bind_some, condV_bool, h1, decide_true, if_true, b1, unT_tup, unNil_nil, add1 (show i < 1000 by omega)]
theorem lines_roundQ (call : CallT) (N m i : Nat) (hN : 2 ≤ N) {h : H} {bn br b : Nat} {cs : List Value} {e : TypeId} {w : Bool} (hi : i < 2) (hr : h.get br = some (.cells cs e w)) (hb : cs[i]? = some (ptr b 0)) (Q : QB h b) :
    LP76_4 call N (m + 1) [.one (ptr bn 0), .one (slc br 0 2 1), .one (I 2), .one (I i)] h = LP76_4 call N m [.one (ptr bn 0), .one (slc br 0 2 1), .one (I 2), .one (I (i + 1 : Nat))] h := by
  rw [LP76_4_succ]; unfold B76_4
  obtain ⟨hlt, c0, c1, c4, tk, cy, pa, be, en, l, hg, hl⟩ := Q
  have h1 : (i : Int) < 2 := by omega
  have l1 : h.ld br i = some (ptr b 0) := by rw [H.ld_of _ hr, hb]
  have r5 : LP76_5 call N N [.one (ptr bn 0), .one (ptr b 0), .one (I 0), .one (slc br 0 2 1), .one (I 2), .one (I i), .one nlS, .one (I 0), .one (I 0)] h = some (.exit 10, [.one (ptr bn 0), .one (ptr b 0), .one (I 0), .one (slc br 0 2 1), .one (I 2), .one (I i)], h) := by
    obtain ⟨M, rfl⟩ : ∃ q, N = q + 1 := ⟨N - 1, by omega⟩
    rw [LP76_5_succ]; unfold B76_5; simp
  have mx : mx2 (I l) (I 0) = some (I l) := by rw [mx2I, if_neg (by omega)]
  have st : h.st b 10 (I l) = some h := by
    rw [H.st_of _ hg, if_pos (by simp)]
    congr 1
    exact H.put_self (by rw [hg]; rfl)
  have q8 : [c0, c1, I cy, I pa, c4, nlS, I be, I en, nlS, tk, I l][8]? = some nlS := rfl
  have q10 : [c0, c1, I cy, I pa, c4, nlS, I be, I en, nlS, tk, I l][10]? = some (I l) := rfl
  simp -implicitDefEqProofs only [ibin_lssI, Option.bind_some, condV_bool, h1, decide_true, if_true, ix2 hi, pld_ptr, l1, nilC_ptr, padd_ptr, Nat.zero_add, H.ld_of _ hg, q8, lenS_nil]
  rw [show LP76_5 call N N [.one (ptr bn 0), .one (ptr b 0), .one (I 0), .one (slc br 0 2 1), .one (I 2), .one (I i), .one nlS, .one (I ((0 : Nat) : Int)), .one (I 0)] h = _ from r5]
  simp -implicitDefEqProofs only [Option.bind_some, outc_exit, ifN_same, unConD_cons, un1_one, unNil_nil, nilC_ptr, padd_ptr, Nat.zero_add, pld_ptr, H.ld_of _ hg, q10, mx, pst_ptr, st, add1 (show i < 1000 by omega)]

abbrev QT (h : H) (t : Int) (w0 vs : Value) : Prop := Quiet h 423 453 487 432 447 464 481 t w0 vs
abbrev nt (h : H) (t : Int) (w0 vs : Value) : H := h.put 423 (some (.cells [w0, slc 453 0 2 1, slc 487 0 2 1, I t, vs] 139 true))
theorem tickQ (M d m : Nat) {h : H} {t : Int} {w0 vs : Value} (hn : 658 ≤ h.next) (Q : QT h t w0 vs) (ht0 : 10 < t) (ht : t ≤ 4000) :
    LP76_2 (CQ (M + 10) (d + 7)) (M + 10) (m + 1) [.one (ptr 423 0)] h = LP76_2 (CQ (M + 10) (d + 7)) (M + 10) m [.one (ptr 423 0)] (nt h (t + 1) w0 vs) ∧ QT (nt h (t + 1) w0 vs) (t + 1) w0 vs := by
  rw [LP76_2_succ]; unfold B76_2
  have e1 := end_c M d Q
  rw [← ovr_none (call := CF (M + 10) (d + 7)) (ansQ_end Q ht0 _)] at e1
  have e2 := come_c M (d + 6) Q
  rw [← CQ_of (M + 10) (d + 6 + 1) (f := 132) rfl rfl] at e2
  have e3 : CQ (M + 10) (d + 7) (.func 133) [.one (ptr 423 0)] h = some (.tup [], h) := ovr_some (ansQ_leave hn Q)
  have r0 := begins_roundQ (M + 10) (d + 6) (M + 9) 0 (by omega) Q.r rfl Q.q0 Q.n rfl rfl
  have r1 := begins_roundQ (M + 10) (d + 6) (M + 8) 1 (by omega) Q.r rfl Q.q1 Q.n rfl rfl
  have r2 : LP76_3 (CQ (M + 10) (d + 7)) (M + 10) (M + 8) [.one (ptr 423 0), .one (I 2), .one (I (1 + 1 : Nat))] h = some (.exit 6, [.one (ptr 423 0)], h) := by
    rw [show M + 8 = (M + 7) + 1 from rfl, LP76_3_succ]; unfold B76_3; simp
  have s0 := lines_roundQ (CQ (M + 10) (d + 7)) (M + 10) (M + 9) 0 (by omega) (bn := 423) (by omega) Q.r rfl Q.q0
  have s1 := lines_roundQ (CQ (M + 10) (d + 7)) (M + 10) (M + 8) 1 (by omega) (bn := 423) (by omega) Q.r rfl Q.q1
  have s2 : LP76_4 (CQ (M + 10) (d + 7)) (M + 10) (M + 8) [.one (ptr 423 0), .one (slc 453 0 2 1), .one (I 2), .one (I (1 + 1 : Nat))] h = some (.exit 8, [.one (ptr 423 0)], h) := by
    rw [show M + 8 = (M + 7) + 1 from rfl, LP76_4_succ]; unfold B76_4; simp
  rw [r1] at r0
  rw [show LP76_3 (CQ (M + 10) (d + 6 + 1)) (M + 10) (M + 8) [.one (ptr 423 0), .one (I 2), .one (I (1 + 1 : Nat))] h = _ from r2] at r0
  rw [s1, s2] at s0
  have et : ibin .add (I t) (I 1) = some (I (t + 1)) := add_in (by omega) (by omega)
  constructor
  · have st : h.st 423 3 (I (t + 1)) = some (nt h (t + 1) w0 vs) := by
      rw [H.st_of _ Q.n, if_pos (by simp)]; rfl
    have n1 : [w0, slc 453 0 2 1, slc 487 0 2 1, I t, vs][1]? = some (slc 453 0 2 1) := rfl
    have n3 : [w0, slc 453 0 2 1, slc 487 0 2 1, I t, vs][3]? = some (I t) := rfl
    have hle : decide (t ≤ 4000) = true := by simpa using ht
    simp -implicitDefEqProofs only [nilC_ptr, Option.bind_some, padd_ptr, Nat.zero_add, pld_ptr, H.ld_of _ Q.n, n3, ibin_leqI, hle, condV_bool, if_true, e1, unT_tup, unNil_nil, e2, e3, n1, lenS_slc]
    rw [show LP76_3 (CQ (M + 10) (d + 7)) (M + 10) (M + 10) [.one (ptr 423 0), .one (I ((2 : Nat) : Int)), .one (I 0)] h = _ from r0]
    simp -implicitDefEqProofs only [Option.bind_some, outc_exit, ifN_same, unConD_cons, un1_one, unNil_nil, nilC_ptr, padd_ptr, Nat.zero_add, pld_ptr, H.ld_of _ Q.n, n1, lenS_slc]
    rw [show LP76_4 (CQ (M + 10) (d + 7)) (M + 10) (M + 10) [.one (ptr 423 0), .one (slc 453 0 2 1), .one (I ((2 : Nat) : Int)), .one (I 0)] h = _ from s0]
    simp -implicitDefEqProofs only [Option.bind_some, outc_exit, ifN_same, unConD_cons, un1_one, unNil_nil, nilC_ptr, padd_ptr, Nat.zero_add, pld_ptr, H.ld_of _ Q.n, n3, et, pst_ptr, st]
  · exact {
      ln := Q.ln
      n := H.put_get_same _ _ _
      lr := Q.lr
      r := by rw [H.put_get_ne _ _ (by decide)]; exact Q.r
      lp := Q.lp
      p := by rw [H.put_get_ne _ _ (by decide)]; exact Q.p
      q0 := ⟨Q.q0.1, by rw [H.put_get_ne _ _ (by decide)]; exact Q.q0.2⟩
      q1 := ⟨Q.q1.1, by rw [H.put_get_ne _ _ (by decide)]; exact Q.q1.2⟩
      a0 := ⟨Q.a0.1, by
        rw [H.put_get_ne _ _ (by decide)]
        obtain ⟨sz, tk, w, pt, wi, pu, hm, at_, c, g1, g2, g3⟩ := Q.a0.2
        exact ⟨sz, tk, w, pt, wi, pu, hm, at_, c, g1, by omega, by omega⟩⟩
      a1 := ⟨Q.a1.1, by
        rw [H.put_get_ne _ _ (by decide)]
        obtain ⟨sz, tk, w, pt, wi, pu, hm, at_, c, g1, g2, g3⟩ := Q.a1.2
        exact ⟨sz, tk, w, pt, wi, pu, hm, at_, c, g1, by omega, by omega⟩⟩ }

theorem ticksQ (M d : Nat) {w0 vs : Value} : ∀ (k m : Nat) (t : Int) (h : H), 658 ≤ h.next → QT h t w0 vs → 10 < t → t + k = 4001 → k < m →
    LP76_2 (CQ (M + 10) (d + 7)) (M + 10) m [.one (ptr 423 0)] h = some (.exit 4, [.one (ptr 423 0)], nt h 4001 w0 vs) := by
  intro k
  induction k with
  | zero =>
    intro m t h hn Q ht0 hk hm
    obtain ⟨m, rfl⟩ : ∃ q, m = q + 1 := ⟨m - 1, by omega⟩
    obtain rfl : t = 4001 := by omega
    have hs : nt h 4001 w0 vs = h := H.put_self Q.n
    rw [hs, LP76_2_succ]; unfold B76_2
    have n3 : [w0, slc 453 0 2 1, slc 487 0 2 1, I 4001, vs][3]? = some (I 4001) := rfl
    have hle : decide ((4001 : Int) ≤ 4000) = false := rfl
    simp -implicitDefEqProofs only [nilC_ptr, Option.bind_some, padd_ptr, Nat.zero_add, pld_ptr, H.ld_of _ Q.n, n3, ibin_leqI, hle, condV_bool, Bool.false_eq_true, if_false]
  | succ k ih =>
    intro m t h hn Q ht0 hk hm
    obtain ⟨m, rfl⟩ : ∃ q, m = q + 1 := ⟨m - 1, by omega⟩
    obtain ⟨e1, QA⟩ := tickQ M d m hn Q ht0 (by omega)
    rw [e1, ih m (t + 1) (nt h (t + 1) w0 vs) hn QA (by omega) (by omega) (by omega), nt, nt, put_put]
end Go.Wz
/- The run of queue.play in the example of works(). -/
set_option linter.unusedVariables false
set_option linter.unusedSimpArgs false
set_option maxRecDepth 100000
namespace Go.Wz
open Go

def l76 : List (Nat × Blk) := [(2, .cells [I 4, I 2, I 3, I 1, .bool false, I 2, I 5, I 2, I 0, .bool false] 89 true),
  (413, .cells [I 0, I 3, I 20, slc 375 0 1 1, I 100, I 0, I 2, I 30, slc 393 0 1 1, I 100] 61 true), (375, .cells [I 0] 3 true), (393, .cells [I 0] 3 true)]
/-- the heap where play is called -/
def H76 : H := ⟨look l76, 422⟩
/-- after the tenth tick -/
def h11 : H := ((HL.put 432 (some (.cells [I 4, I 2, I 3, I 1, .bool false, nlS, I 5, I 8, nlS, I 10, I 2] 203 true))).put 447 (some (.cells [I 2, I 5, I 2, I 0, .bool false, nlS, I 0, I (-1), nlS, I 0, I 0] 203 true))).put 423
  (some (.cells [I 1, slc 453 0 2 1, slc 487 0 2 1, I 11, slc 648 0 2 1] 139 true))
theorem h11_quiet : QT h11 11 (I 1) (slc 648 0 2 1) where
  ln := by decide
  n := rfl
  lr := by decide
  r := rfl
  lp := by decide
  p := rfl
  q0 := ⟨by decide, _, _, _, _, _, _, _, _, _, rfl, by decide⟩
  q1 := ⟨by decide, _, _, _, _, _, _, _, _, _, rfl, by decide⟩
  a0 := ⟨by decide, _, _, _, _, _, _, _, _, _, rfl, by decide, by decide⟩
  a1 := ⟨by decide, _, _, _, _, _, _, _, _, _, rfl, by decide, by decide⟩
/-- what follows the ticks -/
noncomputable def K76 (call : CallT) (r : Option X) : Option (SV × H) :=
  Option.bind r (fun r24 =>
    (outc r24.1 (unNil r24.2.1 Option.none) (fun i25 =>
      (ifN i25 4 (unConD r24.2.1 (fun x26 l27 =>
         (un1 x26 (fun v28 =>
           (unNil l27 (Option.bind (nilC v28) (fun v29 =>
              (Option.bind (padd 4 v29) (fun v30 =>
                (Option.bind (pld r24.2.2 v30) (fun v31 =>
                  (Option.bind (call (Fn.func 135) [(SV.one v31), (SV.one (Value.func (Fn.func 136) (Array.mk []) (Array.mk [])))] r24.2.2) (fun r32 =>
                    (unT r32.1 (fun l33 =>
                      (unNil l33 (Option.some ((SV.one v28), r32.2)))))))))))))))))) Option.none)) (fun x34 =>
      (Option.some (x34, r24.2.2)))))
/-- play, over any way to run the ticks -/
noncomputable def F76g (call : CallT) (N : Nat) (L : List SV → H → Option X) (as0 : List Value) (a1 : Value) (h : H) : Option (SV × H) :=
 (Option.bind (padd 1 (ptr h.next 0)) (fun v2 =>
  (Option.bind (pld (H.new h (Blk.cells as0 24 Bool.true)) v2) (fun v3 =>
    (Option.bind (padd 0 (ptr h.next 0)) (fun v4 =>
      (Option.bind (pld (H.new (H.new h (Blk.cells as0 24 Bool.true)) (Blk.cells [v3, (Value.slice Option.none 0 0), (Value.slice Option.none 0 0), (I 0), (Value.slice Option.none 0 0)] 139 Bool.true)) v4) (fun v5 =>
        (Option.bind (lenS v5) (fun v6 =>
          (Option.bind (LP76_0 call N N [(SV.one a1), (SV.one (ptr (h.next + 1) 0)), (SV.one v5), (SV.one v6), (SV.one (I 0))] (H.new (H.new h (Blk.cells as0 24 Bool.true)) (Blk.cells [v3, (Value.slice Option.none 0 0), (Value.slice Option.none 0 0), (I 0), (Value.slice Option.none 0 0)] 139 Bool.true))) (fun r7 =>
            (outc r7.1 (unNil r7.2.1 Option.none) (fun i8 =>
              (ifN i8 0 (unConD r7.2.1 (fun x9 l10 =>
                 (un1 x9 (fun v11 =>
                   (unConD l10 (fun x12 l13 =>
                     (un1 x12 (fun v14 =>
                       (unNil l13 (Option.bind (lenS v11) (fun v15 =>
                          (Option.bind (LP76_1 call N N [(SV.one v14), (SV.one v11), (SV.one v15), (SV.one (I 0))] r7.2.2) (fun r16 =>
                            (outc r16.1 (unNil r16.2.1 Option.none) (fun i17 =>
                              (ifN i17 2 (unConD r16.2.1 (fun x18 l19 =>
                                 (un1 x18 (fun v20 =>
                                   (unNil l19 (Option.bind (nilC v20) (fun v21 =>
                                      (Option.bind (padd 3 v21) (fun v22 =>
                                        (Option.bind (pst r16.2.2 (I 0) v22) (fun h23 =>
                                          (Option.bind (L [(SV.one v20)] h23) (fun r24 =>
                                            (outc r24.1 (unNil r24.2.1 Option.none) (fun i25 =>
                                              (ifN i25 4 (unConD r24.2.1 (fun x26 l27 =>
                                                 (un1 x26 (fun v28 =>
                                                   (unNil l27 (Option.bind (nilC v28) (fun v29 =>
                                                      (Option.bind (padd 4 v29) (fun v30 =>
                                                        (Option.bind (pld r24.2.2 v30) (fun v31 =>
                                                          (Option.bind (call (Fn.func 135) [(SV.one v31), (SV.one (Value.func (Fn.func 136) (Array.mk []) (Array.mk [])))] r24.2.2) (fun r32 =>
                                                            (unT r32.1 (fun l33 =>
                                                              (unNil l33 (Option.some ((SV.one v28), r32.2)))))))))))))))))) Option.none)) (fun x34 =>
                                              (Option.some (x34, r24.2.2))))))))))))))))) Option.none)) (fun x35 =>
                              (Option.some (x35, r16.2.2))))))))))))))))) Option.none)) (fun x36 =>
              (Option.some (x36, r7.2.2))))))))))))))))
theorem F76_g (call : CallT) (N : Nat) (as0 : List Value) (a1 : Value) (h : H) : F76 call N as0 a1 h = F76g call N (LP76_2 call N N) as0 a1 h := rfl

noncomputable abbrev C76 (M : Nat) : CallT := CQ (M + 10 + 10) (5 + 7)
/-- before the first tick -/
noncomputable def hk0 (M : Nat) : H := match F76g (C76 M) (M + 10 + 10) (fun st h => some (.exit 4, st, h)) [slc 2 0 2 1, I 1] (slc 413 0 2 1) H76 with
  | some r => r.2
  | none => H76
noncomputable def tk (M : Nat) (h : H) : H := match B76_2 (C76 M) (M + 10 + 10) (fun st h => some (.exit 99, st, h)) (ptr 423 0) h with
  | some r => r.2.2
  | none => h
/-- after ticks -/
noncomputable def hk (M : Nat) : Nat → H
  | 0 => hk0 M
  | k + 1 => tk M (hk M k)
theorem pre76 (M : Nat) (L : List SV → H → Option X) : F76g (C76 M) (M + 10 + 10) L [slc 2 0 2 1, I 1] (slc 413 0 2 1) H76 = K76 (C76 M) (L [.one (ptr 423 0)] (hk M 0)) := by kernel_rfl
end Go.Wz
