import Derived.Test.YthidglhhfdjhhaaGreatRW
import Derived.Test.YthidglhhfdjhhaaGreatLA
/- A tick in which nothing happens (for the run of 'works'). -/
set_option linter.unusedVariables false
set_option linter.unusedSimpArgs false
namespace Go.Wz
open Go

abbrev nlS : Value := .slice none 0 0
theorem sort_nil (M d : Nat) (h : H) : CF (M + 10) (d + 6) (.func 84) [.one nlS] h = some (.tup [], h) := by kernel_rfl
theorem delete_nil (M d : Nat) (vf : Value) (h : H) : CF (M + 10) (d + 3) (.func 196) [.one nlS, .one vf] h = some (.one nlS, h) := by kernel_rfl
theorem sortF_nil (M d : Nat) (vf : Value) (h : H) : CF (M + 10) (d + 6) (.func 198) [.one nlS, .one vf] h = some (.tup [], h) := by kernel_rfl

/-- a ride that nobody is on, and nobody waits for -/
def QB (h : H) (b : Nat) : Prop := b < h.next ∧ ∃ c0 c1 c4 tk cy pa be en l, h.get b = some (.cells [c0, c1, I cy, I pa, c4, nlS, I be, I en, nlS, tk, I l] 203 true) ∧ 0 ≤ l
/-- a group that does nothing in a tick -/
def QP (h : H) (p : Nat) (t : Int) : Prop := p < h.next ∧ ∃ sz tk w pt wi pu hm at_ c, h.get p = some (.cells [I at_, sz, tk, w, pt, wi, pu, I c, hm] 192 true) ∧ at_ < t ∧ c < t
structure Quiet (h : H) (bn br bp b0 b1 p0 p1 : Nat) (t : Int) (w0 vs : Value) : Prop where
  ln : bn < h.next
  n : h.get bn = some (.cells [w0, slc br 0 2 1, slc bp 0 2 1, I t, vs] 139 true)
  lr : br < h.next
  r : h.get br = some (.cells [ptr b0 0, ptr b1 0] 200 true)
  lp : bp < h.next
  p : h.get bp = some (.cells [ptr p0 0, ptr p1 0] 189 true)
  q0 : QB h b0
  q1 : QB h b1
  a0 : QP h p0 t
  a1 : QP h p1 t
theorem Quiet.fr {h h' : H} {bn br bp b0 b1 p0 p1 : Nat} {t : Int} {w0 vs : Value} (Q : Quiet h bn br bp b0 b1 p0 p1 t w0 vs) (f : Fr h h') : Quiet h' bn br bp b0 b1 p0 p1 t w0 vs where
  ln := Nat.lt_of_lt_of_le Q.ln f.nx
  n := (f.get _ Q.ln).trans Q.n
  lr := Nat.lt_of_lt_of_le Q.lr f.nx
  r := (f.get _ Q.lr).trans Q.r
  lp := Nat.lt_of_lt_of_le Q.lp f.nx
  p := (f.get _ Q.lp).trans Q.p
  q0 := ⟨Nat.lt_of_lt_of_le Q.q0.1 f.nx, by rw [f.get _ Q.q0.1]; exact Q.q0.2⟩
  q1 := ⟨Nat.lt_of_lt_of_le Q.q1.1 f.nx, by rw [f.get _ Q.q1.1]; exact Q.q1.2⟩
  a0 := ⟨Nat.lt_of_lt_of_le Q.a0.1 f.nx, by rw [f.get _ Q.a0.1]; exact Q.a0.2⟩
  a1 := ⟨Nat.lt_of_lt_of_le Q.a1.1 f.nx, by rw [f.get _ Q.a1.1]; exact Q.a1.2⟩

theorem ix2 {br : Nat} {i : Nat} (hi : i < 2) : idxS 1 (slc br 0 2 1) (I (i : Int)) = some (ptr br i) := by rw [idxS_slcI, if_pos (by omega)]; simp
theorem add1 {i : Nat} (hi : i < 1000) : ibin .add (I (i : Int)) (I 1) = some (I ((i + 1 : Nat) : Int)) := by rw [add_in (by omega) (by omega)]; rfl

/-! ### end -/
theorem end_round (N d m i : Nat) {h : H} {br b : Nat} {cs : List Value} {e : TypeId} {w : Bool} {x y : Value} (hi : i < 2) (hr : h.get br = some (.cells cs e w)) (hb : cs[i]? = some (ptr b 0)) (Q : QB h b) :
    LP131_0 (CF N d) N (m + 1) [.one x, .one y, .one (slc br 0 2 1), .one (I 2), .one (I i)] h = LP131_0 (CF N d) N m [.one x, .one y, .one (slc br 0 2 1), .one (I 2), .one (I (i + 1 : Nat))] h := by
  rw [LP131_0_succ]; unfold B131_0
  obtain ⟨hlt, c0, c1, c4, tk, cy, pa, be, en, l, hg, hl⟩ := Q
  have h1 : (i : Int) < 2 := by omega
  simp [h1, ix2 hi, pld_ptr, H.ld_of _ hr, hb, H.ld_of _ hg, add1 (show i < 1000 by omega), -Int.natCast_add]
theorem end_c (M d : Nat) {h : H} {bn br bp b0 b1 p0 p1 : Nat} {t : Int} {w0 vs : Value} (Q : Quiet h bn br bp b0 b1 p0 p1 t w0 vs) :
    CF (M + 10) (d + 7) (.func 131) [.one (ptr bn 0)] h = some (.tup [], h) := by
  rw [CF_succ, F131_eq]; unfold F131
  have r0 := end_round (M + 10) (d + 6) (M + 9) 0 (x := ptr bn 0) (y := nlS) (by omega) Q.r rfl Q.q0
  have r1 := end_round (M + 10) (d + 6) (M + 8) 1 (x := ptr bn 0) (y := nlS) (by omega) Q.r rfl Q.q1
  have r2 : LP131_0 (CF (M + 10) (d + 6)) (M + 10) (M + 8) [.one (ptr bn 0), .one nlS, .one (slc br 0 2 1), .one (I 2), .one (I (1 + 1 : Nat))] h = some (.exit 0, [.one (ptr bn 0), .one nlS], h) := by
    rw [show M + 8 = (M + 7) + 1 from rfl, LP131_0_succ]; unfold B131_0; simp
  have r3 : LP131_1 (CF (M + 10) (d + 6)) (M + 10) (M + 10) [.one (ptr bn 0), .one nlS, .one (I 0), .one (I 0)] h = some (.exit 2, [], h) := by
    rw [show M + 10 = (M + 9) + 1 from rfl, LP131_1_succ]; unfold B131_1; simp
  rw [r1] at r0
  rw [r2] at r0
  simp only [nilC_ptr, Option.bind_some, padd_ptr, Nat.zero_add, pld_ptr, H.ld_of _ Q.n, List.getElem?_cons_succ, List.getElem?_cons_zero, lenS_slc]
  rw [show LP131_0 (CF (M + 10) (d + 6)) (M + 10) (M + 10) [.one (ptr bn 0), .one (.slice none 0 0), .one (slc br 0 2 1), .one (I ((2 : Nat) : Int)), .one (I 0)] h = _ from r0]
  simp only [Option.bind_some, outc_exit, ifN_same, unConD_cons, un1_one, unNil_nil]
  rw [show CF (M + 10) (d + 6) (.func 84) [.one (.slice none 0 0)] h = _ from sort_nil M d h]
  simp only [Option.bind_some, unT_tup, unNil_nil, lenS_nil]
  rw [show LP131_1 (CF (M + 10) (d + 6)) (M + 10) (M + 10) [.one (ptr bn 0), .one (.slice none 0 0), .one (I ((0 : Nat) : Int)), .one (I 0)] h = _ from r3]
  simp

/-! ### come -/
theorem come_round0 (N d m i : Nat) {h : H} {bn bp p : Nat} {cs ns : List Value} {e e' : TypeId} {w w' : Bool} {t : Int} (hi : i < 2) (hr : h.get bp = some (.cells cs e w)) (hb : cs[i]? = some (ptr p 0)) (Q : QP h p t) (hn : h.get bn = some (.cells ns e' w')) (ht : ns[3]? = some (I t)) :
    LP132_0 (CF N d) N (m + 1) [.one (ptr bn 0), .one (slc bp 0 2 1), .one (I 2), .one (I i)] h = LP132_0 (CF N d) N m [.one (ptr bn 0), .one (slc bp 0 2 1), .one (I 2), .one (I (i + 1 : Nat))] h := by
  rw [LP132_0_succ]; unfold B132_0
  obtain ⟨hlt, sz, tk, ww, pt, wi, pu, hm, at_, c, hg, h2, h3⟩ := Q
  have h1 : (i : Int) < 2 := by omega
  have h4 : (at_ == t) = false := by
    have : at_ ≠ t := by omega
    simpa using this
  simp [h1, ix2 hi, pld_ptr, H.ld_of _ hr, hb, H.ld_of _ hg, H.ld_of _ hn, ht, h4, add1 (show i < 1000 by omega), -Int.natCast_add]
theorem come_round1 (N d m i : Nat) {h : H} {bn bp p : Nat} {cs ns : List Value} {e e' : TypeId} {w w' : Bool} {t : Int} (hi : i < 2) (hr : h.get bp = some (.cells cs e w)) (hb : cs[i]? = some (ptr p 0)) (Q : QP h p t) (hn : h.get bn = some (.cells ns e' w')) (ht : ns[3]? = some (I t)) :
    LP132_1 (CF N d) N (m + 1) [.one (ptr bn 0), .one (slc bp 0 2 1), .one (I 2), .one (I i)] h = LP132_1 (CF N d) N m [.one (ptr bn 0), .one (slc bp 0 2 1), .one (I 2), .one (I (i + 1 : Nat))] h := by
  rw [LP132_1_succ]; unfold B132_1
  obtain ⟨hlt, sz, tk, ww, pt, wi, pu, hm, at_, c, hg, h2, h3⟩ := Q
  have h1 : (i : Int) < 2 := by omega
  have h4 : (c == t) = false := by
    have : c ≠ t := by omega
    simpa using this
  simp [h1, ix2 hi, pld_ptr, H.ld_of _ hr, hb, H.ld_of _ hg, H.ld_of _ hn, ht, h4, add1 (show i < 1000 by omega), -Int.natCast_add]
theorem come_c (M d : Nat) {h : H} {bn br bp b0 b1 p0 p1 : Nat} {t : Int} {w0 vs : Value} (Q : Quiet h bn br bp b0 b1 p0 p1 t w0 vs) :
    CF (M + 10) (d + 1) (.func 132) [.one (ptr bn 0)] h = some (.tup [], h) := by
  rw [CF_succ, F132_eq]; unfold F132
  have r0 := come_round0 (M + 10) d (M + 9) 0 (by omega) Q.p rfl Q.a0 Q.n rfl
  have r1 := come_round0 (M + 10) d (M + 8) 1 (by omega) Q.p rfl Q.a1 Q.n rfl
  have r2 : LP132_0 (CF (M + 10) d) (M + 10) (M + 8) [.one (ptr bn 0), .one (slc bp 0 2 1), .one (I 2), .one (I (1 + 1 : Nat))] h = some (.exit 0, [.one (ptr bn 0)], h) := by
    rw [show M + 8 = (M + 7) + 1 from rfl, LP132_0_succ]; unfold B132_0; simp
  have s0 := come_round1 (M + 10) d (M + 9) 0 (by omega) Q.p rfl Q.a0 Q.n rfl
  have s1 := come_round1 (M + 10) d (M + 8) 1 (by omega) Q.p rfl Q.a1 Q.n rfl
  have s2 : LP132_1 (CF (M + 10) d) (M + 10) (M + 8) [.one (ptr bn 0), .one (slc bp 0 2 1), .one (I 2), .one (I (1 + 1 : Nat))] h = some (.exit 2, [], h) := by
    rw [show M + 8 = (M + 7) + 1 from rfl, LP132_1_succ]; unfold B132_1; simp
  rw [r1, r2] at r0
  rw [s1, s2] at s0
  simp only [nilC_ptr, Option.bind_some, padd_ptr, Nat.zero_add, pld_ptr, H.ld_of _ Q.n, List.getElem?_cons_succ, List.getElem?_cons_zero, lenS_slc]
  rw [show LP132_0 (CF (M + 10) d) (M + 10) (M + 10) [.one (ptr bn 0), .one (slc bp 0 2 1), .one (I ((2 : Nat) : Int)), .one (I 0)] h = _ from r0]
  simp only [Option.bind_some, outc_exit, ifN_same, unConD_cons, un1_one, unNil_nil, nilC_ptr, padd_ptr, Nat.zero_add, pld_ptr, H.ld_of _ Q.n, List.getElem?_cons_succ, List.getElem?_cons_zero, lenS_slc]
  rw [show LP132_1 (CF (M + 10) d) (M + 10) (M + 10) [.one (ptr bn 0), .one (slc bp 0 2 1), .one (I ((2 : Nat) : Int)), .one (I 0)] h = _ from s0]
  simp
end Go.Wz
/- A tick in which nothing happens: leave, begin. -/
set_option linter.unusedVariables false
set_option linter.unusedSimpArgs false
namespace Go.Wz
open Go

theorem leave_round (M d m i : Nat) {h : H} {br b : Nat} {cs : List Value} {e : TypeId} {w : Bool} {x y : Value} (hi : i < 2) (hr : h.get br = some (.cells cs e w)) (hb : cs[i]? = some (ptr b 0)) (Q : QB h b) :
    LP133_0 (CF (M + 10) (d + 3)) (M + 10) (m + 1) [.one x, .one y, .one (slc br 0 2 1), .one (I 2), .one (I i)] h = LP133_0 (CF (M + 10) (d + 3)) (M + 10) m [.one x, .one y, .one (slc br 0 2 1), .one (I 2), .one (I (i + 1 : Nat))] h := by
  rw [LP133_0_succ]; unfold B133_0
  obtain ⟨hlt, c0, c1, c4, tk, cy, pa, be, en, l, hg, hl⟩ := Q
  have h1 : (i : Int) < 2 := by omega
  have st : h.st b 8 nlS = some h := by
    rw [H.st_of _ hg, if_pos (by simp)]
    congr 1
    exact H.put_self (by rw [hg]; rfl)
  have dl := delete_nil M d (.func (.func 197) (Array.mk []) (Array.mk [x, y])) h
  simp [h1, ix2 hi, pld_ptr, H.ld_of _ hr, hb, H.ld_of _ hg, dl, pst_ptr, st, add1 (show i < 1000 by omega), -Int.natCast_add]
theorem leave_c (M d : Nat) {h : H} {bn br bp b0 b1 p0 p1 : Nat} {t : Int} {w0 vs : Value} (Q : Quiet h bn br bp b0 b1 p0 p1 t w0 vs) :
    ∃ h', CF (M + 10) (d + 7) (.func 133) [.one (ptr bn 0)] h = some (.tup [], h') ∧ Fr h h' := by
  rw [CF_succ, F133_eq]; unfold F133
  generalize eA : (h.new (.cells [ptr bn 0] 140 true)).new (.cells [nlS] 201 true) = hA
  have fA : Fr h hA := by subst eA; exact ((Fr.refl h).new _).new _
  have QA := Q.fr fA
  have g0 : hA.get h.next = some (.cells [ptr bn 0] 140 true) := by subst eA; simp [H.new_get]
  have g1 : hA.get (h.next + 1) = some (.cells [nlS] 201 true) := by subst eA; simp [H.new_get]
  refine ⟨hA, ?_, fA⟩
  have r0 := leave_round M (d + 3) (M + 9) 0 (x := ptr h.next 0) (y := ptr (h.next + 1) 0) (by omega) QA.r rfl QA.q0
  have r1 := leave_round M (d + 3) (M + 8) 1 (x := ptr h.next 0) (y := ptr (h.next + 1) 0) (by omega) QA.r rfl QA.q1
  have r2 : LP133_0 (CF (M + 10) (d + 6)) (M + 10) (M + 8) [.one (ptr h.next 0), .one (ptr (h.next + 1) 0), .one (slc br 0 2 1), .one (I 2), .one (I (1 + 1 : Nat))] hA = some (.exit 0, [.one (ptr h.next 0), .one (ptr (h.next + 1) 0)], hA) := by
    rw [show M + 8 = (M + 7) + 1 from rfl, LP133_0_succ]; unfold B133_0; simp
  have r3 : LP133_1 (CF (M + 10) (d + 6)) (M + 10) (M + 10) [.one (ptr h.next 0), .one nlS, .one (I 0), .one (I 0)] hA = some (.exit 2, [], hA) := by
    rw [show M + 10 = (M + 9) + 1 from rfl, LP133_1_succ]; unfold B133_1; simp
  rw [r1] at r0
  rw [show LP133_0 (CF (M + 10) (d + 3 + 3)) (M + 10) (M + 8) [.one (ptr h.next 0), .one (ptr (h.next + 1) 0), .one (slc br 0 2 1), .one (I 2), .one (I (1 + 1 : Nat))] hA = _ from r2] at r0
  simp only [eA, pld_ptr, H.ld_of _ g0, List.getElem?_cons_zero, Option.bind_some, nilC_ptr, padd_ptr, Nat.zero_add, H.ld_of _ QA.n, List.getElem?_cons_succ, lenS_slc]
  rw [show LP133_0 (CF (M + 10) (d + 6)) (M + 10) (M + 10) [.one (ptr h.next 0), .one (ptr (h.next + 1) 0), .one (slc br 0 2 1), .one (I ((2 : Nat) : Int)), .one (I 0)] hA = _ from r0]
  simp only [Option.bind_some, outc_exit, ifN_same, unConD_cons, un1_one, unNil_nil, pld_ptr, H.ld_of _ g1, List.getElem?_cons_zero]
  rw [sortF_nil M d]
  simp only [Option.bind_some, unT_tup, unNil_nil, lenS_nil, H.ld_of _ g1, List.getElem?_cons_zero]
  rw [show LP133_1 (CF (M + 10) (d + 6)) (M + 10) (M + 10) [.one (ptr h.next 0), .one nlS, .one (I ((0 : Nat) : Int)), .one (I 0)] hA = _ from r3]
  simp

theorem begin_c (N d i : Nat) {h : H} {bn br b : Nat} {cs ns : List Value} {e e' : TypeId} {w w' : Bool} {t : Int} (hi : i < 2) (hr : h.get br = some (.cells cs e w)) (hb : cs[i]? = some (ptr b 0)) (Q : QB h b) (hn : h.get bn = some (.cells ns e' w')) (hn1 : ns[1]? = some (slc br 0 2 1)) (ht : ns[3]? = some (I t)) :
    CF N (d + 1) (.func 134) [.one (ptr bn 0), .one (I i)] h = some (.tup [], h) := by
  rw [CF_succ, F134_eq]; unfold F134
  obtain ⟨hlt, c0, c1, c4, tk, cy, pa, be, en, l, hg, hl⟩ := Q
  have l1 : h.ld br i = some (ptr b 0) := by rw [H.ld_of _ hr, hb]
  simp -implicitDefEqProofs only [nilC_ptr, Option.bind_some, padd_ptr, Nat.zero_add, pld_ptr, H.ld_of _ hn, hn1, ix2 hi, l1, hideL_nil, H.ld_of _ hg, List.getElem?_cons_succ, List.getElem?_cons_zero, lenS_nil, ibin_gtrI]
  have e0 : decide (((0 : Nat) : Int) > 0) = false := by decide
  simp -implicitDefEqProofs only [e0, gateS_false, Bool.false_eq_true, if_false, Option.bind_some, ovS_some, un1_one, nilC_ptr, padd_ptr, Nat.zero_add, hideL_nil, pld_ptr, H.ld_of _ hg, List.getElem?_cons_succ, List.getElem?_cons_zero, ibin_geqI]
  obtain ⟨z, hz⟩ : ∃ z, ibin .sub (I t) (I en) = some (I z) := ⟨_, ibin_subI t en⟩
  by_cases h2 : en ≥ 0
  · by_cases h3 : z < pa
    · simp -implicitDefEqProofs [h2, h3, pld_ptr, H.ld_of _ hg, H.ld_of _ hn, ht, hz]
    · simp -implicitDefEqProofs [h2, h3, pld_ptr, H.ld_of _ hg, H.ld_of _ hn, ht, hz]
  · simp -implicitDefEqProofs [h2, pld_ptr, H.ld_of _ hg, H.ld_of _ hn, ht, hz]
end Go.Wz
/- Quiet ticks, one after the other. -/
set_option linter.unusedVariables false
set_option linter.unusedSimpArgs false
namespace Go.Wz
open Go

theorem begins_round (N d m i : Nat) {h : H} {bn br b : Nat} {cs ns : List Value} {e e' : TypeId} {w w' : Bool} {t : Int} (hi : i < 2) (hr : h.get br = some (.cells cs e w)) (hb : cs[i]? = some (ptr b 0)) (Q : QB h b) (hn : h.get bn = some (.cells ns e' w')) (hn1 : ns[1]? = some (slc br 0 2 1)) (ht : ns[3]? = some (I t)) :
    LP76_3 (CF N (d + 1)) N (m + 1) [.one (ptr bn 0), .one (I 2), .one (I i)] h = LP76_3 (CF N (d + 1)) N m [.one (ptr bn 0), .one (I 2), .one (I (i + 1 : Nat))] h := by
  rw [LP76_3_succ]; unfold B76_3
  have h1 : (i : Int) < 2 := by omega
  have b1 := begin_c N d i hi hr hb Q hn hn1 ht
  simp -implicitDefEqProofs only [ibin_lssI, Option.bind_some, condV_bool, h1, decide_true, if_true, b1, unT_tup, unNil_nil, add1 (show i < 1000 by omega)]
theorem lines_round (N d m i : Nat) (hN : 2 ≤ N) {h : H} {bn br b : Nat} {cs : List Value} {e : TypeId} {w : Bool} (hi : i < 2) (hr : h.get br = some (.cells cs e w)) (hb : cs[i]? = some (ptr b 0)) (Q : QB h b) :
    LP76_4 (CF N d) N (m + 1) [.one (ptr bn 0), .one (slc br 0 2 1), .one (I 2), .one (I i)] h = LP76_4 (CF N d) N m [.one (ptr bn 0), .one (slc br 0 2 1), .one (I 2), .one (I (i + 1 : Nat))] h := by
  rw [LP76_4_succ]; unfold B76_4
  obtain ⟨hlt, c0, c1, c4, tk, cy, pa, be, en, l, hg, hl⟩ := Q
  have h1 : (i : Int) < 2 := by omega
  have l1 : h.ld br i = some (ptr b 0) := by rw [H.ld_of _ hr, hb]
  have r5 : LP76_5 (CF N d) N N [.one (ptr bn 0), .one (ptr b 0), .one (I 0), .one (slc br 0 2 1), .one (I 2), .one (I i), .one nlS, .one (I 0), .one (I 0)] h = some (.exit 10, [.one (ptr bn 0), .one (ptr b 0), .one (I 0), .one (slc br 0 2 1), .one (I 2), .one (I i)], h) := by
    obtain ⟨M, rfl⟩ : ∃ q, N = q + 1 := ⟨N - 1, by omega⟩
    rw [LP76_5_succ]; unfold B76_5; simp
  have mx : mx2 (I l) (I 0) = some (I l) := by rw [mx2I, if_neg (by omega)]
  have st : h.st b 10 (I l) = some h := by
    rw [H.st_of _ hg, if_pos (by simp)]
    congr 1
    exact H.put_self (by rw [hg]; rfl)
  have q8 : [c0, c1, I cy, I pa, c4, nlS, I be, I en, nlS, tk, I l][8]? = some nlS := rfl
  have q10 : [c0, c1, I cy, I pa, c4, nlS, I be, I en, nlS, tk, I l][10]? = some (I l) := rfl
  simp -implicitDefEqProofs only [ibin_lssI, Option.bind_some, condV_bool, h1, decide_true, if_true, ix2 hi, pld_ptr, l1, nilC_ptr, padd_ptr, Nat.zero_add, H.ld_of _ hg, q8, lenS_nil]
  rw [show LP76_5 (CF N d) N N [.one (ptr bn 0), .one (ptr b 0), .one (I 0), .one (slc br 0 2 1), .one (I 2), .one (I i), .one nlS, .one (I ((0 : Nat) : Int)), .one (I 0)] h = _ from r5]
  simp -implicitDefEqProofs only [Option.bind_some, outc_exit, ifN_same, unConD_cons, un1_one, unNil_nil, nilC_ptr, padd_ptr, Nat.zero_add, pld_ptr, H.ld_of _ hg, q10, mx, pst_ptr, st, add1 (show i < 1000 by omega)]

theorem tick_c (M d m : Nat) {h : H} {bn br bp b0 b1 p0 p1 : Nat} {t : Int} {w0 vs : Value} (Q : Quiet h bn br bp b0 b1 p0 p1 t w0 vs) (ht0 : 0 ≤ t) (ht : t ≤ 4000) (hbn : bn ≠ br ∧ bn ≠ bp ∧ bn ≠ b0 ∧ bn ≠ b1 ∧ bn ≠ p0 ∧ bn ≠ p1) :
    ∃ h', LP76_2 (CF (M + 10) (d + 7)) (M + 10) (m + 1) [.one (ptr bn 0)] h = LP76_2 (CF (M + 10) (d + 7)) (M + 10) m [.one (ptr bn 0)] h' ∧ Quiet h' bn br bp b0 b1 p0 p1 (t + 1) w0 vs ∧
      h.next ≤ h'.next ∧ ∀ b, b < h.next → b ≠ bn → h'.get b = h.get b := by
  rw [LP76_2_succ]; unfold B76_2
  have e1 := end_c M d Q
  have e2 := come_c M (d + 6) Q
  obtain ⟨hA, e3, fA⟩ := leave_c M d Q
  have QA := Q.fr fA
  have r0 := begins_round (M + 10) (d + 6) (M + 9) 0 (by omega) QA.r rfl QA.q0 QA.n rfl rfl
  have r1 := begins_round (M + 10) (d + 6) (M + 8) 1 (by omega) QA.r rfl QA.q1 QA.n rfl rfl
  have r2 : LP76_3 (CF (M + 10) (d + 7)) (M + 10) (M + 8) [.one (ptr bn 0), .one (I 2), .one (I (1 + 1 : Nat))] hA = some (.exit 6, [.one (ptr bn 0)], hA) := by
    rw [show M + 8 = (M + 7) + 1 from rfl, LP76_3_succ]; unfold B76_3; simp
  have s0 := lines_round (M + 10) (d + 7) (M + 9) 0 (by omega) (bn := bn) (by omega) QA.r rfl QA.q0
  have s1 := lines_round (M + 10) (d + 7) (M + 8) 1 (by omega) (bn := bn) (by omega) QA.r rfl QA.q1
  have s2 : LP76_4 (CF (M + 10) (d + 7)) (M + 10) (M + 8) [.one (ptr bn 0), .one (slc br 0 2 1), .one (I 2), .one (I (1 + 1 : Nat))] hA = some (.exit 8, [.one (ptr bn 0)], hA) := by
    rw [show M + 8 = (M + 7) + 1 from rfl, LP76_4_succ]; unfold B76_4; simp
  rw [r1] at r0
  rw [show LP76_3 (CF (M + 10) (d + 6 + 1)) (M + 10) (M + 8) [.one (ptr bn 0), .one (I 2), .one (I (1 + 1 : Nat))] hA = _ from r2] at r0
  rw [s1, s2] at s0
  have et : ibin .add (I t) (I 1) = some (I (t + 1)) := add_in (by omega) (by omega)
  refine ⟨hA.put bn (some (.cells [w0, slc br 0 2 1, slc bp 0 2 1, I (t + 1), vs] 139 true)), ?_, ?_, fA.nx, fun b hb hne => by rw [H.put_get_ne _ _ hne, fA.get b hb]⟩
  · have st : hA.st bn 3 (I (t + 1)) = some (hA.put bn (some (.cells [w0, slc br 0 2 1, slc bp 0 2 1, I (t + 1), vs] 139 true))) := by
      rw [H.st_of _ QA.n, if_pos (by simp)]; rfl
    have n1 : [w0, slc br 0 2 1, slc bp 0 2 1, I t, vs][1]? = some (slc br 0 2 1) := rfl
    have n3 : [w0, slc br 0 2 1, slc bp 0 2 1, I t, vs][3]? = some (I t) := rfl
    have hle : decide (t ≤ 4000) = true := by simpa using ht
    simp -implicitDefEqProofs only [nilC_ptr, Option.bind_some, padd_ptr, Nat.zero_add, pld_ptr, H.ld_of _ Q.n, n3, ibin_leqI, hle, condV_bool, if_true, e1, unT_tup, unNil_nil, e2, e3, H.ld_of _ QA.n, n1, lenS_slc]
    rw [show LP76_3 (CF (M + 10) (d + 7)) (M + 10) (M + 10) [.one (ptr bn 0), .one (I ((2 : Nat) : Int)), .one (I 0)] hA = _ from r0]
    simp -implicitDefEqProofs only [Option.bind_some, outc_exit, ifN_same, unConD_cons, un1_one, unNil_nil, nilC_ptr, padd_ptr, Nat.zero_add, pld_ptr, H.ld_of _ QA.n, n1, lenS_slc]
    rw [show LP76_4 (CF (M + 10) (d + 7)) (M + 10) (M + 10) [.one (ptr bn 0), .one (slc br 0 2 1), .one (I ((2 : Nat) : Int)), .one (I 0)] hA = _ from s0]
    simp -implicitDefEqProofs only [Option.bind_some, outc_exit, ifN_same, unConD_cons, un1_one, unNil_nil, nilC_ptr, padd_ptr, Nat.zero_add, pld_ptr, H.ld_of _ QA.n, n3, et, pst_ptr, st]
  · obtain ⟨h1, h2, h3, h4, h5, h6⟩ := hbn
    exact {
      ln := QA.ln
      n := H.put_get_same _ _ _
      lr := QA.lr
      r := by rw [H.put_get_ne _ _ (Ne.symm h1)]; exact QA.r
      lp := QA.lp
      p := by rw [H.put_get_ne _ _ (Ne.symm h2)]; exact QA.p
      q0 := ⟨QA.q0.1, by rw [H.put_get_ne _ _ (Ne.symm h3)]; exact QA.q0.2⟩
      q1 := ⟨QA.q1.1, by rw [H.put_get_ne _ _ (Ne.symm h4)]; exact QA.q1.2⟩
      a0 := ⟨QA.a0.1, by
        rw [H.put_get_ne _ _ (Ne.symm h5)]
        obtain ⟨sz, tk, w, pt, wi, pu, hm, at_, c, g1, g2, g3⟩ := QA.a0.2
        exact ⟨sz, tk, w, pt, wi, pu, hm, at_, c, g1, by omega, by omega⟩⟩
      a1 := ⟨QA.a1.1, by
        rw [H.put_get_ne _ _ (Ne.symm h6)]
        obtain ⟨sz, tk, w, pt, wi, pu, hm, at_, c, g1, g2, g3⟩ := QA.a1.2
        exact ⟨sz, tk, w, pt, wi, pu, hm, at_, c, g1, by omega, by omega⟩⟩ }

/-- from a quiet tick on nothing happens till the end -/
theorem ticks_c (M d : Nat) {bn br bp b0 b1 p0 p1 : Nat} {w0 vs : Value} (hbn : bn ≠ br ∧ bn ≠ bp ∧ bn ≠ b0 ∧ bn ≠ b1 ∧ bn ≠ p0 ∧ bn ≠ p1) :
    ∀ (k m : Nat) (t : Int) (h : H), Quiet h bn br bp b0 b1 p0 p1 t w0 vs → 0 ≤ t → t + k = 4001 → k < m →
      ∃ h', LP76_2 (CF (M + 10) (d + 7)) (M + 10) m [.one (ptr bn 0)] h = some (.exit 4, [.one (ptr bn 0)], h') ∧ h'.get bn = some (.cells [w0, slc br 0 2 1, slc bp 0 2 1, I 4001, vs] 139 true) ∧
        h.next ≤ h'.next ∧ ∀ b, b < h.next → b ≠ bn → h'.get b = h.get b := by
  intro k
  induction k with
  | zero =>
    intro m t h Q ht0 hk hm
    obtain ⟨m, rfl⟩ : ∃ q, m = q + 1 := ⟨m - 1, by omega⟩
    obtain rfl : t = 4001 := by omega
    refine ⟨h, ?_, Q.n, Nat.le_refl _, fun _ _ _ => rfl⟩
    rw [LP76_2_succ]; unfold B76_2
    have n3 : [w0, slc br 0 2 1, slc bp 0 2 1, I 4001, vs][3]? = some (I 4001) := rfl
    have hle : decide ((4001 : Int) ≤ 4000) = false := rfl
    simp -implicitDefEqProofs only [nilC_ptr, Option.bind_some, padd_ptr, Nat.zero_add, pld_ptr, H.ld_of _ Q.n, n3, ibin_leqI, hle, condV_bool, Bool.false_eq_true, if_false]
  | succ k ih =>
    intro m t h Q ht0 hk hm
    obtain ⟨m, rfl⟩ : ∃ q, m = q + 1 := ⟨m - 1, by omega⟩
    obtain ⟨hA, e1, QA, n1, k1⟩ := tick_c M d m Q ht0 (by omega) hbn
    obtain ⟨hB, e2, g2, n2, k2⟩ := ih m (t + 1) hA QA (by omega) (by omega) (by omega)
    exact ⟨hB, e1.trans e2, g2, by omega, fun b hb hne => by rw [k2 b (by omega) hne, k1 b hb hne]⟩
end Go.Wz
