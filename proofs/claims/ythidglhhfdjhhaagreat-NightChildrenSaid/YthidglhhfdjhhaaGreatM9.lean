/- Contracts: night's Match. -/
import Derived.Test.YthidglhhfdjhhaaGreatM8
set_option linter.unusedVariables false
set_option linter.unusedSimpArgs false
namespace Go.Wz
open Go

def handF (reps : List Rep) (W1 W2 : List Nat) : Option (Nat × Nat) := W1.findSome? fun c => (handC reps W1 W2 c).map fun a => (c, a)
theorem hand_c (N d : Nat) (hN : 1000 ≤ N) {h : H} {bo : Nat} {vl : Value} {reps : List Rep} {v1 v2 vh : Value} {W1 W2 : List Nat} {hd : List (List Value)} {xa : Value}
    (S : OState h bo vl reps v1 v2 vh W1 W2 hd) (hl1 : W1.length < 900) (hl2 : W2.length < 900) (hdl : hd.length < 10000) :
    (handF reps W1 W2 = none ∧ ∃ h', CF N (d + 6) (.func 80) [.one (ptr bo 0), .one xa] h = some (.one (.bool false), h') ∧ Fr h h') ∨
    (∃ c a v1' v2' vh' h', handF reps W1 W2 = some (c, a) ∧ CF N (d + 6) (.func 80) [.one (ptr bo 0), .one xa] h = some (.one (.bool true), h') ∧
        OState h' bo vl reps v1' v2' vh' (without c W1) (without a W2) (hd ++ [[I c, I a, xa]]) ∧ Step (OFoot bo v1 v2 vh) (OFoot bo v1' v2' vh') h h') := by
  rw [CF_succ, F80_eq]; unfold F80
  generalize eA : h.new (.cells [ptr bo 0] 144 true) = hA
  have fA : Fr h hA := by subst eA; exact (Fr.refl h).new _
  have SA := S.fr fA
  have gA : hA.get h.next = some (.cells [ptr bo 0] 144 true) := by subst eA; simp
  have nA : hA.next = h.next + 1 := by subst eA; rfl
  have ix1 : idxP 1 3 (ptr bo 1) (I 1) = some (ptr bo 2) := by rw [idxP_ptrI]; rfl
  simp only [pld_ptr, H.ld_of _ gA, List.getElem?_cons_zero, Option.bind_some, nilC_ptr, padd_ptr, Nat.zero_add, ix1, H.ld_of _ SA.cell, List.getElem?_cons_succ, SA.o1.ri.len]
  have hpf : ¬ OFoot bo v1 v2 vh h.next := fun hh => by have := S.footlt hh; omega
  rcases hand_loop N d hN (h0 := h) (at_ := 0) (xa := xa) hl1 hl2 hdl hpf W1 0 N hA SA gA (by omega) rfl (by omega) (by omega) with ⟨q1, h', q2, q3⟩ | ⟨c, a, v1', v2', vh', h', q1, q2, q3, q4⟩
  · refine .inl ⟨q1, h', ?_, fA.trans q3⟩
    rw [show LP80_0 (CF N (d + 5)) N N [.one xa, .one (ptr h.next 0), .one v1, .one (I W1.length), .one (I 0)] hA = _ from q2]
    simp
  · refine .inr ⟨c, a, v1', v2', vh', h', q1, ?_, q3, (Step.of_fr fA).trans q4⟩
    rw [show LP80_0 (CF N (d + 5)) N N [.one xa, .one (ptr h.next 0), .one v1, .one (I W1.length), .one (I 0)] hA = _ from q2]
    simp

/-- x.slot = append(x.slot, y), in an order that is drawn -/
theorem slot_append {h : H} {bo bp j n k s : Nat} {cs pc xs : List Value} {vj : Value} {e pe te : TypeId} {l : List (List Value)} (ho : h.get bo = some (.cells cs te true)) (hj : cs[j]? = some vj) (o : OG h vj e s l)
    (hp : h.get bp = some (.cells pc pe true)) (hpl : bp < h.next) (hol : bo < h.next) (hpo : bp ≠ bo) (hvp : bOf vj ≠ some bp) (hvo : bOf vj ≠ some bo) (hk : k < n) (hx : xs.length = s) (hlen : l.length < 10000) :
    ∃ v' h1 h2, H.appS (frzL [bp] (hideL [] (H.put (H.skip h n) (h.next + k) (some (.cells xs e true))))) s e (slc (h.next + k) 0 1 1) vj = some (v', h1) ∧
      pst (frzL [] (hideL [] (thawL [bp] (H.put (H.skip h n) (h.next + k) (some (.cells xs e true))) h1))) v' (ptr bo j) = some h2 ∧
      h2.get bo = some (.cells (cs.set j v') te true) ∧ OG h2 v' e s (l ++ [xs]) ∧ bOf v' = some (h.next + n) ∧ h2.next = h.next + n + 1 ∧ ∀ b, b < h.next → b ≠ bo → bOf vj ≠ some b → h2.get b = h.get b := by
  generalize hq : H.put (H.skip h n) (h.next + k) (some (.cells xs e true)) = q
  have qn : q.next = h.next + n := by subst hq; rfl
  have qg : ∀ b, b < h.next → q.get b = h.get b := fun b hb => by subst hq; rw [H.put_get_ne _ _ (by omega)]; rfl
  have qx : q.get (h.next + k) = some (.cells xs e true) := by subst hq; exact H.put_get_same _ _ _
  have qp : frzL [bp] (hideL [] q) = q.put bp (some (.cells pc pe false)) := by
    rw [hideL_nil, frzL_one, qg _ hpl, hp]; rfl
  have hqf : ∀ b, b < h.next → b ≠ bp → (q.put bp (some (.cells pc pe false))).get b = h.get b := fun b hb hne => by
    rw [H.put_get_ne _ _ hne, qg b hb]
  have oh' : OG (q.put bp (some (.cells pc pe false))) vj e s l := o.keep (by simp [qn]) fun b hb hlt => hqf b hlt fun hh => hvp (hh ▸ hb)
  have rx : RS (q.put bp (some (.cells pc pe false))) s (slc (h.next + k) 0 1 1) [xs] :=
    RS.mk (l := [xs]) (by simp [hx]) ⟨by simp [qn]; omega, by rw [H.put_get_ne _ _ (by omega)]; exact qx⟩ (by simp [hx]) (by simp [← hx])
  obtain ⟨h1, e1, n1, o1, f1⟩ := append_c oh' rx (by simp) (by simp; omega)
  rw [show (q.put bp (some (.cells pc pe false))).next = h.next + n from qn] at e1 n1 o1 f1
  simp only [List.length_cons, List.length_nil, Nat.zero_add] at e1 o1
  have g2 : ∀ b, b < h.next → bOf vj ≠ some b → (h1.put bp (q.get bp)).get b = h.get b := fun b hb hne => by
    rw [H.put_gt]; split
    · rename_i hh; subst hh; exact qg _ hb
    · rename_i hh; rw [f1 b (by omega) hne, hqf b hb hh]
  have gb : (h1.put bp (q.get bp)).get bo = some (.cells cs te true) := by rw [g2 bo hol hvo, ho]
  have hjl : j < cs.length := (List.getElem?_eq_some_iff.1 hj).1
  refine ⟨slc (h.next + n) 0 (l.length + 1) 1, h1, (h1.put bp (q.get bp)).put bo (some (.cells (cs.set j (slc (h.next + n) 0 (l.length + 1) 1)) te true)), by rw [qp]; exact e1, ?_, H.put_get_same _ _ _, ?_, rfl, by simp [n1], fun b hb hbo hbv => by rw [H.put_get_ne _ _ hbo, g2 b hb hbv]⟩
  · rw [frzL_nil, hideL_nil, thawL_one, pst_ptr, H.st_of _ gb, if_pos hjl]
  · refine o1.keep (by simp) fun b hb hlt => ?_
    rw [bOf_slc] at hb; cases hb
    rw [H.put_get_ne _ _ (by omega), H.put_get_ne _ _ (by omega)]

/-! ### the reports are looked at -/
def chk : Int → List Rep → Bool
  | _, [] => true
  | last, r :: t => wb r.kind 1 2 && wb r.marks 0 4095 && wb r.at_ last 4000 && chk r.at_ t

theorem check_loop (N d : Nat) (hN : 1000 ≤ N) {vl : Value} {reps : List Rep} {h0 : H} (r0 : RS h0 3 vl (reps.map Rep.enc)) (hlen : reps.length < 900) :
    ∀ (t : List Rep) (i m : Nat) (last : Int) (h : H), Fr h0 h → reps.drop i = t → i ≤ reps.length → t.length < m →
      ∃ h', LP38_0 (CF N (d + 1)) N m [.one vl, .one (I last), .one vl, .one (I reps.length), .one (I i)] h = some (if chk last t = true then (.exit 0, [.one vl], h') else (.ret (.tup [.one nilS, .one (I 121)]), [], h')) ∧ Fr h h' := by
  intro t
  induction t with
  | nil =>
    intro i m last h f hi hle hm
    obtain ⟨m, rfl⟩ : ∃ q, m = q + 1 := ⟨m - 1, by omega⟩
    rw [LP38_0_succ]; unfold B38_0
    obtain rfl := drop_nil hi hle
    exact ⟨h, by simp [chk], .refl h⟩
  | cons r t ih =>
    intro i m last h f hd hle hm
    obtain ⟨m, rfl⟩ : ∃ q, m = q + 1 := ⟨m - 1, by omega⟩
    simp only [List.length_cons] at hm
    obtain ⟨hlt, hx, hdt, hl⟩ := drop_cons hd
    rw [LP38_0_succ]; unfold B38_0
    have hd' : (reps.map Rep.enc).drop i = r.enc :: t.map Rep.enc := by rw [← List.map_drop, hd]; rfl
    obtain ⟨b, o, _, e1, e2, _⟩ := (r0.fr f).atd hd'
    have h1 : (i : Int) < reps.length := by omega
    have e7 : ibin .add (I i) (I 1) = some (I (i + 1 : Nat)) := by rw [add_in (by omega) (by omega)]; rfl
    have st : pstn (h.new (.cells [I 0, I 0, I 0] 81 true)) r.enc (ptr h.next 0) = some (h.new (.cells r.enc 81 true)) := by
      rw [pstn_ptr, H.stn_of _ (H.new_get_same _ _)]; simp [H.new_put, Rep.enc, splice]
    generalize eA : h.new (.cells r.enc 81 true) = hA at st
    have fA : Fr h hA := by subst eA; exact (Fr.refl h).new _
    have gA : hA.get h.next = some (.cells r.enc 81 true) := by subst eA; simp
    simp only [ibin_lssI, Option.bind_some, condV_bool, h1, decide_true, if_true, e1, pldn_ptr, e2, ifLen_eq, show r.enc.length = 3 from rfl, st]
    simp only [padd_ptr, Nat.zero_add, Option.bind_some, pld_ptr, H.ld_of _ gA, Rep.enc, List.getElem?_cons_succ, List.getElem?_cons_zero, within_c, un1_one, un_not]
    obtain ⟨h', k1, k2⟩ := ih (i + 1) m r.at_ hA (f.trans fA) hdt (by omega) (by omega)
    cases c1 : wb r.kind 1 2
    · exact ⟨hA, by simp [chk, c1], fA⟩
    cases c2 : wb r.marks 0 4095
    · exact ⟨hA, by simp [chk, c1, c2, H.ld_of _ gA, Rep.enc, within_c], fA⟩
    cases c3 : wb r.at_ last 4000
    · exact ⟨hA, by simp [chk, c1, c2, c3, H.ld_of _ gA, Rep.enc, within_c], fA⟩
    refine ⟨h', ?_, fA.trans k2⟩
    simp only [Bool.not_true, Bool.false_eq_true, gsel_false, if_false, Option.bind_some, condV_bool, e7, H.ld_of _ gA, Rep.enc, List.getElem?_cons_succ, List.getElem?_cons_zero, within_c, un1_one, un_not, c1, c2, c3]
    rw [k1]
    simp [chk, c1, c2, c3]
end Go.Wz
