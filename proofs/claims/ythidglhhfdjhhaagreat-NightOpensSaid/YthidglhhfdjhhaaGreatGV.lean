/- Contracts: the document's Upto, checkDay, force. -/
import Derived.Test.YthidglhhfdjhhaaGreatGU
set_option linter.unusedVariables false
set_option linter.unusedSimpArgs false
namespace Go.Wz
open Go
theorem uptoN_le (es : List Entry) (day : Int) : uptoN es day ≤ es.length := by
  unfold uptoN
  cases h : es.findIdx? (fun x => decide (x.day > day)) with
  | none => exact Nat.le_refl _
  | some j => exact Nat.le_of_lt (List.findIdx?_eq_some_iff_getElem.1 h).1
theorem uptoN_in {es : List Entry} {day : Int} {i : Nat} (hi : i < uptoN es day) : (entAt es i).day ≤ day := by
  have hl := uptoN_le es day
  have e : entAt es (i : Int) = es[i] := by unfold entAt; rw [show ((i : Int)).toNat = i by omega, List.getElem?_eq_getElem (by omega)]; rfl
  rw [e]
  unfold uptoN at hi
  cases h : es.findIdx? (fun x => decide (x.day > day)) with
  | none =>
    rw [h] at hi
    rw [List.findIdx?_eq_none_iff] at h
    have := h es[i] (List.getElem_mem _)
    simpa using this
  | some j =>
    rw [h] at hi
    have := (List.findIdx?_eq_some_iff_getElem.1 h).2.2 i hi
    simpa using this
theorem uptoN_out {es : List Entry} {day : Int} (h0 : uptoN es day < es.length) : day < (entAt es (uptoN es day)).day := by
  unfold uptoN at h0 ⊢
  cases h : es.findIdx? (fun x => decide (x.day > day)) with
  | none => rw [h] at h0; simp at h0
  | some j =>
    rw [h] at h0
    have := (List.findIdx?_eq_some_iff_getElem.1 h).2.1
    have e : entAt es (j : Int) = es[j] := by unfold entAt; rw [show ((j : Int)).toNat = j by omega, List.getElem?_eq_getElem h0]; rfl
    simp only [e]
    simpa using this
def lastR (b : Book) (es : List Entry) (rule : Nat) : Nat → Int
  | 0 => -1
  | k + 1 => if ((entAt es k).kind == 6 && (entAt es k).a == (ruleAt b rule).ride) = true then -1 else if ((entAt es k).kind == 1 && (entAt es k).a == (rule : Int)) = true then (entAt es k).day else lastR b es rule k
def forceP (b : Book) (es : List Entry) (rule : Nat) (day : Int) : Bool := decide (lastR b es rule es.length ≥ 0) && decide (day - lastR b es rule es.length < (ruleAt b rule).every)
theorem lastR_in {b : Book} {es : List Entry} (ok : LogOk b es) (rule : Nat) : ∀ k, k ≤ es.length → -1 ≤ lastR b es rule k ∧ lastR b es rule k ≤ 10000
  | 0, _ => by simp [lastR]
  | k + 1, h => by
    have := lastR_in ok rule k (by omega)
    have hd := ok.days k (by omega)
    unfold lastR
    split
    · omega
    · split <;> omega
section
variable {C : Nat → CallT} {N : Nat} (K : CallsOf C N)
include K
theorem f175_c {d : Nat} (hd : 1 ≤ d) {es : List Entry} {ve : Value} {h hq : H} (re : RS h 5 ve (es.map Entry.enc)) (re2 : RS hq 5 ve (es.map Entry.enc)) (hle : es.length < 5000) (day : Int) :
    ∃ v, C d (.func 175) [.one ve, .one (I day)] h = some (.one v, h) ∧ RS hq 5 v ((uptoP es day).map Entry.enc) := by
  obtain ⟨e, he, rfl, hC⟩ := K.at (k := 0) hd
  have hN := K.big
  have le := re.len
  rw [List.length_map] at le
  have hu := uptoN_le es day
  have main := loop_inv (LP := LP175_0 (C e) N) (n := uptoN es day)
    (fun i vs h1 => h1 = h ∧ vs = [.one ve, .one (I day), .one (I i)])
    (fun o => o = some (.exit 0, [.one ve, .one (I (uptoN es day))], h))
    (fun m vs h1 ⟨f, hv⟩ => by
      subst hv; subst f
      rw [LP175_0_succ]; unfold B175_0
      by_cases hlt : uptoN es day < es.length
      · have hout := uptoN_out hlt
        obtain ⟨b1, o1, _, q1, q2⟩ := re.atI entry0 (n := (uptoN es day : Int)) (by omega) (by omega)
        have q3 : h1.ld b1 o1 = some (I (entAt es (uptoN es day)).day) := by have := (q2 h1 (.refl _)).2 0 (by omega); simpa [Entry.enc, entAt] using this
        have hd : decide ((entAt es (uptoN es day)).day ≤ day) = false := by simp; omega
        simp only [S0, Nat.reduceAdd, Nat.reduceLeDiff, ↓reduceIte, le, i0 hlt, q1, q3, hd]
      · have : uptoN es day = es.length := by omega
        have hd : decide (((uptoN es day : Nat) : Int) < es.length) = false := by simp; omega
        simp only [S0, Nat.reduceAdd, Nat.reduceLeDiff, ↓reduceIte, le, hd])
    (fun i m vs h1 hi ⟨f, hv⟩ => by
      subst hv; subst f
      refine .inr ⟨_, h1, ⟨rfl, rfl⟩, ?_⟩
      have hin := uptoN_in hi
      rw [LP175_0_succ]; unfold B175_0
      obtain ⟨b1, o1, _, q1, q2⟩ := re.atI entry0 (n := (i : Int)) (by omega) (by omega)
      have q3 : h1.ld b1 o1 = some (I (entAt es i).day) := by have := (q2 h1 (.refl _)).2 0 (by omega); simpa [Entry.enc, entAt] using this
      have hd : decide ((entAt es i).day ≤ day) = true := by simpa using hin
      simp only [S0, Nat.reduceAdd, Nat.reduceLeDiff, ↓reduceIte, le, i0 (show i < es.length by omega), q1, q3, hd, i1 (show i + 1 ≤ es.length by omega) (by omega)])
    (uptoN es day) 0 N _ h (by omega) ⟨rfl, rfl⟩ (by omega)
  have main' : LP175_0 (C e) N N [.one ve, .one (I day), .one (I 0)] h = _ := main
  obtain ⟨v', c1, c2⟩ := re2.cut (i := uptoN es day) (by simpa using hu)
  rw [← List.map_take] at c2
  refine ⟨v', ?_, c2⟩
  rw [hC _ _ _ rfl, F175_eq]; unfold F175
  simp only [S0, Nat.reduceAdd, Nat.reduceLeDiff, ↓reduceIte, main', c1]
theorem f173_c {d : Nat} (hd : 5 ≤ d) {cs : List Value} {b : Book} {es : List Entry} {ve : Value} {h : H} (r : BookR h cs b) (re : RS h 5 ve (es.map Entry.enc)) (day : Int) :
    ∃ h', C d (.func 173) [.agg cs, .one ve, .one (I day)] h = some (.one (I (dayErr b es day)), h') ∧ Fr h h' := by
  obtain ⟨e, he, rfl, hC⟩ := K.at (k := 4) hd
  obtain ⟨hA, eA⟩ : ∃ q, q = h.new (.cells cs 28 true) := ⟨_, rfl⟩
  have fA : Fr h hA := by rw [eA]; exact (Fr.refl h).new _
  have hcs : cs.length = 3 := by obtain ⟨v1, v2, v3, rfl, _⟩ := r.ex; rfl
  have l3 : hA.ldn h.next 0 3 = some cs := by rw [eA, ldn_new, if_pos (by omega), List.drop_zero, List.take_of_length_le (by omega)]
  obtain ⟨h2, k1, k2⟩ := f59_c K (d := e) he (r.fr fA) (re.fr fA)
  refine ⟨h2, ?_, fA.trans k2⟩
  rw [hC _ _ _ rfl, F173_eq]; unfold F173 dayErr
  rw [← eA]
  by_cases hle : (logErr b es).2 = 0
  · have hne : ((logErr b es).2 != 0) = false := by simpa using hle
    rw [if_neg (by simpa using hle)]
    cases hw : wi day 0 10000 <;> simp only [S0, Nat.reduceAdd, Nat.reduceLeDiff, ↓reduceIte, l3, k1, hne, w183 K (show 1 ≤ e by omega), hw]
  · have hne : ((logErr b es).2 != 0) = true := by simpa using hle
    rw [if_pos hle]
    simp only [S0, Nat.reduceAdd, Nat.reduceLeDiff, ↓reduceIte, l3, k1, hne]
theorem f229_c {d : Nat} (hd : 1 ≤ d) {cs : List Value} {b : Book} {es : List Entry} {ve : Value} {h : H} (r : BookR h cs b) (re : RS h 5 ve (es.map Entry.enc)) (ok : LogOk b es) (hle : es.length < 5000) {rule : Nat} (hr : rule < b.rules.length) {day : Int} (hday : 0 ≤ day ∧ day ≤ 10000) :
    ∃ h', C d (.func 229) [.agg cs, .one ve, .one (I rule), .one (I day)] h = some (.one (.bool (forceP b es rule day)), h') ∧ Fr h h' := by
  obtain ⟨e, he, rfl, hC⟩ := K.at (k := 0) hd
  have hN := K.big
  have le := re.len
  rw [List.length_map] at le
  obtain ⟨v1, v2, v3, rfl, r1, r2, r3⟩ := r.ex
  obtain ⟨hA, eA⟩ : ∃ q, q = h.new (.cells [v1, v2, v3] 28 true) := ⟨_, rfl⟩
  have fA : Fr h hA := by rw [eA]; exact (Fr.refl h).new _
  have nA : hA.next = h.next + 1 := by rw [eA]; rfl
  have g0 : hA.ld h.next 0 = some v1 := by rw [eA]; simp
  obtain ⟨b1, o1, _, q1, q2⟩ := r1.atI rule0 (n := (rule : Int)) (by omega) (by omega)
  have qr : hA.ld b1 o1 = some (I (ruleAt b rule).ride) := by have := (q2 hA fA).2 0 (by omega); simpa [Rule.enc, ruleAt] using this
  have qe : hA.ld b1 (o1 + 1) = some (I (ruleAt b rule).every) := by have := (q2 hA fA).2 1 (by omega); simpa [Rule.enc, ruleAt] using this
  have main := loop_inv (LP := LP229_0 (C e) N) (n := es.length)
    (fun i vs h1 => h1 = hA ∧ vs = [.one ve, .one (I rule), .one (I day), .one (ptr h.next 0), .one (I (lastR b es rule i)), .one (I i)])
    (fun o => o = some (.exit 0, [.one (I rule), .one (I day), .one (ptr h.next 0), .one (I (lastR b es rule es.length))], hA))
    (fun m vs h1 ⟨f, hv⟩ => by
      subst hv; subst f
      rw [LP229_0_succ]; unfold B229_0
      simp only [S0, Nat.reduceAdd, Nat.reduceLeDiff, ↓reduceIte, le, in0])
    (fun i m vs h1 hi ⟨f, hv⟩ => by
      subst hv; subst f
      refine .inr ⟨_, h1, ⟨rfl, rfl⟩, ?_⟩
      rw [LP229_0_succ]; unfold B229_0
      obtain ⟨b2, o2, _, t1, t2⟩ := re.atI entry0 (n := (i : Int)) (by omega) (by omega)
      have d0 : h1.ld b2 o2 = some (I (entAt es i).day) := by have := (t2 h1 fA).2 0 (by omega); simpa [Entry.enc, entAt] using this
      have d1 : h1.ld b2 (o2 + 1) = some (I (entAt es i).kind) := by have := (t2 h1 fA).2 1 (by omega); simpa [Entry.enc, entAt] using this
      have d2 : h1.ld b2 (o2 + 2) = some (I (entAt es i).a) := by have := (t2 h1 fA).2 2 (by omega); simpa [Entry.enc, entAt] using this
      have e1 : lastR b es rule (i + 1) = if ((entAt es i).kind == 6 && (entAt es i).a == (ruleAt b rule).ride) = true then -1 else if ((entAt es i).kind == 1 && (entAt es i).a == (rule : Int)) = true then (entAt es i).day else lastR b es rule i := rfl
      rw [e1]
      have st := i1 (show i + 1 ≤ es.length from hi) (by omega)
      cases c1 : ((entAt es i).kind == 1 && (entAt es i).a == (rule : Int)) <;> cases c6 : (entAt es i).kind == 6 <;> cases cr : (entAt es i).a == (ruleAt b rule).ride <;>
        simp only [S0, Nat.reduceAdd, Nat.reduceLeDiff, ↓reduceIte, le, i0 hi, t1, d0, d1, d2, c1, c6, cr, g0, q1, qr, st])
    es.length 0 N _ hA (by omega) ⟨rfl, rfl⟩ (by omega)
  have main' : LP229_0 (C e) N N [.one ve, .one (I rule), .one (I day), .one (ptr h.next 0), .one (I (-1)), .one (I 0)] hA = _ := main
  have hin := lastR_in ok rule es.length (Nat.le_refl _)
  have sb : ibin .sub (I day) (I (lastR b es rule es.length)) = some (I (day - lastR b es rule es.length)) := sub_in (by omega) (by omega)
  refine ⟨hA, ?_, fA⟩
  rw [hC _ _ _ rfl, F229_eq]; unfold F229 forceP
  rw [← eA]
  simp only [S0, Nat.reduceAdd, Nat.reduceLeDiff, ↓reduceIte, main', sb, g0, q1, qe]
end
end Go.Wz
