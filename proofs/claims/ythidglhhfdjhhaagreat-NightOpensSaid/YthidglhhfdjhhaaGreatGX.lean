/- The document's reasons are those of inspect; Released. -/
import Derived.Test.YthidglhhfdjhhaaGreatGW
set_option linter.unusedVariables false
set_option linter.unusedSimpArgs false
namespace Go.Wz
open Go
def fwd (step : Entry → Option Int) (s0 : Int) (es : List Entry) : Nat → Int
  | 0 => s0
  | k + 1 => (step (entAt es k)).getD (fwd step s0 es k)
theorem lastF_fwd (step : Entry → Option Int) (s0 : Int) (es : List Entry) : ∀ k, (lastF step es k).getD s0 = fwd step s0 es k
  | 0 => rfl
  | k + 1 => by
    unfold lastF fwd
    have e : entAt es (k : Int) = (es[k]?).getD entry0 := by unfold entAt; simp
    rw [← e]
    cases hs : step (entAt es k) with
    | none => exact lastF_fwd step s0 es k
    | some r => rfl
theorem lastStep_eq (w : Entry → Bool) (ride : Int) (y : Entry) : lastStep w ride y = if w y = true then some y.day else if (y.kind == 6 && y.a == ride) = true then some (-1) else none := rfl
theorem insStep_eq (ride : Int) (y : Entry) : insStep ride y = if (y.kind == 5 && y.a == ride) = true then some y.b else none := rfl
theorem lastR_fwd (b : Book) (es : List Entry) (rule : Nat) : ∀ k, lastR b es rule k = fwd (lastStep (fun y => y.kind == 1 && y.a == (rule : Int)) (ruleAt b rule).ride) (-1) es k
  | 0 => rfl
  | k + 1 => by
    unfold lastR fwd
    rw [lastR_fwd b es rule k]
    generalize fwd (lastStep (fun y => y.kind == 1 && y.a == (rule : Int)) (ruleAt b rule).ride) (-1) es k = L
    rw [lastStep_eq]
    by_cases h6 : (entAt es k).kind = 6
    · have h1 : ((entAt es k).kind == 1) = false := by simpa using (by omega : ¬ (entAt es k).kind = 1)
      have h6' : ((entAt es k).kind == 6) = true := by simpa using h6
      simp only [h1, h6', Bool.true_and, Bool.false_and, Bool.false_eq_true, if_false]
      cases (entAt es k).a == (ruleAt b rule).ride <;> rfl
    · have h6' : ((entAt es k).kind == 6) = false := by simpa using h6
      simp only [h6', Bool.false_and, Bool.false_eq_true, if_false]
      cases (entAt es k).kind == 1 && (entAt es k).a == (rule : Int) <;> rfl
theorem insR_fwd (b : Book) (es : List Entry) (ride : Int) : ∀ k, insR b es ride k = fwd (insStep ride) (getI b.insured ride) es k
  | 0 => rfl
  | k + 1 => by
    unfold insR fwd
    rw [insR_fwd b es ride k]
    generalize fwd (insStep ride) (getI b.insured ride) es k = L
    rw [insStep_eq]
    cases (entAt es k).a == ride <;> cases (entAt es k).kind == 5 <;> rfl
theorem until_force {b : Book} {es : List Entry} (ok : LogOk b es) {rule : Nat} (hr : rule < b.rules.length) {day : Int} (hday : 0 ≤ day) : decide (untilP b es rule < day) = !forceP b es rule day := by
  unfold untilP forceP lastP
  rw [lastF_fwd, ← lastR_fwd]
  generalize lastR b es rule es.length = L
  split
  · rename_i h
    have h1 : decide ((-1 : Int) < day) = true := by simp; omega
    have h2 : decide (L ≥ 0) = false := by simp; omega
    rw [h1, h2]; rfl
  · rename_i h
    have h2 : decide (L ≥ 0) = true := by simp; omega
    rw [h2, Bool.true_and]
    by_cases h3 : L + (ruleAt b rule).every - 1 < day
    · have h4 : ¬ (day - L < (ruleAt b rule).every) := by omega
      simp [h3, h4]
    · have h4 : day - L < (ruleAt b rule).every := by omega
      simp [h3, h4]
theorem checked_chk {b : Book} {es : List Entry} (ok : LogOk b es) (ride : Int) {day : Int} (hday : 0 ≤ day ∧ day ≤ 10000) : ∀ k, k ≤ b.rules.length → decide (checkedP b es ride k < day) = !chkR b es ride day k
  | 0, _ => by
    have : ¬ (10000 : Int) < day := by omega
    unfold checkedP chkR
    simpa using this
  | k + 1, hk => by
    have ih := checked_chk ok ride hday k (by omega)
    have hu := until_force ok (rule := k) (by omega) hday.1
    unfold checkedP chkR
    by_cases hr : (ruleAt b k).ride = ride
    · have h1 : ((ruleAt b k).ride == ride) = true := by simpa using hr
      have h2 : ((ruleAt b k).ride != ride) = false := by rw [bne, h1]; rfl
      rw [h2, if_pos h1, Bool.false_or]
      rw [Bool.not_and, ← ih, ← hu]
      split
      · rename_i h3
        by_cases h4 : untilP b es k < day
        · simp [h4]
        · have : ¬ checkedP b es ride k < day := by omega
          simp [h4, this]
      · rename_i h3
        by_cases h4 : checkedP b es ride k < day
        · simp [h4]
        · have : ¬ untilP b es k < day := by omega
          simp [h4, this]
    · have h1 : ((ruleAt b k).ride == ride) = false := by simpa using hr
      have h2 : ((ruleAt b k).ride != ride) = true := by rw [bne, h1]; rfl
      rw [h2, h1, if_neg (by simp), Bool.true_or, Bool.and_true, ih]
theorem tst_last {b : Book} {es : List Entry} (ok : LogOk b es) (ride : Int) {day : Int} (hday : 0 ≤ day) (hin : ∀ i : Nat, i < es.length → (entAt es i).day ≤ day) :
    ∀ k, k ≤ es.length → tstR es ride day k = (fwd (lastStep (fun y => y.kind == 4 && y.a == ride) ride) (-1) es k == day)
  | 0, _ => by
    unfold tstR fwd
    have : ¬ (-1 : Int) = day := by omega
    simpa using this
  | k + 1, hk => by
    have ih := tst_last ok ride hday hin k (by omega)
    have hL : fwd (lastStep (fun y => y.kind == 4 && y.a == ride) ride) (-1) es k = day → (entAt es k).day = day := fun h => by
      rw [← lastF_fwd] at h
      cases hl : lastF (lastStep (fun y => y.kind == 4 && y.a == ride) ride) es k with
      | none => rw [hl] at h; simp at h; omega
      | some r =>
        rw [hl] at h
        simp at h
        obtain ⟨i, h1, h2⟩ := lastF_some hl
        unfold lastStep at h2
        have hs := ok.sorted i k (by omega) (by omega)
        have hk' := hin k (by omega)
        split at h2
        · cases h2; omega
        · split at h2
          · cases h2; omega
          · cases h2
    unfold tstR fwd
    rw [ih]
    generalize fwd (lastStep (fun y => y.kind == 4 && y.a == ride) ride) (-1) es k = L at hL
    rw [lastStep_eq]
    cases ha : (entAt es k).a == ride with
    | false => simp only [Bool.and_false, Bool.false_eq_true, if_false, Option.getD_none]
    | true =>
      by_cases h4 : (entAt es k).kind = 4
      · have h4' : ((entAt es k).kind == 4) = true := by simpa using h4
        simp only [h4', Bool.and_self, if_true, Option.getD_some]
        by_cases h5 : L = day
        · simp [h5, hL h5]
        · have h5' : (L == day) = false := by simpa using h5
          simp only [h5', Bool.false_or]
      · have h4' : ((entAt es k).kind == 4) = false := by simpa using h4
        simp only [h4', Bool.false_and, Bool.false_eq_true, if_false, if_true, Bool.and_true]
        by_cases h6 : (entAt es k).kind = 6
        · have h6' : ((entAt es k).kind == 6) = true := by simpa using h6
          have h7 : ((-1 : Int) == day) = false := by simpa using (by omega : ¬ (-1 : Int) = day)
          simp only [h6', if_true, Option.getD_some, h7]
        · have h6' : ((entAt es k).kind == 6) = false := by simpa using h6
          simp only [h6', Bool.false_eq_true, if_false, Option.getD_none]
theorem whyR_eq {b : Book} {es : List Entry} (ok : LogOk b es) (ride : Int) {day : Int} (hday : 0 ≤ day ∧ day ≤ 10000) (hin : ∀ i : Nat, i < es.length → (entAt es i).day ≤ day) : whyR b es ride day = whyP b es ride day := by
  have e1 := checked_chk ok ride hday b.rules.length (Nat.le_refl _)
  have e2 : worseR es ride = !soundP es ride := by
    unfold worseR soundP
    have m := (manyF_ok es ride (openL es es.length)).getI 3
    generalize getI (manyF es ride (openL es es.length)) 3 = x at m
    generalize getI (manyF es ride (openL es es.length)) 2 = y
    by_cases hx : x = 0
    · subst hx
      by_cases hy : y ≤ 1
      · have : ¬ y > 1 := by omega
        simp [hy, this]
      · have : y > 1 := by omega
        simp [hy, this]
    · have : x > 0 := by omega
      have hx' : (x == 0) = false := by simpa using hx
      simp [this, hx']
  have e3 : (!tstR es ride day es.length) = (lastP (fun y => y.kind == 4 && y.a == ride) ride es != day) := by
    rw [tst_last ok ride hday.1 hin es.length (Nat.le_refl _)]
    unfold lastP
    rw [lastF_fwd]; rfl
  have e4 : insR b es ride es.length = insP b ride es := by unfold insP; rw [lastF_fwd, insR_fwd]
  unfold whyR whyP
  rw [e1, e2, e3, e4]
section
variable {C : Nat → CallT} {N : Nat} (K : CallsOf C N)
include K
theorem f96_c {d : Nat} (hd : 6 ≤ d) {cs : List Value} {b : Book} {es : List Entry} {ve : Value} {h : H} (r : BookR h cs b) (re : RS h 5 ve (es.map Entry.enc)) (hle' : es.length < 5000) (day : Int) :
    ∃ v h', C d (.func 96) [.agg cs, .one ve, .one (I day)] h = some (.tup [.one v, .one (I (dayErr b es day))], h') ∧ Own h h' v (if dayErr b es day = 0 then relL b (uptoP es day) day b.insured.length else []) := by
  obtain ⟨e, he, rfl, hC⟩ := K.at (k := 5) hd
  have hN := K.big
  have s3 := r.s3
  obtain ⟨hA, eA⟩ : ∃ q, q = h.new (.cells cs 28 true) := ⟨_, rfl⟩
  have fA : Fr h hA := by rw [eA]; exact (Fr.refl h).new _
  have nA : hA.next = h.next + 1 := by rw [eA]; rfl
  have hcs : cs.length = 3 := by obtain ⟨v1, v2, v3, rfl, _⟩ := r.ex; rfl
  have gA : ∀ h', Fr hA h' → h'.get h.next = some (.cells cs 28 true) := fun h' f => by rw [f.get _ (by omega), eA]; simp
  have l3 : ∀ h', Fr hA h' → h'.ldn h.next 0 3 = some cs := fun h' f => by rw [H.ldn_of _ (gA h' f), if_pos (by omega), List.drop_zero, List.take_of_length_le (by omega)]
  obtain ⟨h2, k1, k2⟩ := f173_c K (d := e) he (r.fr fA) (re.fr fA) day
  obtain ⟨v1, v2, v3, hcs', r1, r2, r3⟩ := r.ex
  have g2 : ∀ h', Fr hA h' → h'.ld h.next 2 = some v3 := fun h' f => by rw [H.ld_of _ (gA h' f), hcs']; rfl
  have len3 := r3.len
  rw [hC _ _ _ rfl, F96_eq]; unfold F96
  rw [← eA]
  by_cases hde : dayErr b es day = 0
  · have hne : (dayErr b es day != 0) = false := by simpa using hde
    obtain ⟨hle, hd0, hd1⟩ := dayErr0 hde
    have ok : LogOk b (uptoP es day) := (LogOk.of hle).take _
    have hul : (uptoP es day).length = uptoN es day := by unfold uptoP; rw [List.length_take]; have := uptoN_le es day; omega
    have hin : ∀ i : Nat, i < (uptoP es day).length → (entAt (uptoP es day) i).day ≤ day := fun i hi => by
      rw [hul] at hi; unfold uptoP; rw [entAt_take hi]; exact uptoN_in hi
    have main := loop_inv (LP := LP96_0 (C e) N) (n := b.insured.length)
      (fun i vs h1 => ∃ v, Own h2 h1 v (relL b (uptoP es day) day i) ∧ vs = [.one ve, .one (I day), .one (ptr h.next 0), .one v, .one (I i)])
      (fun o => ∃ v h', o = some (.exit 0, [.one v], h') ∧ Own h2 h' v (relL b (uptoP es day) day b.insured.length))
      (fun m vs h1 ⟨v, o, hv⟩ => ⟨v, h1, by rw [hv, LP96_0_succ]; unfold B96_0; simp only [S0, Nat.reduceAdd, Nat.reduceLeDiff, ↓reduceIte, g2 h1 (k2.trans o.fr), len3, in0], o⟩)
      (fun i m vs h1 hi ⟨v, o, hv⟩ => by
        subst hv
        rw [LP96_0_succ]; unfold B96_0
        have f := k2.trans o.fr
        have re1 := re.fr (fA.trans f)
        obtain ⟨vu, z1, z2⟩ := f175_c K (d := e) (h := frzL [h.next] h1) (by omega) (re1.frz h.next) re1 hle' day
        obtain ⟨w, h3, y1, y2, y3⟩ := f174_c K (d := e) (by omega) (r.fr (fA.trans f)) z2 ok (by rw [hul]; have := uptoN_le es day; omega) (ride := (i : Int)) (by omega) (day := day) ⟨hd0, hd1⟩
        rw [whyR_eq ok (i : Int) ⟨hd0, hd1⟩ hin] at y3
        have hlen := relL_len b (uptoP es day) day i
        have e1 : relL b (uptoP es day) day (i + 1) = if ((whyP b (uptoP es day) i day).length == 0) = true then relL b (uptoP es day) day i ++ [(i : Int)] else relL b (uptoP es day) day i := rfl
        have e0 : (((whyP b (uptoP es day) i day).length : Int) == 0) = ((whyP b (uptoP es day) i day).length == 0) := eqNat' _ 0
        cases hw : (whyP b (uptoP es day) i day).length == 0 with
        | false =>
          rw [hw] at e1 e0
          refine .inr ⟨_, _, ⟨v, by rw [e1]; exact o.go y2, rfl⟩, ?_⟩
          simp only [S0, Nat.reduceAdd, Nat.reduceLeDiff, ↓reduceIte, g2 h1 f, len3, i0 hi, sameB_ptr, l3 h1 f, bOf_ptr, z1, thaw1_same, y1, y3, e0, i1 (show i + 1 ≤ b.insured.length from hi) (by omega)]
        | true =>
          rw [hw] at e1 e0
          obtain ⟨v', h4, w1, w2⟩ := (o.go y2).app (i : Int) (by omega)
          refine .inr ⟨_, _, ⟨v', by rw [e1]; exact w2, rfl⟩, ?_⟩
          simp only [S0, Nat.reduceAdd, Nat.reduceLeDiff, ↓reduceIte, g2 h1 f, len3, i0 hi, sameB_ptr, l3 h1 f, bOf_ptr, z1, thaw1_same, y1, y3, e0, w1, i1 (show i + 1 ≤ b.insured.length from hi) (by omega)])
      b.insured.length 0 N _ h2 (by omega) ⟨_, Own.start h2, rfl⟩ (by omega)
    obtain ⟨v, h', z1, z2⟩ := main
    have z1' : LP96_0 (C e) N N [.one ve, .one (I day), .one (ptr h.next 0), .one (.slice none 0 0), .one (I 0)] h2 = _ := z1
    have nn := (fA.trans k2).nx
    refine ⟨v, h', ?_, ?_⟩
    · simp only [S0, Nat.reduceAdd, Nat.reduceLeDiff, ↓reduceIte, l3 hA (.refl _), k1, hne, z1', hde]
    · rw [if_pos hde]
      exact ⟨(fA.trans k2).trans z2.fr, z2.og, fun x hx => by have := z2.own x hx; omega⟩
  · have hne : (dayErr b es day != 0) = true := by simpa using hde
    refine ⟨.slice none 0 0, h2, ?_, ?_⟩
    · simp only [S0, Nat.reduceAdd, Nat.reduceLeDiff, ↓reduceIte, l3 hA (.refl _), k1, hne]
    · rw [if_neg hde]
      exact ⟨fA.trans k2, ⟨by simp, .inl ⟨rfl, rfl⟩⟩, fun x hx => by simp [bOf] at hx⟩
end
end Go.Wz
