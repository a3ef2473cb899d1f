/- Contracts: the log, from its last entry back. -/
import Derived.Test.YthidglhhfdjhhaaGreatGN
set_option linter.unusedVariables false
set_option linter.unusedSimpArgs false
namespace Go.Wz
open Go
/-- the first answer, from the last one of k entries back -/
def lastF (step : Entry → Option Int) (es : List Entry) : Nat → Option Int
  | 0 => none
  | k + 1 => match step ((es[k]?).getD entry0) with | some r => some r | none => lastF step es k
abbrev yv (l : Nat) : Value := .func (.yield l) #[] #[]
/-- what a round of the outer loop does -/
structure YSpec (call : CallT) (step : Entry → Option Int) (h0 : H) (lp br : Nat) (x : Blk) : Prop where
  L0 : x.L0
  go : ∀ (y : Entry) (h : H), Fr h0 h → ∃ h', call (.yield lp) [.agg y.enc] h = some (.one (.bool (step y).isNone), h') ∧ h.next ≤ h'.next ∧ (∀ b, b < h.next → b ≠ lp → b ≠ br → h'.get b = h.get b) ∧
    match step y with
    | none => h'.get lp = h.get lp ∧ h'.get br = h.get br
    | some r => h'.get lp = some (x.mv .done (some .ret)) ∧ h'.get br = some (.cells [I r] 3 true)
/-- what is left behind -/
def Stopped (h h' : H) (lp br : Nat) (x : Blk) : Option Int → Prop
  | none => Fr h h'
  | some r => h.next ≤ h'.next ∧ h'.get lp = some (x.mv .done (some .ret)) ∧ h'.get br = some (.cells [I r] 3 true) ∧ ∀ b, b < h.next → b ≠ lp → b ≠ br → h'.get b = h.get b
theorem subI {k : Nat} (h : k < 2 ^ 40) : ibin .sub (I ((k + 1 : Nat) - 1 : Int)) (I 1) = some (I ((k : Int) - 1)) := by
  rw [sub_in (by omega) (by omega)]; congr 2; omega
section
variable {C : Nat → CallT} {N : Nat} (K : CallsOf C N)
include K
theorem loop286 {e : Nat} {step : Entry → Option Int} {h0 h2 : H} {lp br bp b29 lp2 : Nat} {x : Blk} (Y : YSpec (C e) step h0 lp br x) (hbr : br < h0.next) (hlp : lp < h0.next) {ve : Value} {es : List Entry} (hes : es.length < 5000)
    {p1 p2 p3 p5 : Value} (f2 : Fr h0 h2) (re : RS h2 5 ve (es.map Entry.enc)) (hve : ∀ b, bOf ve = some b → b ≠ lp ∧ b ≠ br) (o1 : h0.next ≤ bp) (o2 : bp < b29) (o3 : b29 < lp2) (o4 : lp2 < h2.next)
    (gp : h2.get bp = some (.cells [yv lp] 179 true)) (gb : h2.get b29 = some (.cells [ve] 29 true)) (gl : h2.get lp2 = some (LB240_0 (yv lp) p1 p2 p3 (ptr bp 0) p5)) :
    ∀ (k m : Nat) (h : H), k < m → k ≤ es.length → Fr h2 h →
      ∃ h', LP286_0 (C (e + 1)) N m [.one (yv lp2), .one (ptr b29 0), .one (I ((k : Int) - 1))] h = some (match lastF step es k with | none => (.exit 0, [], h') | some r => (.ret (.tup []), [], h')) ∧
        match lastF step es k with
        | none => Fr h h'
        | some r => h.next ≤ h'.next ∧ h'.get lp = some (x.mv .done (some .ret)) ∧ h'.get br = some (.cells [I r] 3 true) ∧ h'.get lp2 = some ((LB240_0 (yv lp) p1 p2 p3 (ptr bp 0) p5).mv .done (some .ret)) ∧ ∀ b, b < h.next → b ≠ lp → b ≠ br → b ≠ lp2 → h'.get b = h.get b := by
  obtain ⟨e', _, he', hY⟩ := K.atY (k := 0) (show 1 ≤ e + 1 by omega)
  obtain rfl : e' = e := by omega
  have hL : (LB240_0 (yv lp) p1 p2 p3 (ptr bp 0) p5).L0 := ⟨_, _, _, _, _, _, _, rfl⟩
  intro k
  induction k with
  | zero =>
    intro m h hm hk f
    obtain ⟨m, rfl⟩ : ∃ q, m = q + 1 := ⟨m - 1, by omega⟩
    rw [LP286_0_succ]; unfold B286_0
    have hz : decide (((0 : Nat) : Int) - 1 ≥ 0) = false := rfl
    exact ⟨h, by simp only [S0, Nat.reduceAdd, Nat.reduceLeDiff, ↓reduceIte, hz, lastF], Fr.refl h⟩
  | succ k ih =>
    intro m h hm hk f
    obtain ⟨m, rfl⟩ : ∃ q, m = q + 1 := ⟨m - 1, by omega⟩
    rw [LP286_0_succ]; unfold B286_0
    have hz : decide (((k + 1 : Nat) : Int) - 1 ≥ 0) = true := by simp
    have hk' : k < es.length := by omega
    have gb' : h.ld b29 0 = some ve := by rw [f.ld (by omega), H.ld_of _ gb]; rfl
    obtain ⟨bo, oo, hbo, hbv, e1, e2⟩ := re.atx (i := k) (x := es[k]) (List.getElem?_eq_getElem hk')
    have e3 := (e2 h f).1
    have hki : ((k + 1 : Nat) : Int) - 1 = (k : Int) := by omega
    rw [hki] at hz ⊢
    -- the round
    have gl' : h.get lp2 = some (LB240_0 (yv lp) p1 p2 p3 (ptr bp 0) p5) := by rw [f.get _ (by omega)]; exact gl
    obtain ⟨y, ey⟩ : ∃ y, y = (es[k]?).getD entry0 := ⟨_, rfl⟩
    have ey' : es[k] = y := by rw [ey, List.getElem?_eq_getElem hk']; rfl
    rw [ey'] at e3
    have pn := pstn_new h (zs := [I 0, I 0, I 0, I 0, I 0]) (xs := y.enc) 162 rfl
    have hx5 : y.enc.length = 5 := rfl
    obtain ⟨hA, eA⟩ : ∃ q, q = h.new (.cells y.enc 162 true) := ⟨_, rfl⟩
    rw [← eA] at pn
    have fA : Fr h hA := by rw [eA]; exact (Fr.refl h).new _
    have nA : hA.next = h.next + 1 := by rw [eA]; rfl
    have hn2 := f.nx
    obtain ⟨hB, eB⟩ : ∃ q, q = hA.put lp2 (some ((LB240_0 (yv lp) p1 p2 p3 (ptr bp 0) p5).mv .busy none)) := ⟨_, rfl⟩
    have nB : hB.next = h.next + 1 := by rw [eB, H.put_nx, nA]
    have gB : ∀ b, b < h.next → b ≠ lp2 → hB.get b = h.get b := fun b hb hb2 => by rw [eB, H.put_get_ne _ _ hb2, fA.get b hb]
    have f2n := f2.nx
    have fB : Fr h0 hB := ⟨by omega, fun b hb => by rw [gB b (by omega) (by omega), f.get b (by omega), f2.get b hb]⟩
    have bpB : hB.ld bp 0 = some (yv lp) := by rw [H.ld_of _ (by rw [gB bp (by omega) (by omega), f.get bp (by omega)]; exact gp)]; rfl
    have l5 : hB.ldn h.next 0 5 = some y.enc := by rw [H.ldn_of _ (by rw [eB, H.put_get_ne _ _ (by omega), eA]; exact H.new_get_same _ _), if_pos (by omega), List.drop_zero, List.take_of_length_le (by omega)]
    obtain ⟨h3, c1, c2, c3, c4⟩ := Y.go y hB fB
    have c1' : callV (C e') (yv lp) [.agg y.enc] hB = some (.one (.bool (step y).isNone), h3) := c1
    have lp2B : hB.get lp2 = some ((LB240_0 (yv lp) p1 p2 p3 (ptr bp 0) p5).mv .busy none) := by rw [eB]; exact H.put_get_same _ _ _
    have lp23 : h3.get lp2 = some ((LB240_0 (yv lp) p1 p2 p3 (ptr bp 0) p5).mv .busy none) := by rw [c3 lp2 (by omega) (by omega) (by omega)]; exact lp2B
    have y0 := hY (args := [.one (I (k : Int)), .agg y.enc]) gl' hL
    rw [Y240_0_eq] at y0
    have bg := begR_of (R := SV × H) (h := hA) (x := LB240_0 (yv lp) p1 p2 p3 (ptr bp 0) p5) (l := lp2)
    have glA : hA.get lp2 = some (LB240_0 (yv lp) p1 p2 p3 (ptr bp 0) p5) := by rw [fA.get _ (by omega)]; exact gl'
    have y1 : Y240_0 (C e') N lp2 (yv lp) p1 p2 p3 (ptr bp 0) p5 (I (k : Int)) y.enc h = (match step y with
        | none => some (.one (.bool true), h3.put lp2 (some (LB240_0 (yv lp) p1 p2 p3 (ptr bp 0) p5)))
        | some r => some (.one (.bool false), h3.put lp2 (some ((LB240_0 (yv lp) p1 p2 p3 (ptr bp 0) p5).mv .done (some .ret))))) := by
      unfold Y240_0
      simp only [ifLen_eq, hx5, pn, Option.bind_some]
      rw [bg _ glA hL, ← eB]
      cases hs : step y with
      | none =>
        rw [hs] at c1'
        simp only [S0, Nat.reduceAdd, Nat.reduceLeDiff, ↓reduceIte, bpB, l5, c1', Option.isNone_none, endR_none lp23 hL]
      | some r =>
        rw [hs] at c1'
        simp only [S0, Nat.reduceAdd, Nat.reduceLeDiff, ↓reduceIte, bpB, l5, c1', Option.isNone_some, endR_jmp .ret lp23 hL]
    rw [y1] at y0
    conv => enter [1, h', 2]; unfold lastF
    conv => enter [1, h', 1, 2]; unfold lastF
    rw [← ey]
    have y0' : C (e' + 1) (.yield lp2) [.one (I (k : Int)), .agg y.enc] h = _ := y0
    cases hs : step y with
    | none =>
      rw [hs] at y0' c4
      simp only at y0' c4
      have fr : Fr h (h3.put lp2 (some (LB240_0 (yv lp) p1 p2 p3 (ptr bp 0) p5))) := ⟨by rw [H.put_nx]; omega, fun b hb => by
        rw [H.put_gt]; split
        · rename_i hb2; rw [hb2, gl']
        · rename_i hb2
          by_cases hb3 : b = lp
          · rw [hb3, c4.1, gB lp (by omega) (by omega)]
          · by_cases hb4 : b = br
            · rw [hb4, c4.2, gB br (by omega) (by omega)]
            · rw [c3 b (by omega) hb3 hb4, gB b hb hb2]⟩
      obtain ⟨h', z1, z2⟩ := ih m _ (by omega) (by omega) (f.trans fr)
      refine ⟨h', ?_, ?_⟩
      · simp only [S0, Nat.reduceAdd, Nat.reduceLeDiff, ↓reduceIte, hz, gb', e1, e3, y0', sub1 (show k < 2 ^ 40 by omega), z1]
      · cases hl : lastF step es k with
        | none => rw [hl] at z2; exact fr.trans z2
        | some r =>
          rw [hl] at z2
          simp only at z2 ⊢
          obtain ⟨w1, w2, w3, w4, w5⟩ := z2
          have := fr.nx
          exact ⟨by omega, w2, w3, w4, fun b hb h1 h2 h3 => by rw [w5 b (by omega) h1 h2 h3, fr.get b hb]⟩
    | some r =>
      rw [hs] at y0' c4
      simp only at y0' c4
      refine ⟨h3.put lp2 (some ((LB240_0 (yv lp) p1 p2 p3 (ptr bp 0) p5).mv .done (some .ret))), ?_, by rw [H.put_nx]; omega, by rw [H.put_get_ne _ _ (by omega)]; exact c4.1, by rw [H.put_get_ne _ _ (by omega)]; exact c4.2, H.put_get_same _ _ _, fun b hb h1 h2 h3 => by rw [H.put_get_ne _ _ h3, c3 b (by omega) h1 h2, gB b hb h3]⟩
      simp only [S0, Nat.reduceAdd, Nat.reduceLeDiff, ↓reduceIte, hz, gb', e1, e3, y0']
theorem f240_c {e : Nat} {step : Entry → Option Int} {h0 : H} {lp br bq : Nat} {x : Blk} (Y : YSpec (C e) step h0 lp br x) (hbr : br < h0.next) (hlp : lp < h0.next) (hbq : bq < h0.next) {v1 v2 v3 ve : Value} {w : Bool} {es : List Entry} (hes : es.length < 5000)
    (re : RS h0 5 ve (es.map Entry.enc)) (hve : ∀ b, bOf ve = some b → b ≠ lp ∧ b ≠ br) (gq : h0.get bq = some (.cells [v1, v2, v3, ve] 112 w)) :
    ∃ h', C (e + 3) (.func 240) [.one (yv lp), .one (ptr bq 0)] h0 = some (.tup [], h') ∧ Stopped h0 h' lp br x (lastF step es es.length) := by
  have hN := K.big
  obtain ⟨hA, eA⟩ : ∃ q, q = h0.new (.cells [yv lp] 179 true) := ⟨_, rfl⟩
  have fA : Fr h0 hA := by rw [eA]; exact (Fr.refl h0).new _
  have nA : hA.next = h0.next + 1 := by rw [eA]; rfl
  have q3 : hA.ld bq 3 = some ve := by rw [fA.ld hbq, H.ld_of _ gq]; rfl
  obtain ⟨hB, eB⟩ : ∃ q, q = hA.new (.cells [ve] 29 true) := ⟨_, rfl⟩
  have fB : Fr hA hB := by rw [eB]; exact (Fr.refl hA).new _
  have nB : hB.next = hA.next + 1 := by rw [eB]; rfl
  have k241 : C (e + 2) (.func 241) [.one ve] hA = some (.one (.func (.func 286) #[] #[ptr hA.next 0]), hB) := by
    rw [K.func _ _ _ _ rfl, F241_eq, eB]; rfl
  obtain ⟨LB, eL⟩ : ∃ q, q = LB240_0 (yv lp) (ptr bq 0) (.func (.func 286) #[] #[ptr hA.next 0]) (ptr bq 3) (ptr h0.next 0) ve := ⟨_, rfl⟩
  obtain ⟨hD, eD⟩ : ∃ q, q = hB.new LB := ⟨_, rfl⟩
  have fD : Fr hB hD := by rw [eD]; exact (Fr.refl hB).new _
  have nD : hD.next = hB.next + 1 := by rw [eD]; rfl
  have f2 := fA.trans (fB.trans fD)
  have gp : hD.get h0.next = some (.cells [yv lp] 179 true) := by rw [(fB.trans fD).get _ (by omega), eA]; exact H.new_get_same _ _
  have gb : hD.get hA.next = some (.cells [ve] 29 true) := by rw [fD.get _ (by omega), eB]; exact H.new_get_same _ _
  have gl : hD.get hB.next = some (LB240_0 (yv lp) (ptr bq 0) (.func (.func 286) #[] #[ptr hA.next 0]) (ptr bq 3) (ptr h0.next 0) ve) := by rw [eD, H.new_get_same, eL]
  obtain ⟨h3, z1, z2⟩ := loop286 K Y hbr hlp hes f2 (re.fr f2) hve (Nat.le_refl _) (by omega) (show hA.next < hB.next by omega) (by omega) gp gb gl es.length N hD (by omega) (Nat.le_refl _) (.refl _)
  have hL : LB.L0 := by rw [eL]; exact ⟨_, _, _, _, _, _, _, rfl⟩
  have le := re.len
  rw [List.length_map] at le
  have gb0 : hD.ld hA.next 0 = some ve := by rw [H.ld_of _ gb]; rfl
  have k286 : C (e + 2) (.func 286) [.one (yv hB.next), .one (ptr hA.next 0)] hD = some (.tup [], h3) := by
    rw [K.func _ _ _ _ rfl, F286_eq]; unfold F286
    simp only [S0, Nat.reduceAdd, Nat.reduceLeDiff, ↓reduceIte, gb0, le, sub1 (show es.length < 2 ^ 40 by omega), z1]
    cases lastF step es es.length <;> simp only [S0, Nat.reduceAdd, Nat.reduceLeDiff, ↓reduceIte]
  have k286' : callG (C (e + 2)) (.func (.func 286) #[] #[ptr hA.next 0]) [.one (.func (.yield hB.next) #[] #[])] hD = some (.tup [], h3) := k286
  rw [K.func _ _ _ _ rfl, F240_eq]; unfold F240
  rw [← eA]
  simp only [S0, Nat.reduceAdd, Nat.reduceLeDiff, ↓reduceIte, q3, k241]
  rw [← eL, ← eD]
  simp only [S0, Nat.reduceAdd, Nat.reduceLeDiff, ↓reduceIte, k286']
  cases hl : lastF step es es.length with
  | none =>
    rw [hl] at z2
    simp only at z2
    have gl3 : h3.get hB.next = some LB := by rw [z2.get _ (by omega), eD]; exact H.new_get_same _ _
    rw [endL_none _ _ _ gl3 hL]
    refine ⟨_, rfl, ?_⟩
    exact (f2.trans z2).put (by omega) _
  | some r =>
    rw [hl] at z2
    simp only at z2
    obtain ⟨w1, w2, w3, w4, w5⟩ := z2
    rw [← eL] at w4
    rw [endL_ret _ _ _ w4 hL]
    refine ⟨_, rfl, by rw [H.put_nx]; omega, by rw [H.put_get_ne _ _ (by omega)]; exact w2, by rw [H.put_get_ne _ _ (by omega)]; exact w3, fun b hb h1 h2 => ?_⟩
    rw [H.put_get_ne _ _ (by omega), w5 b (by omega) h1 h2 (by omega), f2.get b hb]
end
end Go.Wz
