/- Contracts: what the log says last of a ride. -/
import Derived.Test.YthidglhhfdjhhaaGreatGO
set_option linter.unusedVariables false
set_option linter.unusedSimpArgs false
namespace Go.Wz
open Go
def lastStep (wanted : Entry → Bool) (ride : Int) (y : Entry) : Option Int := if wanted y = true then some y.day else if (y.kind == 6 && y.a == ride) = true then some (-1) else none
def lastP (wanted : Entry → Bool) (ride : Int) (es : List Entry) : Int := (lastF (lastStep wanted ride) es es.length).getD (-1)
def insStep (ride : Int) (y : Entry) : Option Int := if (y.kind == 5 && y.a == ride) = true then some y.b else none
def insP (b : Book) (ride : Int) (es : List Entry) : Int := (lastF (insStep ride) es es.length).getD (getI b.insured ride)
section
variable {C : Nat → CallT} {N : Nat} (K : CallsOf C N)
include K
theorem f116_c {e : Nat} (he : 2 ≤ e) {cs : List Value} {b : Book} {es : List Entry} {h : H} (r : LogR h cs b es) {ride : Int} {vf : Value} {wanted : Entry → Bool}
    (hw : ∀ (y : Entry) (h1 : H), Fr h h1 → ∃ h', callV (C (e - 1)) vf [.agg y.enc] h1 = some (.one (.bool (wanted y)), h') ∧ Fr h1 h') :
    ∃ h', C (e + 4) (.func 116) [.agg cs, .one (I ride), .one vf] h = some (.one (I (lastP wanted ride es)), h') ∧ Fr h h' := by
  have s4 := r.s4
  obtain ⟨v1, v2, v3, v4, rfl, r1, r2, r3, r4⟩ := r.ex
  obtain ⟨hA, eA⟩ : ∃ q, q = (((h.new (.cells [v1, v2, v3, v4] 112 true)).new (.cells [I ride] 3 true)).new (.cells [vf] 179 true)).new (.cells [I 0] 3 true) := ⟨_, rfl⟩
  have fA : Fr h hA := by rw [eA]; exact ((((Fr.refl h).new _).new _).new _).new _
  have nA : hA.next = h.next + 4 := by rw [eA]; rfl
  have ga : hA.get h.next = some (.cells [v1, v2, v3, v4] 112 true) := by
    rw [eA, H.new_get_lt _ _ (by simp; omega), H.new_get_lt _ _ (by simp; omega), H.new_get_lt _ _ (by simp)]; exact H.new_get_same _ _
  have gr : hA.get (h.next + 1) = some (.cells [I ride] 3 true) := by
    rw [eA, H.new_get_lt _ _ (by simp), H.new_get_lt _ _ (by simp)]; exact H.new_get_same (h.new (.cells [v1, v2, v3, v4] 112 true)) _
  have gw : hA.get (h.next + 2) = some (.cells [vf] 179 true) := by
    rw [eA, H.new_get_lt _ _ (by simp)]; exact H.new_get_same ((h.new (.cells [v1, v2, v3, v4] 112 true)).new (.cells [I ride] 3 true)) _
  have gb : hA.get (h.next + 3) = some (.cells [I 0] 3 true) := by
    rw [eA]; exact H.new_get_same (((h.new (.cells [v1, v2, v3, v4] 112 true)).new (.cells [I ride] 3 true)).new (.cells [vf] 179 true)) _
  have l4 : hA.ldn h.next 0 4 = some [v1, v2, v3, v4] := by rw [H.ldn_of _ ga]; rfl
  obtain ⟨hB, eB⟩ : ∃ q, q = hA.new (.cells [v1, v2, v3, v4] 112 true) := ⟨_, rfl⟩
  have fB : Fr hA hB := by rw [eB]; exact (Fr.refl hA).new _
  have nB : hB.next = hA.next + 1 := by rw [eB]; rfl
  have k190 : C (e + 3) (.func 190) [.agg [v1, v2, v3, v4]] hA = some (.one (.func (.func 240) #[] #[ptr hA.next 0]), hB) := by
    rw [K.func _ _ _ _ rfl, F190_eq, eB]; rfl
  obtain ⟨LB, eL⟩ : ∃ q, q = LB116_0 [v1, v2, v3, v4] (I ride) (ptr h.next 0) (ptr (h.next + 2) 0) (.func (.func 240) #[] #[ptr hA.next 0]) vf (ptr (h.next + 1) 0) [v1, v2, v3, v4] (ptr (h.next + 3) 0) := ⟨_, rfl⟩
  have hL : LB.L0 := by rw [eL]; exact ⟨_, _, _, _, _, _, _, rfl⟩
  obtain ⟨h0, e0⟩ : ∃ q, q = hB.new LB := ⟨_, rfl⟩
  have f0 : Fr hB h0 := by rw [e0]; exact (Fr.refl hB).new _
  have n0 : h0.next = hB.next + 1 := by rw [e0]; rfl
  have fA0 := fB.trans f0
  have fh0 := fA.trans fA0
  have glp : h0.get hB.next = some LB := by rw [e0]; exact H.new_get_same _ _
  obtain ⟨e', he', hee, hY⟩ := K.atY (k := 1) he
  have hee' : e' = e - 1 := by omega
  have Y : YSpec (C e) (lastStep wanted ride) h0 hB.next (h.next + 3) LB := ⟨hL, fun y h1 f => by
    have fn := f.nx
    have glp1 : h1.get hB.next = some LB := by rw [f.get _ (by omega)]; exact glp
    have y0 := hY (args := [.agg y.enc]) glp1 hL
    rw [eL, Y116_0_eq] at y0
    have pn := pstn_new h1 (zs := [I 0, I 0, I 0, I 0, I 0]) (xs := y.enc) 162 rfl
    have hx5 : y.enc.length = 5 := rfl
    obtain ⟨g1, eg1⟩ : ∃ q, q = h1.new (.cells y.enc 162 true) := ⟨_, rfl⟩
    rw [← eg1] at pn
    have fg1 : Fr h1 g1 := by rw [eg1]; exact (Fr.refl h1).new _
    have ng1 : g1.next = h1.next + 1 := by rw [eg1]; rfl
    have glpg : g1.get hB.next = some LB := by rw [fg1.get _ (by omega)]; exact glp1
    obtain ⟨g2, eg2⟩ : ∃ q, q = g1.put hB.next (some (LB.mv .busy none)) := ⟨_, rfl⟩
    have ng2 : g2.next = h1.next + 1 := by rw [eg2, H.put_nx, ng1]
    have gg2 : ∀ x, x < h1.next → x ≠ hB.next → g2.get x = h1.get x := fun x hx hx2 => by rw [eg2, H.put_get_ne _ _ hx2, fg1.get x hx]
    have fg2 : Fr h g2 := ⟨by omega, fun x hx => by rw [gg2 x (by omega) (by omega), f.get x (by omega), fh0.get x hx]⟩
    have gw2 : g2.ld (h.next + 2) 0 = some vf := by rw [H.ld_of _ (by rw [gg2 _ (by omega) (by omega), f.get _ (by omega), fA0.get _ (by omega)]; exact gw)]; rfl
    have gy2 : g2.get h1.next = some (.cells y.enc 162 true) := by rw [eg2, H.put_get_ne _ _ (by omega), eg1]; exact H.new_get_same _ _
    have l52 : g2.ldn h1.next 0 5 = some y.enc := by rw [H.ldn_of _ gy2, if_pos (by omega), List.drop_zero, List.take_of_length_le (by omega)]
    obtain ⟨g3, c1, c2⟩ := hw y g2 fg2
    rw [← hee'] at c1
    have cn := c2.nx
    have y3 : ∀ j, g3.ld h1.next j = (y.enc)[j]? := fun j => by rw [c2.ld (by omega), H.ld_of _ gy2]
    have r3' : g3.ld (h.next + 1) 0 = some (I ride) := by rw [c2.ld (by omega), H.ld_of _ (by rw [gg2 _ (by omega) (by omega), f.get _ (by omega), fA0.get _ (by omega)]; exact gr)]; rfl
    have br3 : g3.get (h.next + 3) = some (.cells [I 0] 3 true) := by rw [c2.get _ (by omega), gg2 _ (by omega) (by omega), f.get _ (by omega), fA0.get _ (by omega)]; exact gb
    have st3 : ∀ n, g3.st (h.next + 3) 0 (I n) = some (g3.put (h.next + 3) (some (.cells [I n] 3 true))) := fun n => by rw [H.st_of _ br3, if_pos (by simp)]; rfl
    have lp3 : g3.get hB.next = some (LB.mv .busy none) := by rw [c2.get _ (by omega), eg2]; exact H.put_get_same _ _ _
    have lpn : ∀ n, (g3.put (h.next + 3) (some (.cells [I n] 3 true))).get hB.next = some (LB.mv .busy none) := fun n => by rw [H.put_get_ne _ _ (by omega)]; exact lp3
    have stopped : ∀ n, h1.next ≤ ((g3.put (h.next + 3) (some (.cells [I n] 3 true))).put hB.next (some (LB.mv .done (some .ret)))).next ∧
        (∀ x, x < h1.next → x ≠ hB.next → x ≠ h.next + 3 → ((g3.put (h.next + 3) (some (.cells [I n] 3 true))).put hB.next (some (LB.mv .done (some .ret)))).get x = h1.get x) ∧
        ((g3.put (h.next + 3) (some (.cells [I n] 3 true))).put hB.next (some (LB.mv .done (some .ret)))).get hB.next = some (LB.mv .done (some .ret)) ∧
        ((g3.put (h.next + 3) (some (.cells [I n] 3 true))).put hB.next (some (LB.mv .done (some .ret)))).get (h.next + 3) = some (.cells [I n] 3 true) := fun n =>
      ⟨by simp only [H.put_nx]; omega, fun x h1' h2 h3 => by rw [H.put_get_ne _ _ h2, H.put_get_ne _ _ h3, c2.get x (by omega), gg2 x h1' h2], H.put_get_same _ _ _, by rw [H.put_get_ne _ _ (by omega)]; exact H.put_get_same _ _ _⟩
    have d0 : (y.enc)[0]? = some (I y.day) := rfl
    have d1 : (y.enc)[1]? = some (I y.kind) := rfl
    have d2 : (y.enc)[2]? = some (I y.a) := rfl
    have y1 : ∀ R, Y116_0 (C e') N hB.next [v1, v2, v3, v4] (I ride) (ptr h.next 0) (ptr (h.next + 2) 0) (.func (.func 240) #[] #[ptr hA.next 0]) vf (ptr (h.next + 1) 0) [v1, v2, v3, v4] (ptr (h.next + 3) 0) y.enc h1 = R →
        C e (.yield hB.next) [.agg y.enc] h1 = R := fun R hR => y0.trans hR
    unfold lastStep
    cases hwy : wanted y with
    | true =>
      rw [hwy] at c1
      obtain ⟨s1, s2, s3, s5⟩ := stopped y.day
      refine ⟨_, y1 _ ?_, s1, s2, s3, s5⟩
      unfold Y116_0
      simp only [ifLen_eq, hx5, pn, Option.bind_some, if_true]
      rw [begR_of _ glpg hL, ← eg2]
      simp only [S0, Nat.reduceAdd, Nat.reduceLeDiff, ↓reduceIte, gw2, l52, c1, y3, d0, pst_ptr, st3, endR_jmp .ret (lpn y.day) hL]
      rfl
    | false =>
      rw [hwy] at c1
      cases hq : (y.kind == 6 && y.a == ride) with
      | true =>
        have hq' := hq
        rw [Bool.and_eq_true] at hq'
        obtain ⟨s1, s2, s3, s5⟩ := stopped (-1)
        refine ⟨_, y1 _ ?_, s1, s2, s3, s5⟩
        unfold Y116_0
        simp only [ifLen_eq, hx5, pn, Option.bind_some, if_true]
        rw [begR_of _ glpg hL, ← eg2]
        simp only [S0, Nat.reduceAdd, Nat.reduceLeDiff, ↓reduceIte, gw2, l52, c1, y3, d1, d2, hq'.1, hq'.2, r3', pst_ptr, st3, endR_jmp .ret (lpn (-1)) hL]
        rfl
      | false =>
        refine ⟨g3.put hB.next (some LB), y1 _ ?_, by simp only [H.put_nx]; omega, fun x h1' h2 h3 => by rw [H.put_get_ne _ _ h2, c2.get x (by omega), gg2 x h1' h2], by rw [H.put_get_same, glp1], by rw [H.put_get_ne _ _ (by omega), c2.get _ (by omega), gg2 _ (by omega) (by omega)]⟩
        unfold Y116_0
        simp only [ifLen_eq, hx5, pn, Option.bind_some, if_true]
        rw [begR_of _ glpg hL, ← eg2]
        simp only [S0, Nat.reduceAdd, Nat.reduceLeDiff, ↓reduceIte, gw2, l52, c1, y3, d1, d2, r3', hq, endR_none lp3 hL]
        rfl⟩
  have r40 := r4.fr fh0
  obtain ⟨h3, z1, z2⟩ := f240_c K Y (by omega) (by omega) (bq := hA.next) (by omega) s4 r40 (fun x hx => by have := r4.lt hx; omega) (w := true) (v1 := v1) (v2 := v2) (v3 := v3) (by rw [f0.get _ (by omega), eB]; exact H.new_get_same _ _)
  have z1' : callG (C (e + 3)) (.func (.func 240) #[] #[ptr hA.next 0]) [.one (.func (.yield hB.next) #[] #[])] h0 = some (.tup [], h3) := z1
  rw [K.func _ _ _ _ rfl, F116_eq]; unfold F116
  rw [← eA]
  simp only [S0, Nat.reduceAdd, Nat.reduceLeDiff, ↓reduceIte, l4, k190]
  rw [← eL, ← e0]
  simp only [S0, Nat.reduceAdd, Nat.reduceLeDiff, ↓reduceIte, z1']
  unfold lastP
  cases hl : lastF (lastStep wanted ride) es es.length with
  | none =>
    rw [hl] at z2
    have z2' : Fr h0 h3 := z2
    rw [endL_none _ _ _ (by rw [z2'.get _ (by omega)]; exact glp) hL]
    have gb3 : (h3.put hB.next none).get (h.next + 3) = some (.cells [I 0] 3 true) := by rw [H.put_get_ne _ _ (by omega), z2'.get _ (by omega), fA0.get _ (by omega)]; exact gb
    have st : (h3.put hB.next none).st (h.next + 3) 0 (I (-1)) = some ((h3.put hB.next none).put (h.next + 3) (some (.cells [I (-1)] 3 true))) := by rw [H.st_of _ gb3, if_pos (by simp)]; rfl
    have ld : ((h3.put hB.next none).put (h.next + 3) (some (.cells [I (-1)] 3 true))).ld (h.next + 3) 0 = some (I (-1)) := by rw [H.ld_of _ (H.put_get_same _ _ _)]; rfl
    refine ⟨(h3.put hB.next none).put (h.next + 3) (some (.cells [I (-1)] 3 true)), by simp only [S0, Nat.reduceAdd, Nat.reduceLeDiff, ↓reduceIte, pst_ptr, st, ld, Option.getD_none], ?_⟩
    exact ((fh0.trans z2').put (by omega) _).put (by omega) _
  | some n =>
    rw [hl] at z2
    obtain ⟨w1, w2, w3, w4⟩ := z2
    rw [endL_ret _ _ _ w2 hL]
    have ld : (h3.put hB.next none).ld (h.next + 3) 0 = some (I n) := by rw [H.ld_of _ (by rw [H.put_get_ne _ _ (by omega)]; exact w3)]; rfl
    refine ⟨h3.put hB.next none, by simp only [S0, Nat.reduceAdd, Nat.reduceLeDiff, ↓reduceIte, ld, Option.getD_some], ?_⟩
    exact (show Fr h h3 from ⟨by omega, fun x hx => by rw [w4 x (by omega) (by omega) (by omega), fh0.get x hx]⟩).put (by omega) _
end
end Go.Wz
