/- Contracts: power.Fits, the whole. -/
import Derived.Test.YthidglhhfdjhhaaGreatGG
set_option linter.unusedVariables false
set_option linter.unusedSimpArgs false
namespace Go.Wz
open Go

def TT' (T : List Int) (j : Nat) : Int := (T[j]?).getD 0
def mx3 (a b c : Int) : Int := if c > (if b > a then b else a) then c else (if b > a then b else a)
def mostT (T : List Int) (j : Nat) : Int := mx3 (TT' T (j * 3)) (TT' T (j * 3 + 1)) (TT' T (j * 3 + 2))
/-- what 'over' says: which board, and whether there is one -/
def overP (s : Supply) (T : List Int) : Int × Bool :=
  if mostT T s.boards.length > s.power then (-1, true)
  else match findI (fun i (b : Board) => decide (mostT T i > b.rating)) 0 s.boards with
    | some i => ((i : Int), true)
    | none => (0, false)
theorem tab_row {T : List Int} {j : Nat} (h : j * 3 + 3 ≤ T.length) : (((T.map fun x => I x).drop (j * 3)).take 3) = [I (TT' T (j * 3)), I (TT' T (j * 3 + 1)), I (TT' T (j * 3 + 2))] := by
  apply List.ext_getElem?
  intro i
  match i with
  | 0 => simp [List.getElem?_take, List.getElem?_drop, TT', show j * 3 < T.length by omega]
  | 1 => simp [List.getElem?_take, List.getElem?_drop, TT', show j * 3 + 1 < T.length by omega]
  | 2 => simp [List.getElem?_take, List.getElem?_drop, TT', show j * 3 + 2 < T.length by omega]
  | i + 3 => simp [List.getElem?_take]; intro hh; omega
theorem rep3 (n : Nat) : (List.replicate n [I 0, I 0, I 0]).flatten = (List.replicate (n * 3) (0 : Int)).map fun x => I x := by
  induction n with
  | zero => rfl
  | succ n ih => rw [List.replicate_succ, List.flatten_cons, ih, Nat.add_mul, Nat.one_mul, Nat.add_comm, ← List.replicate_append_replicate, List.map_append]; rfl
theorem pst_new (h : H) (v x : Value) (e : TypeId) : pst (h.new (.cells [v] e true)) x (ptr h.next 0) = some (h.new (.cells [x] e true)) := by
  rw [pst_ptr, H.st_of _ (H.new_get_same _ _), if_pos (by simp)]
  congr 1
  cases h
  unfold H.put H.new
  congr 1
  funext i
  simp only
  split <;> rfl
theorem pow16 (n : Nat) (hn : n ≤ 16) : (2 : Int) ^ n ≤ 65536 := by
  have h1 : 2 ^ n ≤ 65536 := Nat.le_trans (Nat.pow_le_pow_right (by omega) hn) (by decide)
  have h2 : ((2 ^ n : Nat) : Int) ≤ 65536 := by omega
  rw [Int.natCast_pow] at h2
  exact h2
theorem ibin_shl1 (n : Nat) (hn : n ≤ 16) : ibin .shl (I 1) (I n) = some (I (2 ^ n)) := by
  show (if (n : Int) < 0 then none else some (Value.int .i64 (IntKind.i64.wrap (1 * 2 ^ (min (n : Int).toNat 64))))) = _
  rw [if_neg (by omega), show min (n : Int).toNat 64 = n by simp; omega, Int.one_mul]
  have := pow16 n hn
  have h0 : (0 : Int) < 2 ^ n := Int.pow_pos (by omega)
  rw [IntWalk.i64_in _ ⟨by omega, by omega⟩]; rfl
section
variable {C : Nat → CallT} {N : Nat} (K : CallsOf C N)
include K
theorem f120_c {d : Nat} (hd : 3 ≤ d) {cs : List Value} {s : Supply} (so : SupOk s) {set : Int} {h : H} (r : SupR h cs s) :
    ∃ bt h', C d (.func 120) [.agg cs, .one (I set)] h = some (.one (slc bt 0 (s.boards.length + 1) 1), h') ∧ Fr h h' ∧ h.next ≤ bt ∧ bt < h'.next ∧ h'.get bt = some (.cells ((tab s set).map fun x => I x) 184 true) ∧ (tab s set).length = (s.boards.length + 1) * 3 := by
  obtain ⟨e, he, rfl, hC⟩ := K.at (k := 2) hd
  have hN := K.big
  have hnb := so.nb
  have hnl := so.nl
  obtain ⟨⟨v1, v2, rfl, r1, r2⟩, hs1, hs2⟩ := r
  have hl1 := r1.len
  have hl2 := r2.len
  rw [List.length_map] at hl1 hl2
  obtain ⟨hA, eA⟩ : ∃ q, q = h.new (.cells [v1, v2, I s.power, I s.hold, I s.volts] 33 true) := ⟨_, rfl⟩
  have nA : hA.next = h.next + 1 := by rw [eA]; rfl
  have e0 : hA.ld h.next 0 = some v1 := by rw [eA]; simp only [S0, Nat.reduceAdd, Nat.reduceLeDiff, ↓reduceIte]
  have eM := mkS_nat hA [I 0, I 0, I 0] 184 (s.boards.length + 1) (by omega)
  rw [if_neg (by omega), rep3] at eM
  obtain ⟨hB, eB⟩ : ∃ q, q = hA.new (.cells ((List.replicate ((s.boards.length + 1) * 3) (0 : Int)).map fun x => I x) 184 true) := ⟨_, rfl⟩
  rw [← eB] at eM
  have nB : hB.next = hA.next + 1 := by rw [eB]; rfl
  have eP := pst_new hB (.slice none 0 0) (slc hA.next 0 (s.boards.length + 1) 1) 181
  obtain ⟨hC1, eC⟩ : ∃ q, q = hB.new (.cells [slc hA.next 0 (s.boards.length + 1) 1] 181 true) := ⟨_, rfl⟩
  rw [← eC] at eP
  have nC : hC1.next = hB.next + 1 := by rw [eC]; rfl
  have fA : Fr h hA := by rw [eA]; exact (Fr.refl h).new _
  have fB : Fr hA hB := by rw [eB]; exact (Fr.refl hA).new _
  have fC : Fr hB hC1 := by rw [eC]; exact (Fr.refl hB).new _
  have e1 : hC1.ld h.next 1 = some v2 := by rw [(fB.trans fC).ld (by omega), eA]; simp only [S0, Nat.reduceAdd, Nat.reduceLeDiff, ↓reduceIte]
  have c : TabS hC1 s h.next hA.next hB.next v1 v2 (List.replicate ((s.boards.length + 1) * 3) 0) := {
    o1 := by omega
    o2 := by omega
    o3 := by omega
    rv := fun b hb => r1.lt hb
    sc := ⟨true, by rw [(fB.trans fC).get _ (by omega), eA]; simp⟩
    tc := by rw [fC.get _ (by omega), eB]; simp
    oc := ⟨true, by rw [eC]; simp⟩
    rows := r1.fr (fA.trans (fB.trans fC))
    tl := by simp }
  obtain ⟨h', z1, z2, z3, z4⟩ := cur_loop K (e := e) (by omega) so (set := set) s.loads 0 N _ hC1 rfl (by omega) (by omega) c (fun b hb => r2.lt hb) (r2.fr (fA.trans (fB.trans fC))) (by intro x hx; have := (List.mem_replicate.1 hx).2; subst this; exact ⟨Int.le_refl _, by simp⟩)
  obtain ⟨wo, hoc⟩ := z2.oc
  refine ⟨hA.next, h', ?_, ⟨by omega, fun x hx => by rw [z4 x (by omega) (by omega), (fA.trans (fB.trans fC)).get x hx]⟩, by omega, by omega, z2.tc, z2.tl⟩
  rw [hC _ _ _ rfl, F120_eq]; unfold F120
  rw [← eA]
  have z1' : LP120_0 (C e) N N [.one (I set), .one (ptr h.next 0), .one (.slice none 0 0), .one (ptr hB.next 0), .one v2, .one (I s.loads.length), .one (I 0)] hC1 = _ := z1
  have e3 : h'.ld hB.next 0 = some (slc hA.next 0 (s.boards.length + 1) 1) := by rw [H.ld_of _ hoc]; rfl
  simp only [S0, Nat.reduceAdd, Nat.reduceLeDiff, ↓reduceIte, e0, hl1, i1 (show s.boards.length + 1 ≤ s.boards.length + 1 from Nat.le_refl _) (by omega), eM, eP, e1, hl2, z1', e3]
theorem f121_c {d : Nat} (hd : 1 ≤ d) (x y z : Int) (h : H) : C d (.func 121) [.agg [I x, I y, I z]] h = some (.one (I (mx3 x y z)), h.new (.cells [I x, I y, I z] 184 true)) := by
  obtain ⟨e, _, rfl, hC⟩ := K.at (k := 0) hd
  rw [hC _ _ _ rfl, F121_eq]; unfold F121 mx3
  have p : ∀ i : Nat, i < 3 → idxP 1 3 (ptr h.next 0) (I (i : Int)) = some (ptr h.next i) := fun i hi => by rw [idxP_ptrI, if_pos (by omega)]; simp
  have p0 := p 0 (by omega)
  have p1 := p 1 (by omega)
  have p2 := p 2 (by omega)
  simp only [Int.ofNat_zero, show ((0 : Nat) : Int) = 0 from rfl, show ((1 : Nat) : Int) = 1 from rfl, show ((2 : Nat) : Int) = 2 from rfl] at p0 p1 p2
  simp only [S0, Nat.reduceAdd, Nat.reduceLeDiff, ↓reduceIte, p0, p1, p2]
theorem f122_c {d : Nat} (hd : 1 ≤ d) {cs : List Value} {s : Supply} {h : H} (r : SupR h cs s) {i : Nat} {b : Board} (hb : s.boards[i]? = some b) :
    C d (.func 122) [.agg cs, .one (I (i : Int))] h = some (.one (I b.rating), h.new (.cells cs 33 true)) := by
  obtain ⟨e, _, rfl, hC⟩ := K.at (k := 0) hd
  obtain ⟨⟨v1, v2, rfl, r1, r2⟩, hs1, hs2⟩ := r
  have hl1 := r1.len
  rw [List.length_map] at hl1
  have hi := (List.getElem?_eq_some_iff.1 hb).1
  obtain ⟨bo, oo, _, _, e1, e2⟩ := r1.atx hb
  have e3 := (e2 (h.new (.cells [v1, v2, I s.power, I s.hold, I s.volts] 33 true)) ((Fr.refl h).new _)).2 1 (by omega)
  have e4 : (h.new (.cells [v1, v2, I s.power, I s.hold, I s.volts] 33 true)).ld bo (oo + 1) = some (I b.rating) := by rw [e3]; rfl
  have n1 : ((i : Int) == (s.boards.length : Int)) = false := by rw [eqNat']; simp; omega
  have n2 : ((i : Int) == (-1 : Int)) = false := by simp
  rw [hC _ _ _ rfl, F122_eq]; unfold F122
  simp only [S0, Nat.reduceAdd, Nat.reduceLeDiff, ↓reduceIte, hl1, n1, n2, e1, e4]
theorem f65_c {d : Nat} (hd : 4 ≤ d) {cs : List Value} {s : Supply} (so : SupOk s) {set : Int} {h : H} (r : SupR h cs s) :
    ∃ h', C d (.func 65) [.agg cs, .one (I set)] h = some (.tup [.one (I (overP s (tab s set)).1), .one (.bool (overP s (tab s set)).2)], h') ∧ Fr h h' := by
  obtain ⟨e, he, rfl, hC⟩ := K.at (k := 3) hd
  have hN := K.big
  have hnb := so.nb
  have f1 := (Fr.refl h).new (.cells cs 33 true)
  have r' := r.fr f1
  obtain ⟨bt, h2, k1, k2, k3, k4, k5, k6⟩ := f120_c K (show 3 ≤ e by omega) so (set := set) r'
  obtain ⟨⟨v1, v2, rfl, r1, r2⟩, hs1, hs2⟩ := r
  have hl1 := r1.len
  rw [List.length_map] at hl1
  simp only [H.new_next] at k3
  obtain ⟨T, eT⟩ : ∃ q, q = tab s set := ⟨_, rfl⟩
  rw [← eT] at k5 k6 ⊢
  have gS : h2.get h.next = some (.cells [v1, v2, I s.power, I s.hold, I s.volts] 33 true) := by rw [k2.get _ (by simp)]; simp
  have row : ∀ h', Fr h2 h' → ∀ j, j ≤ s.boards.length → h'.ldn bt (j * 3) 3 = some [I (TT' T (j * 3)), I (TT' T (j * 3 + 1)), I (TT' T (j * 3 + 2))] := fun h' f j hj => by
    rw [f.ldn (by omega), H.ldn_of _ k5, if_pos (by simp; omega), tab_row (by omega)]
  have ix : ∀ j, j ≤ s.boards.length → idxS 3 (slc bt 0 (s.boards.length + 1) 1) (I (j : Int)) = some (ptr bt (j * 3)) := fun j hj => by
    rw [idxS_slcI, if_pos (by omega)]; simp
  have sc : ∀ h', Fr h2 h' → h'.get h.next = some (.cells [v1, v2, I s.power, I s.hold, I s.volts] 33 true) := fun h' f => by rw [f.get _ (by have := k2.nx; simp at this; omega)]; exact gS
  have hn2 : h.next < h2.next := by have := k2.nx; simp at this; omega
  have g0 : h2.ld h.next 0 = some v1 := by rw [H.ld_of _ gS]; rfl
  obtain ⟨h3, e3⟩ : ∃ q, q = h2.new (.cells [I (TT' T (s.boards.length * 3)), I (TT' T (s.boards.length * 3 + 1)), I (TT' T (s.boards.length * 3 + 2))] 184 true) := ⟨_, rfl⟩
  have f3 : Fr h2 h3 := by rw [e3]; exact (Fr.refl h2).new _
  have c121 := f121_c K (show 1 ≤ e by omega) (TT' T (s.boards.length * 3)) (TT' T (s.boards.length * 3 + 1)) (TT' T (s.boards.length * 3 + 2)) (frzL [h.next] h2)
  have tw := frz_thaw_new (h := h2) (.cells [I (TT' T (s.boards.length * 3)), I (TT' T (s.boards.length * 3 + 1)), I (TT' T (s.boards.length * 3 + 2))] 184 true) hn2
  rw [← e3] at tw
  have g2 : h3.ld h.next 2 = some (I s.power) := by rw [H.ld_of _ (sc h3 f3)]; rfl
  have g0' : h3.ld h.next 0 = some v1 := by rw [H.ld_of _ (sc h3 f3)]; rfl
  -- the loop
  obtain ⟨h4, m2, m1⟩ := find_loop0 (LP := LP65_0 (C e) N) (l := s.boards) (fun i => [.one (ptr h.next 0), .one (slc bt 0 (s.boards.length + 1) 1), .one (I s.boards.length), .one (I i)]) (vs0 := [.one (ptr h.next 0), .one (slc bt 0 (s.boards.length + 1) 1), .one (I s.boards.length), .one (I 0)])
    (fun i (b : Board) => decide (mostT T i > b.rating)) (fun i h => (.ret (.tup [.one (I i), .one (.bool true)]), [], h)) (fun h' => (.exit 0, [], h')) (h0 := h3) rfl (m := N) (by omega)
    (fun m h1 f => by rw [LP65_0_succ]; unfold B65_0; simp only [S0, Nat.reduceAdd, Nat.reduceLeDiff, ↓reduceIte, in0])
    (fun i m h1 x hx hi f => by
      have q1 := f121_c K (show 1 ≤ e by omega) (TT' T (i * 3)) (TT' T (i * 3 + 1)) (TT' T (i * 3 + 2)) (frzL [h.next] h1)
      have hlt : h.next < h1.next := by have := f3.nx; have := f.nx; omega
      have tw := frz_thaw_new (h := h1) (.cells [I (TT' T (i * 3)), I (TT' T (i * 3 + 1)), I (TT' T (i * 3 + 2))] 184 true) hlt
      obtain ⟨h5, e5⟩ : ∃ q, q = h1.new (.cells [I (TT' T (i * 3)), I (TT' T (i * 3 + 1)), I (TT' T (i * 3 + 2))] 184 true) := ⟨_, rfl⟩
      rw [← e5] at tw
      have f5 : Fr h1 h5 := by rw [e5]; exact (Fr.refl h1).new _
      have q2 := f122_c K (show 1 ≤ e by omega) (r'.fr (k2.trans (f3.trans (f.trans f5)))) hx
      have l5 : h5.ldn h.next 0 5 = some [v1, v2, I s.power, I s.hold, I s.volts] := by rw [H.ldn_of _ (sc h5 (f3.trans (f.trans f5)))]; rfl
      have fr5 : frzL [] h5 = h5 := rfl
      refine ⟨h5.new (.cells [v1, v2, I s.power, I s.hold, I s.volts] 33 true), f5.trans ((Fr.refl h5).new _), ?_⟩
      rw [LP65_0_succ]; unfold B65_0
      simp only [S0, Nat.reduceAdd, Nat.reduceLeDiff, ↓reduceIte, i0 hi, ix i (by omega), row h1 (f3.trans f) i (by omega), bOf_ptr, q1, tw, sameB_ptr, l5, q2, i1 (show i + 1 ≤ s.boards.length from hi) (by omega), mostT]
      rfl)
  rw [hC _ _ _ rfl, F65_eq]; unfold F65 overP
  by_cases hp : mostT T s.boards.length > s.power
  · have hp' : decide (mx3 (TT' T (s.boards.length * 3)) (TT' T (s.boards.length * 3 + 1)) (TT' T (s.boards.length * 3 + 2)) > s.power) = true := by simpa [mostT] using hp
    rw [if_pos hp]
    exact ⟨h3, by simp only [S0, Nat.reduceAdd, Nat.reduceLeDiff, ↓reduceIte, k1, g0, hl1, ix _ (Nat.le_refl _), row h2 (.refl _) _ (Nat.le_refl _), bOf_ptr, c121, tw, sameB_ptr, g2, hp'], f1.trans (k2.trans f3)⟩
  · have hp' : decide (mx3 (TT' T (s.boards.length * 3)) (TT' T (s.boards.length * 3 + 1)) (TT' T (s.boards.length * 3 + 2)) > s.power) = false := by simpa [mostT] using hp
    rw [if_neg hp]
    refine ⟨h4, ?_, f1.trans (k2.trans (f3.trans m2))⟩
    simp only [S0, Nat.reduceAdd, Nat.reduceLeDiff, ↓reduceIte, k1, g0, hl1, ix _ (Nat.le_refl _), row h2 (.refl _) _ (Nat.le_refl _), bOf_ptr, c121, tw, sameB_ptr, g2, hp', g0', m1]
    cases findI (fun i (b : Board) => decide (mostT T i > b.rating)) 0 s.boards <;> simp only [S0, Nat.reduceAdd, Nat.reduceLeDiff, ↓reduceIte]
/-- the errors of a supply and a set -/
def setErr (s : Supply) (set : Int) : Int := if supErr s ≠ 0 then supErr s else if wi set 0 (2 ^ s.loads.length - 1) = true then 0 else 1
theorem f64_c {d : Nat} (hd : 3 ≤ d) {cs : List Value} {s : Supply} {set : Int} {h : H} (r : SupR h cs s) :
    ∃ h', C d (.func 64) [.agg cs, .one (I set)] h = some (.one (I (setErr s set)), h') ∧ Fr h h' := by
  obtain ⟨e, he, rfl, hC⟩ := K.at (k := 2) hd
  have f1 := (Fr.refl h).new (.cells cs 33 true)
  have r' := r.fr f1
  obtain ⟨h2, k1, k2⟩ := f53_c K (show 2 ≤ e by omega) r'
  obtain ⟨⟨v1, v2, rfl, r1, r2⟩, hs1, hs2⟩ := r
  have hl2 := r2.len
  rw [List.length_map] at hl2
  have gS : h2.ldn h.next 0 5 = some [v1, v2, I s.power, I s.hold, I s.volts] := by rw [k2.ldn (by simp), H.ldn_of _ (H.new_get_same _ _)]; rfl
  rw [hC _ _ _ rfl, F64_eq]; unfold F64 setErr
  by_cases he0 : supErr s = 0
  · have hb : (supErr s != 0) = false := by rw [he0]; rfl
    have so := SupOk.of_err he0
    have hnl := so.nl
    obtain ⟨e', he', rfl, hC'⟩ := K.at (k := 1) (show 2 ≤ e by omega)
    have k119 : C (e' + 1) (.func 119) [.agg [v1, v2, I s.power, I s.hold, I s.volts], .one (I set)] h2 = some (.one (.bool (wi set 0 (2 ^ s.loads.length - 1))), h2.new (.cells [v1, v2, I s.power, I s.hold, I s.volts] 33 true)) := by
      rw [hC' _ _ _ rfl, F119_eq]; unfold F119
      have hp := pow16 s.loads.length hnl
      have h0 : (0 : Int) < 2 ^ s.loads.length := Int.pow_pos (by omega)
      simp only [S0, Nat.reduceAdd, Nat.reduceLeDiff, ↓reduceIte, hl2, ibin_shl1 s.loads.length hnl, sub_in (a := 2 ^ s.loads.length) (b := 1) (by omega) (by omega), w104 K he']
    refine ⟨h2.new (.cells [v1, v2, I s.power, I s.hold, I s.volts] 33 true), ?_, f1.trans (k2.trans ((Fr.refl h2).new _))⟩
    · rw [if_neg (by simp [he0])]
      cases hw : wi set 0 (2 ^ s.loads.length - 1) <;> simp only [S0, Nat.reduceAdd, Nat.reduceLeDiff, ↓reduceIte, k1, hb, gS, k119, hw]
  · have hb : (supErr s != 0) = true := by rw [bne_iff_ne]; exact he0
    rw [if_pos he0]
    exact ⟨h2, by simp only [S0, Nat.reduceAdd, Nat.reduceLeDiff, ↓reduceIte, k1, hb], f1.trans k2⟩
/-- what Fits returns -/
def fitsP (s : Supply) (set : Int) : Int × Bool × Int :=
  if setErr s set ≠ 0 then (0, false, setErr s set) else ((overP s (tab s set)).1, !(overP s (tab s set)).2, 0)
theorem f24_c {d : Nat} (hd : 5 ≤ d) {cs : List Value} {s : Supply} {set : Int} {h : H} (r : SupR h cs s) :
    ∃ h', C d (.func 24) [.agg cs, .one (I set)] h = some (.tup [.one (I (fitsP s set).1), .one (.bool (fitsP s set).2.1), .one (I (fitsP s set).2.2)], h') ∧ Fr h h' := by
  obtain ⟨e, he, rfl, hC⟩ := K.at (k := 4) hd
  have f1 := (Fr.refl h).new (.cells cs 33 true)
  have r' := r.fr f1
  obtain ⟨h2, k1, k2⟩ := f64_c K (set := set) (show 3 ≤ e by omega) r'
  have hcs : cs.length = 5 := by obtain ⟨⟨v1, v2, rfl, _⟩, _⟩ := r; rfl
  have g1 : (h.new (.cells cs 33 true)).ldn h.next 0 5 = some cs := by rw [ldn_new, if_pos (by omega), List.drop_zero, List.take_of_length_le (by omega)]
  have gS : h2.ldn h.next 0 5 = some cs := by rw [k2.ldn (by simp)]; exact g1
  rw [hC _ _ _ rfl, F24_eq]; unfold F24 fitsP
  by_cases he0 : setErr s set = 0
  · have hb : (setErr s set != 0) = false := by rw [he0]; rfl
    have so : SupOk s := SupOk.of_err (by unfold setErr at he0; split at he0 <;> simp_all)
    obtain ⟨h3, m1, m2⟩ := f65_c K (show 4 ≤ e by omega) so (set := set) (r'.fr k2)
    rw [if_neg (by simp [he0])]
    exact ⟨h3, by simp only [pldn_ptr, g1, Option.bind_some, k1, un1_one, ibin_neqI, hb, condV_bool, Bool.false_eq_true, if_false, gS, m1, unT_tup, unCons_cons, unNil_nil, un_not], f1.trans (k2.trans m2)⟩
  · have hb : (setErr s set != 0) = true := by rw [bne_iff_ne]; exact he0
    rw [if_pos he0]
    exact ⟨h2, by simp only [pldn_ptr, g1, Option.bind_some, k1, un1_one, ibin_neqI, hb, condV_bool, if_true], f1.trans k2⟩
end
end Go.Wz
