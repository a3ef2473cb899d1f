/- Contracts: why a ride is not released. -/
import Derived.Test.YthidglhhfdjhhaaGreatGR
set_option linter.unusedVariables false
set_option linter.unusedSimpArgs false
namespace Go.Wz
open Go
def bump (m : List Int) (n : Int) : List Int := m.set n.toNat (getI m n + 1)
def manyF (es : List Entry) (ride : Int) (l : List Int) : List Int := l.foldl (fun m i => if ((entAt es i).a == ride) = true then bump m (entAt es i).b else m) [0, 0, 0, 0]
theorem manyF_snoc (es : List Entry) (ride : Int) (l : List Int) (i : Int) : manyF es ride (l ++ [i]) = if ((entAt es i).a == ride) = true then bump (manyF es ride l) (entAt es i).b else manyF es ride l := by
  unfold manyF; rw [List.foldl_append]; rfl
structure Many (m : List Int) (c : Nat) : Prop where
  len : m.length = 4
  dom : ∀ n ∈ m, 0 ≤ n ∧ n ≤ c
theorem Many.getI {m : List Int} {c : Nat} (o : Many m c) (n : Int) : 0 ≤ getI m n ∧ getI m n ≤ c := by
  unfold Wz.getI
  cases h : m[n.toNat]? with
  | none => simp
  | some x => exact o.dom x (List.mem_of_getElem? h)
theorem Many.bump {m : List Int} {c : Nat} (o : Many m c) (n : Int) : Many (bump m n) (c + 1) := by
  refine ⟨by unfold Wz.bump; rw [List.length_set]; exact o.len, fun x hx => ?_⟩
  have := o.getI n
  rcases List.mem_or_eq_of_mem_set hx with h | h
  · have := o.dom x h; omega
  · omega
theorem Many.mono {m : List Int} {c c' : Nat} (o : Many m c) (h : c ≤ c') : Many m c' := ⟨o.len, fun n hn => by have := o.dom n hn; omega⟩
theorem manyF_ok (es : List Entry) (ride : Int) (l : List Int) : Many (manyF es ride l) l.length := by
  suffices h : ∀ (l : List Int) (m : List Int) (c : Nat), Many m c → Many (l.foldl (fun m i => if ((entAt es i).a == ride) = true then bump m (entAt es i).b else m) m) (c + l.length) by
    have := h l [0, 0, 0, 0] 0 ⟨rfl, by simp⟩
    rwa [Nat.zero_add] at this
  intro l
  induction l with
  | nil => exact fun m c o => o
  | cons i l ih =>
    intro m c o
    rw [List.foldl_cons, List.length_cons, show c + (l.length + 1) = (c + 1) + l.length by omega]
    refine ih _ _ ?_
    split
    · exact o.bump _
    · exact o.mono (by omega)
theorem openL_mem {es : List Entry} {k : Nat} {x : Int} (h : x ∈ openL es k) : ∃ i : Nat, i < k ∧ x = i ∧ (entAt es i).kind = 2 := by
  induction k with
  | zero => simp [openL] at h
  | succ k ih =>
    unfold openL at h
    split at h
    · rename_i hc
      rcases List.mem_append.1 h with h | h
      · obtain ⟨i, h1, h2⟩ := ih h; exact ⟨i, by omega, h2⟩
      · rw [List.mem_singleton] at h
        rw [Bool.and_eq_true, beq_iff_eq] at hc
        exact ⟨k, by omega, h, hc.1⟩
    · obtain ⟨i, h1, h2⟩ := ih h; exact ⟨i, by omega, h2⟩
def soundP (es : List Entry) (ride : Int) : Bool := getI (manyF es ride (openL es es.length)) 3 == 0 && decide (getI (manyF es ride (openL es es.length)) 2 ≤ 1)
theorem cells_getI {l : List Int} {n : Int} (h : n.toNat < l.length) : (l.map I)[n.toNat]? = some (I (getI l n)) := by
  rw [List.getElem?_map, List.getElem?_eq_getElem h]; unfold getI; rw [List.getElem?_eq_getElem h]; rfl
section
variable {C : Nat → CallT} {N : Nat} (K : CallsOf C N)
include K
theorem f115_c {d : Nat} (hd : 6 ≤ d) {cs : List Value} {b : Book} {es : List Entry} {h : H} (r : LogR h cs b es) (ok : LogOk b es) (ride : Int) :
    ∃ h', C d (.func 115) [.agg cs, .one (I ride)] h = some (.one (.bool (soundP es ride)), h') ∧ Fr h h' := by
  obtain ⟨e, he, rfl, hC⟩ := K.at (k := 5) hd
  have hN := K.big
  have s4 := r.s4
  obtain ⟨hA, eA⟩ : ∃ q, q = (h.new (.cells cs 112 true)).new (.cells [I 0, I 0, I 0, I 0] 253 true) := ⟨_, rfl⟩
  have fA : Fr h hA := by rw [eA]; exact ((Fr.refl h).new _).new _
  have nA : hA.next = h.next + 2 := by rw [eA]; rfl
  have rA := r.fr fA
  have hcs : cs.length = 4 := by obtain ⟨v1, v2, v3, v4, rfl, _⟩ := r.ex; rfl
  have gc : ∀ h', Fr hA h' → h'.get h.next = some (.cells cs 112 true) := fun h' f => by rw [f.get _ (by omega), eA, H.new_get_lt _ _ (by simp)]; simp
  have gm : ∀ h', Fr hA h' → h'.get (h.next + 1) = some (.cells [I 0, I 0, I 0, I 0] 253 true) := fun h' f => by rw [f.get _ (by omega), eA]; exact H.new_get_same _ _
  have l4' : hA.ldn h.next 0 4 = some cs := by rw [H.ldn_of _ (gc hA (.refl _)), if_pos (by omega), List.drop_zero, List.take_of_length_le (by omega)]
  obtain ⟨vo, hB, k1, k2⟩ := f189_c K (d := e) he rA
  have r' := r
  obtain ⟨v1, v2, v3, v4, hcs', r1, r2, r3, r4⟩ := r'.ex
  have hol := openL_len es es.length
  have hop : ∀ {x : Int}, x ∈ openL es es.length → _ := fun hx => openL_mem hx
  generalize eo : openL es es.length = ol at k2 hol hop
  have fB := k2.fr
  have nB := fB.nx
  have main := loop_inv (LP := LP115_0 (C e) N) (n := ol.length)
    (fun i vs h1 => hB.next ≤ h1.next ∧ (∀ b, b < hB.next → b ≠ h.next + 1 → h1.get b = hB.get b) ∧ h1.get (h.next + 1) = some (.cells ((manyF es ride (ol.take i)).map I) 253 true) ∧
      vs = [.one (I ride), .one (ptr h.next 0), .one (ptr (h.next + 1) 0), .one vo, .one (I ol.length), .one (I i)])
    (fun o => ∃ h', o = some (.exit 0, [.one (ptr (h.next + 1) 0)], h') ∧ hB.next ≤ h'.next ∧ (∀ b, b < hB.next → b ≠ h.next + 1 → h'.get b = hB.get b) ∧ h'.get (h.next + 1) = some (.cells ((manyF es ride ol).map I) 253 true))
    (fun m vs h1 ⟨q1, q2, q3, hv⟩ => ⟨h1, by rw [hv, LP115_0_succ]; unfold B115_0; simp only [S0, Nat.reduceAdd, Nat.reduceLeDiff, ↓reduceIte, in0], q1, q2, by rw [List.take_of_length_le (Nat.le_refl _)] at q3; exact q3⟩)
    (fun i m vs h1 hi ⟨q1, q2, q3, hv⟩ => by
      subst hv
      rw [LP115_0_succ]; unfold B115_0
      have ro : RInt h1 vo ol := RS.keep k2.int q1 fun x hx => q2 x (k2.og.lt hx) (by have := k2.own x hx; omega)
      obtain ⟨b1, o1, _, t1, t2⟩ := ro.atI (n := (i : Int)) (by omega) (by omega)
      have t3 := t2 h1 (.refl _)
      obtain ⟨j, hj, hje, hjk⟩ := hop (show getI ol (i : Int) ∈ ol by unfold getI; rw [show ((i : Int)).toNat = i by omega, List.getElem?_eq_getElem hi]; exact List.getElem_mem hi)
      have tk : ol.take (i + 1) = ol.take i ++ [(j : Int)] := by
        rw [List.take_add_one, List.getElem?_eq_getElem hi, ← hje]; unfold getI; rw [show ((i : Int)).toNat = i by omega, List.getElem?_eq_getElem hi]; rfl
      rw [hje] at t3
      have re1 : RS h1 5 v4 (es.map Entry.enc) := r4.keep (by omega) fun x hx => by rw [q2 x (by have := r4.lt hx; omega) (by have := r4.lt hx; omega), fB.get x (by have := r4.lt hx; omega), fA.get x (r4.lt hx)]
      obtain ⟨b2, o2, _, u1, u2⟩ := re1.atI entry0 (n := (j : Int)) (by omega) (by omega)
      have u3 := (u2 h1 (.refl _)).1
      rw [show ((es[(j : Int).toNat]?).getD entry0) = entAt es j from rfl] at u3
      have g3 : h1.ld h.next 3 = some v4 := by rw [H.ld_of _ (by rw [q2 _ (by omega) (by omega), fB.get _ (by omega)]; exact gc hA (.refl _)), hcs']; rfl
      have p1 := pstn_new h1 (zs := [I 0, I 0, I 0, I 0, I 0]) (xs := (entAt es j).enc) 162 rfl
      have hx5 : (entAt es j).enc.length = 5 := rfl
      have x2 : ((entAt es j).enc)[2]? = some (I (entAt es j).a) := rfl
      have x3 : ((entAt es j).enc)[3]? = some (I (entAt es j).b) := rfl
      have e1 := manyF_snoc es ride (ol.take i) (j : Int)
      rw [← tk] at e1
      have mo := manyF_ok es ride (ol.take i)
      generalize manyF es ride (ol.take i) = mm at q3 e1 mo
      obtain ⟨h2, eh2⟩ : ∃ q, q = h1.new (.cells (entAt es j).enc 162 true) := ⟨_, rfl⟩
      have f2 : Fr h1 h2 := by rw [eh2]; exact (Fr.refl h1).new _
      have n2 : h2.next = h1.next + 1 := by rw [eh2]; rfl
      have gx : ∀ k, h2.ld h1.next k = ((entAt es j).enc)[k]? := fun k => by rw [eh2]; simp
      rw [← eh2] at p1
      have gm2 : h2.get (h.next + 1) = some (.cells (mm.map I) 253 true) := by rw [f2.get _ (by omega)]; exact q3
      cases ha : (entAt es j).a == ride with
      | false =>
        rw [ha] at e1
        refine .inr ⟨_, h2, ⟨by omega, fun b hb hb' => by rw [f2.get b (by omega), q2 b hb hb'], by rw [e1]; exact gm2, rfl⟩, ?_⟩
        simp only [S0, Nat.reduceAdd, Nat.reduceLeDiff, ↓reduceIte, i0 hi, t1, t3, g3, u1, u3, ifLen_eq, hx5, ← eh2, p1, gx, x2, ha, i1 (show i + 1 ≤ ol.length from hi) (by omega)]
      | true =>
        rw [ha] at e1
        have hs := ok.sev j hj hjk
        have ix : idxP 1 4 (ptr (h.next + 1) 0) (I (entAt es j).b) = some (ptr (h.next + 1) (entAt es j).b.toNat) := by rw [idxP_ptrI, if_pos (by omega)]; simp
        have hml := mo.len
        have mg := mo.getI (entAt es j).b
        have hlt : (entAt es j).b.toNat < mm.length := by omega
        have gv : h2.ld (h.next + 1) (entAt es j).b.toNat = some (I (getI mm (entAt es j).b)) := by rw [H.ld_of _ gm2]; exact cells_getI hlt
        have av : ibin .add (I (getI mm (entAt es j).b)) (I 1) = some (I (getI mm (entAt es j).b + 1)) := add_in (by omega) (by rw [List.length_take] at mg; omega)
        have sv : h2.st (h.next + 1) (entAt es j).b.toNat (I (getI mm (entAt es j).b + 1)) = some (h2.put (h.next + 1) (some (.cells ((bump mm (entAt es j).b).map I) 253 true))) := by
          rw [H.st_of _ gm2, if_pos (by rw [List.length_map]; exact hlt)]; unfold bump; rw [List.map_set]
        refine .inr ⟨_, h2.put (h.next + 1) (some (.cells ((bump mm (entAt es j).b).map I) 253 true)), ⟨by rw [H.put_nx]; omega, fun b hb hb' => by rw [H.put_get_ne _ _ hb', f2.get b (by omega), q2 b hb hb'], by rw [e1]; exact H.put_get_same _ _ _, rfl⟩, ?_⟩
        simp only [S0, Nat.reduceAdd, Nat.reduceLeDiff, ↓reduceIte, i0 hi, t1, t3, g3, u1, u3, ifLen_eq, hx5, ← eh2, p1, gx, x2, x3, ha, ix, gv, av, pst_ptr, sv, i1 (show i + 1 ≤ ol.length from hi) (by omega)])
    ol.length 0 N _ hB (by omega) ⟨Nat.le_refl _, fun _ _ _ => rfl, gm hB fB, rfl⟩ (by omega)
  obtain ⟨h', z1, z2, z3, z4⟩ := main
  have z1' : LP115_0 (C e) N N [.one (I ride), .one (ptr h.next 0), .one (ptr (h.next + 1) 0), .one vo, .one (I ol.length), .one (I 0)] hB = _ := z1
  refine ⟨h', ?_, ⟨by omega, fun b hb => by rw [z3 b (by omega) (by omega), fB.get b (by omega), fA.get b hb]⟩⟩
  have hml := (manyF_ok es ride ol).len
  have c3 : h'.ld (h.next + 1) 3 = some (I (getI (manyF es ride ol) 3)) := by rw [H.ld_of _ z4]; exact cells_getI (n := 3) (by rw [hml]; decide)
  have c2 : h'.ld (h.next + 1) 2 = some (I (getI (manyF es ride ol) 2)) := by rw [H.ld_of _ z4]; exact cells_getI (n := 2) (by rw [hml]; decide)
  have ix3 : idxP 1 4 (ptr (h.next + 1) 0) (I 3) = some (ptr (h.next + 1) 3) := rfl
  have ix2 : idxP 1 4 (ptr (h.next + 1) 0) (I 2) = some (ptr (h.next + 1) 2) := rfl
  rw [hC _ _ _ rfl, F115_eq]; unfold F115 soundP
  rw [← eA, eo]
  simp only [S0, Nat.reduceAdd, Nat.reduceLeDiff, ↓reduceIte, l4', k1, k2.len, z1', ix3, ix2, c3, c2]
end
/-- a variable with a list of numbers that grows -/
structure Box (h0 h : H) (bo : Nat) (l : List Int) : Prop where
  lt : bo < h.next
  nx : h0.next ≤ h.next
  ex : ∃ v, h.get bo = some (.cells [v] 26 true) ∧ OG h v 3 1 (l.map fun x => [I x]) ∧ ∀ x, bOf v = some x → bo < x
  fr : ∀ b, b < bo → h.get b = h0.get b
theorem Box.go {h0 h h' : H} {bo : Nat} {l : List Int} (o : Box h0 h bo l) (f : Fr h h') : Box h0 h' bo l := by
  obtain ⟨o1, o0, ⟨v, o2, o3, o4⟩, o5⟩ := o
  have := f.nx
  exact ⟨by omega, by omega, ⟨v, by rw [f.get bo o1, o2], o3.keep f.nx fun b _ hb => f.get b hb, o4⟩, fun b hb => by rw [f.get b (by omega), o5 b hb]⟩
def addIf (l : List Int) (n : Int) (p : Bool) : List Int := if p = true then l ++ [n] else l
theorem addIf_len (l : List Int) (n : Int) (p : Bool) : (addIf l n p).length ≤ l.length + 1 := by unfold addIf; split <;> simp
section
variable {C : Nat → CallT} {N : Nat} (K : CallsOf C N)
include K
theorem f113_c {d : Nat} (hd : 1 ≤ d) {h0 h : H} {bo : Nat} {l : List Int} (B : Box h0 h bo l) (hl : l.length < 1000) (n : Int) (p : Bool) :
    ∃ h', C d (.func 113) [.one (I n), .one (.bool p), .one (ptr bo 0)] h = some (.tup [], h') ∧ Box h0 h' bo (addIf l n p) := by
  obtain ⟨e, he, rfl, hC⟩ := K.at (k := 0) hd
  rw [hC _ _ _ rfl, F113_eq]; unfold F113 addIf
  cases p with
  | false => exact ⟨h, by simp only [S0, Nat.reduceAdd, Nat.reduceLeDiff, ↓reduceIte], by simpa using B⟩
  | true =>
    obtain ⟨o1, o0, ⟨v, o2, o3, o4⟩, o5⟩ := B
    have g0 : h.ld bo 0 = some v := by rw [H.ld_of _ o2]; rfl
    obtain ⟨hB, eB⟩ : ∃ q, q = h.new (.cells [I n] 3 true) := ⟨_, rfl⟩
    have fB : Fr h hB := by rw [eB]; exact (Fr.refl h).new _
    have nB : hB.next = h.next + 1 := by rw [eB]; rfl
    have o' := o3.keep fB.nx fun b _ hb => fB.get b hb
    have rx : RS hB 1 (slc h.next 0 1 1) [[I n]] := RS.mk (l := [[I n]]) (by simp) ⟨by omega, by rw [eB]; exact H.new_get_same _ _⟩ (by simp) (by simp)
    obtain ⟨h5, a1, a2, a3, a4⟩ := append_c o' rx (by simp) (by simp; omega)
    have lo : ∀ b, b ≤ bo → h5.get b = h.get b := fun b hb => by rw [a4 b (by omega) fun hh => by have := o4 b hh; omega, fB.get b (by omega)]
    have g5 : h5.get bo = some (.cells [v] 26 true) := by rw [lo bo (Nat.le_refl _), o2]
    have st := H.st_of (h := h5) (o := 0) (v := slc hB.next 0 ((l.map fun x => [I x]).length + [[I n]].length) 1) g5
    rw [if_pos (by simp)] at st
    refine ⟨h5.put bo (some (.cells [slc hB.next 0 ((l.map fun x => [I x]).length + [[I n]].length) 1] 26 true)), ?_, by rw [H.put_nx]; omega, by rw [H.put_nx]; omega, ⟨_, H.put_get_same _ _ _, ?_, fun x hx => by rw [bOf_slc] at hx; cases hx; omega⟩, fun b hb => ?_⟩
    · simp only [S0, Nat.reduceAdd, Nat.reduceLeDiff, ↓reduceIte] at a1 st
      simp only [S0, Nat.reduceAdd, Nat.reduceLeDiff, ↓reduceIte, g0, ← eB, a1, pst_ptr, st]
    · rw [if_pos rfl, List.map_append]
      refine a3.keep (by rw [H.put_nx]; exact Nat.le_refl _) fun y hy _ => H.put_get_ne _ _ ?_
      rw [bOf_slc] at hy; cases hy; omega
    · rw [H.put_get_ne _ _ (by omega), lo b (by omega), o5 b hb]
end
def whyP (b : Book) (es : List Entry) (ride day : Int) : List Int :=
  addIf (addIf (addIf (addIf [] 1 (decide (checkedP b es ride b.rules.length < day))) 2 (!soundP es ride)) 3 (lastP (fun y => y.kind == 4 && y.a == ride) ride es != day)) 4 (decide (insP b ride es < day))
end Go.Wz
