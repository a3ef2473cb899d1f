/- Contracts: the document's rides that open. -/
import Derived.Test.YthidglhhfdjhhaaGreatGZ
set_option linter.unusedVariables false
set_option linter.unusedSimpArgs false
namespace Go.Wz
open Go
theorem marksB_get {n k : Nat} (hk : k < n) (out : List Int) : (marksB n out)[k]? = some (.bool (out.contains (k : Int))) := by
  unfold marksB; rw [List.getElem?_map, List.getElem?_range hk]; rfl
theorem falses (n : Nat) : (List.replicate n [Value.bool false]).flatten = marksB n [] := by
  rw [marksB_nil]
  induction n with
  | zero => rfl
  | succ n ih => rw [List.replicate_succ, List.flatten_cons, ih]; rfl
/-- numbers that grow -/
def Grow (l : List Int) : Prop := l.Pairwise (· < ·)
theorem grow_filter {l : List Int} (h : Grow l) (k : Nat) : l.filter (fun x => decide (x < ((k + 1 : Nat) : Int))) = l.filter (fun x => decide (x < (k : Int))) ++ (if l.contains (k : Int) = true then [(k : Int)] else []) := by
  induction l with
  | nil => rfl
  | cons x l ih =>
    obtain ⟨h1, h2⟩ := List.pairwise_cons.1 h
    have ih := ih h2
    by_cases hx : x < (k : Int)
    · have ha : decide (x < ((k + 1 : Nat) : Int)) = true := by simp; omega
      have hb : decide (x < (k : Int)) = true := by simpa using hx
      have hc : ((k : Int) == x) = false := by simp; omega
      rw [List.filter_cons_of_pos (by simpa using ha), List.filter_cons_of_pos (by simpa using hb), ih, List.contains_cons, hc, Bool.false_or, List.cons_append]
    · have hb : ¬ decide (x < (k : Int)) = true := by simpa using hx
      have hn : ∀ (m : Nat), m ≤ k + 1 → l.filter (fun y => decide (y < (m : Int))) = [] := fun m hm => by
        rw [List.filter_eq_nil_iff]
        intro y hy
        have := h1 y hy
        simp; omega
      have hnc : l.contains (k : Int) = false := by
        rw [Bool.eq_false_iff]
        intro hh
        have := h1 _ (by simpa using hh)
        omega
      have er : (x :: l).filter (fun y => decide (y < (k : Int))) = [] := by
        rw [List.filter_cons, if_neg hb]; exact hn k (by omega)
      rw [er, List.contains_cons, hnc, Bool.or_false, List.nil_append, List.filter_cons]
      by_cases hk : (k : Int) = x
      · have hc : ((k : Int) == x) = true := by simpa using hk
        rw [if_pos (by simp; omega), hn (k + 1) (Nat.le_refl _), hc]; simp [hk]
      · have hc : ((k : Int) == x) = false := by simpa using hk
        rw [if_neg (by simp; omega), hn (k + 1) (Nat.le_refl _), hc]; rfl
theorem colL_filter {l : List Int} (h : Grow l) (h0 : ∀ x ∈ l, 0 ≤ x) : ∀ k : Nat, colL l k = l.filter (fun x => decide (x < (k : Int)))
  | 0 => by
    unfold colL
    rw [eq_comm, List.filter_eq_nil_iff]
    intro y hy
    have := h0 y hy
    simp; omega
  | k + 1 => by
    have e : colL l (k + 1) = if l.contains (k : Int) = true then colL l k ++ [(k : Int)] else colL l k := rfl
    rw [grow_filter h k, ← colL_filter h h0 k, e]
    split
    · rfl
    · rw [List.append_nil]
theorem colL_eq {l : List Int} (h : Grow l) {n : Nat} (h0 : ∀ x ∈ l, 0 ≤ x ∧ x < n) : colL l n = l := by
  rw [colL_filter h (fun x hx => (h0 x hx).1) n, List.filter_eq_self]
  intro x hx
  have := (h0 x hx).2
  simpa using this
theorem relL_grow (b : Book) (es : List Entry) (day : Int) : ∀ k, Grow (relL b es day k)
  | 0 => List.Pairwise.nil
  | k + 1 => by
    unfold relL
    split
    · refine List.pairwise_append.2 ⟨relL_grow b es day k, List.pairwise_singleton _ _, fun x hx y hy => ?_⟩
      obtain ⟨i, h1, rfl⟩ := relL_mem hx
      rw [List.mem_singleton] at hy
      omega
    · exact relL_grow b es day k
theorem opFold_sub (s : Supply) (l : List Int) : (opFold s l).2.Sublist l := by
  suffices h : ∀ (l : List Int) (st : Int × List Int) (l0 : List Int), st.2.Sublist l0 → (l.foldl (opStep s) st).2.Sublist (l0 ++ l) by
    have := h l (0, []) [] (List.Sublist.refl _); simpa [opFold] using this
  intro l
  induction l with
  | nil => intro st l0 h; simpa using h
  | cons r l ih =>
    intro st l0 h
    rw [List.foldl_cons, show l0 ++ r :: l = (l0 ++ [r]) ++ l by simp]
    refine ih _ _ ?_
    unfold opStep
    split
    · exact h.append (List.Sublist.refl _)
    · exact h.trans (List.sublist_append_left _ _)
theorem opens_in (g : Gala) {x : Int} (h : x ∈ opensP g) : 0 ≤ x ∧ x < g.book.insured.length := by
  obtain ⟨i, h1, rfl⟩ := relL_mem ((opFold_sub _ _).subset h)
  omega
theorem opens_grow (g : Gala) : Grow (opensP g) := (relL_grow _ _ _ _).sublist (opFold_sub _ _)
section
variable {C : Nat → CallT} {N : Nat} (K : CallsOf C N)
include K
theorem f50_c {d : Nat} (hd : 7 ≤ d) {cs : List Value} {g : Gala} {h : H} (r : GalaR h cs g) (ok : GOk g) :
    ∃ v h', C d (.func 50) [.agg cs] h = some (.one v, h') ∧ Fr h h' ∧ lenS v = some (I g.ev.rides.length) ∧ ∀ (i : Nat), i < g.ev.rides.length → ∃ b o, b < h'.next ∧ idxS 1 v (I (i : Int)) = some (ptr b o) ∧ h'.ld b o = some (.bool ((opensP g).contains (i : Int))) := by
  obtain ⟨e, he, rfl, hC⟩ := K.at (k := 6) hd
  have hN := K.big
  have hsm := ok.small
  have hins := ok.ins
  obtain ⟨vr, v1, v2, v3, ve, vb, vl, vm, vy, rfl, s⟩ := r
  obtain ⟨hA, eA⟩ : ∃ q, q = h.new (.cells (gcs g vr v1 v2 v3 ve vb vl vm vy) 35 true) := ⟨_, rfl⟩
  have fA : Fr h hA := by rw [eA]; exact (Fr.refl h).new _
  have nA : hA.next = h.next + 1 := by rw [eA]; rfl
  have gA : hA.get h.next = some (.cells (gcs g vr v1 v2 v3 ve vb vl vm vy) 35 true) := by rw [eA]; simp
  have u0 : hA.ld h.next 0 = some vr := by rw [H.ld_of _ gA]; rfl
  obtain ⟨n, en⟩ : ∃ n, n = g.ev.rides.length := ⟨_, rfl⟩
  have mk := mkS_nat hA [.bool false] 4 n (by omega)
  obtain ⟨hM, eM⟩ : ∃ q, q = hA.new (.cells (marksB n []) 4 true) := ⟨_, rfl⟩
  rw [falses n, ← eM] at mk
  have fM : Fr hA hM := by rw [eM]; exact (Fr.refl hA).new _
  have nM : hM.next = hA.next + 1 := by rw [eM]; rfl
  have gM : hM.get hA.next = some (.cells (marksB n []) 4 true) := by rw [eM]; exact H.new_get_same _ _
  have gM0 : ∀ h' : H, (∀ b, b < hM.next → b ≠ hA.next → h'.get b = hM.get b) → h'.get h.next = some (.cells (gcs g vr v1 v2 v3 ve vb vl vm vy) 35 true) := fun h' f => by rw [f _ (by omega) (by omega), fM.get _ (by omega)]; exact gA
  have t2 : hM.ldn h.next 2 3 = some [v1, v2, v3] := by rw [H.ldn_of _ (gM0 hM fun _ _ _ => rfl)]; rfl
  have t5 : hM.ld h.next 5 = some ve := by rw [H.ld_of _ (gM0 hM fun _ _ _ => rfl)]; rfl
  have t6 : hM.ld h.next 6 = some (I g.day) := by rw [H.ld_of _ (gM0 hM fun _ _ _ => rfl)]; rfl
  have t7 : ∀ h' : H, (∀ b, b < hM.next → b ≠ hA.next → h'.get b = hM.get b) → h'.ldn h.next 7 5 = some [vb, vl, I g.sup.power, I g.sup.hold, I g.sup.volts] := fun h' f => by rw [H.ldn_of _ (gM0 h' f)]; rfl
  have sM := (s.fr fA).fr fM
  obtain ⟨vv, h2, k1, k2⟩ := f96_c K (d := e) (by omega) sM.book sM.es s.s1 g.day
  rw [ok.day, if_pos rfl] at k2
  have k2 : Own hM h2 vv (relP g) := k2
  rw [ok.day] at k1
  have hrl := relP_len g
  have hmem : ∀ {x : Int}, x ∈ relP g → ∃ i : Nat, i < g.book.insured.length ∧ x = i := fun h => relL_mem h
  have n2 := k2.fr.nx
  have supK : ∀ h' : H, h2.next ≤ h'.next → (∀ b, b < h2.next → b ≠ hA.next → h'.get b = h2.get b) → SupR h' [vb, vl, I g.sup.power, I g.sup.hold, I g.sup.volts] g.sup := fun h' hn f => by
    have sA := s.sup
    obtain ⟨⟨w1, w2, ew, r1, r2⟩, q1, q2⟩ := sA
    cases ew
    have kk : ∀ {v l}, RS h 4 v l → RS h' 4 v l := fun {v l} r => r.keep (by have := fA.nx; have := fM.nx; omega) fun b hb => by
      have := r.lt hb
      rw [f b (by omega) (by omega), k2.fr.get b (by omega), fM.get b (by omega), fA.get b (by omega)]
    exact ⟨⟨vb, vl, rfl, kk r1, kk r2⟩, q1, q2⟩
  have main := loop_inv (LP := LP50_0 (C e) N) (n := (relP g).length)
    (fun i vs h1 => (h2.next ≤ h1.next ∧ (∀ b, b < h2.next → b ≠ hA.next → h1.get b = h2.get b) ∧ h1.get hA.next = some (.cells (marksB n (opFold g.sup ((relP g).take i)).2) 4 true)) ∧
      vs = [.one (ptr h.next 0), .one (slc hA.next 0 n (if n = 0 then 0 else 1)), .one vv, .one (I (opFold g.sup ((relP g).take i)).1), .one (I i)])
    (fun o => ∃ h', o = some (.exit 0, [.one (slc hA.next 0 n (if n = 0 then 0 else 1))], h') ∧ h2.next ≤ h'.next ∧ (∀ b, b < h2.next → b ≠ hA.next → h'.get b = h2.get b) ∧ h'.get hA.next = some (.cells (marksB n (opensP g)) 4 true))
    (fun m vs h1 ⟨⟨q1, q2, q3⟩, hv⟩ => ⟨h1, by rw [hv, LP50_0_succ]; unfold B50_0; simp only [S0, Nat.reduceAdd, Nat.reduceLeDiff, ↓reduceIte, k2.len, in0], q1, q2, by rw [List.take_of_length_le (Nat.le_refl _)] at q3; exact q3⟩)
    (fun i m vs h1 hi ⟨⟨q1, q2, q3⟩, hv⟩ => by
      subst hv
      rw [LP50_0_succ]; unfold B50_0
      have ro : RInt h1 vv (relP g) := RS.keep k2.int q1 fun x hx => q2 x (k2.og.lt hx) (by have := k2.own x hx; omega)
      obtain ⟨_, _, _, a1, a2⟩ := ro.atI (n := (i : Int)) (by omega) (by omega)
      have a3 := a2 h1 (.refl _)
      obtain ⟨j, hj, hje⟩ := hmem (show getI (relP g) (i : Int) ∈ relP g by unfold getI; rw [show ((i : Int)).toNat = i by omega, List.getElem?_eq_getElem hi]; exact List.getElem_mem hi)
      have tk : (relP g).take (i + 1) = (relP g).take i ++ [(j : Int)] := by
        rw [List.take_add_one, List.getElem?_eq_getElem hi, ← hje]; unfold getI; rw [show ((i : Int)).toNat = i by omega, List.getElem?_eq_getElem hi]; rfl
      rw [hje] at a3
      have e1 := opFold_snoc g.sup ((relP g).take i) (j : Int)
      rw [← tk] at e1
      generalize opFold g.sup ((relP g).take i) = st at q3 e1
      have sh := shl_u j (by omega)
      have cv := cvt_u64 j (by omega)
      have hor : ibin .or (I st.1) (I (2 ^ j)) = some (I (moreP st.1 j)) := rfl
      have q2' : ∀ b, b < hM.next → b ≠ hA.next → h1.get b = hM.get b := fun b hb hb' => by rw [q2 b (by omega) hb', k2.fr.get b hb]
      obtain ⟨h3, z1, z2⟩ := f97_c K (d := e) (by omega) (set := moreP st.1 j) (supK h1 q1 q2)
      rw [← fits_same] at z1
      have st' := i1 (show i + 1 ≤ (relP g).length from hi) (by omega)
      have g3 : h3.get hA.next = some (.cells (marksB n st.2) 4 true) := by rw [z2.get _ (by omega)]; exact q3
      unfold opStep at e1
      cases hf : (fitsP g.sup (moreP st.1 j)).2.1 with
      | false =>
        rw [hf] at e1 z1
        refine .inr ⟨_, h3, ⟨⟨by have := z2.nx; omega, fun b hb hb' => by rw [z2.get b (by omega), q2 b hb hb'], by rw [e1]; exact g3⟩, rfl⟩, ?_⟩
        rw [e1]
        simp only [S0, Nat.reduceAdd, Nat.reduceLeDiff, ↓reduceIte, k2.len, i0 hi, a1, a3, t7 h1 q2', cv, sh, hor, z1, st']
      | true =>
        rw [hf] at e1 z1
        have hjn : j < n := by omega
        have ix : idxS 1 (slc hA.next 0 n (if n = 0 then 0 else 1)) (I (j : Int)) = some (ptr hA.next j) := by rw [idxS_slcI, if_pos (by omega)]; simp
        have sv : h3.st hA.next j (.bool true) = some (h3.put hA.next (some (.cells (marksB n (st.2 ++ [(j : Int)])) 4 true))) := by
          rw [H.st_of _ g3, if_pos (by rw [marksB_len]; exact hjn), marksB_set hjn]
        refine .inr ⟨_, h3.put hA.next (some (.cells (marksB n (st.2 ++ [(j : Int)])) 4 true)), ⟨⟨by rw [H.put_nx]; have := z2.nx; omega, fun b hb hb' => by rw [H.put_get_ne _ _ hb', z2.get b (by omega), q2 b hb hb'], by rw [e1]; exact H.put_get_same _ _ _⟩, rfl⟩, ?_⟩
        rw [e1]
        simp only [S0, Nat.reduceAdd, Nat.reduceLeDiff, ↓reduceIte, k2.len, i0 hi, a1, a3, t7 h1 q2', cv, sh, hor, z1, ix, pst_ptr, sv, st'])
    (relP g).length 0 N _ h2 (by omega) ⟨⟨Nat.le_refl _, fun _ _ _ => rfl, by rw [k2.fr.get _ (by omega)]; exact gM⟩, rfl⟩ (by omega)
  obtain ⟨h', z1, z2, z3, z4⟩ := main
  have z1' : LP50_0 (C e) N N [.one (ptr h.next 0), .one (slc hA.next 0 n (if n = 0 then 0 else 1)), .one vv, .one (I 0), .one (I 0)] h2 = _ := z1
  refine ⟨slc hA.next 0 n (if n = 0 then 0 else 1), h', ?_, ⟨by omega, fun b hb => by rw [z3 b (by omega) (by omega), k2.fr.get b (by omega), fM.get b (by omega), fA.get b hb]⟩, by rw [← en]; rfl, fun i hi => ?_⟩
  · rw [hC _ _ _ rfl, F50_eq]; unfold F50
    rw [← eA]
    simp only [S0, Nat.reduceAdd, Nat.reduceLeDiff, ↓reduceIte, u0, s.ev.len, ← en, mk, t2, t5, t6, k1, z1']
  · rw [← en] at hi
    refine ⟨hA.next, i, by omega, by rw [idxS_slcI, if_pos (by omega)]; simp, ?_⟩
    rw [H.ld_of _ z4, marksB_get hi]
theorem f19_c {d : Nat} (hd : 8 ≤ d) {cs : List Value} {g : Gala} {h : H} (r : GalaR h cs g) :
    ∃ v h', C d (.func 19) [.agg cs] h = some (.tup [.one v, .one (I (galaErr g))], h') ∧ Own h h' v (if galaErr g = 0 then opensP g else []) := by
  obtain ⟨e, he, rfl, hC⟩ := K.at (k := 7) hd
  have hN := K.big
  obtain ⟨hA, eA⟩ : ∃ q, q = h.new (.cells cs 35 true) := ⟨_, rfl⟩
  have fA : Fr h hA := by rw [eA]; exact (Fr.refl h).new _
  have nA : hA.next = h.next + 1 := by rw [eA]; rfl
  have hcs : cs.length = 14 := by obtain ⟨vr, v1, v2, v3, ve, vb, vl, vm, vy, rfl, s⟩ := r; rfl
  have l14 : ∀ h', Fr hA h' → h'.ldn h.next 0 14 = some cs := fun h' f => by rw [f.ldn (by omega), eA, ldn_new, if_pos (by omega), List.drop_zero, List.take_of_length_le (by omega)]
  obtain ⟨h2, k1, k2⟩ := f21_c K (d := e) (by omega) (r.fr fA)
  rw [hC _ _ _ rfl, F19_eq]; unfold F19
  rw [← eA]
  by_cases hg : galaErr g = 0
  · have hne : (galaErr g != 0) = false := by simpa using hg
    have ok := GOk.of hg
    have hsm := ok.small
    obtain ⟨vo, h3, m1, m2, m3, m4⟩ := f50_c K (d := e) (by omega) ((r.fr fA).fr k2) ok
    have main := loop_inv (LP := LP19_0 (C e) N) (n := g.ev.rides.length)
      (fun i vs h1 => ∃ v, Own h3 h1 v (colL (opensP g) i) ∧ vs = [.one vo, .one v, .one (I i)])
      (fun o => ∃ v h', o = some (.exit 0, [.one v], h') ∧ Own h3 h' v (colL (opensP g) g.ev.rides.length))
      (fun m vs h1 ⟨v, o, hv⟩ => ⟨v, h1, by rw [hv, LP19_0_succ]; unfold B19_0; simp only [S0, Nat.reduceAdd, Nat.reduceLeDiff, ↓reduceIte, m3, in0], o⟩)
      (fun i m vs h1 hi ⟨v, o, hv⟩ => by
        subst hv
        rw [LP19_0_succ]; unfold B19_0
        obtain ⟨b, ob, y0, y1, y2⟩ := m4 i hi
        have y3 : h1.ld b ob = some (.bool ((opensP g).contains (i : Int))) := by rw [o.fr.ld y0]; exact y2
        have e1 : colL (opensP g) (i + 1) = if (opensP g).contains (i : Int) = true then colL (opensP g) i ++ [(i : Int)] else colL (opensP g) i := rfl
        have cl := colL_len (opensP g) i
        have st := i1 (show i + 1 ≤ g.ev.rides.length from hi) (by omega)
        cases hc : (opensP g).contains (i : Int) with
        | false =>
          rw [hc] at e1 y3
          refine .inr ⟨_, h1, ⟨v, by rw [e1]; exact o, rfl⟩, ?_⟩
          simp only [S0, Nat.reduceAdd, Nat.reduceLeDiff, ↓reduceIte, m3, i0 hi, y1, y3, st]
        | true =>
          rw [hc] at e1 y3
          obtain ⟨v', h4, w1, w2⟩ := o.app (i : Int) (by omega)
          refine .inr ⟨_, h4, ⟨v', by rw [e1]; exact w2, rfl⟩, ?_⟩
          simp only [S0, Nat.reduceAdd, Nat.reduceLeDiff, ↓reduceIte, m3, i0 hi, y1, y3, w1, st])
      g.ev.rides.length 0 N _ h3 (by omega) ⟨_, Own.start h3, rfl⟩ (by omega)
    obtain ⟨v, h', z1, z2⟩ := main
    have z1' : LP19_0 (C e) N N [.one vo, .one (.slice none 0 0), .one (I 0)] h3 = _ := z1
    rw [colL_eq (opens_grow g) (fun x hx => by have := opens_in g hx; have := ok.ins; omega)] at z2
    have nn := (fA.trans (k2.trans m2)).nx
    refine ⟨v, h', ?_, ?_⟩
    · simp only [S0, Nat.reduceAdd, Nat.reduceLeDiff, ↓reduceIte, l14 hA (.refl _), k1, hne, l14 h2 k2, m1, z1', hg]
    · rw [if_pos hg]; exact ⟨(fA.trans (k2.trans m2)).trans z2.fr, z2.og, fun x hx => by have := z2.own x hx; omega⟩
  · have hne : (galaErr g != 0) = true := by simpa using hg
    refine ⟨.slice none 0 0, h2, ?_, ?_⟩
    · simp only [S0, Nat.reduceAdd, Nat.reduceLeDiff, ↓reduceIte, l14 hA (.refl _), k1, hne]
    · rw [if_neg hg]; exact ⟨fA.trans k2, ⟨by simp, .inl ⟨rfl, rfl⟩⟩, fun x hx => by simp [bOf] at hx⟩
end
end Go.Wz
