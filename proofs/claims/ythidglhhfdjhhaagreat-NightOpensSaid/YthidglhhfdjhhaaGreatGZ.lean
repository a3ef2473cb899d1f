/- Contracts: the rides that open. -/
import Derived.Test.YthidglhhfdjhhaaGreatGY
import Derived.Test.YthidglhhfdjhhaaGreatGJ
set_option linter.unusedVariables false
set_option linter.unusedSimpArgs false
namespace Go.Wz
open Go
def i64or (a b : Int) : Int := IntKind.i64.wrap (BitVec.ofInt 64 a ||| BitVec.ofInt 64 b).toNat
theorem ibin_orI (a b : Int) : ibin .or (I a) (I b) = some (I (i64or a b)) := rfl
def moreP (set ride : Int) : Int := i64or set (2 ^ ride.toNat)
def opStep (s : Supply) (st : Int × List Int) (ride : Int) : Int × List Int := if (fitsP s (moreP st.1 ride)).2.1 = true then (moreP st.1 ride, st.2 ++ [ride]) else st
def opFold (s : Supply) (l : List Int) : Int × List Int := l.foldl (opStep s) (0, [])
theorem opFold_snoc (s : Supply) (l : List Int) (r : Int) : opFold s (l ++ [r]) = opStep s (opFold s l) r := by unfold opFold; rw [List.foldl_append]; rfl
theorem opFold_len (s : Supply) (l : List Int) : (opFold s l).2.length ≤ l.length := by
  suffices h : ∀ (l : List Int) (st : Int × List Int), (l.foldl (opStep s) st).2.length ≤ st.2.length + l.length by
    have := h l (0, []); simpa [opFold] using this
  intro l
  induction l with
  | nil => intro st; simp
  | cons r l ih =>
    intro st
    rw [List.foldl_cons]
    refine Nat.le_trans (ih _) ?_
    unfold opStep
    split <;> simp <;> omega
def relP (g : Gala) : List Int := relL g.book (uptoP g.es g.day) g.day g.book.insured.length
def opensP (g : Gala) : List Int := (opFold g.sup (relP g)).2
theorem fits_err (s : Supply) (set : Int) : ((fitsP s set).2.2 == 0 && (fitsP s set).2.1) = (fitsP s set).2.1 := by
  unfold fitsP
  split
  · simp
  · simp
structure GOk (g : Gala) : Prop where
  small : g.ev.rides.length ≤ 8
  ins : g.book.insured.length = g.ev.rides.length
  lim : g.limits.length = g.ev.rides.length
  emp : g.empty.length = g.ev.rides.length
  loads : g.sup.loads.length = g.ev.rides.length
  day : dayErr g.book g.es g.day = 0
  sup : supErr g.sup = 0
theorem GOk.of {g : Gala} (h : galaErr g = 0) : GOk g := by
  unfold galaErr at h
  split at h
  · rename_i h1; exact absurd h h1
  rename_i q0
  split at h
  · rename_i h1; exact absurd h h1
  rename_i q1
  split at h
  · rename_i h1; exact absurd h h1
  rename_i q2
  split at h
  · simp at h
  rename_i q3
  have q3 : galaBad g = false := Bool.eq_false_iff.2 q3
  unfold galaBad at q3
  simp only [Bool.or_eq_false_iff] at q3
  obtain ⟨⟨⟨⟨a1, a2⟩, a3⟩, a4⟩, a5⟩ := q3
  refine ⟨?_, by simp at a1; omega, by simp at a3; omega, by simp at a4; omega, by simp at a2; omega, ?_, by omega⟩
  · rw [Decidable.not_not] at q0
    unfold queueErr at q0
    split at q0
    · simp at q0
    · rename_i hb
      have hb : evBad g.ev = false := Bool.eq_false_iff.2 hb
      unfold evBad at hb
      simp only [Bool.or_eq_false_iff] at hb
      have := hb.1.1
      simp at this; omega
  · unfold dayErr
    rw [if_neg q1, if_pos (by simpa using a5)]
theorem relL_mem {b : Book} {es : List Entry} {day x : Int} {k : Nat} (h : x ∈ relL b es day k) : ∃ i : Nat, i < k ∧ x = i := by
  induction k with
  | zero => simp [relL] at h
  | succ k ih =>
    unfold relL at h
    split at h
    · rcases List.mem_append.1 h with h | h
      · obtain ⟨i, h1, h2⟩ := ih h; exact ⟨i, by omega, h2⟩
      · rw [List.mem_singleton] at h; exact ⟨k, by omega, h⟩
    · obtain ⟨i, h1, h2⟩ := ih h; exact ⟨i, by omega, h2⟩
theorem relP_len (g : Gala) : (relP g).length ≤ g.book.insured.length := relL_len _ _ _ _
theorem GalaS.len_es {h : H} {g : Gala} {vr v1 v2 v3 ve vb vl vm vy : Value} (s : GalaS h g vr v1 v2 v3 ve vb vl vm vy) : lenS ve = some (I g.es.length) := by
  have := s.es.len; rwa [List.length_map] at this
theorem shl_u (k : Nat) (h : k ≤ 16) : ibin .shl (I 1) (.int .u64 k) = some (I (2 ^ k)) := ibin_shl1 k h
def marksB (n : Nat) (out : List Int) : List Value := (List.range n).map fun (i : Nat) => .bool (out.contains (i : Int))
theorem marksB_len (n : Nat) (out : List Int) : (marksB n out).length = n := by simp [marksB]
theorem marksB_nil (n : Nat) : marksB n [] = List.replicate n (.bool false) := by
  unfold marksB
  induction n with
  | zero => rfl
  | succ n ih => rw [List.range_succ, List.map_append, ih, List.replicate_succ']; rfl
theorem marksB_set {n k : Nat} (hk : k < n) (out : List Int) : (marksB n out).set k (.bool true) = marksB n (out ++ [(k : Int)]) := by
  refine List.ext_getElem? fun i => ?_
  unfold marksB
  rw [List.getElem?_set, List.length_map, List.length_range, List.getElem?_map, List.getElem?_map]
  by_cases hi : i < n
  · rw [List.getElem?_range hi]
    by_cases hki : k = i
    · subst hki; simp [hk]
    · have h1 : ¬ (i : Int) = k := by omega
      rw [if_neg hki]
      simp [h1]
  · rw [if_neg (by omega), List.getElem?_eq_none (by simp; omega)]; rfl
def colL (out : List Int) : Nat → List Int
  | 0 => []
  | k + 1 => if out.contains (k : Int) = true then colL out k ++ [(k : Int)] else colL out k
theorem colL_len (out : List Int) : ∀ k, (colL out k).length ≤ k
  | 0 => Nat.le_refl _
  | k + 1 => by have := colL_len out k; unfold colL; split <;> simp <;> omega
section
variable {C : Nat → CallT} {N : Nat} (K : CallsOf C N)
include K
theorem f49_c {d : Nat} (hd : 12 ≤ d) {cs : List Value} {g : Gala} {h : H} (r : GalaR h cs g) (ok : GOk g) :
    ∃ v h', C d (.func 49) [.agg cs] h = some (.one v, h') ∧ Own h h' v (opensP g) := by
  obtain ⟨e, he, rfl, hC⟩ := K.at (k := 11) hd
  have hN := K.big
  obtain ⟨vr, v1, v2, v3, ve, vb, vl, vm, vy, rfl, s⟩ := r
  obtain ⟨hA, eA⟩ : ∃ q, q = h.new (.cells (gcs g vr v1 v2 v3 ve vb vl vm vy) 35 true) := ⟨_, rfl⟩
  have fA : Fr h hA := by rw [eA]; exact (Fr.refl h).new _
  have nA : hA.next = h.next + 1 := by rw [eA]; rfl
  have gA : ∀ h', Fr hA h' → h'.get h.next = some (.cells (gcs g vr v1 v2 v3 ve vb vl vm vy) 35 true) := fun h' f => by rw [f.get _ (by omega), eA]; simp
  have rf := Fr.refl hA
  have t2 : hA.ldn h.next 2 3 = some [v1, v2, v3] := by rw [H.ldn_of _ (gA hA rf)]; rfl
  have t5 : hA.ld h.next 5 = some ve := by rw [H.ld_of _ (gA hA rf)]; rfl
  have t6 : hA.ld h.next 6 = some (I g.day) := by rw [H.ld_of _ (gA hA rf)]; rfl
  have t7 : ∀ h', Fr hA h' → h'.ldn h.next 7 5 = some [vb, vl, I g.sup.power, I g.sup.hold, I g.sup.volts] := fun h' f => by rw [H.ldn_of _ (gA h' f)]; rfl
  obtain ⟨vv, h2, k1, k2⟩ := f23_c K (d := e) (by omega) (s.book.fr fA) (s.es.fr fA) g.day
  rw [ok.day, if_pos rfl] at k2
  have k2 : Own hA h2 vv (relP g) := k2
  rw [ok.day] at k1
  have hrl := relP_len g
  have hsm := ok.small
  have hins := ok.ins
  have hmem : ∀ {x : Int}, x ∈ relP g → ∃ i : Nat, i < g.book.insured.length ∧ x = i := fun h => relL_mem h
  have main := loop_inv (LP := LP49_0 (C e) N) (n := (relP g).length)
    (fun i vs h1 => ∃ v, Own h2 h1 v (opFold g.sup ((relP g).take i)).2 ∧ vs = [.one (ptr h.next 0), .one v, .one (I (opFold g.sup ((relP g).take i)).1), .one vv, .one (I (relP g).length), .one (I i)])
    (fun o => ∃ v h', o = some (.exit 0, [.one v], h') ∧ Own h2 h' v (opensP g))
    (fun m vs h1 ⟨v, o, hv⟩ => ⟨v, h1, by rw [hv, LP49_0_succ]; unfold B49_0; simp only [S0, Nat.reduceAdd, Nat.reduceLeDiff, ↓reduceIte, in0], by rw [List.take_of_length_le (Nat.le_refl _)] at o; exact o⟩)
    (fun i m vs h1 hi ⟨v, o, hv⟩ => by
      subst hv
      rw [LP49_0_succ]; unfold B49_0
      have f := k2.fr.trans o.fr
      obtain ⟨_, _, _, a1, a2⟩ := (k2.int.fr o.fr).atI (n := (i : Int)) (by omega) (by omega)
      have a3 := a2 h1 (.refl _)
      obtain ⟨j, hj, hje⟩ := hmem (show getI (relP g) (i : Int) ∈ relP g by unfold getI; rw [show ((i : Int)).toNat = i by omega, List.getElem?_eq_getElem hi]; exact List.getElem_mem hi)
      have tk : (relP g).take (i + 1) = (relP g).take i ++ [(j : Int)] := by
        rw [List.take_add_one, List.getElem?_eq_getElem hi, ← hje]; unfold getI; rw [show ((i : Int)).toNat = i by omega, List.getElem?_eq_getElem hi]; rfl
      rw [hje] at a3
      have e1 := opFold_snoc g.sup ((relP g).take i) (j : Int)
      rw [← tk] at e1
      have ol := opFold_len g.sup ((relP g).take i)
      rw [List.length_take] at ol
      generalize opFold g.sup ((relP g).take i) = st at o e1 ol
      have sh := ibin_shl1 j (by omega)
      have hor : ibin .or (I st.1) (I (2 ^ j)) = some (I (moreP st.1 j)) := rfl
      obtain ⟨h3, z1, z2⟩ := f24_c K (d := e) (by omega) (set := moreP st.1 j) (s.sup.fr (fA.trans f))
      have he := fits_err g.sup (moreP st.1 j)
      have st' := i1 (show i + 1 ≤ (relP g).length from hi) (by omega)
      unfold opStep at e1
      cases hf : (fitsP g.sup (moreP st.1 j)).2.1 with
      | false =>
        rw [hf] at e1 he z1
        refine .inr ⟨_, h3, ⟨v, by rw [e1]; exact o.go z2, rfl⟩, ?_⟩
        rw [e1]
        simp only [S0, Nat.reduceAdd, Nat.reduceLeDiff, ↓reduceIte, i0 hi, a1, a3, t7 h1 f, sh, hor, z1, he, st']
      | true =>
        rw [hf] at e1 he z1
        obtain ⟨v', h4, w1, w2⟩ := (o.go z2).app (j : Int) (by omega)
        refine .inr ⟨_, h4, ⟨v', by rw [e1]; exact w2, rfl⟩, ?_⟩
        rw [e1]
        simp only [S0, Nat.reduceAdd, Nat.reduceLeDiff, ↓reduceIte] at he
        simp only [S0, Nat.reduceAdd, Nat.reduceLeDiff, ↓reduceIte, i0 hi, a1, a3, t7 h1 f, sh, hor, z1, he, w1, st'])
    (relP g).length 0 N _ h2 (by omega) ⟨_, Own.start h2, rfl⟩ (by omega)
  obtain ⟨v, h', z1, z2⟩ := main
  have z1' : LP49_0 (C e) N N [.one (ptr h.next 0), .one (.slice none 0 0), .one (I 0), .one vv, .one (I (relP g).length), .one (I 0)] h2 = _ := z1
  have nn := (fA.trans k2.fr).nx
  refine ⟨v, h', ?_, ⟨(fA.trans k2.fr).trans z2.fr, z2.og, fun x hx => by have := z2.own x hx; omega⟩⟩
  have hne : ((0 : Int) != 0) = false := rfl
  rw [hC _ _ _ rfl, F49_eq]; unfold F49
  rw [← eA]
  simp only [S0, Nat.reduceAdd, Nat.reduceLeDiff, ↓reduceIte, t2, t5, t6, k1, hne, k2.len, z1']
theorem f18_c {d : Nat} (hd : 13 ≤ d) {cs : List Value} {g : Gala} {h : H} (r : GalaR h cs g) :
    ∃ v h', C d (.func 18) [.agg cs] h = some (.tup [.one v, .one (I (galaErr g))], h') ∧ Own h h' v (if galaErr g = 0 then opensP g else []) := by
  obtain ⟨e, he, rfl, hC⟩ := K.at (k := 12) hd
  obtain ⟨hA, eA⟩ : ∃ q, q = h.new (.cells cs 35 true) := ⟨_, rfl⟩
  have fA : Fr h hA := by rw [eA]; exact (Fr.refl h).new _
  have nA : hA.next = h.next + 1 := by rw [eA]; rfl
  have hcs : cs.length = 14 := by obtain ⟨vr, v1, v2, v3, ve, vb, vl, vm, vy, rfl, s⟩ := r; rfl
  have l14 : ∀ h', Fr hA h' → h'.ldn h.next 0 14 = some cs := fun h' f => by rw [f.ldn (by omega), eA, ldn_new, if_pos (by omega), List.drop_zero, List.take_of_length_le (by omega)]
  obtain ⟨h2, k1, k2⟩ := f20_c K (d := e) (by omega) (r.fr fA)
  rw [hC _ _ _ rfl, F18_eq]; unfold F18
  rw [← eA]
  by_cases hg : galaErr g = 0
  · have hne : (galaErr g != 0) = false := by simpa using hg
    obtain ⟨v, h3, m1, m2⟩ := f49_c K (d := e) (by omega) ((r.fr fA).fr k2) (GOk.of hg)
    have nn := (fA.trans k2).nx
    refine ⟨v, h3, ?_, ?_⟩
    · simp only [S0, Nat.reduceAdd, Nat.reduceLeDiff, ↓reduceIte, l14 hA (.refl _), k1, hne, l14 h2 k2, m1, hg]
    · rw [if_pos hg]; exact ⟨(fA.trans k2).trans m2.fr, m2.og, fun x hx => by have := m2.own x hx; omega⟩
  · have hne : (galaErr g != 0) = true := by simpa using hg
    refine ⟨.slice none 0 0, h2, ?_, ?_⟩
    · simp only [S0, Nat.reduceAdd, Nat.reduceLeDiff, ↓reduceIte, l14 hA (.refl _), k1, hne]
    · rw [if_neg hg]; exact ⟨fA.trans k2, ⟨by simp, .inl ⟨rfl, rfl⟩⟩, fun x hx => by simp [bOf] at hx⟩
end
end Go.Wz
