/- Contracts: inspect.Released. -/
import Derived.Test.YthidglhhfdjhhaaGreatGT
set_option linter.unusedVariables false
set_option linter.unusedSimpArgs false
namespace Go.Wz
open Go
theorem LogR.len4 {h : H} {cs : List Value} {b : Book} {es : List Entry} (r : LogR h cs b es) : cs.length = 4 := by obtain ⟨v1, v2, v3, v4, rfl, _⟩ := r.ex; rfl
theorem dayErr0 {b : Book} {es : List Entry} {day : Int} (h : dayErr b es day = 0) : (logErr b es).2 = 0 ∧ 0 ≤ day ∧ day ≤ 10000 := by
  unfold dayErr at h
  split at h
  · rename_i h1; exact absurd h h1
  rename_i h1
  split at h
  · rename_i h2; have := wi_iff.1 h2; exact ⟨by omega, this⟩
  · simp at h
theorem RS.over {h : H} {s : Nat} {v : Value} {l : List (List Value)} (r : RS h s v l) {bl : Nat} {cs xs : List Value} {e e' : TypeId} {w w' : Bool} (g : h.get bl = some (.cells cs e w))
    (hc : ∀ c ∈ cs, ∀ n, c ≠ I n) (hl : ∀ x ∈ l, ∃ n t, x = I n :: t) (hx : xs.length = cs.length) : RS (h.put bl (some (.cells xs e' w'))) s v l := by
  obtain ⟨h1, h2⟩ := r
  refine ⟨h1, ?_⟩
  rcases h2 with h2 | ⟨h2, b, o, h3, h4⟩ | ⟨b, o, c, vs, e1, w1, rfl, h4, h5, h6⟩
  · exact .inl h2
  · exact .inr (.inl ⟨h2, b, o, h3, h4⟩)
  · refine .inr (.inr ?_)
    by_cases hb : b = bl
    · subst hb
      have hg := h4.get
      rw [g] at hg
      cases hg
      cases l with
      | nil => exact ⟨b, o, c, xs, e', w', rfl, ⟨h4.lt, H.put_get_same _ _ _⟩, by rw [hx]; exact h5, by simp⟩
      | cons x l =>
        obtain ⟨n, t, rfl⟩ := hl x (by simp)
        have hm : I n ∈ (cs.drop o).take (((I n :: t) :: l).length * s) := by rw [h6]; simp
        exact absurd rfl (hc _ (List.mem_of_mem_drop (List.mem_of_mem_take hm)) n)
    · exact ⟨b, o, c, vs, e1, w1, rfl, ⟨h4.lt, by rw [H.put_get_ne _ _ hb]; exact h4.get⟩, h5, h6⟩
section
variable {C : Nat → CallT} {N : Nat} (K : CallsOf C N)
include K
theorem f62_c {d : Nat} (hd : 7 ≤ d) {cs : List Value} {b : Book} {es : List Entry} {ve : Value} {h : H} (r : BookR h cs b) (re : RS h 5 ve (es.map Entry.enc)) (day : Int) :
    ∃ l h', C d (.func 62) [.agg cs, .one ve, .one (I day)] h = some (.tup [.agg l, .one (I (dayErr b es day))], h') ∧ Fr h h' ∧ l.length = 4 ∧ (dayErr b es day = 0 → LogR h' l b (uptoP es day)) := by
  obtain ⟨e, he, rfl, hC⟩ := K.at (k := 6) hd
  obtain ⟨hA, eA⟩ : ∃ q, q = (h.new (.cells cs 28 true)).new (.cells [.slice none 0 0, .slice none 0 0, .slice none 0 0, .slice none 0 0] 112 true) := ⟨_, rfl⟩
  have fA : Fr h hA := by rw [eA]; exact ((Fr.refl h).new _).new _
  have nA : hA.next = h.next + 2 := by rw [eA]; rfl
  have hcs : cs.length = 3 := by obtain ⟨v1, v2, v3, rfl, _⟩ := r.ex; rfl
  have gc : hA.get h.next = some (.cells cs 28 true) := by rw [eA, H.new_get_lt _ _ (by simp)]; simp
  have gb : ∀ h', Fr hA h' → h'.get (h.next + 1) = some (.cells [.slice none 0 0, .slice none 0 0, .slice none 0 0, .slice none 0 0] 112 true) := fun h' f => by rw [f.get _ (by omega), eA]; exact H.new_get_same _ _
  have l3 : hA.ldn h.next 0 3 = some cs := by rw [H.ldn_of _ gc, if_pos (by omega), List.drop_zero, List.take_of_length_le (by omega)]
  obtain ⟨l8, h2, k1, k2, k3, k4⟩ := f103_c K (d := e) he (r.fr fA) (re.fr fA)
  have p1 := pstn_new h2 (zs := [.slice none 0 0, .slice none 0 0, .slice none 0 0, .slice none 0 0]) (xs := l8) 112 k3
  obtain ⟨hB, eB⟩ : ∃ q, q = h2.new (.cells l8 112 true) := ⟨_, rfl⟩
  have fB : Fr h2 hB := by rw [eB]; exact (Fr.refl h2).new _
  have nB : hB.next = h2.next + 1 := by rw [eB]; rfl
  have lB : hB.ldn h2.next 0 4 = some l8 := by rw [eB, ldn_new, if_pos (by omega), List.drop_zero, List.take_of_length_le (by omega)]
  rw [← eB, pstn_ptr] at p1
  have n2 := k2.nx
  have fin : ∀ (hx : H) (l : List Value), Fr hA hx → l.length = 4 → ∃ h', hx.stn (h.next + 1) 0 l = some h' ∧ h'.ldn (h.next + 1) 0 4 = some l ∧ Fr h h' ∧ ∀ es', LogR hx l b es' → LogR h' l b es' := fun hx l f hl => by
    have gx := gb hx f
    have nx := f.nx
    have fq : ∀ q, Fr q hx → q.next ≤ h.next + 1 → Fr q (hx.put (h.next + 1) (some (.cells l 112 true))) := fun q fq hq => fq.put hq _
    have hsp : splice [.slice none 0 0, .slice none 0 0, .slice none 0 0, .slice none 0 0] 0 l = l := splice0 hl
    refine ⟨_, by rw [H.stn_of _ gx, if_pos (by rw [hl]; simp), hsp], by rw [H.ldn_of _ (H.put_get_same _ _ _), if_pos (by omega), List.drop_zero, List.take_of_length_le (by omega)], fq h (fA.trans f) (by omega), fun es' rl => ?_⟩
    obtain ⟨⟨v1, v2, v3, v4, rfl, r1, r2, r3, r4⟩, s1, s2, s3, s4⟩ := rl
    have hc : ∀ c ∈ [nilS, nilS, nilS, nilS], ∀ n, c ≠ I n := fun c hc n hh => by simp at hc; rw [hc] at hh; cases hh
    exact ⟨⟨v1, v2, v3, v4, rfl, r1.over gx hc (fun x hx' => by obtain ⟨y, _, rfl⟩ := List.mem_map.1 hx'; exact ⟨_, _, rfl⟩) rfl, RS.over r2 gx hc (fun x hx' => by obtain ⟨y, _, rfl⟩ := List.mem_map.1 hx'; exact ⟨_, _, rfl⟩) rfl,
      RS.over r3 gx hc (fun x hx' => by obtain ⟨y, _, rfl⟩ := List.mem_map.1 hx'; exact ⟨_, _, rfl⟩) rfl, r4.over gx hc (fun x hx' => by obtain ⟨y, _, rfl⟩ := List.mem_map.1 hx'; exact ⟨_, _, rfl⟩) rfl⟩, s1, s2, s3, s4⟩
  rw [hC _ _ _ rfl, F62_eq]; unfold F62
  rw [← eA]
  by_cases hle : (logErr b es).2 = 0
  · have hne : ((logErr b es).2 != 0) = false := by simpa using hle
    cases hw : wi day 0 10000 with
    | false =>
      have hde : dayErr b es day = 1 := by unfold dayErr; rw [if_neg (by simpa using hle), if_neg (by simp [hw])]
      obtain ⟨h3, t1, t2, t3, t5⟩ := fin hB l8 (k2.trans fB) k3
      rw [hde]
      refine ⟨l8, h3, ?_, t3, k3, fun hh => by simp at hh⟩
      simp only [S0, Nat.reduceAdd, Nat.reduceLeDiff, ↓reduceIte, l3, k1, ifLen_eq, k3, p1, hne, w111 K (show 1 ≤ e by omega), hw, lB, pstn_ptr, t1, t2]
    | true =>
      have hde : dayErr b es day = 0 := by unfold dayErr; rw [if_neg (by simpa using hle), if_pos hw]
      obtain ⟨l, h4, m1, m2, m3, m4⟩ := f112_c K (d := e) (by omega) ((k4 hle).fr fB) day
      obtain ⟨h3, t1, t2, t3, t5⟩ := fin h4 l (k2.trans (fB.trans m2)) m3
      rw [hde]
      refine ⟨l, h3, ?_, t3, m3, fun _ => t5 _ m4⟩
      simp only [S0, Nat.reduceAdd, Nat.reduceLeDiff, ↓reduceIte, l3, k1, ifLen_eq, k3, p1, hne, w111 K (show 1 ≤ e by omega), hw, lB, m1, m3, pstn_ptr, t1, t2]
  · have hne : ((logErr b es).2 != 0) = true := by simpa using hle
    have hde : dayErr b es day = (logErr b es).2 := by unfold dayErr; rw [if_pos hle]
    obtain ⟨h3, t1, t2, t3, t5⟩ := fin hB l8 (k2.trans fB) k3
    rw [hde]
    refine ⟨l8, h3, ?_, t3, k3, fun hh => absurd hh hle⟩
    simp only [S0, Nat.reduceAdd, Nat.reduceLeDiff, ↓reduceIte, l3, k1, ifLen_eq, k3, p1, hne, lB, pstn_ptr, t1, t2]
theorem f23_c {d : Nat} (hd : 11 ≤ d) {cs : List Value} {b : Book} {es : List Entry} {ve : Value} {h : H} (r : BookR h cs b) (re : RS h 5 ve (es.map Entry.enc)) (day : Int) :
    ∃ v h', C d (.func 23) [.agg cs, .one ve, .one (I day)] h = some (.tup [.one v, .one (I (dayErr b es day))], h') ∧ Own h h' v (if dayErr b es day = 0 then relL b (uptoP es day) day b.insured.length else []) := by
  obtain ⟨e, he, rfl, hC⟩ := K.at (k := 10) hd
  have hN := K.big
  have s3 := r.s3
  obtain ⟨hA, eA⟩ : ∃ q, q = h.new (.cells cs 28 true) := ⟨_, rfl⟩
  have fA : Fr h hA := by rw [eA]; exact (Fr.refl h).new _
  have nA : hA.next = h.next + 1 := by rw [eA]; rfl
  have hcs : cs.length = 3 := by obtain ⟨v1, v2, v3, rfl, _⟩ := r.ex; rfl
  have l3 : hA.ldn h.next 0 3 = some cs := by rw [eA, ldn_new, if_pos (by omega), List.drop_zero, List.take_of_length_le (by omega)]
  obtain ⟨l8, h2, k1, k2, k3, k4⟩ := f62_c K (d := e) (by omega) (r.fr fA) (re.fr fA) day
  have p1 := pstn_new h2 (zs := [.slice none 0 0, .slice none 0 0, .slice none 0 0, .slice none 0 0]) (xs := l8) 112 k3
  obtain ⟨hB, eB⟩ : ∃ q, q = h2.new (.cells l8 112 true) := ⟨_, rfl⟩
  have fB : Fr h2 hB := by rw [eB]; exact (Fr.refl h2).new _
  have nB : hB.next = h2.next + 1 := by rw [eB]; rfl
  rw [← eB] at p1
  have gB : ∀ h', Fr hB h' → h'.get h2.next = some (.cells l8 112 true) := fun h' f => by rw [f.get _ (by omega), eB]; exact H.new_get_same _ _
  have lB : ∀ h', Fr hB h' → h'.ldn h2.next 0 4 = some l8 := fun h' f => by rw [H.ldn_of _ (gB h' f), if_pos (by omega), List.drop_zero, List.take_of_length_le (by omega)]
  have fhB := fA.trans (k2.trans fB)
  rw [hC _ _ _ rfl, F23_eq]; unfold F23
  rw [← eA]
  by_cases hde : dayErr b es day = 0
  · have hne : (dayErr b es day != 0) = false := by simpa using hde
    have rl := (k4 hde).fr fB
    obtain ⟨hle, hd0, hd1⟩ := dayErr0 hde
    have ok : LogOk b (uptoP es day) := (LogOk.of hle).take _
    obtain ⟨v1, v2, v3, v4, hl8, r1, r2, r3, r4⟩ := rl.ex
    have g2 : hB.ld h2.next 2 = some v3 := by rw [H.ld_of _ (gB hB (.refl _)), hl8]; rfl
    have len3 := r3.len
    have main := loop_inv (LP := LP23_0 (C e) N) (n := b.insured.length)
      (fun i vs h1 => ∃ v, Own hB h1 v (relL b (uptoP es day) day i) ∧ vs = [.one (I day), .one v, .one (ptr h2.next 0), .one (I b.insured.length), .one (I i)])
      (fun o => ∃ v h', o = some (.exit 0, [.one v], h') ∧ Own hB h' v (relL b (uptoP es day) day b.insured.length))
      (fun m vs h1 ⟨v, o, hv⟩ => ⟨v, h1, by rw [hv, LP23_0_succ]; unfold B23_0; simp only [S0, Nat.reduceAdd, Nat.reduceLeDiff, ↓reduceIte, in0], o⟩)
      (fun i m vs h1 hi ⟨v, o, hv⟩ => by
        subst hv
        rw [LP23_0_succ]; unfold B23_0
        have f := o.fr
        obtain ⟨w, h3, z1, z2, z3⟩ := f63_c K (d := e) (by omega) (rl.fr f) ok (ride := (i : Int)) (by omega) day
        have hlen := relL_len b (uptoP es day) day i
        have e1 : relL b (uptoP es day) day (i + 1) = if ((whyP b (uptoP es day) i day).length == 0) = true then relL b (uptoP es day) day i ++ [(i : Int)] else relL b (uptoP es day) day i := rfl
        have e0 : (((whyP b (uptoP es day) i day).length : Int) == 0) = ((whyP b (uptoP es day) i day).length == 0) := eqNat' _ 0
        cases hw : (whyP b (uptoP es day) i day).length == 0 with
        | false =>
          rw [hw] at e1 e0
          refine .inr ⟨_, _, ⟨v, by rw [e1]; exact o.go z2, rfl⟩, ?_⟩
          simp only [S0, Nat.reduceAdd, Nat.reduceLeDiff, ↓reduceIte, i0 hi, lB h1 f, z1, z3, e0, i1 (show i + 1 ≤ b.insured.length from hi) (by omega)]
        | true =>
          rw [hw] at e1 e0
          obtain ⟨v', h4, w1, w2⟩ := (o.go z2).app (i : Int) (by omega)
          refine .inr ⟨_, _, ⟨v', by rw [e1]; exact w2, rfl⟩, ?_⟩
          simp only [S0, Nat.reduceAdd, Nat.reduceLeDiff, ↓reduceIte, i0 hi, lB h1 f, z1, z3, e0, w1, i1 (show i + 1 ≤ b.insured.length from hi) (by omega)])
      b.insured.length 0 N _ hB (by omega) ⟨_, Own.start hB, rfl⟩ (by omega)
    obtain ⟨v, h', z1, z2⟩ := main
    have z1' : LP23_0 (C e) N N [.one (I day), .one (.slice none 0 0), .one (ptr h2.next 0), .one (I b.insured.length), .one (I 0)] hB = _ := z1
    have nn := fhB.nx
    refine ⟨v, h', ?_, ?_⟩
    · simp only [S0, Nat.reduceAdd, Nat.reduceLeDiff, ↓reduceIte, l3, k1, ifLen_eq, k3, p1, hne, g2, len3, z1', hde]
    · rw [if_pos hde]
      exact ⟨fhB.trans z2.fr, z2.og, fun x hx => by have := z2.own x hx; omega⟩
  · have hne : (dayErr b es day != 0) = true := by simpa using hde
    refine ⟨.slice none 0 0, hB, ?_, ?_⟩
    · simp only [S0, Nat.reduceAdd, Nat.reduceLeDiff, ↓reduceIte, l3, k1, ifLen_eq, k3, p1, hne]
    · rw [if_neg hde]
      exact ⟨fhB, ⟨by simp, .inl ⟨rfl, rfl⟩⟩, fun x hx => by simp [bOf] at hx⟩
end
end Go.Wz
