/- Contracts: the reference's Check of a log. -/
import Derived.Test.YthidglhhfdjhhaaGreatGM
set_option linter.unusedVariables false
set_option linter.unusedSimpArgs false
namespace Go.Wz
open Go
theorem thaw1_same (h : H) (i : Nat) : thawL [i] h (frzL [i] h) = h := by
  rw [thawL_one, frzL_one, H.put_put]; exact H.put_self rfl
theorem thaw2_same (h : H) (i j : Nat) : thawL [i, j] h (frzL [i, j] h) = h := by
  refine H.ext' (funext fun k => ?_) rfl
  show (((((h.put j ((h.get j).bind Blk.ro)).put i ((h.get i).bind Blk.ro)).put j (h.get j)).put i (h.get i))).get k = h.get k
  by_cases h1 : k = i
  · rw [h1, H.put_get_same]
  · rw [H.put_get_ne _ _ h1]
    by_cases h2 : k = j
    · rw [h2, H.put_get_same]
    · rw [H.put_get_ne _ _ h2, H.put_get_ne _ _ h1, H.put_get_ne _ _ h2]
theorem RS.cut {h : H} {s : Nat} {v : Value} {l : List (List Value)} (r : RS h s v l) {i : Nat} (hi : i ≤ l.length) : ∃ v', cutS s none (some (I i)) v = some v' ∧ RS h s v' (l.take i) := by
  have h0 : (0 : Int) ≤ i := by omega
  obtain ⟨h1, ⟨rfl, rfl⟩ | ⟨rfl, b, o, h3, rfl⟩ | ⟨b, o, c, vs, e, w, rfl, hr, h4, h5⟩⟩ := r
  · obtain rfl : i = 0 := by simpa using hi
    exact ⟨.slice none 0 0, rfl, RS.nil⟩
  · obtain rfl : i = 0 := by simpa using hi
    refine ⟨slc b o 0 0, ?_, ⟨by simp, .inr (.inl ⟨rfl, b, o, h3, rfl⟩)⟩⟩
    unfold cutS slc I
    simp
  · refine ⟨slc b o i (if c = 0 then 0 else 1), ?_, ?_⟩
    · unfold cutS slc I
      simp [hi]
    · have hl : (l.take i).length = i := by simp; omega
      have := RS.mk (h := h) (s := s) (b := b) (o := o) (c := if c = 0 then 0 else 1) (vs := vs) (e := e) (w := w) (l := l.take i) (fun x hx => h1 x (List.mem_of_mem_take hx)) hr
        (by rw [hl]; have : i * s ≤ l.length * s := Nat.mul_le_mul_right _ hi
            omega)
        (by rw [hl, ← flatten_take l i h1, ← h5, List.take_take]
            congr 1
            have : i * s ≤ l.length * s := Nat.mul_le_mul_right _ hi
            omega)
      rw [hl] at this
      exact this
def openP (es : List Entry) (n : Int) : Bool := wi n 0 ((es.length : Int) - 1) && (entAt es n).kind == 2 && !mendedP es n
section
variable {C : Nat → CallT} {N : Nat} (K : CallsOf C N)
include K
theorem f184_c {d : Nat} (hd : 2 ≤ d) {cs : List Value} {b : Book} {h : H} (r : BookR h cs b) {rule x y : Int} (hr : 0 ≤ rule ∧ rule < b.rules.length) :
    ∃ h', C d (.func 184) [.agg cs, .one (I rule), .one (I x), .one (I y)] h = some (.one (.bool (signsP b rule x y)), h') ∧ Fr h h' := by
  obtain ⟨e, he, rfl, hC⟩ := K.at (k := 1) hd
  have s2 := r.s2
  obtain ⟨v1, v2, v3, rfl, r1, r2, r3⟩ := r.ex
  have l2 := r2.len
  obtain ⟨hA, eA⟩ : ∃ q, q = h.new (.cells [v1, v2, v3] 28 true) := ⟨_, rfl⟩
  have fA : Fr h hA := by rw [eA]; exact (Fr.refl h).new _
  have nA : hA.next = h.next + 1 := by rw [eA]; rfl
  obtain ⟨b2, o2, _, q3, q4⟩ := r1.atI rule0 (n := rule) hr.1 hr.2
  obtain ⟨hB, eB⟩ : ∃ q, q = hA.new (.cells (ruleAt b rule).enc 249 true) := ⟨_, rfl⟩
  have fB : Fr hA hB := by rw [eB]; exact (Fr.refl hA).new _
  have q5 : hA.ldn b2 o2 4 = some (ruleAt b rule).enc := (q4 hA fA).1
  have p1 := pstn_new hA (zs := [I 0, I 0, I 0, .bool false]) (xs := (ruleAt b rule).enc) 249 rfl
  rw [← eB, nA] at p1
  have hx5 : (ruleAt b rule).enc.length = 4 := rfl
  have g0 : hA.ld h.next 0 = some v1 := by rw [eA]; simp only [S0, Nat.reduceAdd, Nat.reduceLeDiff, ↓reduceIte]
  have g1 : hB.ld h.next 1 = some v2 := by rw [fB.ld (by omega), eA]; simp only [S0, Nat.reduceAdd, Nat.reduceLeDiff, ↓reduceIte]
  have t2 : hB.ld (h.next + 1) 2 = some (I (ruleAt b rule).rank) := by rw [← nA, eB]; simp only [S0, Nat.reduceAdd, Nat.reduceLeDiff, ↓reduceIte, Rule.enc]
  have t3 : hB.ld (h.next + 1) 3 = some (.bool (ruleAt b rule).two) := by rw [← nA, eB]; simp only [S0, Nat.reduceAdd, Nat.reduceLeDiff, ↓reduceIte, Rule.enc]
  have hsub := sub1 (n := b.ranks.length) (by omega)
  refine ⟨hB, ?_, fA.trans fB⟩
  rw [hC _ _ _ rfl, F184_eq]; unfold F184
  rw [← eA]
  simp only [S0, Nat.reduceAdd, Nat.reduceLeDiff, ↓reduceIte, g0, q3, q5, ifLen_eq, hx5, p1, g1, l2, hsub, w183 K he]
  have rank : ∀ n, persP b n = true → ∃ bo oo, idxS 1 v2 (I n) = some (ptr bo oo) ∧ hB.ld bo oo = some (I (getI b.ranks n)) := fun n hn => by
    have := wi_iff.1 hn
    obtain ⟨b1, o1, _, z1, z2⟩ := r2.atI (n := n) this.1 (by omega)
    exact ⟨b1, o1, z1, z2 hB (fA.trans fB)⟩
  unfold signsP mayP
  cases hp : persP b x with
  | false =>
    have hp' : wi x 0 ((b.ranks.length : Int) - 1) = false := hp
    simp only [S0, Nat.reduceAdd, Nat.reduceLeDiff, ↓reduceIte, hp']
    split <;> rfl
  | true =>
    have hp' : wi x 0 ((b.ranks.length : Int) - 1) = true := hp
    obtain ⟨b1, o1, z1, z2⟩ := rank x hp
    have ge_lt : decide (getI b.ranks x < (ruleAt b rule).rank) = !decide (getI b.ranks x ≥ (ruleAt b rule).rank) := by
      by_cases hh : getI b.ranks x < (ruleAt b rule).rank
      · have : ¬ getI b.ranks x ≥ (ruleAt b rule).rank := by omega
        simp [hh, this]
      · have : getI b.ranks x ≥ (ruleAt b rule).rank := by omega
        simp [hh, this]
    simp only [S0, Nat.reduceAdd, Nat.reduceLeDiff, ↓reduceIte, hp', g1, z1, z2, t2, ge_lt]
    cases hge : decide (getI b.ranks x ≥ (ruleAt b rule).rank) with
    | false => simp only [S0, Nat.reduceAdd, Nat.reduceLeDiff, ↓reduceIte]; split <;> rfl
    | true =>
      simp only [S0, Nat.reduceAdd, Nat.reduceLeDiff, ↓reduceIte, t3]
      cases ht : (ruleAt b rule).two with
      | false => simp only [S0, Nat.reduceAdd, Nat.reduceLeDiff, ↓reduceIte]
      | true =>
        simp only [S0, Nat.reduceAdd, Nat.reduceLeDiff, ↓reduceIte, g1, l2, hsub, w183 K he]
        cases hq : persP b y with
        | false =>
          have hq' : wi y 0 ((b.ranks.length : Int) - 1) = false := hq
          simp only [S0, Nat.reduceAdd, Nat.reduceLeDiff, ↓reduceIte, hq']
        | true =>
          have hq' : wi y 0 ((b.ranks.length : Int) - 1) = true := hq
          obtain ⟨b3, o3, y1, y2⟩ := rank y hq
          have hcomm : (y != x) = (x != y) := by rw [bne, bne, BEq.comm]
          simp only [S0, Nat.reduceAdd, Nat.reduceLeDiff, ↓reduceIte, hq']
          cases hne : (x != y) with
          | false => simp only [S0, Nat.reduceAdd, Nat.reduceLeDiff, ↓reduceIte, hcomm, hne]
          | true => simp only [S0, Nat.reduceAdd, Nat.reduceLeDiff, ↓reduceIte, hcomm, hne, g1, y1, y2, t2]
theorem f185_c {d : Nat} (hd : 2 ≤ d) {v : Value} {es : List Entry} {h : H} (r : RS h 5 v (es.map Entry.enc)) (hl : es.length < 5000) (n : Int) : ∃ h', C d (.func 185) [.one v, .one (I n)] h = some (.one (.bool (openP es n)), h') ∧ Fr h h' := by
  obtain ⟨e, he, rfl, hC⟩ := K.at (k := 1) hd
  have hN := K.big
  have l4 := r.len
  rw [List.length_map] at l4
  have hsub := sub1 (n := es.length) (by omega)
  rw [hC _ _ _ rfl, F185_eq]; unfold F185 openP
  simp only [S0, Nat.reduceAdd, Nat.reduceLeDiff, ↓reduceIte, l4, hsub, w183 K he]
  cases hw : wi n 0 ((es.length : Int) - 1) with
  | false => exact ⟨h, by simp only [S0, Nat.reduceAdd, Nat.reduceLeDiff, ↓reduceIte], .refl h⟩
  | true =>
    have hn := wi_iff.1 hw
    obtain ⟨b2, o2, _, q1, q2⟩ := r.atI entry0 (n := n) hn.1 (by omega)
    have q3 : h.ld b2 (o2 + 1) = some (I (entAt es n).kind) := by rw [(q2 h (.refl h)).2 1 (by omega)]; rfl
    simp only [S0, Nat.reduceAdd, Nat.reduceLeDiff, ↓reduceIte, q1, q3]
    cases hk : (entAt es n).kind == 2 with
    | false =>
      have hk' : ((entAt es n).kind != 2) = true := by rw [bne, hk]; rfl
      exact ⟨h, by simp only [S0, Nat.reduceAdd, Nat.reduceLeDiff, ↓reduceIte, hk'], .refl h⟩
    | true =>
      have hk' : ((entAt es n).kind != 2) = false := by rw [bne, hk]; rfl
      obtain ⟨h2, m2, m1⟩ := any_loop0 (LP := LP185_0 (C e) N) (l := es) (fun i => [.one v, .one (I n), .one (I i)]) (vs0 := [.one v, .one (I n), .one (I 0)]) (fun _ x => x.kind == 3 && x.a == n) (fun h' => (.ret (.one (.bool false)), [], h')) (fun h' => (.exit 0, [], h')) (h0 := h) rfl (m := N) (by omega)
        (fun m h1 f => by rw [LP185_0_succ]; unfold B185_0; simp only [S0, Nat.reduceAdd, Nat.reduceLeDiff, ↓reduceIte, l4, in0])
        (fun i m h1 x hx hi f => by
          obtain ⟨bo, oo, _, _, e1, e2⟩ := r.atx hx
          have z1 : h1.ld bo (oo + 1) = some (I x.kind) := by rw [(e2 h1 f).2 1 (by omega)]; rfl
          have z2 : h1.ld bo (oo + 2) = some (I x.a) := by rw [(e2 h1 f).2 2 (by omega)]; rfl
          refine ⟨h1, .refl h1, ?_⟩
          rw [LP185_0_succ]; unfold B185_0
          simp only [S0, Nat.reduceAdd, Nat.reduceLeDiff, ↓reduceIte, l4, i0 hi, e1, z1, z2, i1 (show i + 1 ≤ es.length from hi) (by omega)])
      rw [anyI_any] at m1
      refine ⟨h2, ?_, m2⟩
      unfold mendedP
      cases hX : es.any fun x => x.kind == 3 && x.a == n <;> rw [hX] at m1 <;> simp only [S0, Nat.reduceAdd, Nat.reduceLeDiff, ↓reduceIte, hk', m1]
theorem f108_c {d : Nat} (hd : 2 ≤ d) {cs : List Value} {b : Book} {h : H} (r : BookR h cs b) :
    ∃ h', C d (.func 108) [.agg cs] h = some (.one (I (bookErr b)), h') ∧ Fr h h' := by
  obtain ⟨e, he, rfl, hC⟩ := K.at (k := 1) hd
  have hN := K.big
  have s1 := r.s1
  have s2 := r.s2
  have s3 := r.s3
  obtain ⟨v1, v2, v3, rfl, r1, r2, r3⟩ := r.ex
  have l1 := r1.len
  rw [List.length_map] at l1
  have l2 := r2.len
  have l3 := r3.len
  obtain ⟨hA, eA⟩ : ∃ q, q = h.new (.cells [v1, v2, v3] 28 true) := ⟨_, rfl⟩
  have f1 : Fr h hA := by rw [eA]; exact (Fr.refl h).new _
  have nA : hA.next = h.next + 1 := by rw [eA]; rfl
  have g : ∀ h', Fr hA h' → h'.get h.next = some (.cells [v1, v2, v3] 28 true) := fun h' f => by rw [f.get _ (by omega), eA]; simp
  have g0 : ∀ h', Fr hA h' → h'.ld h.next 0 = some v1 := fun h' f => by rw [H.ld_of _ (g h' f)]; rfl
  have g1 : ∀ h', Fr hA h' → h'.ld h.next 1 = some v2 := fun h' f => by rw [H.ld_of _ (g h' f)]; rfl
  have g2 : ∀ h', Fr hA h' → h'.ld h.next 2 = some v3 := fun h' f => by rw [H.ld_of _ (g h' f)]; rfl
  have rf := Fr.refl hA
  obtain ⟨h2, k2, k1⟩ := any_loop0 (LP := LP108_0 (C e) N) (l := b.rules) (fun i => [.one (ptr h.next 0), .one (I i)]) (vs0 := [.one (ptr h.next 0), .one (I 0)]) (fun _ => badRule b.insured.length) (fun h => (.ret (.one (I 100)), [], h)) (fun h' => (.exit 0, [.one (ptr h.next 0)], h')) (h0 := hA) rfl (m := N) (by omega)
    (fun m h1 f => by rw [LP108_0_succ]; unfold B108_0; simp only [S0, Nat.reduceAdd, Nat.reduceLeDiff, ↓reduceIte, g0 h1 f, l1, in0])
    (fun i m h1 x hx hi f => by
      obtain ⟨bo, oo, _, _, e1, e2⟩ := r1.atx hx
      have e3 := (e2 h1 (f1.trans f)).1
      have fn : Fr h1 (h1.new (.cells x.enc 249 true)) := (Fr.refl h1).new _
      refine ⟨_, fn, ?_⟩
      rw [LP108_0_succ]; unfold B108_0
      have p1 := pstn_new h1 (zs := [I 0, I 0, I 0, .bool false]) (xs := x.enc) 249 rfl
      have hx5 : x.enc.length = 4 := rfl
      simp only [S0, Nat.reduceAdd, Nat.reduceLeDiff, ↓reduceIte, g0 h1 f, l1, i0 hi, e1, e3, ifLen_eq, hx5, p1, g2 _ (f.trans fn), l3, sub1 (show b.insured.length < 2 ^ 40 by omega)]
      simp only [S0, Nat.reduceAdd, Nat.reduceLeDiff, ↓reduceIte, Rule.enc, w183 K he, badRule, i1 (show i + 1 ≤ b.rules.length from hi) (by omega), Bool.or_assoc])
  obtain ⟨h3, m2, m1⟩ := any_loop0 (LP := LP108_1 (C e) N) (l := b.ranks) (fun i => [.one (ptr h.next 0), .one (I i)]) (vs0 := [.one (ptr h.next 0), .one (I 0)]) (fun _ n => !wi n 0 9) (fun h => (.ret (.one (I 100)), [], h)) (fun h' => (.exit 2, [.one (ptr h.next 0)], h')) (h0 := h2) rfl (m := N) (by omega)
    (fun m h1 f => by rw [LP108_1_succ]; unfold B108_1; simp only [S0, Nat.reduceAdd, Nat.reduceLeDiff, ↓reduceIte, g1 h1 (k2.trans f), l2, in0])
    (fun i m h1 x hx hi f => by
      obtain ⟨bo, oo, _, _, e1, e2⟩ := r2.atx hx
      have e3 := e2 h1 (f1.trans (k2.trans f))
      refine ⟨h1, .refl h1, ?_⟩
      rw [LP108_1_succ]; unfold B108_1
      simp only [S0, Nat.reduceAdd, Nat.reduceLeDiff, ↓reduceIte, g1 h1 (k2.trans f), l2, i0 hi, e1, e3, w183 K he, i1 (show i + 1 ≤ b.ranks.length from hi) (by omega)])
  obtain ⟨h4, n2, n1⟩ := any_loop0 (LP := LP108_2 (C e) N) (l := b.insured) (fun i => [.one (ptr h.next 0), .one (I i)]) (vs0 := [.one (ptr h.next 0), .one (I 0)]) (fun _ n => !wi n 0 10000) (fun h => (.ret (.one (I 100)), [], h)) (fun h' => (.exit 4, [], h')) (h0 := h3) rfl (m := N) (by omega)
    (fun m h1 f => by rw [LP108_2_succ]; unfold B108_2; simp only [S0, Nat.reduceAdd, Nat.reduceLeDiff, ↓reduceIte, g2 h1 (k2.trans (m2.trans f)), l3, in0])
    (fun i m h1 x hx hi f => by
      obtain ⟨bo, oo, _, _, e1, e2⟩ := r3.atx hx
      have e3 := e2 h1 (f1.trans (k2.trans (m2.trans f)))
      refine ⟨h1, .refl h1, ?_⟩
      rw [LP108_2_succ]; unfold B108_2
      simp only [S0, Nat.reduceAdd, Nat.reduceLeDiff, ↓reduceIte, g2 h1 (k2.trans (m2.trans f)), l3, i0 hi, e1, e3, w183 K he, i1 (show i + 1 ≤ b.insured.length from hi) (by omega)])
  rw [anyI_any] at k1 m1 n1
  rw [hC _ _ _ rfl, F108_eq]; unfold F108 bookErr bookBad0
  rw [← eA]
  simp only [S0, Nat.reduceAdd, Nat.reduceLeDiff, ↓reduceIte, g0 hA rf, g1 hA rf, g2 hA rf, l1, l2, l3]
  cases hQ : (decide ((b.rules.length : Int) > 20) || decide ((b.ranks.length : Int) > 8) || decide ((b.insured.length : Int) > 10)) with
  | true => exact ⟨hA, by simp only [S0, Nat.reduceAdd, Nat.reduceLeDiff, ↓reduceIte, hQ], f1⟩
  | false =>
    cases hR : b.rules.any (badRule b.insured.length) with
    | true => rw [hR] at k1; exact ⟨h2, by simp only [S0, Nat.reduceAdd, Nat.reduceLeDiff, ↓reduceIte, hQ, k1], f1.trans k2⟩
    | false =>
      rw [hR] at k1
      cases hS : (b.ranks.any fun n => !wi n 0 9) with
      | true => rw [hS] at m1; exact ⟨h3, by simp only [S0, Nat.reduceAdd, Nat.reduceLeDiff, ↓reduceIte, hQ, k1, m1], f1.trans (k2.trans m2)⟩
      | false =>
        rw [hS] at m1
        refine ⟨h4, ?_, f1.trans (k2.trans (m2.trans n2))⟩
        cases hT : (b.insured.any fun n => !wi n 0 10000) <;> rw [hT] at n1 <;> simp only [S0, Nat.reduceAdd, Nat.reduceLeDiff, ↓reduceIte, hQ, k1, m1, n1]
set_option maxHeartbeats 1000000 in
theorem f109_c {d : Nat} (hd : 3 ≤ d) {cs : List Value} {b : Book} {es : List Entry} {v : Value} {h : H} (r : BookR h cs b) (re : RS h 5 v (es.map Entry.enc)) (hle : es.length < 5000) (x : Entry) :
    ∃ h', C d (.func 109) [.agg cs, .one v, .agg x.enc] h = some (.one (.bool (rightP b es x)), h') ∧ Fr h h' := by
  obtain ⟨e, he, rfl, hC⟩ := K.at (k := 2) hd
  have s1 := r.s1
  have s2 := r.s2
  have s3 := r.s3
  have f1 := ((Fr.refl h).new (.cells cs 28 true)).new (.cells x.enc 162 true)
  obtain ⟨hA, eA⟩ : ∃ q, q = (h.new (.cells cs 28 true)).new (.cells x.enc 162 true) := ⟨_, rfl⟩
  rw [← eA] at f1
  have rA := r.fr f1
  have reA := re.fr f1
  have nA : hA.next = h.next + 2 := by rw [eA]; rfl
  have gc : hA.get h.next = some (.cells cs 28 true) := by rw [eA, H.new_get_lt _ _ (by simp)]; simp
  have gx : ∀ h', Fr hA h' → h'.get (h.next + 1) = some (.cells x.enc 162 true) := fun h' f => by rw [f.get _ (by omega), eA]; exact H.new_get_same _ _
  have rf := Fr.refl hA
  have x0 : hA.ld (h.next + 1) 0 = some (I x.day) := by rw [H.ld_of _ (gx hA rf)]; rfl
  have x1 : hA.ld (h.next + 1) 1 = some (I x.kind) := by rw [H.ld_of _ (gx hA rf)]; rfl
  have x2 : hA.ld (h.next + 1) 2 = some (I x.a) := by rw [H.ld_of _ (gx hA rf)]; rfl
  have x3 : hA.ld (h.next + 1) 3 = some (I x.b) := by rw [H.ld_of _ (gx hA rf)]; rfl
  have x4 : ∀ h', Fr hA h' → h'.ld (h.next + 1) 4 = some (I x.c) := fun h' f => by rw [H.ld_of _ (gx h' f)]; rfl
  have x4' := x4 hA rf
  have hcs : cs.length = 3 := by obtain ⟨v1, v2, v3, rfl, _⟩ := r.ex; rfl
  have sl : hA.ldn h.next 0 3 = some cs := by rw [H.ldn_of _ gc, if_pos (by omega), List.drop_zero, List.take_of_length_le (by omega)]
  obtain ⟨v1, v2, v3, hcs', r1, r2, r3⟩ := rA.ex
  have g0 : hA.ld h.next 0 = some v1 := by rw [H.ld_of _ gc, hcs']; rfl
  have g1 : hA.ld h.next 1 = some v2 := by rw [H.ld_of _ gc, hcs']; rfl
  have g2 : hA.ld h.next 2 = some v3 := by rw [H.ld_of _ gc, hcs']; rfl
  have l1 := r1.len
  have l4 := re.len
  rw [List.length_map] at l1 l4
  have l2 := r2.len
  have l3 := r3.len
  have hsub : ibin .sub (I es.length) (I 1) = some (I ((es.length : Int) - 1)) := sub1 (by omega)
  have hsub1 : ibin .sub (I b.rules.length) (I 1) = some (I ((b.rules.length : Int) - 1)) := sub1 (by omega)
  have hsub2 : ibin .sub (I b.ranks.length) (I 1) = some (I ((b.ranks.length : Int) - 1)) := sub1 (by omega)
  have hsub3 : ibin .sub (I b.insured.length) (I 1) = some (I ((b.insured.length : Int) - 1)) := sub1 (by omega)
  have w : ∀ (n lo hi : Int) (h : H), C e (.func 183) [.one (I n), .one (I lo), .one (I hi)] h = some (.one (.bool (wi n lo hi)), h) := fun n lo hi h => w183 K (by omega) n lo hi h
  have tw := thaw2_same hA (h.next + 1) h.next
  have hlast : (if decide ((es.length : Int) > 0) = true then ((ibin BinOp.sub (I es.length) (I 1)).bind fun v6 => ((idxS 5 v v6).bind fun v7 => ((padd 0 v7).bind fun v8 => ((pld hA v8).bind fun v9 =>
      some (Out.normal, ([SV.one v, SV.one (ptr h.next 0), SV.one (ptr (h.next + 1) 0), SV.one v9], hA)))))) else some (Out.normal, ([SV.one v, SV.one (ptr h.next 0), SV.one (ptr (h.next + 1) 0), SV.one (I 0)], hA))) =
      some (Out.normal, ([SV.one v, SV.one (ptr h.next 0), SV.one (ptr (h.next + 1) 0), SV.one (I (lastDay es))], hA)) := by
    unfold lastDay
    by_cases hl : es.length > 0
    · have hl' : decide ((es.length : Int) > 0) = true := by simpa using hl
      obtain ⟨b2, o2, _, q1, q2⟩ := reA.atI entry0 (n := (es.length : Int) - 1) (by omega) (by omega)
      have q3 : hA.ld b2 o2 = some (I (entAt es ((es.length : Int) - 1)).day) := by have := (q2 hA rf).2 0 (by omega); simpa [Entry.enc, entAt] using this
      rw [if_pos hl]
      simp only [S0, Nat.reduceAdd, Nat.reduceLeDiff, ↓reduceIte, hl', hsub, q1, q3]
    · have hl' : decide ((es.length : Int) > 0) = false := by simpa using hl
      rw [if_neg hl]
      simp only [S0, Nat.reduceAdd, Nat.reduceLeDiff, ↓reduceIte, hl']
  rw [hC _ _ _ rfl, F109_eq]; unfold F109
  rw [← eA]
  simp only [l4, Option.bind_some, ibin_gtrI, condV_bool]
  rw [hlast]
  simp only [S0, Nat.reduceAdd, Nat.reduceLeDiff, ↓reduceIte, x0, w]
  unfold rightP
  cases hday : wi x.day (lastDay es) 10000 with
  | false => exact ⟨hA, by simp only [S0, Nat.reduceAdd, Nat.reduceLeDiff, ↓reduceIte], f1⟩
  | true =>
  simp only [S0, Nat.reduceAdd, Nat.reduceLeDiff, ↓reduceIte, x2, g2, l3, hsub3, bOf_ptr, w, tw, sameB_ptr, x3, g1, l2, hsub2, x1, x4']
  have kk : ∀ n : Int, x.kind = n → (x.kind == n) = true := fun n h => by simpa using h
  have kn : ∀ n : Int, ¬ x.kind = n → (x.kind == n) = false := fun n h => by simpa using h
  have er : wi x.a 0 ((b.insured.length : Int) - 1) = rideP b x.a := rfl
  have ep : wi x.b 0 ((b.ranks.length : Int) - 1) = persP b x.b := rfl
  rw [er, ep]
  by_cases k1 : x.kind = 1
  · rw [if_pos k1]
    cases hw : wi x.a 0 ((b.rules.length : Int) - 1) with
    | false => exact ⟨hA, by simp only [S0, Nat.reduceAdd, Nat.reduceLeDiff, ↓reduceIte, kk 1 k1, g0, l1, hsub1, w, hw], f1⟩
    | true =>
      have hr := wi_iff.1 hw
      obtain ⟨h2, m1, m2⟩ := f184_c K (d := e) he rA (rule := x.a) (x := x.b) (y := x.c) (by omega)
      exact ⟨h2, by simp only [S0, Nat.reduceAdd, Nat.reduceLeDiff, ↓reduceIte, kk 1 k1, g0, l1, hsub1, w, hw, sl, x2, x3, x4', m1], f1.trans m2⟩
  rw [if_neg k1]
  by_cases k2 : x.kind = 2
  · rw [if_pos k2]
    refine ⟨hA, ?_, f1⟩
    simp only [S0, Nat.reduceAdd, Nat.reduceLeDiff, ↓reduceIte, kn 1 k1, kk 2 k2, x3, x4', w]
  rw [if_neg k2]
  by_cases k3 : x.kind = 3
  · rw [if_pos k3]
    obtain ⟨h2, m1, m2⟩ := f185_c K (d := e) (by omega) reA hle x.a
    refine ⟨h2, ?_, f1.trans m2⟩
    simp only [S0, Nat.reduceAdd, Nat.reduceLeDiff, ↓reduceIte, kn 1 k1, kn 2 k2, kk 3 k3, m1, x4 h2 m2, openP]
  rw [if_neg k3]
  by_cases k4 : x.kind = 4
  · rw [if_pos k4]
    refine ⟨hA, ?_, f1⟩
    simp only [S0, Nat.reduceAdd, Nat.reduceLeDiff, ↓reduceIte, kn 1 k1, kn 2 k2, kn 3 k3, kk 4 k4, x4']
  rw [if_neg k4]
  by_cases k5 : x.kind = 5
  · rw [if_pos k5]
    refine ⟨hA, ?_, f1⟩
    simp only [S0, Nat.reduceAdd, Nat.reduceLeDiff, ↓reduceIte, kn 1 k1, kn 2 k2, kn 3 k3, kn 4 k4, kk 5 k5, x3, x4', w]
  rw [if_neg k5]
  by_cases k6 : x.kind = 6
  · rw [if_pos k6]
    refine ⟨hA, ?_, f1⟩
    simp only [S0, Nat.reduceAdd, Nat.reduceLeDiff, ↓reduceIte, kn 1 k1, kn 2 k2, kn 3 k3, kn 4 k4, kn 5 k5, kk 6 k6, x3, x4']
  rw [if_neg k6]
  exact ⟨hA, by simp only [S0, Nat.reduceAdd, Nat.reduceLeDiff, ↓reduceIte, kn 1 k1, kn 2 k2, kn 3 k3, kn 4 k4, kn 5 k5, kn 6 k6], f1⟩
theorem f59_c {d : Nat} (hd : 4 ≤ d) {cs : List Value} {b : Book} {es : List Entry} {ve : Value} {h : H} (r : BookR h cs b) (re : RS h 5 ve (es.map Entry.enc)) :
    ∃ h', C d (.func 59) [.agg cs, .one ve] h = some (.tup [.one (I (logErr b es).1), .one (I (logErr b es).2)], h') ∧ Fr h h' := by
  obtain ⟨e, he, rfl, hC⟩ := K.at (k := 3) hd
  have hN := K.big
  have f1 := (Fr.refl h).new (.cells cs 28 true)
  obtain ⟨h2, k1, k2⟩ := f108_c K (d := e) (by omega) (r.fr f1)
  have hcs : cs.length = 3 := by obtain ⟨v1, v2, v3, rfl, _⟩ := r.ex; rfl
  have g1 : ∀ h', Fr (h.new (.cells cs 28 true)) h' → h'.ldn h.next 0 3 = some cs := fun h' f => by rw [f.ldn (by simp), ldn_new, if_pos (by omega), List.drop_zero, List.take_of_length_le (by omega)]
  have le := re.len
  rw [List.length_map] at le
  rw [hC _ _ _ rfl, F59_eq]; unfold F59 logErr
  rcases bookErr_cases b with hb | hb
  · rw [hb] at k1 ⊢
    rw [if_neg (by simp)]
    by_cases hl : es.length > 100
    · have hl' : decide ((es.length : Int) > 100) = true := by simp; omega
      rw [if_pos hl]
      exact ⟨h2, by simp only [S0, Nat.reduceAdd, Nat.reduceLeDiff, ↓reduceIte, g1 _ (.refl _), k1, le, hl'], f1.trans k2⟩
    · have hl' : decide ((es.length : Int) > 100) = false := by simp; omega
      rw [if_neg hl]
      obtain ⟨h3, m2, m1⟩ := find_loop0 (LP := LP59_0 (C e) N) (l := es) (fun i => [.one ve, .one (ptr h.next 0), .one (I i)]) (vs0 := [.one ve, .one (ptr h.next 0), .one (I 0)])
        (fun i x => !rightP b (es.take i) x) (fun i h => (.ret (.tup [.one (I i), .one (I 101)]), [], h)) (fun h' => (.exit 0, [], h')) (h0 := h2) rfl (m := N) (by omega)
        (fun m h1 f => by rw [LP59_0_succ]; unfold B59_0; simp only [S0, Nat.reduceAdd, Nat.reduceLeDiff, ↓reduceIte, le, in0])
        (fun i m h1 x hx hi f => by
          have reh := re.fr (f1.trans (k2.trans f))
          obtain ⟨bo, oo, _, _, e1, e2⟩ := reh.atx hx
          have e3 := (e2 h1 (.refl h1)).1
          obtain ⟨v', c1, c2⟩ := reh.cut (i := i) (by simp; omega)
          rw [← List.map_take] at c2
          obtain ⟨h4, z1, z2⟩ := f109_c K (d := e) he ((r.fr f1).fr (k2.trans f)) c2 (by simp; omega) x
          refine ⟨h4, z2, ?_⟩
          rw [LP59_0_succ]; unfold B59_0
          simp only [S0, Nat.reduceAdd, Nat.reduceLeDiff, ↓reduceIte, le, i0 hi, g1 h1 (k2.trans f), c1, e1, e3, z1, i1 (show i + 1 ≤ es.length from hi) (by omega)])
      refine ⟨h3, ?_, f1.trans (k2.trans m2)⟩
      simp only [S0, Nat.reduceAdd, Nat.reduceLeDiff, ↓reduceIte, g1 _ (.refl _), k1, le, hl', m1]
      cases findI (fun i x => !rightP b (es.take i) x) 0 es <;> simp only [S0, Nat.reduceAdd, Nat.reduceLeDiff, ↓reduceIte]
  · rw [hb] at k1 ⊢
    rw [if_pos (by simp)]
    have hne : ((100 : Int) != 0) = true := rfl
    exact ⟨h2, by simp only [S0, Nat.reduceAdd, Nat.reduceLeDiff, ↓reduceIte, g1 _ (.refl _), k1, hne], f1.trans k2⟩
end
end Go.Wz
