/- Contracts: inspect's entries that are right; the log's making. -/
import Derived.Test.YthidglhhfdjhhaaGreatGK
set_option linter.unusedVariables false
set_option linter.unusedSimpArgs false
namespace Go.Wz
open Go
section
variable {C : Nat → CallT} {N : Nat} (K : CallsOf C N)
include K
set_option maxHeartbeats 1000000 in
theorem f182_c {d : Nat} (hd : 5 ≤ d) {cs : List Value} {b : Book} {es : List Entry} {h : H} (r : LogR h cs b es) (x : Entry) :
    ∃ h', C d (.func 182) [.agg cs, .agg x.enc] h = some (.one (.bool (rightP b es x)), h') ∧ Fr h h' := by
  obtain ⟨e, he, rfl, hC⟩ := K.at (k := 4) hd
  have s1 := r.s1
  have s4 := r.s4
  have f1 := ((Fr.refl h).new (.cells cs 112 true)).new (.cells x.enc 162 true)
  obtain ⟨hA, eA⟩ : ∃ q, q = (h.new (.cells cs 112 true)).new (.cells x.enc 162 true) := ⟨_, rfl⟩
  rw [← eA] at f1
  have rA := r.fr f1
  have nA : hA.next = h.next + 2 := by rw [eA]; rfl
  have gc : ∀ h', Fr hA h' → h'.get h.next = some (.cells cs 112 true) := fun h' f => by rw [f.get _ (by omega), eA, H.new_get_lt _ _ (by simp)]; simp
  have gx : ∀ h', Fr hA h' → h'.get (h.next + 1) = some (.cells x.enc 162 true) := fun h' f => by rw [f.get _ (by omega), eA]; exact H.new_get_same _ _
  have x0 : ∀ h', Fr hA h' → h'.ld (h.next + 1) 0 = some (I x.day) := fun h' f => by rw [H.ld_of _ (gx h' f)]; rfl
  have x1 : ∀ h', Fr hA h' → h'.ld (h.next + 1) 1 = some (I x.kind) := fun h' f => by rw [H.ld_of _ (gx h' f)]; rfl
  have x2 : ∀ h', Fr hA h' → h'.ld (h.next + 1) 2 = some (I x.a) := fun h' f => by rw [H.ld_of _ (gx h' f)]; rfl
  have x3 : ∀ h', Fr hA h' → h'.ld (h.next + 1) 3 = some (I x.b) := fun h' f => by rw [H.ld_of _ (gx h' f)]; rfl
  have x4 : ∀ h', Fr hA h' → h'.ld (h.next + 1) 4 = some (I x.c) := fun h' f => by rw [H.ld_of _ (gx h' f)]; rfl
  have hcs : cs.length = 4 := by obtain ⟨v1, v2, v3, v4, rfl, _⟩ := r.ex; rfl
  have sl : ∀ h', Fr hA h' → h'.ldn h.next 0 4 = some cs := fun h' f => by rw [H.ldn_of _ (gc h' f), if_pos (by omega), List.drop_zero, List.take_of_length_le (by omega)]
  obtain ⟨v1, v2, v3, v4, hcs', r1, r2, r3, r4⟩ := rA.ex
  have g0 : ∀ h', Fr hA h' → h'.ld h.next 0 = some v1 := fun h' f => by rw [H.ld_of _ (gc h' f), hcs']; rfl
  have g3 : ∀ h', Fr hA h' → h'.ld h.next 3 = some v4 := fun h' f => by rw [H.ld_of _ (gc h' f), hcs']; rfl
  have l1 := r1.len
  have l4 := r4.len
  rw [List.length_map] at l1 l4
  have rf := Fr.refl hA
  have hsub : ibin .sub (I es.length) (I 1) = some (I ((es.length : Int) - 1)) := sub1 (by omega)
  have hsub1 : ibin .sub (I b.rules.length) (I 1) = some (I ((b.rules.length : Int) - 1)) := sub1 (by omega)
  have w : ∀ (n lo hi : Int) (h : H), C e (.func 111) [.one (I n), .one (I lo), .one (I hi)] h = some (.one (.bool (wi n lo hi)), h) := fun n lo hi h => w111 K (by omega) n lo hi h
  rw [hC _ _ _ rfl, F182_eq]; unfold F182
  rw [← eA]
  have hlast : (condV (.bool (decide ((es.length : Int) > 0))) ((pld hA (ptr h.next 3)).bind (fun v7 => ((ibin BinOp.sub (I es.length) (I 1)).bind (fun v8 => ((idxS 5 v7 v8).bind (fun v9 => ((padd 0 v9).bind (fun v10 => ((pld hA v10).bind (fun v11 =>
      (some (Out.normal, ([(SV.one (ptr h.next 0)), (SV.one (ptr (h.next + 1) 0)), (SV.one v11)], hA))))))))))))) (some (Out.normal, ([(SV.one (ptr h.next 0)), (SV.one (ptr (h.next + 1) 0)), (SV.one (I 0))], hA)))) =
      some (Out.normal, ([(SV.one (ptr h.next 0)), (SV.one (ptr (h.next + 1) 0)), (SV.one (I (lastDay es)))], hA)) := by
    unfold lastDay
    by_cases hl : es.length > 0
    · have hl' : decide ((es.length : Int) > 0) = true := by simpa using hl
      obtain ⟨b2, o2, _, q1, q2⟩ := r4.atI entry0 (n := (es.length : Int) - 1) (by omega) (by omega)
      have q3 : hA.ld b2 o2 = some (I (entAt es ((es.length : Int) - 1)).day) := by have := (q2 hA rf).2 0 (by omega); simpa [Entry.enc, entAt] using this
      rw [if_pos hl]
      simp only [S0, Nat.reduceAdd, Nat.reduceLeDiff, ↓reduceIte, hl', g3 hA rf, hsub, q1, q3]
    · have hl' : decide ((es.length : Int) > 0) = false := by simpa using hl
      rw [if_neg hl]
      simp only [S0, Nat.reduceAdd, Nat.reduceLeDiff, ↓reduceIte, hl']
  simp only [padd_ptr, Nat.zero_add, Option.bind_some, pld_ptr, g3 hA rf, l4, ibin_gtrI] at hlast ⊢
  rw [hlast]
  simp only [S0, Nat.reduceAdd, Nat.reduceLeDiff, ↓reduceIte, x0 hA rf, x1 hA rf, x2 hA rf, x3 hA rf, x4 hA rf, sl hA rf, g0 hA rf, g3 hA rf, l1, l4, hsub, hsub1, w]
  unfold rightP
  cases hday : wi x.day (lastDay es) 10000 with
  | false => exact ⟨hA, by simp only [S0, Nat.reduceAdd, Nat.reduceLeDiff, ↓reduceIte], f1⟩
  | true =>
  simp only [S0, Nat.reduceAdd, Nat.reduceLeDiff, ↓reduceIte]
  have kk : ∀ n : Int, x.kind = n → (x.kind == n) = true := fun n h => by simpa using h
  have kn : ∀ n : Int, ¬ x.kind = n → (x.kind == n) = false := fun n h => by simpa using h
  by_cases k1 : x.kind = 1
  · rw [if_pos k1]
    cases hw : wi x.a 0 ((b.rules.length : Int) - 1) with
    | false => exact ⟨hA, by simp only [S0, Nat.reduceAdd, Nat.reduceLeDiff, ↓reduceIte, sl hA rf, x2 hA rf, x3 hA rf, x4 hA rf, kk 1 k1], f1⟩
    | true =>
      have hr := wi_iff.1 hw
      obtain ⟨h2, m1, m2⟩ := f236_c K (d := e) he rA (rule := x.a) (x := x.b) (y := x.c) (by omega)
      exact ⟨h2, by simp only [S0, Nat.reduceAdd, Nat.reduceLeDiff, ↓reduceIte, sl hA rf, x2 hA rf, x3 hA rf, x4 hA rf, kk 1 k1, m1], f1.trans m2⟩
  rw [if_neg k1]
  by_cases k2 : x.kind = 2
  · rw [if_pos k2]
    have m1 := f130_c K (d := e) (by omega) rA x.a
    have m2 : Fr hA (hA.new (.cells cs 112 true)) := rf.new _
    refine ⟨hA.new (.cells cs 112 true), ?_, f1.trans m2⟩
    cases hq : rideP b x.a <;> rw [hq] at m1 <;> simp only [S0, Nat.reduceAdd, Nat.reduceLeDiff, ↓reduceIte, sl hA rf, x2 hA rf, x3 hA rf, x4 hA rf, kn 1 k1, kk 2 k2, m1, x3 _ m2, x4 _ m2, w]
  rw [if_neg k2]
  by_cases k3 : x.kind = 3
  · rw [if_pos k3]
    cases hw : wi x.a 0 ((es.length : Int) - 1) with
    | false => exact ⟨hA, by simp only [S0, Nat.reduceAdd, Nat.reduceLeDiff, ↓reduceIte, sl hA rf, x2 hA rf, x3 hA rf, x4 hA rf, kn 1 k1, kn 2 k2, kk 3 k3], f1⟩
    | true =>
      have hr := wi_iff.1 hw
      obtain ⟨b2, o2, _, q1, q2⟩ := r4.atI entry0 (n := x.a) (by omega) (by omega)
      have q3 : hA.ld b2 (o2 + 1) = some (I (entAt es x.a).kind) := by rw [(q2 hA rf).2 1 (by omega)]; rfl
      cases hk : (entAt es x.a).kind == 2 with
      | false => exact ⟨hA, by simp only [S0, Nat.reduceAdd, Nat.reduceLeDiff, ↓reduceIte, sl hA rf, x2 hA rf, x3 hA rf, x4 hA rf, kn 1 k1, kn 2 k2, kk 3 k3, q1, q3, hk], f1⟩
      | true =>
        obtain ⟨h2, m1, m2⟩ := f237_c K (d := e) (by omega) rA x.a
        cases hm : mendedP es x.a with
        | true => rw [hm] at m1; exact ⟨h2, by simp only [S0, Nat.reduceAdd, Nat.reduceLeDiff, ↓reduceIte, sl hA rf, x2 hA rf, x3 hA rf, x4 hA rf, kn 1 k1, kn 2 k2, kk 3 k3, q1, q3, hk, m1], f1.trans m2⟩
        | false =>
          rw [hm] at m1
          have n1 := f238_c K (d := e) (by omega) (rA.fr m2) x.b
          have n2 : Fr h2 (h2.new (.cells cs 112 true)) := (Fr.refl h2).new _
          refine ⟨h2.new (.cells cs 112 true), ?_, f1.trans (m2.trans n2)⟩
          cases hq : persP b x.b <;> rw [hq] at n1 <;> simp only [S0, Nat.reduceAdd, Nat.reduceLeDiff, ↓reduceIte, sl hA rf, x2 hA rf, x3 hA rf, x4 hA rf, kn 1 k1, kn 2 k2, kk 3 k3, q1, q3, hk, m1, sl h2 m2, x3 h2 m2, n1, x4 _ (m2.trans n2)]
  rw [if_neg k3]
  by_cases k4 : x.kind = 4
  · rw [if_pos k4]
    have m1 := f130_c K (d := e) (by omega) rA x.a
    have m2 : Fr hA (hA.new (.cells cs 112 true)) := rf.new _
    cases hq : rideP b x.a with
    | false => rw [hq] at m1; exact ⟨_, by simp only [S0, Nat.reduceAdd, Nat.reduceLeDiff, ↓reduceIte, sl hA rf, x2 hA rf, x3 hA rf, x4 hA rf, kn 1 k1, kn 2 k2, kn 3 k3, kk 4 k4, m1], f1.trans m2⟩
    | true =>
      rw [hq] at m1
      have n1 := f238_c K (d := e) (by omega) (rA.fr m2) x.b
      have n2 : Fr (hA.new (.cells cs 112 true)) ((hA.new (.cells cs 112 true)).new (.cells cs 112 true)) := (Fr.refl _).new _
      refine ⟨_, ?_, f1.trans (m2.trans n2)⟩
      cases hq : persP b x.b <;> rw [hq] at n1 <;> simp only [S0, Nat.reduceAdd, Nat.reduceLeDiff, ↓reduceIte, sl hA rf, x2 hA rf, x3 hA rf, x4 hA rf, kn 1 k1, kn 2 k2, kn 3 k3, kk 4 k4, m1, sl _ m2, x3 _ m2, n1, x4 _ (m2.trans n2)]
  rw [if_neg k4]
  by_cases k5 : x.kind = 5
  · rw [if_pos k5]
    have m1 := f130_c K (d := e) (by omega) rA x.a
    have m2 : Fr hA (hA.new (.cells cs 112 true)) := rf.new _
    refine ⟨hA.new (.cells cs 112 true), ?_, f1.trans m2⟩
    cases hq : rideP b x.a <;> rw [hq] at m1 <;> simp only [S0, Nat.reduceAdd, Nat.reduceLeDiff, ↓reduceIte, sl hA rf, x2 hA rf, x3 hA rf, x4 hA rf, kn 1 k1, kn 2 k2, kn 3 k3, kn 4 k4, kk 5 k5, m1, x3 _ m2, x4 _ m2, w]
  rw [if_neg k5]
  by_cases k6 : x.kind = 6
  · rw [if_pos k6]
    have m1 := f130_c K (d := e) (by omega) rA x.a
    have m2 : Fr hA (hA.new (.cells cs 112 true)) := rf.new _
    refine ⟨hA.new (.cells cs 112 true), ?_, f1.trans m2⟩
    cases hq : rideP b x.a <;> rw [hq] at m1 <;> simp only [S0, Nat.reduceAdd, Nat.reduceLeDiff, ↓reduceIte, sl hA rf, x2 hA rf, x3 hA rf, x4 hA rf, kn 1 k1, kn 2 k2, kn 3 k3, kn 4 k4, kn 5 k5, kk 6 k6, m1, x3 _ m2, x4 _ m2]
  rw [if_neg k6]
  exact ⟨hA, by simp only [S0, Nat.reduceAdd, Nat.reduceLeDiff, ↓reduceIte, sl hA rf, x2 hA rf, x3 hA rf, x4 hA rf, kn 1 k1, kn 2 k2, kn 3 k3, kn 4 k4, kn 5 k5, kn 6 k6], f1⟩
end
end Go.Wz
