/- Contracts: the reference's Check of an evening and groups. -/
import Derived.Test.YthidglhhfdjhhaaGreatGC
set_option linter.unusedVariables false
set_option linter.unusedSimpArgs false
namespace Go.Wz
open Go
section
variable {C : Nat → CallT} {N : Nat} (K : CallsOf C N)
include K
theorem f58_c {d : Nat} (hd : 3 ≤ d) {cs : List Value} {ev : Evening} {v : Value} {gs : List Group} {h : H} (r : EvR h cs ev) (rg : GroupsR h v gs) :
    ∃ h', C d (.func 58) [.agg cs, .one v] h = some (.one (I (queueErr ev gs)), h') ∧ Fr h h' := by
  obtain ⟨e, he, rfl, hC⟩ := K.at (k := 2) hd
  have hb := K.big
  have hlg := rg.len
  have f1 := (Fr.refl h).new (.cells cs 24 true)
  obtain ⟨h2, k1, k2⟩ := f106_c K (show 2 ≤ e by omega) (r.fr f1)
  obtain ⟨⟨vr, rfl, r1⟩, hs⟩ := r
  have hlr := r1.len
  rw [List.length_map] at hlr
  obtain ⟨l, l1, l2, l3⟩ := (rg.fr (f1.trans k2)).ex
  have hsm := rg.small
  have hll : l.length = gs.length := by rw [l3]; simp
  have hnx := k2.nx
  simp only [H.new_next] at hnx
  have g0 : ∀ h', Fr h2 h' → h'.ld h.next 0 = some vr := fun h' f => by rw [(k2.trans f).ld (by simp)]; simp only [S0, Nat.reduceAdd, Nat.reduceLeDiff, ↓reduceIte]
  obtain ⟨h3, m2, m1⟩ := any_loop0 (LP := LP58_0 (C e) N) (l := l) (fun i => [.one v, .one (ptr h.next 0), .one (I i)]) (vs0 := [.one v, .one (ptr h.next 0), .one (I 0)]) (fun _ x => badGroup ev.rides.length x.2) (fun h => (.ret (.one (I 71)), [], h)) (fun h => (.exit 0, [], h)) (h0 := h2) rfl (m := N) (by omega)
    (fun m h1 f => by rw [LP58_0_succ]; unfold B58_0; simp only [S0, Nat.reduceAdd, Nat.reduceLeDiff, ↓reduceIte, hlg, hll, in0])
    (fun i m h1 x hx hi f => by
      obtain ⟨bo, oo, _, _, e1, e2⟩ := RS.atx (enc := fun x : List Value × Group => x.1) l1 hx
      have e3 := (e2 h1 f).1
      have hxm := List.mem_of_getElem? hx
      obtain ⟨vw, q1, q2⟩ := l2 x hxm
      have hws : x.2.wants.length < 5000 := rg.wsmall x.2 (by rw [l3]; exact List.mem_map_of_mem hxm)
      rw [q1] at e3
      have p1 := pstn_new h1 (zs := [I 0, I 0, I 0, .slice none 0 0, I 0]) (xs := [I x.2.at_, I x.2.size, I x.2.tokens, vw, I x.2.patience]) 61 rfl
      have f2 := (Fr.refl h1).new (.cells [I x.2.at_, I x.2.size, I x.2.tokens, vw, I x.2.patience] 61 true)
      have hlw := q2.len
      obtain ⟨h4, n2, n1⟩ := any_loop0 (LP := LP58_1 (C e) N) (l := x.2.wants) (fun k => [.one v, .one (ptr h.next 0), .one (I i), .one (ptr h1.next 0), .one (I k)]) (vs0 := [.one v, .one (ptr h.next 0), .one (I i), .one (ptr h1.next 0), .one (I 0)])
        (fun _ w => !wi w 0 ((ev.rides.length : Int) - 1)) (fun h => (.ret (.one (I 71)), [], h)) (fun h' => (.exit 2, [.one v, .one (ptr h.next 0), .one (I i)], h')) (h0 := h1.new (.cells [I x.2.at_, I x.2.size, I x.2.tokens, vw, I x.2.patience] 61 true)) rfl (m := N) (by omega)
        (fun m h5 f5 => by
          have w3 : h5.ld h1.next 3 = some vw := by rw [f5.ld (by simp)]; simp only [S0, Nat.reduceAdd, Nat.reduceLeDiff, ↓reduceIte]
          rw [LP58_1_succ]; unfold B58_1; simp only [S0, Nat.reduceAdd, Nat.reduceLeDiff, ↓reduceIte, w3, hlw, in0])
        (fun k m h5 w hw hk f5 => by
          have w3 : h5.ld h1.next 3 = some vw := by rw [f5.ld (by simp)]; simp only [S0, Nat.reduceAdd, Nat.reduceLeDiff, ↓reduceIte]
          obtain ⟨bw, ow, _, _, e5, e6⟩ := q2.atx hw
          have e7 := e6 h5 (f.trans (f2.trans f5))
          refine ⟨h5, .refl h5, ?_⟩
          rw [LP58_1_succ]; unfold B58_1
          simp only [S0, Nat.reduceAdd, Nat.reduceLeDiff, ↓reduceIte, w3, hlw, i0 hk, e5, e7, g0 h5 (f.trans (f2.trans f5)), hlr, sub1 (show ev.rides.length < 2 ^ 40 by omega), w107 K (show 1 ≤ e by omega), i1 (show k + 1 ≤ x.2.wants.length from hk) (by omega)])
      rw [anyI_any] at n1
      have hcomm : ((((!wi x.2.at_ 0 2000 || !wi x.2.size 1 40) || !wi x.2.tokens 0 10000) || decide ((x.2.wants.length : Int) > 10)) || !wi x.2.patience 0 2000) =
          ((((!wi x.2.at_ 0 2000 || !wi x.2.size 1 40) || !wi x.2.tokens 0 10000) || !wi x.2.patience 0 2000) || decide ((x.2.wants.length : Int) > 10)) := by
        rw [Bool.or_assoc, Bool.or_comm (decide _), ← Bool.or_assoc]
      have hbad : badGroup ev.rides.length x.2 = (((((!wi x.2.at_ 0 2000 || !wi x.2.size 1 40) || !wi x.2.tokens 0 10000) || !wi x.2.patience 0 2000) || decide ((x.2.wants.length : Int) > 10)) || x.2.wants.any fun w => !wi w 0 ((ev.rides.length : Int) - 1)) := rfl
      cases hQ : ((((!wi x.2.at_ 0 2000 || !wi x.2.size 1 40) || !wi x.2.tokens 0 10000) || !wi x.2.patience 0 2000) || decide ((x.2.wants.length : Int) > 10)) with
      | true =>
        rw [hQ] at hcomm hbad
        refine ⟨_, f2, ?_⟩
        rw [LP58_0_succ]; unfold B58_0
        simp only [S0, Nat.reduceAdd, Nat.reduceLeDiff, ↓reduceIte, hlg, hll ▸ i0 hi, e1, e3, ifLen_eq, p1]
        simp only [S0, Nat.reduceAdd, Nat.reduceLeDiff, ↓reduceIte, w107 K (show 1 ≤ e by omega), hlw, hcomm, hbad]
      | false =>
        rw [hQ] at hcomm hbad
        refine ⟨h4, f2.trans n2, ?_⟩
        rw [LP58_0_succ]; unfold B58_0
        simp only [S0, Nat.reduceAdd, Nat.reduceLeDiff, ↓reduceIte, hlg, hll ▸ i0 hi, e1, e3, ifLen_eq, p1]
        simp only [S0, Nat.reduceAdd, Nat.reduceLeDiff, ↓reduceIte, w107 K (show 1 ≤ e by omega), hlw, hcomm, hbad]
        rw [n1]
        cases hX : x.2.wants.any fun w => !wi w 0 ((ev.rides.length : Int) - 1) <;> simp only [S0, Nat.reduceAdd, Nat.reduceLeDiff, ↓reduceIte, i1 (show i + 1 ≤ l.length from hi) (by omega)])
  rw [anyI_any] at m1
  have m4 : (l.any fun x => badGroup ev.rides.length x.2) = gs.any (badGroup ev.rides.length) := by rw [l3, List.any_map]; rfl
  rw [m4] at m1
  rw [hC _ _ _ rfl, F58_eq]; unfold F58 queueErr
  cases hE : evBad ev <;> rw [hE] at k1
  · simp only [S0, Nat.reduceAdd, Nat.reduceLeDiff, ↓reduceIte] at k1
    simp only [S0, Nat.reduceAdd, Nat.reduceLeDiff, ↓reduceIte, k1, hlg]
    cases hG : decide ((gs.length : Int) > 60)
    · simp only [S0, Nat.reduceAdd, Nat.reduceLeDiff, ↓reduceIte, m1]
      refine ⟨h3, ?_, f1.trans (k2.trans m2)⟩
      cases gs.any (badGroup ev.rides.length) <;> simp only [S0, Nat.reduceAdd, Nat.reduceLeDiff, ↓reduceIte]
    · exact ⟨h2, by simp only [S0, Nat.reduceAdd, Nat.reduceLeDiff, ↓reduceIte], f1.trans k2⟩
  · simp only [S0, Nat.reduceAdd, Nat.reduceLeDiff, ↓reduceIte] at k1
    exact ⟨h2, by simp only [S0, Nat.reduceAdd, Nat.reduceLeDiff, ↓reduceIte, k1]; rfl, f1.trans k2⟩
end
end Go.Wz
