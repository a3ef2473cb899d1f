/- Contracts: power's Check and its reference. -/
import Derived.Test.YthidglhhfdjhhaaGreatGD
set_option linter.unusedVariables false
set_option linter.unusedSimpArgs false
namespace Go.Wz
open Go
structure Board where
  parent : Int
  rating : Int
  delay : Int
  loop : Int
def Board.enc (b : Board) : List Value := [I b.parent, I b.rating, I b.delay, I b.loop]
structure Load where
  board : Int
  phase : Int
  amps : Int
  rank : Int
def Load.enc (b : Load) : List Value := [I b.board, I b.phase, I b.amps, I b.rank]
structure Supply where
  boards : List Board
  loads : List Load
  power : Int
  hold : Int
  volts : Int
structure SupR (h : H) (cs : List Value) (s : Supply) : Prop where
  ex : ∃ v1 v2, cs = [v1, v2, I s.power, I s.hold, I s.volts] ∧ RS h 4 v1 (s.boards.map Board.enc) ∧ RS h 4 v2 (s.loads.map Load.enc)
  sb : s.boards.length < 5000
  sl : s.loads.length < 5000
theorem SupR.fr {h h' : H} {cs : List Value} {s : Supply} (r : SupR h cs s) (f : Fr h h') : SupR h' cs s := by
  obtain ⟨⟨v1, v2, h1, h2, h3⟩, h4, h5⟩ := r; exact ⟨⟨v1, v2, h1, h2.fr f, h3.fr f⟩, h4, h5⟩
def badBoard (i : Nat) (b : Board) : Bool := !wi b.parent (-1) ((i : Int) - 1) || !wi b.rating 1 1000 || !wi b.delay 0 20 || !wi b.loop 1 10000
def badLoad (n : Nat) (l : Load) : Bool := !wi l.board 0 ((n : Int) - 1) || !wi l.phase 0 2 || !wi l.amps 1 1000 || !wi l.rank 0 1000
def supBad0 (s : Supply) : Bool := decide ((s.boards.length : Int) > 10) || decide ((s.loads.length : Int) > 16) || !wi s.power 1 1000 || !wi s.hold 0 20 || !wi s.volts 1 1000
def supErr (s : Supply) : Int := if supBad0 s = true then 50 else if anyI badBoard 0 s.boards = true then 50 else if s.loads.any (badLoad s.boards.length) = true then 50 else 0
section
variable {C : Nat → CallT} {N : Nat} (K : CallsOf C N)
include K
theorem f53_c {d : Nat} (hd : 2 ≤ d) {cs : List Value} {s : Supply} {h : H} (r : SupR h cs s) :
    ∃ h', C d (.func 53) [.agg cs] h = some (.one (I (supErr s)), h') ∧ Fr h h' := by
  obtain ⟨e, he, rfl, hC⟩ := K.at (k := 1) hd
  have hb := K.big
  obtain ⟨⟨v1, v2, rfl, r1, r2⟩, hs1, hs2⟩ := r
  have hl1 := r1.len
  have hl2 := r2.len
  rw [List.length_map] at hl1 hl2
  obtain ⟨hA, eA⟩ : ∃ q, q = h.new (.cells [v1, v2, I s.power, I s.hold, I s.volts] 33 true) := ⟨_, rfl⟩
  have f1 : Fr h hA := by rw [eA]; exact (Fr.refl h).new _
  have g0 : ∀ h', Fr hA h' → h'.ld h.next 0 = some v1 := fun h' f => by rw [f.ld (by rw [eA]; simp), eA]; simp only [S0, Nat.reduceAdd, Nat.reduceLeDiff, ↓reduceIte]
  have g1 : ∀ h', Fr hA h' → h'.ld h.next 1 = some v2 := fun h' f => by rw [f.ld (by rw [eA]; simp), eA]; simp only [S0, Nat.reduceAdd, Nat.reduceLeDiff, ↓reduceIte]
  obtain ⟨h2, k2, k1⟩ := any_loop0 (LP := LP53_0 (C e) N) (l := s.boards) (fun i => [.one (ptr h.next 0), .one v1, .one (I s.boards.length), .one (I i)]) (vs0 := [.one (ptr h.next 0), .one v1, .one (I s.boards.length), .one (I 0)]) badBoard (fun h => (.ret (.one (I 50)), [], h)) (fun h' => (.exit 0, [.one (ptr h.next 0)], h')) (h0 := hA) rfl (m := N) (by omega)
    (fun m h1 f => by rw [LP53_0_succ]; unfold B53_0; simp only [S0, Nat.reduceAdd, Nat.reduceLeDiff, ↓reduceIte, in0])
    (fun i m h1 x hx hi f => by
      obtain ⟨b, o, _, _, e1, e2⟩ := r1.atx hx
      have e3 := (e2 h1 (f1.trans f)).1
      refine ⟨_, (Fr.refl h1).new (.cells x.enc 164 true), ?_⟩
      rw [LP53_0_succ]; unfold B53_0
      have p1 := pstn_new h1 (zs := [I 0, I 0, I 0, I 0]) (xs := x.enc) 164 rfl
      have hx5 : x.enc.length = 4 := rfl
      simp only [S0, Nat.reduceAdd, Nat.reduceLeDiff, ↓reduceIte, i0 hi, e1, e3, ifLen_eq, hx5, p1]
      simp only [S0, Nat.reduceAdd, Nat.reduceLeDiff, ↓reduceIte, Board.enc, w104 K he, badBoard, sub1 (show i < 2 ^ 40 by omega), i1 (show i + 1 ≤ s.boards.length from hi) (by omega), Bool.or_assoc])
  obtain ⟨h3, m2, m1⟩ := any_loop0 (LP := LP53_1 (C e) N) (l := s.loads) (fun i => [.one (ptr h.next 0), .one v2, .one (I s.loads.length), .one (I i)]) (vs0 := [.one (ptr h.next 0), .one v2, .one (I s.loads.length), .one (I 0)]) (fun _ => badLoad s.boards.length) (fun h => (.ret (.one (I 50)), [], h)) (fun h' => (.exit 2, [], h')) (h0 := h2) rfl (m := N) (by omega)
    (fun m h1 f => by rw [LP53_1_succ]; unfold B53_1; simp only [S0, Nat.reduceAdd, Nat.reduceLeDiff, ↓reduceIte, in0])
    (fun i m h1 x hx hi f => by
      obtain ⟨b, o, _, _, e1, e2⟩ := r2.atx hx
      have e3 := (e2 h1 (f1.trans (k2.trans f))).1
      refine ⟨_, (Fr.refl h1).new (.cells x.enc 166 true), ?_⟩
      rw [LP53_1_succ]; unfold B53_1
      have p1 := pstn_new h1 (zs := [I 0, I 0, I 0, I 0]) (xs := x.enc) 166 rfl
      have hx5 : x.enc.length = 4 := rfl
      have g0' := g0 (h1.new (.cells x.enc 166 true)) (k2.trans (f.trans ((Fr.refl h1).new _)))
      simp only [S0, Nat.reduceAdd, Nat.reduceLeDiff, ↓reduceIte, i0 hi, e1, e3, ifLen_eq, hx5, p1, g0', hl1, sub1 (show s.boards.length < 2 ^ 40 by omega)]
      simp only [S0, Nat.reduceAdd, Nat.reduceLeDiff, ↓reduceIte, Load.enc, w104 K he, badLoad, i1 (show i + 1 ≤ s.loads.length from hi) (by omega), Bool.or_assoc])
  rw [anyI_any] at m1
  rw [hC _ _ _ rfl, F53_eq]; unfold F53 supErr supBad0
  rw [← eA]
  simp only [S0, Nat.reduceAdd, Nat.reduceLeDiff, ↓reduceIte, w104 K he, g0 hA (.refl _), g1 hA (.refl _), hl1, hl2]
  have e2 : hA.ld h.next 2 = some (I s.power) := by rw [eA]; simp only [S0, Nat.reduceAdd, Nat.reduceLeDiff, ↓reduceIte]
  have e3 : hA.ld h.next 3 = some (I s.hold) := by rw [eA]; simp only [S0, Nat.reduceAdd, Nat.reduceLeDiff, ↓reduceIte]
  have e4 : hA.ld h.next 4 = some (I s.volts) := by rw [eA]; simp only [S0, Nat.reduceAdd, Nat.reduceLeDiff, ↓reduceIte]
  simp only [S0, Nat.reduceAdd, Nat.reduceLeDiff, ↓reduceIte, e2, e3, e4, w104 K he]
  cases hQ : (decide ((s.boards.length : Int) > 10) || decide ((s.loads.length : Int) > 16) || !wi s.power 1 1000 || !wi s.hold 0 20 || !wi s.volts 1 1000) with
  | true => exact ⟨_, by simp only [S0, Nat.reduceAdd, Nat.reduceLeDiff, ↓reduceIte, hQ], f1⟩
  | false =>
    cases hX : anyI badBoard 0 s.boards with
    | true =>
      rw [hX] at k1
      exact ⟨h2, by simp only [S0, Nat.reduceAdd, Nat.reduceLeDiff, ↓reduceIte, hQ, g0 hA (.refl _), hl1, k1], f1.trans k2⟩
    | false =>
      rw [hX] at k1
      refine ⟨h3, ?_, f1.trans (k2.trans m2)⟩
      cases hY : s.loads.any (badLoad s.boards.length) <;> rw [hY] at m1 <;> simp only [S0, Nat.reduceAdd, Nat.reduceLeDiff, ↓reduceIte, hQ, g0 hA (.refl _), hl1, k1, g1 h2 k2, hl2, m1]
theorem f60_c {d : Nat} (hd : 2 ≤ d) {cs : List Value} {s : Supply} {h : H} (r : SupR h cs s) :
    ∃ h', C d (.func 60) [.agg cs] h = some (.one (I (supErr s)), h') ∧ Fr h h' := by
  obtain ⟨e, he, rfl, hC⟩ := K.at (k := 1) hd
  have hb := K.big
  obtain ⟨⟨v1, v2, rfl, r1, r2⟩, hs1, hs2⟩ := r
  have hl1 := r1.len
  have hl2 := r2.len
  rw [List.length_map] at hl1 hl2
  obtain ⟨hA, eA⟩ : ∃ q, q = h.new (.cells [v1, v2, I s.power, I s.hold, I s.volts] 33 true) := ⟨_, rfl⟩
  have f1 : Fr h hA := by rw [eA]; exact (Fr.refl h).new _
  have g0 : ∀ h', Fr hA h' → h'.ld h.next 0 = some v1 := fun h' f => by rw [f.ld (by rw [eA]; simp), eA]; simp only [S0, Nat.reduceAdd, Nat.reduceLeDiff, ↓reduceIte]
  have g1 : ∀ h', Fr hA h' → h'.ld h.next 1 = some v2 := fun h' f => by rw [f.ld (by rw [eA]; simp), eA]; simp only [S0, Nat.reduceAdd, Nat.reduceLeDiff, ↓reduceIte]
  obtain ⟨h2, k2, k1⟩ := any_loop0 (LP := LP60_0 (C e) N) (l := s.boards) (fun i => [.one (ptr h.next 0), .one (I i)]) (vs0 := [.one (ptr h.next 0), .one (I 0)]) badBoard (fun h => (.ret (.one (I 50)), [], h)) (fun h' => (.exit 0, [.one (ptr h.next 0)], h')) (h0 := hA) rfl (m := N) (by omega)
    (fun m h1 f => by rw [LP60_0_succ]; unfold B60_0; simp only [S0, Nat.reduceAdd, Nat.reduceLeDiff, ↓reduceIte, g0 h1 f, hl1, in0])
    (fun i m h1 x hx hi f => by
      obtain ⟨b, o, _, _, e1, e2⟩ := r1.atx hx
      have e3 := (e2 h1 (f1.trans f)).1
      refine ⟨_, (Fr.refl h1).new (.cells x.enc 164 true), ?_⟩
      rw [LP60_0_succ]; unfold B60_0
      have p1 := pstn_new h1 (zs := [I 0, I 0, I 0, I 0]) (xs := x.enc) 164 rfl
      have hx5 : x.enc.length = 4 := rfl
      simp only [S0, Nat.reduceAdd, Nat.reduceLeDiff, ↓reduceIte, g0 h1 f, hl1, i0 hi, e1, e3, ifLen_eq, hx5, p1]
      simp only [S0, Nat.reduceAdd, Nat.reduceLeDiff, ↓reduceIte, Board.enc, w110 K he, badBoard, sub1 (show i < 2 ^ 40 by omega), i1 (show i + 1 ≤ s.boards.length from hi) (by omega), Bool.or_assoc])
  obtain ⟨h3, m2, m1⟩ := any_loop0 (LP := LP60_1 (C e) N) (l := s.loads) (fun i => [.one (ptr h.next 0), .one (I i)]) (vs0 := [.one (ptr h.next 0), .one (I 0)]) (fun _ => badLoad s.boards.length) (fun h => (.ret (.one (I 50)), [], h)) (fun h' => (.exit 2, [], h')) (h0 := h2) rfl (m := N) (by omega)
    (fun m h1 f => by rw [LP60_1_succ]; unfold B60_1; simp only [S0, Nat.reduceAdd, Nat.reduceLeDiff, ↓reduceIte, g1 h1 (k2.trans f), hl2, in0])
    (fun i m h1 x hx hi f => by
      obtain ⟨b, o, _, _, e1, e2⟩ := r2.atx hx
      have e3 := (e2 h1 (f1.trans (k2.trans f))).1
      refine ⟨_, (Fr.refl h1).new (.cells x.enc 166 true), ?_⟩
      rw [LP60_1_succ]; unfold B60_1
      have p1 := pstn_new h1 (zs := [I 0, I 0, I 0, I 0]) (xs := x.enc) 166 rfl
      have hx5 : x.enc.length = 4 := rfl
      have g0' := g0 (h1.new (.cells x.enc 166 true)) (k2.trans (f.trans ((Fr.refl h1).new _)))
      simp only [S0, Nat.reduceAdd, Nat.reduceLeDiff, ↓reduceIte, g1 h1 (k2.trans f), hl2, i0 hi, e1, e3, ifLen_eq, hx5, p1, g0', hl1, sub1 (show s.boards.length < 2 ^ 40 by omega)]
      simp only [S0, Nat.reduceAdd, Nat.reduceLeDiff, ↓reduceIte, Load.enc, w110 K he, badLoad, i1 (show i + 1 ≤ s.loads.length from hi) (by omega), Bool.or_assoc])
  rw [anyI_any] at m1
  rw [hC _ _ _ rfl, F60_eq]; unfold F60 supErr supBad0
  rw [← eA]
  simp only [S0, Nat.reduceAdd, Nat.reduceLeDiff, ↓reduceIte, w110 K he, g0 hA (.refl _), g1 hA (.refl _), hl1, hl2]
  have e2 : hA.ld h.next 2 = some (I s.power) := by rw [eA]; simp only [S0, Nat.reduceAdd, Nat.reduceLeDiff, ↓reduceIte]
  have e3 : hA.ld h.next 3 = some (I s.hold) := by rw [eA]; simp only [S0, Nat.reduceAdd, Nat.reduceLeDiff, ↓reduceIte]
  have e4 : hA.ld h.next 4 = some (I s.volts) := by rw [eA]; simp only [S0, Nat.reduceAdd, Nat.reduceLeDiff, ↓reduceIte]
  simp only [S0, Nat.reduceAdd, Nat.reduceLeDiff, ↓reduceIte, e2, e3, e4, w110 K he]
  cases hQ : (decide ((s.boards.length : Int) > 10) || decide ((s.loads.length : Int) > 16) || !wi s.power 1 1000 || !wi s.hold 0 20 || !wi s.volts 1 1000) with
  | true => exact ⟨_, by simp only [S0, Nat.reduceAdd, Nat.reduceLeDiff, ↓reduceIte, hQ], f1⟩
  | false =>
    cases hX : anyI badBoard 0 s.boards with
    | true =>
      rw [hX] at k1
      exact ⟨h2, by simp only [S0, Nat.reduceAdd, Nat.reduceLeDiff, ↓reduceIte, hQ, k1], f1.trans k2⟩
    | false =>
      rw [hX] at k1
      refine ⟨h3, ?_, f1.trans (k2.trans m2)⟩
      cases hY : s.loads.any (badLoad s.boards.length) <;> rw [hY] at m1 <;> simp only [S0, Nat.reduceAdd, Nat.reduceLeDiff, ↓reduceIte, hQ, k1, m1]
end
end Go.Wz
