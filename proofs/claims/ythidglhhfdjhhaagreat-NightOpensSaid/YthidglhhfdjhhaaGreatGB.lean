/- Contracts: queue.Check. -/
import Derived.Test.YthidglhhfdjhhaaGreatGA
import Derived.Test.YthidglhhfdjhhaaGreatRP
import Derived.Test.YthidglhhfdjhhaaGreatRQ
import Derived.Test.YthidglhhfdjhhaaGreatR6
set_option linter.unusedVariables false
set_option linter.unusedSimpArgs false
namespace Go.Wz
open Go

def wi (n lo hi : Int) : Bool := decide (n ≥ lo) && decide (n ≤ hi)
theorem pstn_new (h : H) {zs xs : List Value} (e : TypeId) (hl : xs.length = zs.length) : pstn (h.new (.cells zs e true)) xs (ptr h.next 0) = some (h.new (.cells xs e true)) := by
  rw [pstn_ptr, H.stn_of _ (H.new_get_same _ _), if_pos (by omega)]
  congr 1
  have : splice zs 0 xs = xs := by unfold splice; simp [hl]
  rw [this]
  cases h
  unfold H.put H.new
  congr 1
  funext i
  simp only
  split <;> rfl
section
variable {C : Nat → CallT} {N : Nat} (K : CallsOf C N)
include K
theorem w101 {d : Nat} (hd : 1 ≤ d) (n lo hi : Int) (h : H) : C d (.func 101) [.one (I n), .one (I lo), .one (I hi)] h = some (.one (.bool (wi n lo hi)), h) := by
  obtain ⟨e, _, rfl, hC⟩ := K.at (k := 0) hd
  rw [hC _ _ _ rfl, F101_eq]; unfold F101 wi; simp only [S0, Nat.reduceAdd, Nat.reduceLeDiff, ↓reduceIte]
theorem w104 {d : Nat} (hd : 1 ≤ d) (n lo hi : Int) (h : H) : C d (.func 104) [.one (I n), .one (I lo), .one (I hi)] h = some (.one (.bool (wi n lo hi)), h) := by
  obtain ⟨e, _, rfl, hC⟩ := K.at (k := 0) hd
  rw [hC _ _ _ rfl, F104_eq]; unfold F104 wi; simp only [S0, Nat.reduceAdd, Nat.reduceLeDiff, ↓reduceIte]
theorem w107 {d : Nat} (hd : 1 ≤ d) (n lo hi : Int) (h : H) : C d (.func 107) [.one (I n), .one (I lo), .one (I hi)] h = some (.one (.bool (wi n lo hi)), h) := by
  obtain ⟨e, _, rfl, hC⟩ := K.at (k := 0) hd
  rw [hC _ _ _ rfl, F107_eq]; unfold F107 wi; simp only [S0, Nat.reduceAdd, Nat.reduceLeDiff, ↓reduceIte]
theorem w110 {d : Nat} (hd : 1 ≤ d) (n lo hi : Int) (h : H) : C d (.func 110) [.one (I n), .one (I lo), .one (I hi)] h = some (.one (.bool (wi n lo hi)), h) := by
  obtain ⟨e, _, rfl, hC⟩ := K.at (k := 0) hd
  rw [hC _ _ _ rfl, F110_eq]; unfold F110 wi; simp only [S0, Nat.reduceAdd, Nat.reduceLeDiff, ↓reduceIte]
theorem w111 {d : Nat} (hd : 1 ≤ d) (n lo hi : Int) (h : H) : C d (.func 111) [.one (I n), .one (I lo), .one (I hi)] h = some (.one (.bool (wi n lo hi)), h) := by
  obtain ⟨e, _, rfl, hC⟩ := K.at (k := 0) hd
  rw [hC _ _ _ rfl, F111_eq]; unfold F111 wi; simp only [S0, Nat.reduceAdd, Nat.reduceLeDiff, ↓reduceIte]
theorem w183 {d : Nat} (hd : 1 ≤ d) (n lo hi : Int) (h : H) : C d (.func 183) [.one (I n), .one (I lo), .one (I hi)] h = some (.one (.bool (wi n lo hi)), h) := by
  obtain ⟨e, _, rfl, hC⟩ := K.at (k := 0) hd
  rw [hC _ _ _ rfl, F183_eq]; unfold F183 wi; simp only [S0, Nat.reduceAdd, Nat.reduceLeDiff, ↓reduceIte]
end

structure Booth where
  seats : Int
  price : Int
  cycle : Int
  pause : Int
  fill : Bool
def Booth.enc (b : Booth) : List Value := [I b.seats, I b.price, I b.cycle, I b.pause, .bool b.fill]
def RInt (h : H) (v : Value) (l : List Int) : Prop := RS h 1 v (l.map fun x => [I x])
structure Evening where
  rides : List Booth
  walk : Int
structure EvR (h : H) (cs : List Value) (ev : Evening) : Prop where
  ex : ∃ v, cs = [v, I ev.walk] ∧ RS h 5 v (ev.rides.map Booth.enc)
  small : ev.rides.length < 5000
theorem EvR.fr {h h' : H} {cs : List Value} {ev : Evening} (r : EvR h cs ev) (f : Fr h h') : EvR h' cs ev := by
  obtain ⟨⟨v, h1, h2⟩, h3⟩ := r; exact ⟨⟨v, h1, h2.fr f⟩, h3⟩
def badBooth (b : Booth) : Bool := !wi b.seats 1 40 || !wi b.price 0 100 || !wi b.cycle 1 100 || !wi b.pause 0 100
def evBad (ev : Evening) : Bool := decide ((ev.rides.length : Int) > 8) || !wi ev.walk 0 100 || ev.rides.any badBooth
section
variable {C : Nat → CallT} {N : Nat} (K : CallsOf C N)
include K
theorem f178_c {d : Nat} (hd : 2 ≤ d) (b : Booth) (h : H) : C d (.func 178) [.agg b.enc] h = some (.one (.bool (badBooth b)), h.new (.cells b.enc 89 true)) := by
  obtain ⟨e, he, rfl, hC⟩ := K.at (k := 1) hd
  rw [hC _ _ _ rfl, F178_eq]; unfold F178 badBooth Booth.enc
  simp only [S0, Nat.reduceAdd, Nat.reduceLeDiff, ↓reduceIte, w101 K he, Bool.or_assoc]
theorem f98_c {d : Nat} (hd : 5 ≤ d) {cs : List Value} {ev : Evening} {h : H} (r : EvR h cs ev) :
    ∃ h', C d (.func 98) [.agg cs] h = some (.one (I (if evBad ev = true then 70 else 0)), h') ∧ Fr h h' := by
  obtain ⟨e, he, rfl, hC⟩ := K.at (k := 4) hd
  obtain ⟨⟨v, rfl, r1⟩, hs⟩ := r
  have f1 := (Fr.refl h).new (.cells [v, I ev.walk] 24 true)
  have hl := r1.len
  rw [List.length_map] at hl
  obtain ⟨h2, k1, k2⟩ := indexF K (fi := 231) (LP := LP231_0) rfl (fun _ _ _ _ _ => F231_eq _ _ _ _ _) (fun _ _ _ _ _ _ _ _ => LP231_0_succ _ _ _ _ _ _ _ _) (d := e - 2) (p := badBooth) (vf := .func (.func 178) #[] #[]) (r1.fr f1) hs
    (fun x hx h1 _ => ⟨_, by rw [callV_func]; exact f178_c K (by omega) x h1, (Fr.refl h1).new _⟩)
  have k3 := containsF K (fc := 179) rfl (fun _ _ _ _ _ => F179_eq _ _ _ _ _) k1
  rw [show e - 2 + 2 = e by omega] at k3
  rw [hC _ _ _ rfl, F98_eq]; unfold F98 evBad
  simp only [S0, Nat.reduceAdd, Nat.reduceLeDiff, ↓reduceIte, w101 K (show 1 ≤ e by omega), hl]
  cases hA : decide ((ev.rides.length : Int) > 8)
  · cases hB : wi ev.walk 0 100
    · exact ⟨_, by simp only [S0, Nat.reduceAdd, Nat.reduceLeDiff, ↓reduceIte], f1⟩
    · refine ⟨h2, ?_, f1.trans k2⟩
      cases hX : ev.rides.any badBooth <;> rw [hX] at k3 <;> simp only [S0, Nat.reduceAdd, Nat.reduceLeDiff, ↓reduceIte, k3]
  · exact ⟨_, by simp only [S0, Nat.reduceAdd, Nat.reduceLeDiff, ↓reduceIte], f1⟩

theorem f106_c {d : Nat} (hd : 2 ≤ d) {cs : List Value} {ev : Evening} {h : H} (r : EvR h cs ev) :
    ∃ h', C d (.func 106) [.agg cs] h = some (.one (I (if evBad ev = true then 70 else 0)), h') ∧ Fr h h' := by
  obtain ⟨e, he, rfl, hC⟩ := K.at (k := 1) hd
  obtain ⟨⟨v, rfl, r1⟩, hs⟩ := r
  have hb := K.big
  have f1 := (Fr.refl h).new (.cells [v, I ev.walk] 24 true)
  have hl := r1.len
  rw [List.length_map] at hl
  have g0 : ∀ h', Fr (h.new (.cells [v, I ev.walk] 24 true)) h' → h'.ld h.next 0 = some v := fun h' f => by rw [f.ld (by simp)]; simp only [S0, Nat.reduceAdd, Nat.reduceLeDiff, ↓reduceIte]
  obtain ⟨h2, k2, k1⟩ := any_loop0 (LP := LP106_0 (C e) N) (l := ev.rides) (fun i => [.one (ptr h.next 0), .one (I i)]) (vs0 := [.one (ptr h.next 0), .one (I 0)]) (fun _ b => badBooth b) (fun h => (.ret (.one (I 70)), [], h)) (fun h => (.exit 0, [], h)) (h0 := h.new (.cells [v, I ev.walk] 24 true)) rfl (m := N) (by omega)
    (fun m h1 f => by rw [LP106_0_succ]; unfold B106_0; simp only [S0, Nat.reduceAdd, Nat.reduceLeDiff, ↓reduceIte, g0 h1 f, hl, in0])
    (fun i m h1 x hx hi f => by
      obtain ⟨b, o, _, _, e1, e2⟩ := r1.atx hx
      have e3 := (e2 h1 (f1.trans f)).1
      refine ⟨_, (Fr.refl h1).new (.cells x.enc 89 true), ?_⟩
      rw [LP106_0_succ]; unfold B106_0
      have p1 := pstn_new h1 (zs := [I 0, I 0, I 0, I 0, .bool false]) (xs := x.enc) 89 rfl
      have hx5 : x.enc.length = 5 := rfl
      simp only [S0, Nat.reduceAdd, Nat.reduceLeDiff, ↓reduceIte, g0 h1 f, hl, i0 hi, e1, e3, ifLen_eq, hx5, p1]
      simp only [S0, Nat.reduceAdd, Nat.reduceLeDiff, ↓reduceIte, Booth.enc, w107 K he, badBooth, i1 (show i + 1 ≤ ev.rides.length from hi) (by omega), Bool.or_assoc])
  rw [anyI_any] at k1
  rw [hC _ _ _ rfl, F106_eq]; unfold F106 evBad
  simp only [S0, Nat.reduceAdd, Nat.reduceLeDiff, ↓reduceIte, w107 K he, hl]
  cases hA : decide ((ev.rides.length : Int) > 8)
  · cases hB : wi ev.walk 0 100
    · exact ⟨_, by simp only [S0, Nat.reduceAdd, Nat.reduceLeDiff, ↓reduceIte], f1⟩
    · refine ⟨h2, ?_, f1.trans k2⟩
      cases hX : ev.rides.any badBooth <;> rw [hX] at k1 <;> simp only [S0, Nat.reduceAdd, Nat.reduceLeDiff, ↓reduceIte, k1]
  · exact ⟨_, by simp only [S0, Nat.reduceAdd, Nat.reduceLeDiff, ↓reduceIte], f1⟩
end
end Go.Wz
