/- Contracts: the reference's Fits. -/
import Derived.Test.YthidglhhfdjhhaaGreatGH
set_option linter.unusedVariables false
set_option linter.unusedSimpArgs false
namespace Go.Wz
open Go

def inR (set : Int) (i : Nat) : Bool := i64and (set.fdiv (2 ^ i)) 1 == 1
/-- where the reference's 'under' ends -/
def undF (s : Supply) (top : Int) : Nat → Int → Int
  | 0, b => b
  | k + 1, b => if b > top then undF s top k (par s b) else b
def under (s : Supply) (b top : Int) : Bool := undF s top (b.toNat + 1) b == top
def curF (q : Nat → Load → Bool) : Nat → List Load → Int → Int
  | _, [], a => a
  | i, l :: t, a => curF q (i + 1) t (if q i l = true then a + l.amps else a)
def condR (s : Supply) (set b : Int) (ph : Int) (i : Nat) (l : Load) : Bool := inR set i && l.phase == ph && (decide (b < 0) || under s l.board b)
def curR (s : Supply) (set b ph : Int) : Int := curF (condR s set b ph) 0 s.loads 0
def bearsR (s : Supply) (b : Int) : Int := if b < 0 then s.power else ((s.boards[b.toNat]?).map Board.rating).getD 0
def overB (s : Supply) (set b : Int) : Bool := anyI (fun i (_ : Nat) => decide (curR s set b (i : Int) > bearsR s b)) 0 [0, 1, 2]
def overR (s : Supply) (set : Int) : Int × Bool :=
  match findI (fun i (_ : Nat) => overB s set ((i : Int) - 1)) 0 (List.range (s.boards.length + 1)) with
  | some i => ((i : Int) - 1, true)
  | none => (0, false)
theorem SupR.frz {h : H} {cs : List Value} {s : Supply} (r : SupR h cs s) (i : Nat) : SupR (frzL [i] h) cs s := by
  obtain ⟨⟨v1, v2, h1, h2, h3⟩, h4, h5⟩ := r; exact ⟨⟨v1, v2, h1, h2.frz i, h3.frz i⟩, h4, h5⟩
section
variable {C : Nat → CallT} {N : Nat} (K : CallsOf C N)
include K
theorem f305_c {d : Nat} (hd : 1 ≤ d) {cs : List Value} {s : Supply} (so : SupOk s) {b top : Int} {h : H} (r : SupR h cs s) (hb : -1 ≤ b ∧ b < s.boards.length) (ht : 0 ≤ top) :
    ∃ h', C d (.func 305) [.agg cs, .one (I b), .one (I top)] h = some (.one (.bool (under s b top)), h') ∧ Fr h h' := by
  obtain ⟨e, _, rfl, hC⟩ := K.at (k := 0) hd
  have hN := K.big
  have hnb := so.nb
  have f1 := (Fr.refl h).new (.cells cs 33 true)
  obtain ⟨⟨v1, v2, rfl, r1, r2⟩, hs1, hs2⟩ := r
  obtain ⟨hA, eA⟩ : ∃ q, q = h.new (.cells [v1, v2, I s.power, I s.hold, I s.volts] 33 true) := ⟨_, rfl⟩
  rw [← eA] at f1
  have g0 : hA.ld h.next 0 = some v1 := by rw [eA]; simp only [S0, Nat.reduceAdd, Nat.reduceLeDiff, ↓reduceIte]
  have loop : ∀ (k m : Nat) (b : Int), b.toNat < k → k ≤ m → -1 ≤ b ∧ b < s.boards.length →
      LP305_0 (C e) N m [.one (I b), .one (I top), .one (ptr h.next 0)] hA = some (.exit 0, [.one (I (undF s top k b)), .one (I top)], hA) := by
    intro k
    induction k with
    | zero => intro m b h0; omega
    | succ k ih =>
      intro m b h0 h1 h2
      obtain ⟨m, rfl⟩ : ∃ q, m = q + 1 := ⟨m - 1, by omega⟩
      rw [LP305_0_succ]; unfold B305_0 undF
      by_cases hbt : b > top
      · have hd' : decide (b > top) = true := by simpa using hbt
        have hlt : b.toNat < s.boards.length := by omega
        obtain ⟨br, or_, _, _, q1, q2⟩ := r1.atx (i := b.toNat) (x := s.boards[b.toNat]) (List.getElem?_eq_getElem hlt)
        have q3 := (q2 hA f1).2 0 (by omega)
        rw [show ((b.toNat : Nat) : Int) = b by omega] at q1
        have hpar : par s b = (s.boards[b.toNat]).parent := by unfold par; rw [List.getElem?_eq_getElem hlt]; rfl
        have q4 : hA.ld br or_ = some (I (par s b)) := by rw [hpar]; simpa [Board.enc] using q3
        have hpl := so.parlt (by omega) h2.2
        rw [if_pos hbt]
        simp only [S0, Nat.reduceAdd, Nat.reduceLeDiff, ↓reduceIte, hd', g0, q1, q4]
        exact ih m (par s b) (by omega) (by omega) (by omega)
      · have hd' : decide (b > top) = false := by simpa using hbt
        rw [if_neg hbt]
        simp only [S0, Nat.reduceAdd, Nat.reduceLeDiff, ↓reduceIte, hd']
  rw [hC _ _ _ rfl, F305_eq]; unfold F305 under
  rw [← eA]
  have l1 := loop (b.toNat + 1) N b (by omega) (by omega) hb
  exact ⟨hA, by simp only [S0, Nat.reduceAdd, Nat.reduceLeDiff, ↓reduceIte, l1], f1⟩
theorem f281_c {d : Nat} (hd : 1 ≤ d) {cs : List Value} {s : Supply} {b : Int} {h : H} (r : SupR h cs s) (hb : b < s.boards.length) : C d (.func 281) [.agg cs, .one (I b)] h = some (.one (I (bearsR s b)), h.new (.cells cs 33 true)) := by
  obtain ⟨e, _, rfl, hC⟩ := K.at (k := 0) hd
  obtain ⟨⟨v1, v2, rfl, r1, r2⟩, hs1, hs2⟩ := r
  rw [hC _ _ _ rfl, F281_eq]; unfold F281 bearsR
  by_cases h0 : b < 0
  · have h1 : decide (b < 0) = true := by simpa using h0
    rw [if_pos h0]
    simp only [S0, Nat.reduceAdd, Nat.reduceLeDiff, ↓reduceIte, h1]
  · have h1 : decide (b < 0) = false := by simpa using h0
    have hlt : b.toNat < s.boards.length := by omega
    obtain ⟨br, or_, _, _, q1, q2⟩ := r1.atx (i := b.toNat) (x := s.boards[b.toNat]) (List.getElem?_eq_getElem hlt)
    have q3 := (q2 (h.new (.cells [v1, v2, I s.power, I s.hold, I s.volts] 33 true)) ((Fr.refl h).new _)).2 1 (by omega)
    rw [show ((b.toNat : Nat) : Int) = b by omega] at q1
    have q4 : (h.new (.cells [v1, v2, I s.power, I s.hold, I s.volts] 33 true)).ld br (or_ + 1) = some (I (s.boards[b.toNat]).rating) := by rw [q3]; rfl
    rw [if_neg h0, List.getElem?_eq_getElem hlt]
    simp only [S0, Nat.reduceAdd, Nat.reduceLeDiff, ↓reduceIte, h1, q1, q4, Option.map_some, Option.getD_some]
theorem f304_c {d : Nat} (hd : 1 ≤ d) (set : Int) (i : Nat) (hi : i < 64) (h : H) : C d (.func 304) [.one (I set), .one (I i)] h = some (.one (.bool (inR set i)), h) := by
  obtain ⟨e, _, rfl, hC⟩ := K.at (k := 0) hd
  rw [hC _ _ _ rfl, F304_eq]; unfold F304 inR
  simp only [S0, Nat.reduceAdd, Nat.reduceLeDiff, ↓reduceIte, cvt_u64 i (by omega), ibin_shrI set i hi, ibin_andI]
theorem f280_c {d : Nat} (hd : 2 ≤ d) {cs : List Value} {s : Supply} (so : SupOk s) {set b ph : Int} {h : H} (r : SupR h cs s) (hb : -1 ≤ b ∧ b < s.boards.length) :
    ∃ h', C d (.func 280) [.agg cs, .one (I set), .one (I b), .one (I ph)] h = some (.one (I (curR s set b ph)), h') ∧ Fr h h' := by
  obtain ⟨e, he, rfl, hC⟩ := K.at (k := 1) hd
  have hN := K.big
  have hnb := so.nb
  have hnl := so.nl
  have f1 := (Fr.refl h).new (.cells cs 33 true)
  have r' := r.fr f1
  obtain ⟨⟨v1, v2, rfl, r1, r2⟩, hs1, hs2⟩ := r
  have hl2 := r2.len
  rw [List.length_map] at hl2
  obtain ⟨hA, eA⟩ : ∃ q, q = h.new (.cells [v1, v2, I s.power, I s.hold, I s.volts] 33 true) := ⟨_, rfl⟩
  rw [← eA] at f1 r'
  have nA : hA.next = h.next + 1 := by rw [eA]; rfl
  have sc : ∀ h', Fr hA h' → h'.get h.next = some (.cells [v1, v2, I s.power, I s.hold, I s.volts] 33 true) := fun h' f => by rw [f.get _ (by omega), eA]; simp
  have loop : ∀ (t : List Load) (i m : Nat) (a : Int) (h1 : H), s.loads.drop i = t → i ≤ s.loads.length → t.length < m → Fr hA h1 → 0 ≤ a ∧ a ≤ 1000 * i →
      ∃ h', LP280_0 (C e) N m [.one (I set), .one (I b), .one (I ph), .one (ptr h.next 0), .one (I a), .one (I i)] h1 = some (.exit 0, [.one (I (curF (condR s set b ph) i t a))], h') ∧ Fr h1 h' := by
    intro t
    induction t with
    | nil =>
      intro i m a h1 hd' hle hm f ha
      obtain ⟨m, rfl⟩ : ∃ q, m = q + 1 := ⟨m - 1, by omega⟩
      obtain rfl := drop_nil hd' hle
      have g1 : h1.ld h.next 1 = some v2 := by rw [H.ld_of _ (sc h1 f)]; rfl
      rw [LP280_0_succ]; unfold B280_0
      exact ⟨h1, by simp only [S0, Nat.reduceAdd, Nat.reduceLeDiff, ↓reduceIte, g1, hl2, in0, curF], .refl _⟩
    | cons l t ih =>
      intro i m a h1 hd' hle hm f ha
      obtain ⟨m, rfl⟩ : ∃ q, m = q + 1 := ⟨m - 1, by omega⟩
      simp only [List.length_cons] at hm
      obtain ⟨hlt, hx, hdt, hlen⟩ := drop_cons hd'
      have g1 : h1.ld h.next 1 = some v2 := by rw [H.ld_of _ (sc h1 f)]; rfl
      obtain ⟨bo, oo, _, _, e1, e2⟩ := r2.atx (i := i) (x := l) (by rw [List.getElem?_eq_getElem hlt, hx])
      have e3 := (e2 h1 (f1.trans f)).1
      have hl : l ∈ s.loads := hx ▸ List.getElem_mem hlt
      have hlo := so.load l hl
      have p1 := pstn_new h1 (zs := [I 0, I 0, I 0, I 0]) (xs := l.enc) 166 rfl
      have hx5 : l.enc.length = 4 := rfl
      obtain ⟨hB, eB⟩ : ∃ q, q = h1.new (.cells l.enc 166 true) := ⟨_, rfl⟩
      rw [← eB] at p1
      have fB : Fr h1 hB := by rw [eB]; exact (Fr.refl h1).new _
      have l0 : hB.ld h1.next 0 = some (I l.board) := by rw [eB]; simp only [S0, Nat.reduceAdd, Nat.reduceLeDiff, ↓reduceIte, Load.enc]
      have l1 : hB.ld h1.next 1 = some (I l.phase) := by rw [eB]; simp only [S0, Nat.reduceAdd, Nat.reduceLeDiff, ↓reduceIte, Load.enc]
      have l5 : hB.ldn h.next 0 5 = some [v1, v2, I s.power, I s.hold, I s.volts] := by rw [H.ldn_of _ (sc hB (f.trans fB))]; rfl
      have ia := i1 (show i + 1 ≤ s.loads.length from hlt) (show s.loads.length < 2 ^ 40 by omega)
      have hin := f304_c K he set i (by omega) hB
      rw [LP280_0_succ]; unfold B280_0 curF
      have hcond : condR s set b ph i l = (inR set i && l.phase == ph && (decide (b < 0) || under s l.board b)) := rfl
      cases hi : inR set i with
      | false =>
        rw [hi] at hcond hin
        obtain ⟨h', z1, z2⟩ := ih (i + 1) m a hB hdt (by omega) (by omega) (f.trans fB) (by push_cast; omega)
        refine ⟨h', ?_, fB.trans z2⟩
        simp only [S0, Nat.reduceAdd, Nat.reduceLeDiff, ↓reduceIte, g1, hl2, i0 hlt, e1, e3, ifLen_eq, hx5, p1, hin, hcond, ia, z1]
      | true =>
        rw [hi] at hcond hin
        cases hp : l.phase == ph with
        | false =>
          rw [hp] at hcond
          obtain ⟨h', z1, z2⟩ := ih (i + 1) m a hB hdt (by omega) (by omega) (f.trans fB) (by push_cast; omega)
          refine ⟨h', ?_, fB.trans z2⟩
          simp only [S0, Nat.reduceAdd, Nat.reduceLeDiff, ↓reduceIte, g1, hl2, i0 hlt, e1, e3, ifLen_eq, hx5, p1, hin, l1, hp, hcond, ia, z1]
        | true =>
          rw [hp] at hcond
          by_cases hb0 : b < 0
          · have hb1 : decide (b < 0) = true := by simpa using hb0
            rw [hb1] at hcond
            have l2 : hB.ld h1.next 2 = some (I l.amps) := by rw [eB]; simp only [S0, Nat.reduceAdd, Nat.reduceLeDiff, ↓reduceIte, Load.enc]
            have ad := i64add (a := a) (b := l.amps) (by omega) (by omega)
            obtain ⟨h', z1, z2⟩ := ih (i + 1) m (a + l.amps) hB hdt (by omega) (by omega) (f.trans fB) (by push_cast; omega)
            refine ⟨h', ?_, fB.trans z2⟩
            simp only [S0, Nat.reduceAdd, Nat.reduceLeDiff, ↓reduceIte, g1, hl2, i0 hlt, e1, e3, ifLen_eq, hx5, p1, hin, l1, hp, hb1, hcond, l2, ad, ia, z1]
          · have hb1 : decide (b < 0) = false := by simpa using hb0
            rw [hb1] at hcond
            obtain ⟨hD, u1, u2⟩ := f305_c K (d := e) he so (b := l.board) (top := b) ((r'.fr f).fr fB) (by omega) (by omega)
            have l2 : hD.ld h1.next 2 = some (I l.amps) := by rw [u2.ld (by rw [eB]; simp), eB]; simp only [S0, Nat.reduceAdd, Nat.reduceLeDiff, ↓reduceIte, Load.enc]
            have ad := i64add (a := a) (b := l.amps) (by omega) (by omega)
            cases hu : under s l.board b with
            | false =>
              rw [hu] at hcond u1
              obtain ⟨h', z1, z2⟩ := ih (i + 1) m a hD hdt (by omega) (by omega) (f.trans (fB.trans u2)) (by push_cast; omega)
              refine ⟨h', ?_, fB.trans (u2.trans z2)⟩
              simp only [S0, Nat.reduceAdd, Nat.reduceLeDiff, ↓reduceIte, g1, hl2, i0 hlt, e1, e3, ifLen_eq, hx5, p1, hin, l1, hp, hb1, l5, l0, u1, hcond, ia, z1]
            | true =>
              rw [hu] at hcond u1
              obtain ⟨h', z1, z2⟩ := ih (i + 1) m (a + l.amps) hD hdt (by omega) (by omega) (f.trans (fB.trans u2)) (by push_cast; omega)
              refine ⟨h', ?_, fB.trans (u2.trans z2)⟩
              simp only [S0, Nat.reduceAdd, Nat.reduceLeDiff, ↓reduceIte, g1, hl2, i0 hlt, e1, e3, ifLen_eq, hx5, p1, hin, l1, hp, hb1, l5, l0, u1, hcond, l2, ad, ia, z1]
  rw [hC _ _ _ rfl, F280_eq]; unfold F280 curR
  rw [← eA]
  obtain ⟨h', z1, z2⟩ := loop s.loads 0 N 0 hA rfl (by omega) (by omega) (.refl _) (by omega)
  have z1' : LP280_0 (C e) N N [.one (I set), .one (I b), .one (I ph), .one (ptr h.next 0), .one (I 0), .one (I 0)] hA = _ := z1
  exact ⟨h', by simp only [S0, Nat.reduceAdd, Nat.reduceLeDiff, ↓reduceIte, z1'], f1.trans z2⟩
theorem f230_c {d : Nat} (hd : 3 ≤ d) {cs : List Value} {s : Supply} (so : SupOk s) {set b : Int} {h : H} (r : SupR h cs s) (hb : -1 ≤ b ∧ b < s.boards.length) :
    ∃ h', C d (.func 230) [.agg cs, .one (I set), .one (I b)] h = some (.one (.bool (overB s set b)), h') ∧ Fr h h' := by
  obtain ⟨e, he, rfl, hC⟩ := K.at (k := 2) hd
  have hN := K.big
  have f1 := (Fr.refl h).new (.cells cs 33 true)
  have hcs : cs.length = 5 := by obtain ⟨⟨v1, v2, rfl, _⟩, _⟩ := r; rfl
  obtain ⟨hA, eA⟩ : ∃ q, q = h.new (.cells cs 33 true) := ⟨_, rfl⟩
  rw [← eA] at f1
  have nA : hA.next = h.next + 1 := by rw [eA]; rfl
  have sc : ∀ h', Fr hA h' → h'.get h.next = some (.cells cs 33 true) := fun h' f => by rw [f.get _ (by omega), eA]; simp
  have sl : ∀ h', Fr hA h' → h'.ldn h.next 0 5 = some cs := fun h' f => by rw [H.ldn_of _ (sc h' f), if_pos (by omega), List.drop_zero, List.take_of_length_le (by omega)]
  obtain ⟨h4, m2, m1⟩ := any_loop0 (LP := LP230_0 (C e) N) (l := [0, 1, 2]) (fun i => [.one (I set), .one (I b), .one (ptr h.next 0), .one (I i)]) (vs0 := [.one (I set), .one (I b), .one (ptr h.next 0), .one (I 0)])
    (fun i (_ : Nat) => decide (curR s set b (i : Int) > bearsR s b)) (fun h => (.ret (.one (.bool true)), [], h)) (fun h' => (.exit 0, [], h')) (h0 := hA) rfl (m := N) (by simp; omega)
    (fun m h1 f => by rw [LP230_0_succ]; unfold B230_0; simp only [S0, Nat.reduceAdd, Nat.reduceLeDiff, ↓reduceIte, show (((0 + 1 + 1 + 1 : Nat) : Int) < 3) = False by simp])
    (fun i m h1 x hx hi f => by
      have hi3 : ((i : Int) < 3) = True := by simp at hi ⊢; omega
      have q0 : (frzL [h.next] h1).ldn h.next 0 5 = some cs := by
        obtain ⟨w', hw⟩ := frz_get (i := h.next) (sc h1 f)
        rw [H.ldn_of _ hw, if_pos (by omega), List.drop_zero, List.take_of_length_le (by omega)]
      obtain ⟨h2, u1, u2⟩ := f280_c K (d := e) (by omega) so (set := set) (ph := i) (((r.fr f1).fr f).frz h.next) hb
      have ft := u2.thaw
      obtain ⟨h3, e3⟩ : ∃ q, q = thawL [h.next] h1 h2 := ⟨_, rfl⟩
      rw [← e3] at ft
      have u3 := f281_c K (d := e) (by omega) (((r.fr f1).fr f).fr ft) hb.2
      have ia : ibin .add (I (i : Int)) (I 1) = some (I (i + 1 : Nat)) := i1 (show i + 1 ≤ 3 from hi) (by omega)
      refine ⟨h3.new (.cells cs 33 true), ft.trans ((Fr.refl _).new _), ?_⟩
      rw [LP230_0_succ]; unfold B230_0
      simp only [S0, Nat.reduceAdd, Nat.reduceLeDiff, ↓reduceIte, hi3, sl h1 f, bOf_ptr, u1, ← e3, sameB_ptr, sl h3 (f.trans ft), u3, ia])
  rw [hC _ _ _ rfl, F230_eq]; unfold F230 overB
  rw [← eA]
  refine ⟨h4, ?_, f1.trans m2⟩
  cases hX : anyI (fun i (_ : Nat) => decide (curR s set b (i : Int) > bearsR s b)) 0 [0, 1, 2] <;> rw [hX] at m1 <;> simp only [S0, Nat.reduceAdd, Nat.reduceLeDiff, ↓reduceIte, m1]
theorem f177_c {d : Nat} (hd : 4 ≤ d) {cs : List Value} {s : Supply} (so : SupOk s) {set : Int} {h : H} (r : SupR h cs s) :
    ∃ h', C d (.func 177) [.agg cs, .one (I set)] h = some (.tup [.one (I (overR s set).1), .one (.bool (overR s set).2)], h') ∧ Fr h h' := by
  obtain ⟨e, he, rfl, hC⟩ := K.at (k := 3) hd
  have hN := K.big
  have hnb := so.nb
  have f1 := (Fr.refl h).new (.cells cs 33 true)
  have hcs : cs.length = 5 := by obtain ⟨⟨v1, v2, rfl, _⟩, _⟩ := r; rfl
  obtain ⟨hA, eA⟩ : ∃ q, q = h.new (.cells cs 33 true) := ⟨_, rfl⟩
  rw [← eA] at f1
  have nA : hA.next = h.next + 1 := by rw [eA]; rfl
  have sc : ∀ h', Fr hA h' → h'.get h.next = some (.cells cs 33 true) := fun h' f => by rw [f.get _ (by omega), eA]; simp
  have sl : ∀ h', Fr hA h' → h'.ldn h.next 0 5 = some cs := fun h' f => by rw [H.ldn_of _ (sc h' f), if_pos (by omega), List.drop_zero, List.take_of_length_le (by omega)]
  obtain ⟨v1, v2, hcs', r1, r2⟩ := r.ex
  have hl1 := r1.len
  rw [List.length_map] at hl1
  have g0 : ∀ h', Fr hA h' → h'.ld h.next 0 = some v1 := fun h' f => by rw [H.ld_of _ (sc h' f), hcs']; rfl
  obtain ⟨h4, m2, m1⟩ := find_loop0 (LP := LP177_0 (C e) N) (l := List.range (s.boards.length + 1)) (fun i => [.one (I set), .one (ptr h.next 0), .one (I ((i : Int) - 1))]) (vs0 := [.one (I set), .one (ptr h.next 0), .one (I (-1))])
    (fun i (_ : Nat) => overB s set ((i : Int) - 1)) (fun i h => (.ret (.tup [.one (I ((i : Int) - 1)), .one (.bool true)]), [], h)) (fun h' => (.exit 0, [], h')) (h0 := hA) rfl (m := N) (by simp; omega)
    (fun m h1 f => by
      have hh : decide ((((List.range (s.boards.length + 1)).length : Nat) : Int) - 1 < (s.boards.length : Int)) = false := by simp
      rw [LP177_0_succ]; unfold B177_0; simp only [S0, Nat.reduceAdd, Nat.reduceLeDiff, ↓reduceIte, g0 h1 f, hl1, hh])
    (fun i m h1 x hx hi f => by
      simp only [List.length_range] at hi
      have hh : decide ((i : Int) - 1 < (s.boards.length : Int)) = true := by simp; omega
      obtain ⟨h2, u1, u2⟩ := f230_c K (d := e) (by omega) so (set := set) (b := (i : Int) - 1) ((r.fr f1).fr f) (by omega)
      have ia : ibin .add (I ((i : Int) - 1)) (I 1) = some (I (((i + 1 : Nat) : Int) - 1)) := by rw [add_in (by omega) (by omega)]; congr 2; push_cast; omega
      refine ⟨h2, u2, ?_⟩
      rw [LP177_0_succ]; unfold B177_0
      simp only [S0, Nat.reduceAdd, Nat.reduceLeDiff, ↓reduceIte, g0 h1 f, hl1, hh, sl h1 f, u1, ia])
  rw [hC _ _ _ rfl, F177_eq]; unfold F177 overR
  rw [← eA]
  refine ⟨h4, ?_, f1.trans m2⟩
  rw [m1]
  cases findI (fun i (_ : Nat) => overB s set ((i : Int) - 1)) 0 (List.range (s.boards.length + 1)) <;> simp only [S0, Nat.reduceAdd, Nat.reduceLeDiff, ↓reduceIte]
theorem f176_c {d : Nat} (hd : 3 ≤ d) {cs : List Value} {s : Supply} {set : Int} {h : H} (r : SupR h cs s) :
    ∃ h', C d (.func 176) [.agg cs, .one (I set)] h = some (.one (I (setErr s set)), h') ∧ Fr h h' := by
  obtain ⟨e, he, rfl, hC⟩ := K.at (k := 2) hd
  have f1 := (Fr.refl h).new (.cells cs 33 true)
  have r' := r.fr f1
  obtain ⟨h2, k1, k2⟩ := f60_c K (show 2 ≤ e by omega) r'
  obtain ⟨⟨v1, v2, rfl, r1, r2⟩, hs1, hs2⟩ := r
  have hl2 := r2.len
  rw [List.length_map] at hl2
  have g1 : h2.ld h.next 1 = some v2 := by rw [k2.ld (by simp)]; simp only [S0, Nat.reduceAdd, Nat.reduceLeDiff, ↓reduceIte]
  rw [hC _ _ _ rfl, F176_eq]; unfold F176 setErr
  by_cases he0 : supErr s = 0
  · have hb : (supErr s != 0) = false := by rw [he0]; rfl
    have so := SupOk.of_err he0
    have hnl := so.nl
    have hp := pow16 s.loads.length hnl
    have h0 : (0 : Int) < 2 ^ s.loads.length := Int.pow_pos (by omega)
    have sh : ibin .shl (I 1) (.int .u64 s.loads.length) = some (I (2 ^ s.loads.length)) := ibin_shl1 s.loads.length hnl
    refine ⟨h2, ?_, f1.trans k2⟩
    rw [if_neg (by simp [he0])]
    have sb := sub_in (a := 2 ^ s.loads.length) (b := 1) (by omega) (by omega)
    cases hw : wi set 0 (2 ^ s.loads.length - 1) <;> simp only [S0, Nat.reduceAdd, Nat.reduceLeDiff, ↓reduceIte, k1, hb, g1, hl2, cvt_u64 s.loads.length (by omega), sh, sb, w110 K (show 1 ≤ e by omega), hw]
  · have hb : (supErr s != 0) = true := by rw [bne_iff_ne]; exact he0
    rw [if_pos he0]
    exact ⟨h2, by simp only [S0, Nat.reduceAdd, Nat.reduceLeDiff, ↓reduceIte, k1, hb], f1.trans k2⟩
def fitsR (s : Supply) (set : Int) : Int × Bool × Int :=
  if setErr s set ≠ 0 then (0, false, setErr s set) else ((overR s set).1, !(overR s set).2, 0)
theorem f97_c {d : Nat} (hd : 5 ≤ d) {cs : List Value} {s : Supply} {set : Int} {h : H} (r : SupR h cs s) :
    ∃ h', C d (.func 97) [.agg cs, .one (I set)] h = some (.tup [.one (I (fitsR s set).1), .one (.bool (fitsR s set).2.1), .one (I (fitsR s set).2.2)], h') ∧ Fr h h' := by
  obtain ⟨e, he, rfl, hC⟩ := K.at (k := 4) hd
  have f1 := (Fr.refl h).new (.cells cs 33 true)
  have r' := r.fr f1
  obtain ⟨h2, k1, k2⟩ := f176_c K (set := set) (show 3 ≤ e by omega) r'
  have hcs : cs.length = 5 := by obtain ⟨⟨v1, v2, rfl, _⟩, _⟩ := r; rfl
  have g1 : (h.new (.cells cs 33 true)).ldn h.next 0 5 = some cs := by rw [ldn_new, if_pos (by omega), List.drop_zero, List.take_of_length_le (by omega)]
  have gS : h2.ldn h.next 0 5 = some cs := by rw [k2.ldn (by simp)]; exact g1
  rw [hC _ _ _ rfl, F97_eq]; unfold F97 fitsR
  by_cases he0 : setErr s set = 0
  · have hb : (setErr s set != 0) = false := by rw [he0]; rfl
    have so : SupOk s := SupOk.of_err (by unfold setErr at he0; split at he0 <;> simp_all)
    obtain ⟨h3, m1, m2⟩ := f177_c K (show 4 ≤ e by omega) so (set := set) (r'.fr k2)
    rw [if_neg (by simp [he0])]
    exact ⟨h3, by simp only [pldn_ptr, g1, Option.bind_some, k1, un1_one, ibin_neqI, hb, condV_bool, Bool.false_eq_true, if_false, gS, m1, unT_tup, unCons_cons, unNil_nil, un_not], f1.trans (k2.trans m2)⟩
  · have hb : (setErr s set != 0) = true := by rw [bne_iff_ne]; exact he0
    rw [if_pos he0]
    exact ⟨h2, by simp only [pldn_ptr, g1, Option.bind_some, k1, un1_one, ibin_neqI, hb, condV_bool, if_true], f1.trans k2⟩
end
end Go.Wz
