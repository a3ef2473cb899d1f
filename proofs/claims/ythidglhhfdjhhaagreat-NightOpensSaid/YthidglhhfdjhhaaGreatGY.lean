/- Contracts: night.Check and the document's. -/
import Derived.Test.YthidglhhfdjhhaaGreatGX
set_option linter.unusedVariables false
set_option linter.unusedSimpArgs false
namespace Go.Wz
open Go
structure Gala where
  ev : Evening
  book : Book
  es : List Entry
  day : Int
  sup : Supply
  limits : List Int
  empty : List Int
structure GalaS (h : H) (g : Gala) (vr v1 v2 v3 ve vb vl vm vy : Value) : Prop where
  ev : EvR h [vr, I g.ev.walk] g.ev
  book : BookR h [v1, v2, v3] g.book
  es : RS h 5 ve (g.es.map Entry.enc)
  sup : SupR h [vb, vl, I g.sup.power, I g.sup.hold, I g.sup.volts] g.sup
  limits : RInt h vm g.limits
  empty : RInt h vy g.empty
  s1 : g.es.length < 5000
  s2 : g.limits.length < 5000
  s3 : g.empty.length < 5000
abbrev gcs (g : Gala) (vr v1 v2 v3 ve vb vl vm vy : Value) : List Value := [vr, I g.ev.walk, v1, v2, v3, ve, I g.day, vb, vl, I g.sup.power, I g.sup.hold, I g.sup.volts, vm, vy]
def GalaR (h : H) (cs : List Value) (g : Gala) : Prop := ∃ vr v1 v2 v3 ve vb vl vm vy, cs = gcs g vr v1 v2 v3 ve vb vl vm vy ∧ GalaS h g vr v1 v2 v3 ve vb vl vm vy
theorem GalaS.fr {h h' : H} {g : Gala} {vr v1 v2 v3 ve vb vl vm vy : Value} (r : GalaS h g vr v1 v2 v3 ve vb vl vm vy) (f : Fr h h') : GalaS h' g vr v1 v2 v3 ve vb vl vm vy :=
  ⟨r.ev.fr f, r.book.fr f, r.es.fr f, r.sup.fr f, r.limits.fr f, r.empty.fr f, r.s1, r.s2, r.s3⟩
theorem GalaR.fr {h h' : H} {cs : List Value} {g : Gala} (r : GalaR h cs g) (f : Fr h h') : GalaR h' cs g := by
  obtain ⟨vr, v1, v2, v3, ve, vb, vl, vm, vy, e, s⟩ := r
  exact ⟨vr, v1, v2, v3, ve, vb, vl, vm, vy, e, s.fr f⟩
theorem EvR.len {h : H} {vr w : Value} {ev : Evening} (r : EvR h [vr, w] ev) : lenS vr = some (I ev.rides.length) := by
  obtain ⟨⟨v, e, r⟩, _⟩ := r
  cases e
  have := r.len
  rwa [List.length_map] at this
theorem BookR.len3 {h : H} {v1 v2 v3 : Value} {b : Book} (r : BookR h [v1, v2, v3] b) : lenS v3 = some (I b.insured.length) := by
  obtain ⟨⟨w1, w2, w3, e, _, _, r⟩, _⟩ := r
  cases e
  exact r.len
theorem SupR.len2 {h : H} {v1 v2 w1 w2 w3 : Value} {s : Supply} (r : SupR h [v1, v2, w1, w2, w3] s) : lenS v2 = some (I s.loads.length) := by
  obtain ⟨⟨u1, u2, e, _, r⟩, _⟩ := r
  cases e
  have := r.len
  rwa [List.length_map] at this
def galaBad (g : Gala) : Bool := ((g.book.insured.length : Int) != g.ev.rides.length) || ((g.sup.loads.length : Int) != g.ev.rides.length) || ((g.limits.length : Int) != g.ev.rides.length) || ((g.empty.length : Int) != g.ev.rides.length) || !wi g.day 0 10000
def galaErr (g : Gala) : Int :=
  if queueErr g.ev [] ≠ 0 then queueErr g.ev [] else if (logErr g.book g.es).2 ≠ 0 then (logErr g.book g.es).2 else if supErr g.sup ≠ 0 then supErr g.sup
  else if galaBad g = true then 120 else if ((g.limits.any fun x => !wi x 0 200) || (g.empty.any fun x => !wi x 0 100)) = true then 120 else 0
theorem zip_any {p q : Int → Bool} : ∀ {a b : List Int}, a.length = b.length → (a.zip b).any (fun x => p x.1 || q x.2) = (a.any p || b.any q)
  | [], [], _ => rfl
  | x :: a, y :: b, h => by
    have := zip_any (p := p) (q := q) (a := a) (b := b) (by simpa using h)
    simp only [List.zip_cons_cons, List.any_cons, this]
    cases p x <;> cases q y <;> simp
section
variable {C : Nat → CallT} {N : Nat} (K : CallsOf C N)
include K
theorem w56 {d : Nat} (hd : 1 ≤ d) (n lo hi : Int) (h : H) : C d (.func 56) [.one (I n), .one (I lo), .one (I hi)] h = some (.one (.bool (wi n lo hi)), h) := by
  obtain ⟨e, _, rfl, hC⟩ := K.at (k := 0) hd
  rw [hC _ _ _ rfl, F56_eq]; unfold F56 wi; simp only [S0, Nat.reduceAdd, Nat.reduceLeDiff, ↓reduceIte]
theorem w61 {d : Nat} (hd : 1 ≤ d) (n lo hi : Int) (h : H) : C d (.func 61) [.one (I n), .one (I lo), .one (I hi)] h = some (.one (.bool (wi n lo hi)), h) := by
  obtain ⟨e, _, rfl, hC⟩ := K.at (k := 0) hd
  rw [hC _ _ _ rfl, F61_eq]; unfold F61 wi; simp only [S0, Nat.reduceAdd, Nat.reduceLeDiff, ↓reduceIte]
theorem f55_c {d : Nat} (hd : 2 ≤ d) (x n : Int) {b : Nat} {h : H} (hg : h.ld b 0 = some (I n)) : C d (.func 55) [.one (I x), .one (ptr b 0)] h = some (.one (.bool (!wi x 0 n)), h) := by
  obtain ⟨e, he, rfl, hC⟩ := K.at (k := 1) hd
  rw [hC _ _ _ rfl, F55_eq]; unfold F55
  simp only [S0, Nat.reduceAdd, Nat.reduceLeDiff, ↓reduceIte, hg, w56 K he]
/-- ContainsFunc with a bound, in a closure made while the gala stands still -/
theorem beyond_c {d : Nat} (hd : 5 ≤ d) {l : List Int} {v : Value} {h : H} (r : RInt h v l) (hl : l.length < 5000) (n : Int) :
    ∃ h', C d (.func 57) [.one v, .one (.func (.func 55) #[] #[ptr h.next 0])] (h.new (.cells [I n] 3 true)) = some (.one (.bool (l.any fun x => !wi x 0 n)), h') ∧ Fr h h' := by
  obtain ⟨q, rfl⟩ : ∃ q, d = q + 2 := ⟨d - 2, by omega⟩
  have f1 : Fr h (h.new (.cells [I n] 3 true)) := (Fr.refl h).new _
  obtain ⟨h', k1, k2⟩ := f57_c K (d := q) (enc1 := fun x : Int => I x) (vf := .func (.func 55) #[] #[ptr h.next 0]) (p := fun x => !wi x 0 n) (RS.fr r f1) hl
    (fun x hx h1 f => ⟨h1, by rw [callV_func]; exact f55_c K (by omega) x n (by rw [f.ld (by simp)]; simp), .refl h1⟩)
  exact ⟨h', k1, f1.trans k2⟩
theorem f20_c {d : Nat} (hd : 11 ≤ d) {cs : List Value} {g : Gala} {h : H} (r : GalaR h cs g) :
    ∃ h', C d (.func 20) [.agg cs] h = some (.one (I (galaErr g)), h') ∧ Fr h h' := by
  obtain ⟨e, he, rfl, hC⟩ := K.at (k := 10) hd
  obtain ⟨q, rfl⟩ : ∃ q, e = q + 1 := ⟨e - 1, by omega⟩
  obtain ⟨vr, v1, v2, v3, ve, vb, vl, vm, vy, rfl, s⟩ := r
  obtain ⟨hA, eA⟩ : ∃ q, q = h.new (.cells (gcs g vr v1 v2 v3 ve vb vl vm vy) 35 true) := ⟨_, rfl⟩
  have fA : Fr h hA := by rw [eA]; exact (Fr.refl h).new _
  have nA : hA.next = h.next + 1 := by rw [eA]; rfl
  have gA : ∀ h', Fr hA h' → h'.get h.next = some (.cells (gcs g vr v1 v2 v3 ve vb vl vm vy) 35 true) := fun h' f => by rw [f.get _ (by omega), eA]; simp
  have ld : ∀ h', Fr hA h' → ∀ i, h'.ld h.next i = (gcs g vr v1 v2 v3 ve vb vl vm vy)[i]? := fun h' f i => by rw [H.ld_of _ (gA h' f)]
  have ln : ∀ h', Fr hA h' → ∀ o n, h'.ldn h.next o n = if o + n ≤ 14 then some (((gcs g vr v1 v2 v3 ve vb vl vm vy).drop o).take n) else none := fun h' f o n => by rw [H.ldn_of _ (gA h' f)]; rfl
  obtain ⟨h2, k1, k2⟩ := f51_c K (d := q + 1) he (s.ev.fr fA) (GroupsR.nil (h := hA))
  obtain ⟨h3, m1, m2⟩ := f52_c K (d := q + 1) (by omega) ((s.book.fr fA).fr k2) ((s.es.fr fA).fr k2)
  obtain ⟨h4, n1, n2⟩ := f53_c K (d := q + 1) (by omega) (((s.sup.fr fA).fr k2).fr m2)
  have F2 := k2
  have F3 := k2.trans m2
  have F4 := F3.trans n2
  have rf := Fr.refl hA
  have e2 : ∀ (a : Value) (l : List Value), ((gcs g vr v1 v2 v3 ve vb vl vm vy).drop 2).take 3 = [v1, v2, v3] := fun _ _ => rfl
  have t0 : hA.ldn h.next 0 2 = some [vr, I g.ev.walk] := by rw [ln hA rf]; rfl
  have t2 : h2.ldn h.next 2 3 = some [v1, v2, v3] := by rw [ln h2 F2]; rfl
  have t5 : h2.ld h.next 5 = some ve := by rw [ld h2 F2]; rfl
  have t7 : h3.ldn h.next 7 5 = some [vb, vl, I g.sup.power, I g.sup.hold, I g.sup.volts] := by rw [ln h3 F3]; rfl
  have u0 : h4.ld h.next 0 = some vr := by rw [ld h4 F4]; rfl
  have u4 : h4.ld h.next 4 = some v3 := by rw [ld h4 F4]; rfl
  have u8 : h4.ld h.next 8 = some vl := by rw [ld h4 F4]; rfl
  have u12 : h4.ld h.next 12 = some vm := by rw [ld h4 F4]; rfl
  have u13 : h4.ld h.next 13 = some vy := by rw [ld h4 F4]; rfl
  have u6 : h4.ld h.next 6 = some (I g.day) := by rw [ld h4 F4]; rfl
  have n4 := F4.nx
  rw [hC _ _ _ rfl, F20_eq]; unfold F20 galaErr
  rw [← eA]
  by_cases q0 : queueErr g.ev [] = 0
  case neg =>
    have hne : (queueErr g.ev [] != 0) = true := by simpa using q0
    rw [if_pos q0]
    exact ⟨h2, by simp only [S0, Nat.reduceAdd, Nat.reduceLeDiff, ↓reduceIte, t0, k1, hne], fA.trans F2⟩
  have c0 : (queueErr g.ev [] != 0) = false := by simpa using q0
  rw [if_neg (by simpa using q0)]
  by_cases q1 : (logErr g.book g.es).2 = 0
  case neg =>
    have hne : ((logErr g.book g.es).2 != 0) = true := by simpa using q1
    rw [if_pos q1]
    exact ⟨h3, by simp only [S0, Nat.reduceAdd, Nat.reduceLeDiff, ↓reduceIte, t0, k1, c0, t2, t5, m1, hne], fA.trans F3⟩
  have c1 : ((logErr g.book g.es).2 != 0) = false := by simpa using q1
  rw [if_neg (by simpa using q1)]
  by_cases q2 : supErr g.sup = 0
  case neg =>
    have hne : (supErr g.sup != 0) = true := by simpa using q2
    rw [if_pos q2]
    exact ⟨h4, by simp only [S0, Nat.reduceAdd, Nat.reduceLeDiff, ↓reduceIte, t0, k1, c0, t2, t5, m1, c1, t7, n1, hne], fA.trans F4⟩
  have c2 : (supErr g.sup != 0) = false := by simpa using q2
  rw [if_neg (by simpa using q2)]
  have lr := s.ev.len
  have l3 := s.book.len3
  have ll := s.sup.len2
  have lm := s.limits.len
  have ly := s.empty.len
  unfold galaBad
  cases b1 : ((g.book.insured.length : Int) != g.ev.rides.length) with
  | true => exact ⟨h4, by simp only [S0, Nat.reduceAdd, Nat.reduceLeDiff, ↓reduceIte, t0, k1, c0, t2, t5, m1, c1, t7, n1, c2, u0, u4, lr, l3, b1], fA.trans F4⟩
  | false =>
  cases b2 : ((g.sup.loads.length : Int) != g.ev.rides.length) with
  | true => exact ⟨h4, by simp only [S0, Nat.reduceAdd, Nat.reduceLeDiff, ↓reduceIte, t0, k1, c0, t2, t5, m1, c1, t7, n1, c2, u0, u4, lr, l3, b1, u8, ll, b2], fA.trans F4⟩
  | false =>
  cases b3 : ((g.limits.length : Int) != g.ev.rides.length) with
  | true => exact ⟨h4, by simp only [S0, Nat.reduceAdd, Nat.reduceLeDiff, ↓reduceIte, t0, k1, c0, t2, t5, m1, c1, t7, n1, c2, u0, u4, lr, l3, b1, u8, ll, b2, u12, lm, b3], fA.trans F4⟩
  | false =>
  cases b4 : ((g.empty.length : Int) != g.ev.rides.length) with
  | true => exact ⟨h4, by simp only [S0, Nat.reduceAdd, Nat.reduceLeDiff, ↓reduceIte, t0, k1, c0, t2, t5, m1, c1, t7, n1, c2, u0, u4, lr, l3, b1, u8, ll, b2, u12, lm, b3, u13, ly, b4], fA.trans F4⟩
  | false =>
  cases b5 : wi g.day 0 10000 with
  | false => exact ⟨h4, by simp only [S0, Nat.reduceAdd, Nat.reduceLeDiff, ↓reduceIte, t0, k1, c0, t2, t5, m1, c1, t7, n1, c2, u0, u4, lr, l3, b1, u8, ll, b2, u12, lm, b3, u13, ly, b4, u6, w56 K (show 1 ≤ q + 1 by omega), b5], fA.trans F4⟩
  | true =>
  have kF54 : ∀ (n : Int), C (q + 1) (.func 54) [.one (I n)] (frzL [h.next] h4) = some (.one (.func (.func 55) #[] #[ptr h4.next 0]), (frzL [h.next] h4).new (.cells [I n] 3 true)) := fun n => by
    rw [K.func _ _ _ _ rfl, F54_eq]; unfold F54; rfl
  have th4 : ∀ (n : Int), thawL [h.next] h4 ((frzL [h.next] h4).new (.cells [I n] 3 true)) = h4.new (.cells [I n] 3 true) := fun n => frz_thaw_new _ (by omega)
  obtain ⟨h5, y1, y2⟩ := beyond_c K (d := q + 1) (by omega) (s.limits.fr (fA.trans F4)) s.s2 200
  have F5 := F4.trans y2
  have u13' : h5.ld h.next 13 = some vy := by rw [ld h5 F5]; rfl
  cases b6 : (g.limits.any fun x => !wi x 0 200) with
  | true =>
    rw [b6] at y1
    exact ⟨h5, by simp only [S0, Nat.reduceAdd, Nat.reduceLeDiff, ↓reduceIte, t0, k1, c0, t2, t5, m1, c1, t7, n1, c2, u0, u4, lr, l3, b1, u8, ll, b2, u12, lm, b3, u13, ly, b4, u6, w56 K (show 1 ≤ q + 1 by omega), b5, sameB_ptr, bOf_ptr, kF54, th4, y1], fA.trans F5⟩
  | false =>
  rw [b6] at y1
  have n5 := F5.nx
  have kF54b : ∀ (n : Int), C (q + 1) (.func 54) [.one (I n)] (frzL [h.next] h5) = some (.one (.func (.func 55) #[] #[ptr h5.next 0]), (frzL [h.next] h5).new (.cells [I n] 3 true)) := fun n => by
    rw [K.func _ _ _ _ rfl, F54_eq]; unfold F54; rfl
  have th5 : ∀ (n : Int), thawL [h.next] h5 ((frzL [h.next] h5).new (.cells [I n] 3 true)) = h5.new (.cells [I n] 3 true) := fun n => frz_thaw_new _ (by omega)
  obtain ⟨h6, z1, z2⟩ := beyond_c K (d := q + 1) (by omega) (s.empty.fr (fA.trans F5)) s.s3 100
  refine ⟨h6, ?_, fA.trans (F5.trans z2)⟩
  cases b7 : (g.empty.any fun x => !wi x 0 100) <;> rw [b7] at z1 <;>
    simp only [S0, Nat.reduceAdd, Nat.reduceLeDiff, ↓reduceIte, t0, k1, c0, t2, t5, m1, c1, t7, n1, c2, u0, u4, lr, l3, b1, u8, ll, b2, u12, lm, b3, u13, ly, b4, u6, w56 K (show 1 ≤ q + 1 by omega), b5, sameB_ptr, bOf_ptr, kF54, th4, y1, u13', kF54b, th5, z1]
theorem f21_c {d : Nat} (hd : 5 ≤ d) {cs : List Value} {g : Gala} {h : H} (r : GalaR h cs g) :
    ∃ h', C d (.func 21) [.agg cs] h = some (.one (I (galaErr g)), h') ∧ Fr h h' := by
  obtain ⟨e, he, rfl, hC⟩ := K.at (k := 4) hd
  have hN := K.big
  obtain ⟨vr, v1, v2, v3, ve, vb, vl, vm, vy, rfl, s⟩ := r
  obtain ⟨hA, eA⟩ : ∃ q, q = h.new (.cells (gcs g vr v1 v2 v3 ve vb vl vm vy) 35 true) := ⟨_, rfl⟩
  have fA : Fr h hA := by rw [eA]; exact (Fr.refl h).new _
  have nA : hA.next = h.next + 1 := by rw [eA]; rfl
  have gA : ∀ h', Fr hA h' → h'.get h.next = some (.cells (gcs g vr v1 v2 v3 ve vb vl vm vy) 35 true) := fun h' f => by rw [f.get _ (by omega), eA]; simp
  have ld : ∀ h', Fr hA h' → ∀ i, h'.ld h.next i = (gcs g vr v1 v2 v3 ve vb vl vm vy)[i]? := fun h' f i => by rw [H.ld_of _ (gA h' f)]
  have ln : ∀ h', Fr hA h' → ∀ o n, h'.ldn h.next o n = if o + n ≤ 14 then some (((gcs g vr v1 v2 v3 ve vb vl vm vy).drop o).take n) else none := fun h' f o n => by rw [H.ldn_of _ (gA h' f)]; rfl
  obtain ⟨h2, k1, k2⟩ := f58_c K (d := e) (by omega) (s.ev.fr fA) (GroupsR.nil (h := hA))
  obtain ⟨h3, m1, m2⟩ := f59_c K (d := e) (by omega) ((s.book.fr fA).fr k2) ((s.es.fr fA).fr k2)
  obtain ⟨h4, n1, n2⟩ := f60_c K (d := e) (by omega) (((s.sup.fr fA).fr k2).fr m2)
  have F2 := k2
  have F3 := k2.trans m2
  have F4 := F3.trans n2
  have rf := Fr.refl hA
  have t0 : hA.ldn h.next 0 2 = some [vr, I g.ev.walk] := by rw [ln hA rf]; rfl
  have t2 : h2.ldn h.next 2 3 = some [v1, v2, v3] := by rw [ln h2 F2]; rfl
  have t5 : h2.ld h.next 5 = some ve := by rw [ld h2 F2]; rfl
  have t7 : h3.ldn h.next 7 5 = some [vb, vl, I g.sup.power, I g.sup.hold, I g.sup.volts] := by rw [ln h3 F3]; rfl
  have u0 : h4.ld h.next 0 = some vr := by rw [ld h4 F4]; rfl
  have u4 : h4.ld h.next 4 = some v3 := by rw [ld h4 F4]; rfl
  have u8 : h4.ld h.next 8 = some vl := by rw [ld h4 F4]; rfl
  have u12 : ∀ h', Fr h4 h' → h'.ld h.next 12 = some vm := fun h' f => by rw [ld h' (F4.trans f)]; rfl
  have u13 : ∀ h', Fr h4 h' → h'.ld h.next 13 = some vy := fun h' f => by rw [ld h' (F4.trans f)]; rfl
  have u6 : h4.ld h.next 6 = some (I g.day) := by rw [ld h4 F4]; rfl
  have u12' := u12 h4 (.refl _)
  have u13' := u13 h4 (.refl _)
  rw [hC _ _ _ rfl, F21_eq]; unfold F21 galaErr
  rw [← eA]
  by_cases q0 : queueErr g.ev [] = 0
  case neg =>
    have hne : (queueErr g.ev [] != 0) = true := by simpa using q0
    rw [if_pos q0]
    exact ⟨h2, by simp only [S0, Nat.reduceAdd, Nat.reduceLeDiff, ↓reduceIte, t0, k1, hne], fA.trans F2⟩
  have c0 : (queueErr g.ev [] != 0) = false := by simpa using q0
  rw [if_neg (by simpa using q0)]
  by_cases q1 : (logErr g.book g.es).2 = 0
  case neg =>
    have hne : ((logErr g.book g.es).2 != 0) = true := by simpa using q1
    rw [if_pos q1]
    exact ⟨h3, by simp only [S0, Nat.reduceAdd, Nat.reduceLeDiff, ↓reduceIte, t0, k1, c0, t2, t5, m1, hne], fA.trans F3⟩
  have c1 : ((logErr g.book g.es).2 != 0) = false := by simpa using q1
  rw [if_neg (by simpa using q1)]
  by_cases q2 : supErr g.sup = 0
  case neg =>
    have hne : (supErr g.sup != 0) = true := by simpa using q2
    rw [if_pos q2]
    exact ⟨h4, by simp only [S0, Nat.reduceAdd, Nat.reduceLeDiff, ↓reduceIte, t0, k1, c0, t2, t5, m1, c1, t7, n1, hne], fA.trans F4⟩
  have c2 : (supErr g.sup != 0) = false := by simpa using q2
  rw [if_neg (by simpa using q2)]
  have lr := s.ev.len
  have l3 := s.book.len3
  have ll := s.sup.len2
  have lm := s.limits.len
  have ly := s.empty.len
  have eb : galaBad g = (((((g.book.insured.length : Int) != g.ev.rides.length) || ((g.sup.loads.length : Int) != g.ev.rides.length)) || ((g.limits.length : Int) != g.ev.rides.length)) || ((g.empty.length : Int) != g.ev.rides.length) || !wi g.day 0 10000) := rfl
  cases hb : galaBad g with
  | true =>
    rw [hb] at eb
    exact ⟨h4, by simp only [S0, Nat.reduceAdd, Nat.reduceLeDiff, ↓reduceIte, t0, k1, c0, t2, t5, m1, c1, t7, n1, c2, u0, u4, lr, l3, u8, ll, u12', lm, u13', ly, u6, w61 K (show 1 ≤ e by omega), ← eb], fA.trans F4⟩
  | false =>
    rw [hb] at eb
    have eb' := eb.symm
    simp only [Bool.or_eq_false_iff] at eb'
    have hm : g.limits.length = g.ev.rides.length := by have := eb'.1.1.2; simp at this; omega
    have hy : g.empty.length = g.ev.rides.length := by have := eb'.1.2; simp at this; omega
    have hz : (g.limits.zip g.empty).length = g.ev.rides.length := by rw [List.length_zip]; omega
    have sM := s.limits.fr (fA.trans F4)
    have sY := s.empty.fr (fA.trans F4)
    have hsm := s.s2
    obtain ⟨h5, y2, y1⟩ := any_loop0 (LP := LP21_0 (C e) N) (l := g.limits.zip g.empty) (fun i => [.one (ptr h.next 0), .one (I g.ev.rides.length), .one (I i)]) (vs0 := [.one (ptr h.next 0), .one (I g.ev.rides.length), .one (I 0)])
      (fun _ x => !wi x.1 0 200 || !wi x.2 0 100) (fun h' => (.ret (.one (I 120)), [], h')) (fun h' => (.exit 0, [], h')) (h0 := h4) rfl (m := N) (by omega)
      (fun m h1 f => by rw [LP21_0_succ]; unfold B21_0; simp only [S0, Nat.reduceAdd, Nat.reduceLeDiff, ↓reduceIte, hz, in0])
      (fun i m h1 x hx hi f => by
        rw [hz] at hi
        have hx' := List.getElem?_zip_eq_some.1 hx
        obtain ⟨_, _, _, _, a1, a2⟩ := sM.atx hx'.1
        obtain ⟨_, _, _, _, b1, b2⟩ := sY.atx hx'.2
        have a3 := a2 h1 f
        have b3 := b2 h1 f
        refine ⟨h1, .refl h1, ?_⟩
        rw [LP21_0_succ]; unfold B21_0
        simp only [S0, Nat.reduceAdd, Nat.reduceLeDiff, ↓reduceIte, i0 hi, u12 h1 f, u13 h1 f, a1, a3, b1, b3, w61 K (show 1 ≤ e by omega), i1 (show i + 1 ≤ g.ev.rides.length from hi) (by omega)])
    rw [anyI_any, zip_any (p := fun x => !wi x 0 200) (q := fun x => !wi x 0 100) (by omega)] at y1
    refine ⟨h5, ?_, fA.trans (F4.trans y2)⟩
    cases hQ : ((g.limits.any fun x => !wi x 0 200) || (g.empty.any fun x => !wi x 0 100)) <;> rw [hQ] at y1 <;>
      simp only [S0, Nat.reduceAdd, Nat.reduceLeDiff, ↓reduceIte, t0, k1, c0, t2, t5, m1, c1, t7, n1, c2, u0, u4, lr, l3, u8, ll, u12', lm, u13', ly, u6, w61 K (show 1 ≤ e by omega), ← eb, y1]
end
end Go.Wz
