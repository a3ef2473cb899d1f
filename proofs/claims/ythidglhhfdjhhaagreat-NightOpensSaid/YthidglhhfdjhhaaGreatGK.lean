/- Contracts: the log of inspect. -/
import Derived.Test.YthidglhhfdjhhaaGreatGJ
set_option linter.unusedVariables false
set_option linter.unusedSimpArgs false
namespace Go.Wz
open Go

structure Rule where
  ride : Int
  every : Int
  rank : Int
  two : Bool
def Rule.enc (b : Rule) : List Value := [I b.ride, I b.every, I b.rank, .bool b.two]
structure Entry where
  day : Int
  kind : Int
  a : Int
  b : Int
  c : Int
def Entry.enc (x : Entry) : List Value := [I x.day, I x.kind, I x.a, I x.b, I x.c]
structure Book where
  rules : List Rule
  ranks : List Int
  insured : List Int
structure BookR (h : H) (cs : List Value) (b : Book) : Prop where
  ex : ∃ v1 v2 v3, cs = [v1, v2, v3] ∧ RS h 4 v1 (b.rules.map Rule.enc) ∧ RInt h v2 b.ranks ∧ RInt h v3 b.insured
  s1 : b.rules.length < 5000
  s2 : b.ranks.length < 5000
  s3 : b.insured.length < 5000
theorem RInt.fr {h h' : H} {v : Value} {l : List Int} (r : RInt h v l) (f : Fr h h') : RInt h' v l := RS.fr r f
theorem BookR.fr {h h' : H} {cs : List Value} {b : Book} (r : BookR h cs b) (f : Fr h h') : BookR h' cs b := by
  obtain ⟨⟨v1, v2, v3, h1, h2, h3, h4⟩, h5, h6, h7⟩ := r; exact ⟨⟨v1, v2, v3, h1, h2.fr f, h3.fr f, h4.fr f⟩, h5, h6, h7⟩
/-- a log: a book, and entries -/
structure LogR (h : H) (cs : List Value) (b : Book) (es : List Entry) : Prop where
  ex : ∃ v1 v2 v3 v4, cs = [v1, v2, v3, v4] ∧ RS h 4 v1 (b.rules.map Rule.enc) ∧ RInt h v2 b.ranks ∧ RInt h v3 b.insured ∧ RS h 5 v4 (es.map Entry.enc)
  s1 : b.rules.length < 5000
  s2 : b.ranks.length < 5000
  s3 : b.insured.length < 5000
  s4 : es.length < 5000
theorem LogR.fr {h h' : H} {cs : List Value} {b : Book} {es : List Entry} (r : LogR h cs b es) (f : Fr h h') : LogR h' cs b es := by
  obtain ⟨⟨v1, v2, v3, v4, h1, h2, h3, h4, h0⟩, h5, h6, h7, h8⟩ := r; exact ⟨⟨v1, v2, v3, v4, h1, h2.fr f, h3.fr f, h4.fr f, h0.fr f⟩, h5, h6, h7, h8⟩
theorem RS.atI {h : H} {s : Nat} {v : Value} {α : Type} {enc : α → List Value} {l : List α} (r : RS h s v (l.map enc)) (d : α) {n : Int} (h0 : 0 ≤ n) (h1 : n < l.length) :
    ∃ b o, b < h.next ∧ idxS s v (I n) = some (ptr b o) ∧ ∀ h', Fr h h' → h'.ldn b o s = some (enc ((l[n.toNat]?).getD d)) ∧ ∀ j, j < s → h'.ld b (o + j) = (enc ((l[n.toNat]?).getD d))[j]? := by
  have hlt : n.toNat < l.length := by omega
  obtain ⟨b, o, q1, _, q2, q3⟩ := r.atx (i := n.toNat) (x := l[n.toNat]) (List.getElem?_eq_getElem hlt)
  rw [show ((n.toNat : Nat) : Int) = n by omega] at q2
  rw [List.getElem?_eq_getElem hlt]
  exact ⟨b, o, q1, q2, q3⟩
def getI (l : List Int) (n : Int) : Int := (l[n.toNat]?).getD 0
theorem RInt.atI {h : H} {v : Value} {l : List Int} (r : RInt h v l) {n : Int} (h0 : 0 ≤ n) (h1 : n < l.length) :
    ∃ b o, b < h.next ∧ idxS 1 v (I n) = some (ptr b o) ∧ ∀ h', Fr h h' → h'.ld b o = some (I (getI l n)) := by
  obtain ⟨b, o, q1, q2, q3⟩ := RS.atI r 0 h0 h1
  exact ⟨b, o, q1, q2, fun h' f => by have := (q3 h' f).2 0 (by omega); simpa [getI] using this⟩
def rule0 : Rule := ⟨0, 0, 0, false⟩
def entry0 : Entry := ⟨0, 0, 0, 0, 0⟩
def ruleAt (b : Book) (i : Int) : Rule := (b.rules[i.toNat]?).getD rule0
def entAt (es : List Entry) (i : Int) : Entry := (es[i.toNat]?).getD entry0
def rideP (b : Book) (n : Int) : Bool := wi n 0 ((b.insured.length : Int) - 1)
def persP (b : Book) (n : Int) : Bool := wi n 0 ((b.ranks.length : Int) - 1)
def mayP (b : Book) (rule n : Int) : Bool := persP b n && decide (getI b.ranks n ≥ (ruleAt b rule).rank)
def signsP (b : Book) (rule x y : Int) : Bool := if (ruleAt b rule).two = true then mayP b rule x && mayP b rule y && x != y else mayP b rule x && y == -1
def mendedP (es : List Entry) (n : Int) : Bool := es.any fun x => x.kind == 3 && x.a == n
def lastDay (es : List Entry) : Int := if es.length > 0 then (entAt es ((es.length : Int) - 1)).day else 0
def rightP (b : Book) (es : List Entry) (x : Entry) : Bool :=
  if wi x.day (lastDay es) 10000 = true then
    if x.kind = 1 then wi x.a 0 ((b.rules.length : Int) - 1) && signsP b x.a x.b x.c
    else if x.kind = 2 then rideP b x.a && wi x.b 1 3 && x.c == 0
    else if x.kind = 3 then wi x.a 0 ((es.length : Int) - 1) && (entAt es x.a).kind == 2 && !mendedP es x.a && persP b x.b && x.c == 0
    else if x.kind = 4 then rideP b x.a && persP b x.b && x.c == 0
    else if x.kind = 5 then rideP b x.a && wi x.b 0 10000 && x.c == 0
    else if x.kind = 6 then rideP b x.a && x.b == 0 && x.c == 0
    else false
  else false
section
variable {C : Nat → CallT} {N : Nat} (K : CallsOf C N)
include K
theorem f130_c {d : Nat} (hd : 2 ≤ d) {cs : List Value} {b : Book} {es : List Entry} {h : H} (r : LogR h cs b es) (n : Int) : C d (.func 130) [.agg cs, .one (I n)] h = some (.one (.bool (rideP b n)), h.new (.cells cs 112 true)) := by
  obtain ⟨e, he, rfl, hC⟩ := K.at (k := 1) hd
  have s3 := r.s3
  obtain ⟨v1, v2, v3, v4, rfl, r1, r2, r3, r4⟩ := r.ex
  rw [hC _ _ _ rfl, F130_eq]; unfold F130 rideP
  simp only [S0, Nat.reduceAdd, Nat.reduceLeDiff, ↓reduceIte, r3.len, sub1 (show b.insured.length < 2 ^ 40 by omega), w111 K he]
theorem f238_c {d : Nat} (hd : 2 ≤ d) {cs : List Value} {b : Book} {es : List Entry} {h : H} (r : LogR h cs b es) (n : Int) : C d (.func 238) [.agg cs, .one (I n)] h = some (.one (.bool (persP b n)), h.new (.cells cs 112 true)) := by
  obtain ⟨e, he, rfl, hC⟩ := K.at (k := 1) hd
  have s3 := r.s2
  obtain ⟨v1, v2, v3, v4, rfl, r1, r2, r3, r4⟩ := r.ex
  rw [hC _ _ _ rfl, F238_eq]; unfold F238 persP
  simp only [S0, Nat.reduceAdd, Nat.reduceLeDiff, ↓reduceIte, r2.len, sub1 (show b.ranks.length < 2 ^ 40 by omega), w111 K he]
theorem f283_c {d : Nat} (hd : 3 ≤ d) {cs : List Value} {b : Book} {es : List Entry} {h : H} (r : LogR h cs b es) {rule n : Int} (hr : 0 ≤ rule ∧ rule < b.rules.length) :
    ∃ h', C d (.func 283) [.agg cs, .one (I rule), .one (I n)] h = some (.one (.bool (mayP b rule n)), h') ∧ Fr h h' := by
  obtain ⟨e, he, rfl, hC⟩ := K.at (k := 2) hd
  have f1 := (Fr.refl h).new (.cells cs 112 true)
  have k1 := f238_c K (d := e) he (r.fr f1) n
  obtain ⟨v1, v2, v3, v4, rfl, r1, r2, r3, r4⟩ := r.ex
  obtain ⟨h2, e2⟩ : ∃ q, q = (h.new (.cells [v1, v2, v3, v4] 112 true)).new (.cells [v1, v2, v3, v4] 112 true) := ⟨_, rfl⟩
  rw [← e2] at k1
  have f2 : Fr (h.new (.cells [v1, v2, v3, v4] 112 true)) h2 := by rw [e2]; exact (Fr.refl _).new _
  refine ⟨h2, ?_, f1.trans f2⟩
  have g0 : h2.ld h.next 0 = some v1 := by rw [f2.ld (by simp)]; simp only [S0, Nat.reduceAdd, Nat.reduceLeDiff, ↓reduceIte]
  have g1 : h2.ld h.next 1 = some v2 := by rw [f2.ld (by simp)]; simp only [S0, Nat.reduceAdd, Nat.reduceLeDiff, ↓reduceIte]
  rw [hC _ _ _ rfl, F283_eq]; unfold F283 mayP
  cases hp : persP b n with
  | false => rw [hp] at k1; simp only [S0, Nat.reduceAdd, Nat.reduceLeDiff, ↓reduceIte, k1]
  | true =>
    rw [hp] at k1
    have hn := wi_iff.1 hp
    obtain ⟨b1, o1, _, q1, q2⟩ := r2.atI (n := n) hn.1 (by omega)
    obtain ⟨b2, o2, _, q3, q4⟩ := r1.atI rule0 (n := rule) hr.1 hr.2
    have q5 := q2 h2 (f1.trans f2)
    have q6 : h2.ld b2 (o2 + 2) = some (I (ruleAt b rule).rank) := by rw [(q4 h2 (f1.trans f2)).2 2 (by omega)]; rfl
    simp only [S0, Nat.reduceAdd, Nat.reduceLeDiff, ↓reduceIte, k1, g0, g1, q1, q3, q5, q6]
theorem f236_c {d : Nat} (hd : 4 ≤ d) {cs : List Value} {b : Book} {es : List Entry} {h : H} (r : LogR h cs b es) {rule x y : Int} (hr : 0 ≤ rule ∧ rule < b.rules.length) :
    ∃ h', C d (.func 236) [.agg cs, .one (I rule), .one (I x), .one (I y)] h = some (.one (.bool (signsP b rule x y)), h') ∧ Fr h h' := by
  obtain ⟨e, he, rfl, hC⟩ := K.at (k := 3) hd
  have f1 := (Fr.refl h).new (.cells cs 112 true)
  obtain ⟨h2, k1, k2⟩ := f283_c K (d := e) he (r.fr f1) (n := x) hr
  obtain ⟨h3, m1, m2⟩ := f283_c K (d := e) he ((r.fr f1).fr k2) (n := y) hr
  obtain ⟨v1, v2, v3, v4, rfl, r1, r2, r3, r4⟩ := r.ex
  obtain ⟨b2, o2, _, q3, q4⟩ := r1.atI rule0 (n := rule) hr.1 hr.2
  have q6 : (h.new (.cells [v1, v2, v3, v4] 112 true)).ld b2 (o2 + 3) = some (.bool (ruleAt b rule).two) := by rw [(q4 _ f1).2 3 (by omega)]; rfl
  have g4 : h2.ldn h.next 0 4 = some [v1, v2, v3, v4] := by rw [k2.ldn (by simp), H.ldn_of _ (H.new_get_same _ _)]; rfl
  rw [hC _ _ _ rfl, F236_eq]; unfold F236 signsP
  cases ht : (ruleAt b rule).two with
  | false =>
    refine ⟨h2, ?_, f1.trans k2⟩
    cases hm : mayP b rule x <;> rw [hm] at k1 <;> simp only [S0, Nat.reduceAdd, Nat.reduceLeDiff, ↓reduceIte, q3, q6, ht, k1]
  | true =>
    cases hm : mayP b rule x with
    | false => rw [hm] at k1; exact ⟨h2, by simp only [S0, Nat.reduceAdd, Nat.reduceLeDiff, ↓reduceIte, q3, q6, ht, k1], f1.trans k2⟩
    | true =>
      rw [hm] at k1
      refine ⟨h3, ?_, f1.trans (k2.trans m2)⟩
      cases hy : mayP b rule y <;> rw [hy] at m1 <;> simp only [S0, Nat.reduceAdd, Nat.reduceLeDiff, ↓reduceIte, q3, q6, ht, k1, g4, m1]
theorem f284_c {d : Nat} {l : List Entry} {p : Entry → Bool} {v vf : Value} {h : H} (r : RS h 5 v (l.map Entry.enc)) (hl : l.length < 5000)
    (hf : ∀ x ∈ l, ∀ h1, Fr h h1 → ∃ h', callV (C d) vf [.agg x.enc] h1 = some (.one (.bool (p x)), h') ∧ Fr h1 h') :
    ∃ h', C (d + 2) (.func 284) [.one v, .one vf] h = some (.one (.bool (l.any p)), h') ∧ Fr h h' := by
  obtain ⟨h2, k1, k2⟩ := indexF K (fi := 186) (LP := LP186_0) rfl (fun _ _ _ _ _ => F186_eq _ _ _ _ _) (fun _ _ _ _ _ _ _ _ => LP186_0_succ _ _ _ _ _ _ _ _) (d := d) (p := p) (vf := vf) r hl hf
  exact ⟨h2, containsF K (fc := 284) rfl (fun _ _ _ _ _ => F284_eq _ _ _ _ _) k1, k2⟩
theorem f285_c {d : Nat} (hd : 1 ≤ d) (x : Entry) {n : Int} {b : Nat} {h : H} (hb : b < h.next) (hg : h.ld b 0 = some (I n)) : C d (.func 285) [.agg x.enc, .one (ptr b 0)] h = some (.one (.bool (x.kind == 3 && x.a == n)), h.new (.cells x.enc 162 true)) := by
  obtain ⟨e, he, rfl, hC⟩ := K.at (k := 0) hd
  have g : (h.new (.cells x.enc 162 true)).ld b 0 = some (I n) := by rw [((Fr.refl h).new _).ld hb]; exact hg
  rw [hC _ _ _ rfl, F285_eq]; unfold F285
  simp only [S0, Nat.reduceAdd, Nat.reduceLeDiff, ↓reduceIte, g]
  simp only [S0, Nat.reduceAdd, Nat.reduceLeDiff, ↓reduceIte, Entry.enc]
theorem f237_c {d : Nat} (hd : 4 ≤ d) {cs : List Value} {b : Book} {es : List Entry} {h : H} (r : LogR h cs b es) (n : Int) :
    ∃ h', C d (.func 237) [.agg cs, .one (I n)] h = some (.one (.bool (mendedP es n)), h') ∧ Fr h h' := by
  obtain ⟨e, he, rfl, hC⟩ := K.at (k := 3) hd
  obtain ⟨q, rfl⟩ : ∃ q, e = q + 2 := ⟨e - 2, by omega⟩
  have s4 := r.s4
  obtain ⟨v1, v2, v3, v4, rfl, r1, r2, r3, r4⟩ := r.ex
  have f1 := (Fr.refl h).new (.cells [v1, v2, v3, v4] 112 true)
  have f2 := f1.new (.cells [I n] 3 true)
  obtain ⟨h2, k1, k2⟩ := f284_c K (d := q) (p := fun x => x.kind == 3 && x.a == n) (vf := .func (.func 285) #[] #[ptr (h.next + 1) 0]) (r4.fr f2) s4
    (fun x hx h1 f => by
      have hlt : h.next + 1 < h1.next := by have := f.nx; simp at this; omega
      have hg : h1.ld (h.next + 1) 0 = some (I n) := by rw [f.ld (by simp)]; exact ld_new (h.new (.cells [v1, v2, v3, v4] 112 true)) [I n] 3 true 0
      exact ⟨_, by rw [callV_func]; exact f285_c K (by omega) x hlt hg, (Fr.refl _).new _⟩)
  have g3 : ((h.new (.cells [v1, v2, v3, v4] 112 true)).new (.cells [I n] 3 true)).ld h.next 3 = some v4 := by rw [((Fr.refl (h.new (.cells [v1, v2, v3, v4] 112 true))).new _).ld (by simp)]; simp only [S0, Nat.reduceAdd, Nat.reduceLeDiff, ↓reduceIte]
  rw [hC _ _ _ rfl, F237_eq]; unfold F237 mendedP
  exact ⟨h2, by simp only [S0, Nat.reduceAdd, Nat.reduceLeDiff, ↓reduceIte, g3, k1], f2.trans k2⟩
end
end Go.Wz
