/- Contracts: until when checks are in force; defects that are open. -/
import Derived.Test.YthidglhhfdjhhaaGreatGQ
set_option linter.unusedVariables false
set_option linter.unusedSimpArgs false
namespace Go.Wz
open Go
/-- what a log that is right keeps to -/
structure LogOk (b : Book) (es : List Entry) : Prop where
  rules : ∀ i : Nat, i < b.rules.length → (0 ≤ (ruleAt b i).ride ∧ (ruleAt b i).ride < b.insured.length) ∧ 1 ≤ (ruleAt b i).every ∧ (ruleAt b i).every ≤ 10000
  days : ∀ i : Nat, i < es.length → 0 ≤ (entAt es i).day ∧ (entAt es i).day ≤ 10000
  sev : ∀ i : Nat, i < es.length → (entAt es i).kind = 2 → 1 ≤ (entAt es i).b ∧ (entAt es i).b ≤ 3
  sorted : ∀ i j : Nat, i ≤ j → j < es.length → (entAt es i).day ≤ (entAt es j).day
theorem lastF_some {step : Entry → Option Int} {es : List Entry} {r : Int} : ∀ {k : Nat}, lastF step es k = some r → ∃ i : Nat, i < k ∧ step (entAt es i) = some r
  | 0, h => by cases h
  | k + 1, h => by
    unfold lastF at h
    have e : entAt es (k : Int) = (es[k]?).getD entry0 := by unfold entAt; simp
    rw [← e] at h
    cases hs : step (entAt es k) with
    | none => rw [hs] at h; obtain ⟨i, h1, h2⟩ := lastF_some (show lastF step es k = some r from h); exact ⟨i, by omega, h2⟩
    | some q => rw [hs] at h; cases h; exact ⟨k, by omega, hs⟩
theorem lastP_in {b : Book} {es : List Entry} (ok : LogOk b es) (wanted : Entry → Bool) (ride : Int) : -1 ≤ lastP wanted ride es ∧ lastP wanted ride es ≤ 10000 := by
  unfold lastP
  cases hl : lastF (lastStep wanted ride) es es.length with
  | none => simp
  | some r =>
    obtain ⟨i, h1, h2⟩ := lastF_some hl
    have hd := ok.days i h1
    rw [Option.getD_some]
    unfold lastStep at h2
    split at h2
    · cases h2; omega
    · split at h2
      · cases h2; omega
      · cases h2
def untilP (b : Book) (es : List Entry) (rule : Int) : Int :=
  if lastP (fun y => y.kind == 1 && y.a == rule) (ruleAt b rule).ride es < 0 then -1 else lastP (fun y => y.kind == 1 && y.a == rule) (ruleAt b rule).ride es + (ruleAt b rule).every - 1
def checkedP (b : Book) (es : List Entry) (ride : Int) : Nat → Int
  | 0 => 10000
  | k + 1 => if ((ruleAt b k).ride == ride) = true then (if untilP b es k < checkedP b es ride k then untilP b es k else checkedP b es ride k) else checkedP b es ride k
def openL (es : List Entry) : Nat → List Int
  | 0 => []
  | k + 1 => if ((entAt es k).kind == 2 && !mendedP es k) = true then openL es k ++ [(k : Int)] else openL es k
theorem openL_len (es : List Entry) : ∀ k, (openL es k).length ≤ k
  | 0 => Nat.le_refl _
  | k + 1 => by have := openL_len es k; unfold openL; split <;> simp <;> omega
/-- a list of numbers in own memory -/
structure Own (h0 h : H) (v : Value) (l : List Int) : Prop where
  fr : Fr h0 h
  og : OG h v 3 1 (l.map fun x => [I x])
  own : ∀ x, bOf v = some x → h0.next ≤ x
theorem Own.start (h : H) : Own h h (.slice none 0 0) [] := ⟨.refl h, ⟨by simp, .inl ⟨rfl, rfl⟩⟩, fun x hx => by simp [bOf] at hx⟩
theorem Own.go {h0 h h' : H} {v : Value} {l : List Int} (o : Own h0 h v l) (f : Fr h h') : Own h0 h' v l := ⟨o.fr.trans f, o.og.keep f.nx fun b _ hb => f.get b hb, o.own⟩
theorem Own.len {h0 h : H} {v : Value} {l : List Int} (o : Own h0 h v l) : lenS v = some (I l.length) := by have := o.og.rs.len; rwa [List.length_map] at this
theorem Own.int {h0 h : H} {v : Value} {l : List Int} (o : Own h0 h v l) : RInt h v l := o.og.rs
theorem Own.app {h0 h : H} {v : Value} {l : List Int} (o : Own h0 h v l) (n : Int) (hl : l.length < 2 ^ 29) :
    ∃ v' h', (h.new (.cells [I n] 3 true)).appS 1 3 (slc h.next 0 1 1) v = some (v', h') ∧ Own h0 h' v' (l ++ [n]) := by
  obtain ⟨hB, eB⟩ : ∃ q, q = h.new (.cells [I n] 3 true) := ⟨_, rfl⟩
  have fB : Fr h hB := by rw [eB]; exact (Fr.refl h).new _
  have nB : hB.next = h.next + 1 := by rw [eB]; rfl
  have o' := o.go fB
  have rx : RS hB 1 (slc h.next 0 1 1) [[I n]] := RS.mk (l := [[I n]]) (by simp) ⟨by omega, by rw [eB]; exact H.new_get_same _ _⟩ (by simp) (by simp)
  obtain ⟨h5, a1, a2, a3, a4⟩ := append_c o'.og rx (by simp) (by simp; omega)
  rw [← eB]
  have fn := o'.fr.nx
  refine ⟨_, h5, a1, ⟨⟨by omega, fun b hb => ?_⟩, by rw [List.map_append]; exact a3, fun x hx => by rw [bOf_slc] at hx; cases hx; exact fn⟩⟩
  rw [a4 b (by omega) fun hh => by have := o.own b hh; omega]
  exact o'.fr.get b hb
section
variable {C : Nat → CallT} {N : Nat} (K : CallsOf C N)
include K
theorem f117_c {d : Nat} (hd : 1 ≤ d) (x : Entry) {n : Int} {b : Nat} {h : H} (hb : b < h.next) (hg : h.ld b 0 = some (I n)) : C d (.func 117) [.agg x.enc, .one (ptr b 0)] h = some (.one (.bool (x.kind == 4 && x.a == n)), h.new (.cells x.enc 162 true)) := by
  obtain ⟨e, he, rfl, hC⟩ := K.at (k := 0) hd
  have g : (h.new (.cells x.enc 162 true)).ld b 0 = some (I n) := by rw [((Fr.refl h).new _).ld hb]; exact hg
  rw [hC _ _ _ rfl, F117_eq]; unfold F117
  simp only [S0, Nat.reduceAdd, Nat.reduceLeDiff, ↓reduceIte, g]
  simp only [S0, Nat.reduceAdd, Nat.reduceLeDiff, ↓reduceIte, Entry.enc]
theorem f239_c {d : Nat} (hd : 1 ≤ d) (x : Entry) {n : Int} {b : Nat} {h : H} (hb : b < h.next) (hg : h.ld b 0 = some (I n)) : C d (.func 239) [.agg x.enc, .one (ptr b 0)] h = some (.one (.bool (x.kind == 1 && x.a == n)), h.new (.cells x.enc 162 true)) := by
  obtain ⟨e, he, rfl, hC⟩ := K.at (k := 0) hd
  have g : (h.new (.cells x.enc 162 true)).ld b 0 = some (I n) := by rw [((Fr.refl h).new _).ld hb]; exact hg
  rw [hC _ _ _ rfl, F239_eq]; unfold F239
  simp only [S0, Nat.reduceAdd, Nat.reduceLeDiff, ↓reduceIte, g]
  simp only [S0, Nat.reduceAdd, Nat.reduceLeDiff, ↓reduceIte, Entry.enc]
theorem f188_c {d : Nat} (hd : 7 ≤ d) {cs : List Value} {b : Book} {es : List Entry} {h : H} (r : LogR h cs b es) (ok : LogOk b es) {rule : Nat} (hr : rule < b.rules.length) :
    ∃ h', C d (.func 188) [.agg cs, .one (I rule)] h = some (.one (I (untilP b es rule)), h') ∧ Fr h h' := by
  obtain ⟨e, he, rfl, hC⟩ := K.at (k := 6) hd
  obtain ⟨q, rfl⟩ : ∃ q, e = q + 4 := ⟨e - 4, by omega⟩
  obtain ⟨hA, eA⟩ : ∃ q, q = (h.new (.cells cs 112 true)).new (.cells [I (rule : Int)] 3 true) := ⟨_, rfl⟩
  have fA : Fr h hA := by rw [eA]; exact ((Fr.refl h).new _).new _
  have nA : hA.next = h.next + 2 := by rw [eA]; rfl
  have gc : ∀ h', Fr hA h' → h'.get h.next = some (.cells cs 112 true) := fun h' f => by rw [f.get _ (by omega), eA, H.new_get_lt _ _ (by simp)]; simp
  have gr : ∀ h', Fr hA h' → h'.ld (h.next + 1) 0 = some (I (rule : Int)) := fun h' f => by rw [f.ld (by omega), eA]; exact ld_new (h.new (.cells cs 112 true)) [I (rule : Int)] 3 true 0
  obtain ⟨h2, k1, k2⟩ := f116_c K (e := q) (by omega) (r.fr fA) (ride := (ruleAt b rule).ride) (vf := .func (.func 239) #[] #[ptr (h.next + 1) 0]) (wanted := fun y => y.kind == 1 && y.a == (rule : Int))
    (fun y h1 f => ⟨_, by rw [callV_func]; exact f239_c K (by omega) y (by have := f.nx; omega) (gr h1 f), (Fr.refl _).new _⟩)
  obtain ⟨v1, v2, v3, v4, rfl, r1, r2, r3, r4⟩ := r.ex
  have l4 : hA.ldn h.next 0 4 = some [v1, v2, v3, v4] := by rw [H.ldn_of _ (gc hA (.refl _))]; rfl
  have g0 : ∀ h', Fr hA h' → h'.ld h.next 0 = some v1 := fun h' f => by rw [H.ld_of _ (gc h' f)]; rfl
  obtain ⟨b1, o1, _, q1, q2⟩ := r1.atI rule0 (n := (rule : Int)) (by omega) (by omega)
  have q3 : hA.ld b1 o1 = some (I (ruleAt b rule).ride) := by have := (q2 hA fA).2 0 (by omega); simpa [Rule.enc, ruleAt] using this
  have q4 : h2.ld b1 (o1 + 1) = some (I (ruleAt b rule).every) := by have := (q2 h2 (fA.trans k2)).2 1 (by omega); simpa [Rule.enc, ruleAt] using this
  have hin := lastP_in ok (fun y => y.kind == 1 && y.a == (rule : Int)) (ruleAt b rule).ride
  have hev := (ok.rules rule hr).2
  refine ⟨h2, ?_, fA.trans k2⟩
  rw [hC _ _ _ rfl, F188_eq]; unfold F188 untilP
  rw [← eA]
  generalize lastP (fun y => y.kind == 1 && y.a == (rule : Int)) (ruleAt b rule).ride es = last at k1 hin ⊢
  by_cases hneg : last < 0
  · simp only [S0, Nat.reduceAdd, Nat.reduceLeDiff, ↓reduceIte, l4, g0 hA (.refl _), gr hA (.refl _), q1, q3, k1, hneg]
  · have a1 : ibin .add (I last) (I (ruleAt b rule).every) = some (I (last + (ruleAt b rule).every)) := add_in (by omega) (by omega)
    have a2 : ibin .sub (I (last + (ruleAt b rule).every)) (I 1) = some (I (last + (ruleAt b rule).every - 1)) := sub_in (by omega) (by omega)
    simp only [S0, Nat.reduceAdd, Nat.reduceLeDiff, ↓reduceIte, l4, g0 hA (.refl _), gr hA (.refl _), q1, q3, k1, hneg, g0 h2 k2, gr h2 k2, q4, a1, a2]
theorem f114_c {d : Nat} (hd : 8 ≤ d) {cs : List Value} {b : Book} {es : List Entry} {h : H} (r : LogR h cs b es) (ok : LogOk b es) (ride : Int) :
    ∃ h', C d (.func 114) [.agg cs, .one (I ride)] h = some (.one (I (checkedP b es ride b.rules.length)), h') ∧ Fr h h' := by
  obtain ⟨e, he, rfl, hC⟩ := K.at (k := 7) hd
  have hN := K.big
  have s1 := r.s1
  obtain ⟨hA, eA⟩ : ∃ q, q = h.new (.cells cs 112 true) := ⟨_, rfl⟩
  have fA : Fr h hA := by rw [eA]; exact (Fr.refl h).new _
  have nA : hA.next = h.next + 1 := by rw [eA]; rfl
  have rA := r.fr fA
  have hcs : cs.length = 4 := by obtain ⟨v1, v2, v3, v4, rfl, _⟩ := r.ex; rfl
  have gc : ∀ h', Fr hA h' → h'.get h.next = some (.cells cs 112 true) := fun h' f => by rw [f.get _ (by omega), eA]; simp
  have l4 : ∀ h', Fr hA h' → h'.ldn h.next 0 4 = some cs := fun h' f => by rw [H.ldn_of _ (gc h' f), if_pos (by omega), List.drop_zero, List.take_of_length_le (by omega)]
  obtain ⟨v1, v2, v3, v4, hcs', r1, r2, r3, r4⟩ := rA.ex
  have g0 : hA.ld h.next 0 = some v1 := by rw [H.ld_of _ (gc hA (.refl _)), hcs']; rfl
  have l1 := r1.len
  rw [List.length_map] at l1
  have main := loop_inv (LP := LP114_0 (C e) N) (n := b.rules.length)
    (fun i vs h1 => Fr hA h1 ∧ vs = [.one (I ride), .one (ptr h.next 0), .one (I (checkedP b es ride i)), .one v1, .one (I b.rules.length), .one (I i)])
    (fun o => ∃ h', o = some (.exit 0, [.one (I (checkedP b es ride b.rules.length))], h') ∧ Fr hA h')
    (fun m vs h1 ⟨f, hv⟩ => ⟨h1, by rw [hv, LP114_0_succ]; unfold B114_0; simp only [S0, Nat.reduceAdd, Nat.reduceLeDiff, ↓reduceIte, in0], f⟩)
    (fun i m vs h1 hi ⟨f, hv⟩ => by
      subst hv
      rw [LP114_0_succ]; unfold B114_0
      obtain ⟨b1, o1, _, q1, q2⟩ := r1.atI rule0 (n := (i : Int)) (by omega) (by omega)
      have q3 := (q2 h1 f).1
      rw [show ((b.rules[(i : Int).toNat]?).getD rule0) = ruleAt b i from rfl] at q3
      have p1 := pstn_new h1 (zs := [I 0, I 0, I 0, .bool false]) (xs := (ruleAt b i).enc) 249 rfl
      have hx5 : (ruleAt b i).enc.length = 4 := rfl
      have x0 : ((ruleAt b i).enc)[0]? = some (I (ruleAt b i).ride) := rfl
      have fn : Fr h1 (h1.new (.cells (ruleAt b i).enc 249 true)) := (Fr.refl h1).new _
      conv => enter [2, 1, vs', 1, h', 1]; unfold checkedP
      cases hr : (ruleAt b i).ride == ride with
      | false =>
        refine .inr ⟨_, _, ⟨f.trans fn, rfl⟩, ?_⟩
        simp only [S0, Nat.reduceAdd, Nat.reduceLeDiff, ↓reduceIte, i0 hi, q1, q3, ifLen_eq, hx5, p1, x0, hr, i1 (show i + 1 ≤ b.rules.length from hi) (by omega)]
      | true =>
        obtain ⟨h3, z1, z2⟩ := f188_c K (d := e) he (rA.fr (f.trans fn)) ok hi
        refine .inr ⟨_, _, ⟨f.trans (fn.trans z2), rfl⟩, ?_⟩
        simp only [S0, Nat.reduceAdd, Nat.reduceLeDiff, ↓reduceIte, i0 hi, q1, q3, ifLen_eq, hx5, p1, x0, hr, l4 _ (f.trans fn), z1, i1 (show i + 1 ≤ b.rules.length from hi) (by omega)])
    b.rules.length 0 N _ hA (by omega) ⟨.refl hA, rfl⟩ (by omega)
  obtain ⟨h', z1, z2⟩ := main
  have z1' : LP114_0 (C e) N N [.one (I ride), .one (ptr h.next 0), .one (I 10000), .one v1, .one (I b.rules.length), .one (I 0)] hA = _ := z1
  refine ⟨h', ?_, fA.trans z2⟩
  rw [hC _ _ _ rfl, F114_eq]; unfold F114
  rw [← eA]
  simp only [S0, Nat.reduceAdd, Nat.reduceLeDiff, ↓reduceIte, g0, l1, z1']
theorem f189_c {d : Nat} (hd : 5 ≤ d) {cs : List Value} {b : Book} {es : List Entry} {h : H} (r : LogR h cs b es) :
    ∃ v h', C d (.func 189) [.agg cs] h = some (.one v, h') ∧ Own h h' v (openL es es.length) := by
  obtain ⟨e, he, rfl, hC⟩ := K.at (k := 4) hd
  have hN := K.big
  have s4 := r.s4
  obtain ⟨hA, eA⟩ : ∃ q, q = h.new (.cells cs 112 true) := ⟨_, rfl⟩
  have fA : Fr h hA := by rw [eA]; exact (Fr.refl h).new _
  have nA : hA.next = h.next + 1 := by rw [eA]; rfl
  have rA := r.fr fA
  have hcs : cs.length = 4 := by obtain ⟨v1, v2, v3, v4, rfl, _⟩ := r.ex; rfl
  have gc : ∀ h', Fr hA h' → h'.get h.next = some (.cells cs 112 true) := fun h' f => by rw [f.get _ (by omega), eA]; simp
  have l4' : ∀ h', Fr hA h' → h'.ldn h.next 0 4 = some cs := fun h' f => by rw [H.ldn_of _ (gc h' f), if_pos (by omega), List.drop_zero, List.take_of_length_le (by omega)]
  obtain ⟨v1, v2, v3, v4, hcs', r1, r2, r3, r4⟩ := rA.ex
  have g3 : hA.ld h.next 3 = some v4 := by rw [H.ld_of _ (gc hA (.refl _)), hcs']; rfl
  have l4 := r4.len
  rw [List.length_map] at l4
  have main := loop_inv (LP := LP189_0 (C e) N) (n := es.length)
    (fun i vs h1 => ∃ v, Own hA h1 v (openL es i) ∧ vs = [.one (ptr h.next 0), .one v, .one v4, .one (I es.length), .one (I i)])
    (fun o => ∃ v h', o = some (.exit 0, [.one v], h') ∧ Own hA h' v (openL es es.length))
    (fun m vs h1 ⟨v, o, hv⟩ => ⟨v, h1, by rw [hv, LP189_0_succ]; unfold B189_0; simp only [S0, Nat.reduceAdd, Nat.reduceLeDiff, ↓reduceIte, in0], o⟩)
    (fun i m vs h1 hi ⟨v, o, hv⟩ => by
      subst hv
      rw [LP189_0_succ]; unfold B189_0
      have f := o.fr
      obtain ⟨b1, o1, _, q1, q2⟩ := r4.atI entry0 (n := (i : Int)) (by omega) (by omega)
      have q3 := (q2 h1 f).1
      rw [show ((es[(i : Int).toNat]?).getD entry0) = entAt es i from rfl] at q3
      have p1 := pstn_new h1 (zs := [I 0, I 0, I 0, I 0, I 0]) (xs := (entAt es i).enc) 162 rfl
      have hx5 : (entAt es i).enc.length = 5 := rfl
      have x1 : ((entAt es i).enc)[1]? = some (I (entAt es i).kind) := rfl
      have fn : Fr h1 (h1.new (.cells (entAt es i).enc 162 true)) := (Fr.refl h1).new _
      have hlen := openL_len es i
      have e1 : openL es (i + 1) = if ((entAt es i).kind == 2 && !mendedP es i) = true then openL es i ++ [(i : Int)] else openL es i := rfl
      cases hk : (entAt es i).kind == 2 with
      | false =>
        rw [hk] at e1
        refine .inr ⟨_, _, ⟨v, by rw [e1]; exact o.go fn, rfl⟩, ?_⟩
        simp only [S0, Nat.reduceAdd, Nat.reduceLeDiff, ↓reduceIte, i0 hi, q1, q3, ifLen_eq, hx5, p1, x1, hk, i1 (show i + 1 ≤ es.length from hi) (by omega)]
      | true =>
        obtain ⟨h3, z1, z2⟩ := f237_c K (d := e) he (rA.fr (f.trans fn)) (i : Int)
        rw [hk] at e1
        cases hm : mendedP es i with
        | true =>
          rw [hm] at e1 z1
          refine .inr ⟨_, _, ⟨v, by rw [e1]; exact o.go (fn.trans z2), rfl⟩, ?_⟩
          simp only [S0, Nat.reduceAdd, Nat.reduceLeDiff, ↓reduceIte, i0 hi, q1, q3, ifLen_eq, hx5, p1, x1, hk, l4' _ (f.trans fn), z1, i1 (show i + 1 ≤ es.length from hi) (by omega)]
        | false =>
          rw [hm] at e1 z1
          obtain ⟨v', h4, w1, w2⟩ := (o.go (fn.trans z2)).app (i : Int) (by omega)
          refine .inr ⟨_, _, ⟨v', by rw [e1]; exact w2, rfl⟩, ?_⟩
          simp only [S0, Nat.reduceAdd, Nat.reduceLeDiff, ↓reduceIte, i0 hi, q1, q3, ifLen_eq, hx5, p1, x1, hk, l4' _ (f.trans fn), z1, w1, i1 (show i + 1 ≤ es.length from hi) (by omega)])
    es.length 0 N _ hA (by omega) ⟨_, Own.start hA, rfl⟩ (by omega)
  obtain ⟨v, h', z1, z2⟩ := main
  have z1' : LP189_0 (C e) N N [.one (ptr h.next 0), .one (.slice none 0 0), .one v4, .one (I es.length), .one (I 0)] hA = _ := z1
  refine ⟨v, h', ?_, ⟨fA.trans z2.fr, z2.og, fun x hx => by have := z2.own x hx; omega⟩⟩
  rw [hC _ _ _ rfl, F189_eq]; unfold F189
  rw [← eA]
  simp only [S0, Nat.reduceAdd, Nat.reduceLeDiff, ↓reduceIte, g3, l4, z1']
end
end Go.Wz
