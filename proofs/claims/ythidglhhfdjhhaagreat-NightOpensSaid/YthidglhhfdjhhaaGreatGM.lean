/- Contracts: inspect.Check. -/
import Derived.Test.YthidglhhfdjhhaaGreatGL
import Derived.Test.YthidglhhfdjhhaaGreatLA
set_option linter.unusedVariables false
set_option linter.unusedSimpArgs false
namespace Go.Wz
open Go
def badRule (n : Nat) (r : Rule) : Bool := !wi r.ride 0 ((n : Int) - 1) || !wi r.every 1 10000 || !wi r.rank 0 9
def bookBad0 (b : Book) : Bool := decide ((b.rules.length : Int) > 20) || decide ((b.ranks.length : Int) > 8) || decide ((b.insured.length : Int) > 10)
def bookErr (b : Book) : Int :=
  if bookBad0 b = true then 100 else if b.rules.any (badRule b.insured.length) = true then 100 else if (b.ranks.any fun n => !wi n 0 9) = true then 100 else if (b.insured.any fun n => !wi n 0 10000) = true then 100 else 0
def logErr (b : Book) (es : List Entry) : Int × Int :=
  if bookErr b ≠ 0 then (0, bookErr b) else if es.length > 100 then (0, 2) else match findI (fun i x => !rightP b (es.take i) x) 0 es with | some i => ((i : Int), 101) | none => (0, 0)
theorem bookErr_cases (b : Book) : bookErr b = 0 ∨ bookErr b = 100 := by
  unfold bookErr
  by_cases h1 : bookBad0 b = true
  · rw [if_pos h1]; exact .inr rfl
  rw [if_neg h1]
  by_cases h2 : b.rules.any (badRule b.insured.length) = true
  · rw [if_pos h2]; exact .inr rfl
  rw [if_neg h2]
  by_cases h3 : (b.ranks.any fun n => !wi n 0 9) = true
  · rw [if_pos h3]; exact .inr rfl
  rw [if_neg h3]
  by_cases h4 : (b.insured.any fun n => !wi n 0 10000) = true
  · rw [if_pos h4]; exact .inr rfl
  · rw [if_neg h4]; exact .inl rfl
theorem splice0 {zs xs : List Value} (h : xs.length = zs.length) : splice zs 0 xs = xs := by unfold splice; simp [h]
section
variable {C : Nat → CallT} {N : Nat} (K : CallsOf C N)
include K
theorem f233_c {d : Nat} (hd : 2 ≤ d) (x : Rule) {n b : Nat} {v : Value} {h : H} (hb : b < h.next) (hg : h.ld b 2 = some v) (hl : lenS v = some (I n)) (hn : n < 5000) :
    C d (.func 233) [.agg x.enc, .one (ptr b 0)] h = some (.one (.bool (badRule n x)), h.new (.cells x.enc 249 true)) := by
  obtain ⟨e, he, rfl, hC⟩ := K.at (k := 1) hd
  have g : (h.new (.cells x.enc 249 true)).ld b 2 = some v := by rw [((Fr.refl h).new _).ld hb]; exact hg
  rw [hC _ _ _ rfl, F233_eq]; unfold F233 badRule
  simp only [S0, Nat.reduceAdd, Nat.reduceLeDiff, ↓reduceIte, g, hl, sub1 (show n < 2 ^ 40 by omega)]
  simp only [S0, Nat.reduceAdd, Nat.reduceLeDiff, ↓reduceIte, Rule.enc, w111 K he]
theorem f181_c {d : Nat} (hd : 5 ≤ d) {cs : List Value} {b : Book} {h : H} (r : BookR h cs b) :
    ∃ h', C d (.func 181) [.agg cs] h = some (.one (I (bookErr b)), h') ∧ Fr h h' := by
  obtain ⟨e, he, rfl, hC⟩ := K.at (k := 4) hd
  obtain ⟨q, rfl⟩ : ∃ q, e = q + 2 := ⟨e - 2, by omega⟩
  have s1 := r.s1
  have s2 := r.s2
  have s3 := r.s3
  obtain ⟨v1, v2, v3, rfl, r1, r2, r3⟩ := r.ex
  have l1 := r1.len
  rw [List.length_map] at l1
  have l2 := r2.len
  have l3 := r3.len
  obtain ⟨hA, eA⟩ : ∃ q, q = h.new (.cells [v1, v2, v3] 28 true) := ⟨_, rfl⟩
  have f1 : Fr h hA := by rw [eA]; exact (Fr.refl h).new _
  have nA : hA.next = h.next + 1 := by rw [eA]; rfl
  have g : ∀ h', Fr hA h' → h'.get h.next = some (.cells [v1, v2, v3] 28 true) := fun h' f => by rw [f.get _ (by omega), eA]; simp
  have g0 : ∀ h', Fr hA h' → h'.ld h.next 0 = some v1 := fun h' f => by rw [H.ld_of _ (g h' f)]; rfl
  have g1 : ∀ h', Fr hA h' → h'.ld h.next 1 = some v2 := fun h' f => by rw [H.ld_of _ (g h' f)]; rfl
  have g2 : ∀ h', Fr hA h' → h'.ld h.next 2 = some v3 := fun h' f => by rw [H.ld_of _ (g h' f)]; rfl
  have rf := Fr.refl hA
  obtain ⟨h2, i1', k2⟩ := indexF K (fi := 282) (LP := LP282_0) rfl (fun _ _ _ _ _ => F282_eq _ _ _ _ _) (fun _ _ _ _ _ _ _ _ => LP282_0_succ _ _ _ _ _ _ _ _) (d := q) (p := badRule b.insured.length) (vf := .func (.func 233) #[] #[ptr h.next 0]) (r1.fr f1) s1
    (fun x hx h1 f => ⟨_, by rw [callV_func]; exact f233_c K (by omega) x (by have := f.nx; omega) (g2 h1 f) l3 s3, (Fr.refl h1).new _⟩)
  have k1 := containsF K (fc := 232) rfl (fun _ _ _ _ _ => F232_eq _ _ _ _ _) i1'
  obtain ⟨qe, hqe, rfl, hCq⟩ := K.at (k := 1) (show 2 ≤ q by omega)
  obtain ⟨h3, m1, m2⟩ := f57_c K (d := qe + 1) (enc1 := fun x : Int => I x) (vf := .func (.func 234) #[] #[]) (p := fun n => !wi n 0 9) (RS.fr r2 (f1.trans k2)) s2
    (fun x hx h1 f => ⟨h1, by rw [callV_func, hCq _ _ _ rfl]; show execF Proofs.Tryz.prog _ _ _ 234 [.one (I x)] h1 = _; rw [F234_eq]; unfold F234; simp only [S0, Nat.reduceAdd, Nat.reduceLeDiff, ↓reduceIte, w111 K hqe], .refl h1⟩)
  obtain ⟨h4, n1, n2⟩ := f57_c K (d := qe + 1) (enc1 := fun x : Int => I x) (vf := .func (.func 235) #[] #[]) (p := fun n => !wi n 0 10000) (RS.fr r3 (f1.trans (k2.trans m2))) s3
    (fun x hx h1 f => ⟨h1, by rw [callV_func, hCq _ _ _ rfl]; show execF Proofs.Tryz.prog _ _ _ 235 [.one (I x)] h1 = _; rw [F235_eq]; unfold F235; simp only [S0, Nat.reduceAdd, Nat.reduceLeDiff, ↓reduceIte, w111 K hqe], .refl h1⟩)
  rw [hC _ _ _ rfl, F181_eq]; unfold F181 bookErr bookBad0
  rw [← eA]
  simp only [S0, Nat.reduceAdd, Nat.reduceLeDiff, ↓reduceIte, g0 hA rf, g1 hA rf, g2 hA rf, l1, l2, l3]
  cases hQ : (decide ((b.rules.length : Int) > 20) || decide ((b.ranks.length : Int) > 8) || decide ((b.insured.length : Int) > 10)) with
  | true => exact ⟨hA, by simp only [S0, Nat.reduceAdd, Nat.reduceLeDiff, ↓reduceIte, hQ], f1⟩
  | false =>
    cases hR : b.rules.any (badRule b.insured.length) with
    | true => rw [hR] at k1; exact ⟨h2, by simp only [S0, Nat.reduceAdd, Nat.reduceLeDiff, ↓reduceIte, hQ, g0 hA rf, k1], f1.trans k2⟩
    | false =>
      rw [hR] at k1
      cases hS : (b.ranks.any fun n => !wi n 0 9) with
      | true => rw [hS] at m1; exact ⟨h3, by simp only [S0, Nat.reduceAdd, Nat.reduceLeDiff, ↓reduceIte, hQ, g0 hA rf, k1, g1 h2 k2, m1], f1.trans (k2.trans m2)⟩
      | false =>
        rw [hS] at m1
        refine ⟨h4, ?_, f1.trans (k2.trans (m2.trans n2))⟩
        cases hT : (b.insured.any fun n => !wi n 0 10000) <;> rw [hT] at n1 <;> simp only [S0, Nat.reduceAdd, Nat.reduceLeDiff, ↓reduceIte, hQ, g0 hA rf, k1, g1 h2 k2, m1, g2 h3 (k2.trans m2), n1]

/-- the log that is made -/
structure NL (h : H) (bl : Nat) (b : Book) (es : List Entry) (v1 v2 v3 ve vo : Value) (n : Nat) : Prop where
  lt : bl < h.next
  cell : h.get bl = some (.cells [v1, v2, v3, vo] 112 true)
  r1 : RS h 4 v1 (b.rules.map Rule.enc)
  r2 : RInt h v2 b.ranks
  r3 : RInt h v3 b.insured
  re : RS h 5 ve (es.map Entry.enc)
  o1 : ∀ x, bOf v1 = some x → x < bl
  o2 : ∀ x, bOf v2 = some x → x < bl
  o3 : ∀ x, bOf v3 = some x → x < bl
  oe : ∀ x, bOf ve = some x → x < bl
  out : OG h vo 162 5 ((es.take n).map Entry.enc)
  oo : ∀ x, bOf vo = some x → bl < x
omit K in
theorem NL.log {h : H} {bl : Nat} {b : Book} {es : List Entry} {v1 v2 v3 ve vo : Value} {n : Nat} (S : NL h bl b es v1 v2 v3 ve vo n) (s1 : b.rules.length < 5000) (s2 : b.ranks.length < 5000) (s3 : b.insured.length < 5000) (s4 : es.length < 5000) :
    LogR h [v1, v2, v3, vo] b (es.take n) := ⟨⟨v1, v2, v3, vo, rfl, S.r1, S.r2, S.r3, S.out.rs⟩, s1, s2, s3, by simp; omega⟩
omit K in
theorem NL.fr {h h' : H} {bl : Nat} {b : Book} {es : List Entry} {v1 v2 v3 ve vo : Value} {n : Nat} (S : NL h bl b es v1 v2 v3 ve vo n) (f : Fr h h') : NL h' bl b es v1 v2 v3 ve vo n :=
  { S with
    lt := Nat.lt_of_lt_of_le S.lt f.nx
    cell := (f.get _ S.lt).trans S.cell
    r1 := S.r1.fr f
    r2 := S.r2.fr f
    r3 := S.r3.fr f
    re := S.re.fr f
    out := S.out.keep f.nx fun x _ hx => f.get x hx }
theorem log_loop {e : Nat} (he : 5 ≤ e) {bl : Nat} {b : Book} {es : List Entry} {v1 v2 v3 ve : Value} (s1 : b.rules.length < 5000) (s2 : b.ranks.length < 5000) (s3 : b.insured.length < 5000) (s4 : es.length ≤ 100) :
    ∀ (t : List Entry) (i m : Nat) (h : H) (vo : Value), NL h bl b es v1 v2 v3 ve vo i → es.drop i = t → i ≤ es.length → t.length < m →
      ∃ h' vo', h.next ≤ h'.next ∧ (∀ x, x < bl → h'.get x = h.get x) ∧ LP103_0 (C e) N m [.one (ptr bl 0), .one ve, .one (I es.length), .one (I i)] h =
        some (match findI (fun i x => !rightP b (es.take i) x) i t with
          | some j => (.ret (.tup [.agg [v1, v2, v3, vo'], .one (I j), .one (I 101)]), [], h')
          | none => (.exit 0, [.one (ptr bl 0)], h')) ∧ (findI (fun i x => !rightP b (es.take i) x) i t = none → NL h' bl b es v1 v2 v3 ve vo' es.length) := by
  have hN := K.big
  intro t
  induction t with
  | nil =>
    intro i m h vo S hd hle hm
    obtain ⟨m, rfl⟩ : ∃ q, m = q + 1 := ⟨m - 1, by omega⟩
    obtain rfl := drop_nil hd hle
    rw [LP103_0_succ]; unfold B103_0
    exact ⟨h, vo, Nat.le_refl _, fun _ _ => rfl, by simp only [S0, Nat.reduceAdd, Nat.reduceLeDiff, ↓reduceIte, in0, findI], fun _ => S⟩
  | cons x t ih =>
    intro i m h vo S hd hle hm
    obtain ⟨m, rfl⟩ : ∃ q, m = q + 1 := ⟨m - 1, by omega⟩
    simp only [List.length_cons] at hm
    obtain ⟨hlt, hx, hd', hlen⟩ := drop_cons hd
    rw [LP103_0_succ]; unfold B103_0
    obtain ⟨b1, o1, _, _, e1, e2⟩ := S.re.atx (i := i) (x := x) (by rw [List.getElem?_eq_getElem hlt, hx])
    have e3 := (e2 h (.refl _)).1
    have p1 := pstn_new h (zs := [I 0, I 0, I 0, I 0, I 0]) (xs := x.enc) 162 rfl
    have hx5 : x.enc.length = 5 := rfl
    obtain ⟨hA, eA⟩ : ∃ q, q = h.new (.cells x.enc 162 true) := ⟨_, rfl⟩
    rw [← eA] at p1
    have fA : Fr h hA := by rw [eA]; exact (Fr.refl h).new _
    have nA : hA.next = h.next + 1 := by rw [eA]; rfl
    have SA := S.fr fA
    have l4 : hA.ldn bl 0 4 = some [v1, v2, v3, vo] := by rw [H.ldn_of _ SA.cell]; rfl
    have l5 : hA.ldn h.next 0 5 = some x.enc := by rw [eA, ldn_new, if_pos (by omega), List.drop_zero, List.take_of_length_le (by omega)]
    obtain ⟨h2, k1, k2⟩ := f182_c K (d := e) he (SA.log s1 s2 s3 (by omega)) x
    have S2 := SA.fr k2
    have q4 : h2.ldn bl 0 4 = some [v1, v2, v3, vo] := by rw [H.ldn_of _ S2.cell]; rfl
    unfold findI
    cases hr : rightP b (es.take i) x with
    | false =>
      rw [hr] at k1
      have st : h2.stn bl 0 [v1, v2, v3, vo] = some (h2.put bl (some (.cells [v1, v2, v3, vo] 112 true))) := by rw [H.stn_of _ S2.cell]; rfl
      rw [H.put_self S2.cell] at st
      refine ⟨h2, vo, by have := k2.nx; omega, fun y hy => by rw [(fA.trans k2).get y (by have := S.lt; omega)], ?_, fun hh => by simp at hh⟩
      simp only [S0, Nat.reduceAdd, Nat.reduceLeDiff, ↓reduceIte, i0 hlt, e1, e3, ifLen_eq, hx5, p1, l4, l5, k1, q4]
      simp only [S0, Nat.reduceAdd, Nat.reduceLeDiff, ↓reduceIte, pstn_ptr, st, q4]
    | true =>
      rw [hr] at k1
      have q3 : h2.ld bl 3 = some vo := by rw [H.ld_of _ S2.cell]; rfl
      have q5 : h2.ldn h.next 0 5 = some x.enc := by rw [k2.ldn (by omega)]; exact l5
      have hsp : splice [I 0, I 0, I 0, I 0, I 0] 0 x.enc = x.enc := splice0 rfl
      obtain ⟨hB, eB⟩ : ∃ q, q = h2.new (.cells x.enc 162 true) := ⟨_, rfl⟩
      have fB : Fr h2 hB := by rw [eB]; exact (Fr.refl h2).new _
      have nB : hB.next = h2.next + 1 := by rw [eB]; rfl
      have S3 := S2.fr fB
      have rx : RS hB 5 (slc h2.next 0 1 1) [x.enc] := RS.mk (l := [x.enc]) (by simp [Entry.enc]) ⟨by omega, by rw [eB]; exact H.new_get_same _ _⟩ (by simp [Entry.enc]) (by simp [Entry.enc])
      obtain ⟨h5, a1, a2, a3, a4⟩ := append_c S3.out rx (by simp) (by simp; omega)
      have hll : ((es.take i).map Entry.enc).length = i := by simp; omega
      rw [hll] at a1 a3
      simp only [List.length_cons, List.length_nil, Nat.zero_add] at a1 a3
      have gbl : h5.get bl = some (.cells [v1, v2, v3, vo] 112 true) := by rw [a4 bl S3.lt fun hh => by have := S3.oo _ hh; omega]; exact S3.cell
      have st : h5.st bl 3 (slc hB.next 0 (i + 1) 1) = some (h5.put bl (some (.cells [v1, v2, v3, slc hB.next 0 (i + 1) 1] 112 true))) := by rw [H.st_of _ gbl]; rfl
      have keep : ∀ y, y < bl → (h5.put bl (some (.cells [v1, v2, v3, slc hB.next 0 (i + 1) 1] 112 true))).get y = hB.get y := fun y hy => by
        rw [H.put_get_ne _ _ (by omega), a4 y (by have := S3.lt; omega) fun hh => by have := S3.oo _ hh; omega]
      have S5 : NL (h5.put bl (some (.cells [v1, v2, v3, slc hB.next 0 (i + 1) 1] 112 true))) bl b es v1 v2 v3 ve (slc hB.next 0 (i + 1) 1) (i + 1) := { S3 with
        lt := by rw [H.put_nx]; have := S3.lt; omega
        cell := H.put_get_same _ _ _
        r1 := S3.r1.keep (by rw [H.put_nx]; omega) fun y hy => keep y (S3.o1 y hy)
        r2 := RS.keep S3.r2 (by rw [H.put_nx]; omega) fun y hy => keep y (S3.o2 y hy)
        r3 := RS.keep S3.r3 (by rw [H.put_nx]; omega) fun y hy => keep y (S3.o3 y hy)
        re := S3.re.keep (by rw [H.put_nx]; omega) fun y hy => keep y (S3.oe y hy)
        out := by
          have : (es.take (i + 1)).map Entry.enc = (es.take i).map Entry.enc ++ [x.enc] := by
            rw [List.take_add_one, List.getElem?_eq_getElem hlt, hx]; simp
          rw [this]
          refine a3.keep (by rw [H.put_nx]; exact Nat.le_refl _) fun y hy _ => H.put_get_ne _ _ ?_
          rw [bOf_slc] at hy; cases hy
          have := S3.lt; omega
        oo := fun y hy => by rw [bOf_slc] at hy; cases hy; exact S3.lt }
      obtain ⟨h', vo', z1, z2, z3, z4⟩ := ih (i + 1) m _ _ S5 hd' (by omega) (by omega)
      refine ⟨h', vo', by rw [H.put_nx] at z1; have := k2.nx; omega, fun y hy => by rw [z2 y hy, keep y hy, fB.get y (by have := S2.lt; omega), (fA.trans k2).get y (by have := S.lt; omega)], ?_, fun hh => z4 (by simpa using hh)⟩
      simp only [S0, Nat.reduceAdd, Nat.reduceLeDiff, ↓reduceIte, i0 hlt, e1, e3, ifLen_eq, hx5, p1, l4, l5, k1, q3, q5, fillK_agg, hsp, ← eB, a1, pst_ptr, st, i1 (show i + 1 ≤ es.length from hlt) (by omega), z3]
theorem f103_c {d : Nat} (hd : 6 ≤ d) {cs : List Value} {b : Book} {es : List Entry} {ve : Value} {h : H} (r : BookR h cs b) (re : RS h 5 ve (es.map Entry.enc)) :
    ∃ l h', C d (.func 103) [.agg cs, .one ve] h = some (.tup [.agg l, .one (I (logErr b es).1), .one (I (logErr b es).2)], h') ∧ Fr h h' ∧ l.length = 4 ∧ ((logErr b es).2 = 0 → LogR h' l b es) := by
  obtain ⟨e, he, rfl, hC⟩ := K.at (k := 5) hd
  have hN := K.big
  obtain ⟨hA, eA⟩ : ∃ q, q = (h.new (.cells cs 28 true)).new (.cells [.slice none 0 0, .slice none 0 0, .slice none 0 0, .slice none 0 0] 112 true) := ⟨_, rfl⟩
  have fA : Fr h hA := by rw [eA]; exact ((Fr.refl h).new _).new _
  have nA : hA.next = h.next + 2 := by rw [eA]; rfl
  obtain ⟨h2, k1, k2⟩ := f181_c K (d := e) (by omega) (r.fr fA)
  have s1 := r.s1
  have s2 := r.s2
  have s3 := r.s3
  obtain ⟨v1, v2, v3, rfl, r1, r2, r3⟩ := r.ex
  have le := re.len
  rw [List.length_map] at le
  have ga : ∀ h', Fr hA h' → h'.get h.next = some (.cells [v1, v2, v3] 28 true) := fun h' f => by rw [f.get _ (by omega), eA, H.new_get_lt _ _ (by simp)]; simp
  have gb : ∀ h', Fr hA h' → h'.get (h.next + 1) = some (.cells [.slice none 0 0, .slice none 0 0, .slice none 0 0, .slice none 0 0] 112 true) := fun h' f => by rw [f.get _ (by omega), eA]; exact H.new_get_same _ _
  have a3 : ∀ h', Fr hA h' → h'.ldn h.next 0 3 = some [v1, v2, v3] := fun h' f => by rw [H.ldn_of _ (ga h' f)]; rfl
  have b4 : h2.ldn (h.next + 1) 0 4 = some [.slice none 0 0, .slice none 0 0, .slice none 0 0, .slice none 0 0] := by rw [H.ldn_of _ (gb h2 k2)]; rfl
  have sb : h2.stn (h.next + 1) 0 [.slice none 0 0, .slice none 0 0, .slice none 0 0, .slice none 0 0] = some h2 := by
    have := H.stn_of (xs := [.slice none 0 0, .slice none 0 0, .slice none 0 0, .slice none 0 0]) (o := 0) (h := h2) (gb h2 k2)
    rw [this, if_pos (by simp)]
    congr 1
    exact H.put_self (gb h2 k2)
  rw [hC _ _ _ rfl, F103_eq]; unfold F103 logErr
  rw [← eA]
  rcases bookErr_cases b with hb | hb
  · rw [hb] at k1 ⊢
    rw [if_neg (by simp)]
    by_cases hl : es.length > 100
    · have hl' : decide ((es.length : Int) > 100) = true := by simp; omega
      rw [if_pos hl]
      exact ⟨_, h2, by simp only [S0, Nat.reduceAdd, Nat.reduceLeDiff, ↓reduceIte, a3 hA (.refl _), k1, le, hl', b4, ifLen_eq, pstn_ptr, sb]; rfl, fA.trans k2, rfl, fun hh => by simp at hh⟩
    · have hl' : decide ((es.length : Int) > 100) = false := by simp; omega
      rw [if_neg hl]
      have st : h2.stn (h.next + 1) 0 [v1, v2, v3, .slice none 0 0] = some (h2.put (h.next + 1) (some (.cells [v1, v2, v3, .slice none 0 0] 112 true))) := by
        rw [H.stn_of _ (gb h2 k2), if_pos (by simp)]; rfl
      obtain ⟨h3, e3⟩ : ∃ q, q = h2.put (h.next + 1) (some (.cells [v1, v2, v3, .slice none 0 0] 112 true)) := ⟨_, rfl⟩
      rw [← e3] at st
      have f3 : Fr h h3 := by rw [e3]; exact (fA.trans k2).put (by omega) _
      have n3 : h3.next = h2.next := by rw [e3]; rfl
      have S : NL h3 (h.next + 1) b es v1 v2 v3 ve (.slice none 0 0) 0 := {
        lt := by have := k2.nx; omega
        cell := by rw [e3]; exact H.put_get_same _ _ _
        r1 := r1.fr f3
        r2 := r2.fr f3
        r3 := r3.fr f3
        re := re.fr f3
        o1 := fun x hx => by have := r1.lt hx; omega
        o2 := fun x hx => by have := RS.lt r2 hx; omega
        o3 := fun x hx => by have := RS.lt r3 hx; omega
        oe := fun x hx => by have := re.lt hx; omega
        out := ⟨by simp, .inl ⟨rfl, rfl⟩⟩
        oo := fun x hx => by simp [bOf] at hx }
      obtain ⟨h4, vo, z1, z2, z3, z4⟩ := log_loop K (e := e) he s1 s2 s3 (by omega) es 0 N h3 _ S rfl (by omega) (by omega)
      have z3' : LP103_0 (C e) N N [.one (ptr (h.next + 1) 0), .one ve, .one (I es.length), .one (I 0)] h3 = _ := z3
      have f4 : Fr h h4 := ⟨by have := f3.nx; omega, fun y hy => by rw [z2 y (by omega), f3.get y hy]⟩
      have hfk : fillK (R := SV × H) = fillK := rfl
      have sp : splice [.slice none 0 0, .slice none 0 0, .slice none 0 0, .slice none 0 0] 0 [v1, v2, v3] = [v1, v2, v3, .slice none 0 0] := rfl
      cases hf : findI (fun i x => !rightP b (es.take i) x) 0 es with
      | some j =>
        rw [hf] at z3'
        refine ⟨[v1, v2, v3, vo], h4, ?_, f4, rfl, fun hh => by simp at hh⟩
        simp only [S0, Nat.reduceAdd, Nat.reduceLeDiff, ↓reduceIte, a3 hA (.refl _), k1, le, hl', a3 h2 k2, fillK_agg, sp, ifLen_eq, pstn_ptr, st, z3']
      | none =>
        rw [hf] at z3'
        have S4 := z4 hf
        have c4 : h4.ldn (h.next + 1) 0 4 = some [v1, v2, v3, vo] := by rw [H.ldn_of _ S4.cell]; rfl
        have d4 : h4.stn (h.next + 1) 0 [v1, v2, v3, vo] = some h4 := by
          rw [H.stn_of _ S4.cell, if_pos (by simp)]
          congr 1
          exact H.put_self S4.cell
        refine ⟨[v1, v2, v3, vo], h4, ?_, f4, rfl, fun _ => by have := S4.log s1 s2 s3 (by omega); rwa [List.take_of_length_le (Nat.le_refl _)] at this⟩
        simp only [S0, Nat.reduceAdd, Nat.reduceLeDiff, ↓reduceIte, a3 hA (.refl _), k1, le, hl', a3 h2 k2, fillK_agg, sp, ifLen_eq, pstn_ptr, st, z3', c4, d4]
  · rw [hb] at k1 ⊢
    rw [if_pos (by simp)]
    have hne : ((100 : Int) != 0) = true := rfl
    exact ⟨_, h2, by simp only [S0, Nat.reduceAdd, Nat.reduceLeDiff, ↓reduceIte, a3 hA (.refl _), k1, hne, b4, ifLen_eq, pstn_ptr, sb]; rfl, fA.trans k2, rfl, fun hh => by simp at hh⟩
theorem f52_c {d : Nat} (hd : 7 ≤ d) {cs : List Value} {b : Book} {es : List Entry} {ve : Value} {h : H} (r : BookR h cs b) (re : RS h 5 ve (es.map Entry.enc)) :
    ∃ h', C d (.func 52) [.agg cs, .one ve] h = some (.tup [.one (I (logErr b es).1), .one (I (logErr b es).2)], h') ∧ Fr h h' := by
  obtain ⟨e, he, rfl, hC⟩ := K.at (k := 6) hd
  have f1 := (Fr.refl h).new (.cells cs 28 true)
  obtain ⟨l, h2, k1, k2, _⟩ := f103_c K (d := e) he (r.fr f1) (re.fr f1)
  have hcs : cs.length = 3 := by obtain ⟨v1, v2, v3, rfl, _⟩ := r.ex; rfl
  have g1 : (h.new (.cells cs 28 true)).ldn h.next 0 3 = some cs := by rw [ldn_new, if_pos (by omega), List.drop_zero, List.take_of_length_le (by omega)]
  rw [hC _ _ _ rfl, F52_eq]; unfold F52
  exact ⟨h2, by simp only [pldn_ptr, g1, Option.bind_some, k1, unT_tup, unCons_cons, unA_agg, un1_one, unNil_nil], f1.trans k2⟩
end
end Go.Wz
