/- Contracts: the document's Reasons. -/
import Derived.Test.YthidglhhfdjhhaaGreatGV
set_option linter.unusedVariables false
set_option linter.unusedSimpArgs false
namespace Go.Wz
open Go
def chkR (b : Book) (es : List Entry) (ride day : Int) : Nat → Bool
  | 0 => true
  | k + 1 => chkR b es ride day k && ((ruleAt b k).ride != ride || forceP b es k day)
def tstR (es : List Entry) (ride day : Int) : Nat → Bool
  | 0 => false
  | k + 1 => if ((entAt es k).a == ride) = true then (if ((entAt es k).kind == 4) = true then tstR es ride day k || (entAt es k).day == day else if ((entAt es k).kind == 6) = true then false else tstR es ride day k) else tstR es ride day k
def insR (b : Book) (es : List Entry) (ride : Int) : Nat → Int
  | 0 => getI b.insured ride
  | k + 1 => if ((entAt es k).a == ride && (entAt es k).kind == 5) = true then (entAt es k).b else insR b es ride k
def worseR (es : List Entry) (ride : Int) : Bool := decide (getI (manyF es ride (openL es es.length)) 3 > 0) || decide (getI (manyF es ride (openL es es.length)) 2 > 1)
def whyR (b : Book) (es : List Entry) (ride day : Int) : List Int :=
  addIf (addIf (addIf (addIf [] 1 (!chkR b es ride day b.rules.length)) 2 (worseR es ride)) 3 (!tstR es ride day es.length)) 4 (decide (insR b es ride es.length < day))
theorem manyF_openL (es : List Entry) (ride : Int) (k : Nat) :
    manyF es ride (openL es (k + 1)) = if ((entAt es k).a == ride && ((entAt es k).kind == 2 && !mendedP es k)) = true then bump (manyF es ride (openL es k)) (entAt es k).b else manyF es ride (openL es k) := by
  conv => lhs; unfold openL
  cases h1 : ((entAt es k).kind == 2 && !mendedP es k) with
  | false => simp
  | true =>
    rw [if_pos rfl, manyF_snoc]
    cases (entAt es k).a == ride <;> simp
theorem Own.addIf {h0 h : H} {v : Value} {l : List Int} (o : Own h0 h v l) (n : Int) (p : Bool) (hl : l.length < 1000) :
    ∃ v' h', Own h0 h' v' (Wz.addIf l n p) ∧ ∀ (k : Value → H → Option X), (if p = true then ((H.appS (h.new (.cells [I n] 3 true)) 1 3 (slc h.next 0 1 1) v).bind fun r => k r.1 r.2) else k v h) = k v' h' := by
  cases p with
  | false => exact ⟨v, h, o, fun k => rfl⟩
  | true =>
    obtain ⟨v', h', w1, w2⟩ := o.app n (by omega)
    exact ⟨v', h', w2, fun k => by rw [w1]; rfl⟩
section
variable {C : Nat → CallT} {N : Nat} (K : CallsOf C N)
include K
theorem loop174_0 {e : Nat} (he : 1 ≤ e) {hA : H} {b : Book} {es : List Entry} {cs : List Value} {ve : Value} {bc : Nat} (hbc : bc < hA.next) (gc : hA.get bc = some (.cells cs 28 true)) (r : BookR hA cs b) (re : RS hA 5 ve (es.map Entry.enc)) (ok : LogOk b es) (hle : es.length < 5000)
    (ride : Int) {day : Int} (hday : 0 ≤ day ∧ day ≤ 10000) (v : Value) :
    ∃ h', LP174_0 (C e) N N [.one ve, .one (I ride), .one (I day), .one (ptr bc 0), .one v, .one (.bool true), .one (I 0)] hA =
      some (.exit 0, [.one ve, .one (I ride), .one (I day), .one (ptr bc 0), .one v, .one (.bool (chkR b es ride day b.rules.length))], h') ∧ Fr hA h' := by
  have hN := K.big
  have s1 := r.s1
  have hcs : cs.length = 3 := by obtain ⟨v1, v2, v3, rfl, _⟩ := r.ex; rfl
  have gc' : ∀ h', Fr hA h' → h'.get bc = some (.cells cs 28 true) := fun h' f => by rw [f.get _ hbc]; exact gc
  have l3 : ∀ h', Fr hA h' → h'.ldn bc 0 3 = some cs := fun h' f => by rw [H.ldn_of _ (gc' h' f), if_pos (by omega), List.drop_zero, List.take_of_length_le (by omega)]
  obtain ⟨v1, v2, v3, hcs', r1, r2, r3⟩ := r.ex
  have g0 : ∀ h', Fr hA h' → h'.ld bc 0 = some v1 := fun h' f => by rw [H.ld_of _ (gc' h' f), hcs']; rfl
  have l1 := r1.len
  rw [List.length_map] at l1
  have main := loop_inv (LP := LP174_0 (C e) N) (n := b.rules.length)
    (fun i vs h1 => Fr hA h1 ∧ vs = [.one ve, .one (I ride), .one (I day), .one (ptr bc 0), .one v, .one (.bool (chkR b es ride day i)), .one (I i)])
    (fun o => ∃ h', o = some (.exit 0, [.one ve, .one (I ride), .one (I day), .one (ptr bc 0), .one v, .one (.bool (chkR b es ride day b.rules.length))], h') ∧ Fr hA h')
    (fun m vs h1 ⟨f, hv⟩ => ⟨h1, by rw [hv, LP174_0_succ]; unfold B174_0; simp only [S0, Nat.reduceAdd, Nat.reduceLeDiff, ↓reduceIte, g0 h1 f, l1, in0], f⟩)
    (fun i m vs h1 hi ⟨f, hv⟩ => by
      subst hv
      rw [LP174_0_succ]; unfold B174_0
      have e1 : chkR b es ride day (i + 1) = (chkR b es ride day i && ((ruleAt b i).ride != ride || forceP b es i day)) := rfl
      have st := i1 (show i + 1 ≤ b.rules.length from hi) (by omega)
      obtain ⟨b1, o1, _, q1, q2⟩ := r1.atI rule0 (n := (i : Int)) (by omega) (by omega)
      have q3 : h1.ld b1 o1 = some (I (ruleAt b i).ride) := by have := (q2 h1 f).2 0 (by omega); simpa [Rule.enc, ruleAt] using this
      cases c1 : chkR b es ride day i with
      | false =>
        rw [c1] at e1
        refine .inr ⟨_, h1, ⟨f, rfl⟩, ?_⟩
        rw [e1]
        simp only [S0, Nat.reduceAdd, Nat.reduceLeDiff, ↓reduceIte, g0 h1 f, l1, i0 hi, st]
      | true =>
        rw [c1] at e1
        cases c2 : (ruleAt b i).ride != ride with
        | true =>
          rw [c2] at e1
          refine .inr ⟨_, h1, ⟨f, rfl⟩, ?_⟩
          rw [e1]
          simp only [S0, Nat.reduceAdd, Nat.reduceLeDiff, ↓reduceIte, g0 h1 f, l1, i0 hi, q1, q3, ibin_neqI, c2, st]
        | false =>
          rw [c2] at e1
          obtain ⟨h2, k1, k2⟩ := f229_c K (d := e) he (r.fr f) (re.fr f) ok hle hi hday
          refine .inr ⟨_, h2, ⟨f.trans k2, rfl⟩, ?_⟩
          rw [e1]
          simp only [S0, Nat.reduceAdd, Nat.reduceLeDiff, ↓reduceIte, g0 h1 f, l1, i0 hi, q1, q3, ibin_neqI, c2, l3 h1 f, k1, st])
    b.rules.length 0 N _ hA (by omega) ⟨.refl hA, rfl⟩ (by omega)
  exact main
theorem loop174_1 {e : Nat} (he : 2 ≤ e) {hM : H} {b : Book} {es : List Entry} {ve : Value} {bm : Nat} (hbm : bm < hM.next) (gm : hM.get bm = some (.cells [I 0, I 0, I 0, I 0] 3 true)) (re : RS hM 5 ve (es.map Entry.enc)) (hne : ∀ x, bOf ve = some x → x ≠ bm) (ok : LogOk b es) (hle : es.length < 5000)
    (ride : Int) (day : Int) (v : Value) :
    ∃ h', LP174_1 (C e) N N [.one ve, .one (I ride), .one (I day), .one v, .one (slc bm 0 4 1), .one (.bool false), .one (I (getI b.insured ride)), .one (I 0)] hM =
      some (.exit 2, [.one (I day), .one v, .one (slc bm 0 4 1), .one (.bool (tstR es ride day es.length)), .one (I (insR b es ride es.length))], h') ∧ hM.next ≤ h'.next ∧ (∀ b, b < hM.next → b ≠ bm → h'.get b = hM.get b) ∧
      h'.get bm = some (.cells ((manyF es ride (openL es es.length)).map I) 3 true) := by
  have hN := K.big
  have le := re.len
  rw [List.length_map] at le
  exact loop_inv (LP := LP174_1 (C e) N) (n := es.length)
    (fun i vs h1 => (hM.next ≤ h1.next ∧ (∀ b, b < hM.next → b ≠ bm → h1.get b = hM.get b) ∧ h1.get bm = some (.cells ((manyF es ride (openL es i)).map I) 3 true)) ∧
      vs = [.one ve, .one (I ride), .one (I day), .one v, .one (slc bm 0 4 1), .one (.bool (tstR es ride day i)), .one (I (insR b es ride i)), .one (I i)])
    (fun o => ∃ h', o = some (.exit 2, [.one (I day), .one v, .one (slc bm 0 4 1), .one (.bool (tstR es ride day es.length)), .one (I (insR b es ride es.length))], h') ∧ hM.next ≤ h'.next ∧ (∀ b, b < hM.next → b ≠ bm → h'.get b = hM.get b) ∧
      h'.get bm = some (.cells ((manyF es ride (openL es es.length)).map I) 3 true))
    (fun m vs h1 ⟨⟨q1, q2, q3⟩, hv⟩ => ⟨h1, by rw [hv, LP174_1_succ]; unfold B174_1; simp only [S0, Nat.reduceAdd, Nat.reduceLeDiff, ↓reduceIte, le, in0], q1, q2, q3⟩)
    (fun i m vs h1 hi ⟨⟨q1, q2, q3⟩, hv⟩ => by
      subst hv
      rw [LP174_1_succ]; unfold B174_1
      have e1 := manyF_openL es ride i
      have e2 : tstR es ride day (i + 1) = if ((entAt es i).a == ride) = true then (if ((entAt es i).kind == 4) = true then tstR es ride day i || (entAt es i).day == day else if ((entAt es i).kind == 6) = true then false else tstR es ride day i) else tstR es ride day i := rfl
      have e3 : insR b es ride (i + 1) = if ((entAt es i).a == ride && (entAt es i).kind == 5) = true then (entAt es i).b else insR b es ride i := rfl
      have mo := manyF_ok es ride (openL es i)
      have ol := openL_len es i
      have st := i1 (show i + 1 ≤ es.length from hi) (by omega)
      have re1 : RS h1 5 ve (es.map Entry.enc) := re.keep q1 fun x hx => q2 x (re.lt hx) (hne x hx)
      obtain ⟨b2, o2, _, t1, t2⟩ := re1.atI entry0 (n := (i : Int)) (by omega) (by omega)
      have d0 : ∀ h', Fr h1 h' → h'.ld b2 o2 = some (I (entAt es i).day) := fun h' f => by have := (t2 h' f).2 0 (by omega); simpa [Entry.enc, entAt] using this
      have d1 : h1.ld b2 (o2 + 1) = some (I (entAt es i).kind) := by have := (t2 h1 (.refl _)).2 1 (by omega); simpa [Entry.enc, entAt] using this
      have d2 : h1.ld b2 (o2 + 2) = some (I (entAt es i).a) := by have := (t2 h1 (.refl _)).2 2 (by omega); simpa [Entry.enc, entAt] using this
      have d3 : ∀ h', Fr h1 h' → h'.ld b2 (o2 + 3) = some (I (entAt es i).b) := fun h' f => by have := (t2 h' f).2 3 (by omega); simpa [Entry.enc, entAt] using this
      have d0' := d0 h1 (.refl _)
      have d3' := d3 h1 (.refl _)
      generalize manyF es ride (openL es i) = mm at q3 e1 mo
      cases ca : (entAt es i).a == ride with
      | false =>
        have ca' : ((entAt es i).a != ride) = true := by rw [bne, ca]; rfl
        rw [ca] at e1 e2 e3
        refine .inr ⟨_, h1, ⟨⟨q1, q2, by rw [e1]; exact q3⟩, rfl⟩, ?_⟩
        rw [e2, e3]
        simp only [S0, Nat.reduceAdd, Nat.reduceLeDiff, ↓reduceIte, le, i0 hi, t1, d2, ca', st]
      | true =>
        have ca' : ((entAt es i).a != ride) = false := by rw [bne, ca]; rfl
        rw [ca] at e1 e2 e3
        have kk : ∀ n : Int, (entAt es i).kind = n → ((entAt es i).kind == n) = true := fun n h => by simpa using h
        have kn : ∀ n : Int, ¬ (entAt es i).kind = n → ((entAt es i).kind == n) = false := fun n h => by simpa using h
        by_cases k2 : (entAt es i).kind = 2
        · have n4 := kn 4 (by omega)
          have n6 := kn 6 (by omega)
          have n5 := kn 5 (by omega)
          rw [n4, n6] at e2
          rw [n5] at e3
          rw [kk 2 k2] at e1
          obtain ⟨h2, z1, z2⟩ := f185_c K (d := e) he re1 hle (i : Int)
          have ho : openP es i = !mendedP es i := by
            unfold openP
            rw [kk 2 k2, wi_iff.2 (by omega)]; simp
          rw [ho] at z1
          have gm2 : h2.get bm = some (.cells (mm.map I) 3 true) := by rw [z2.get _ (by omega)]; exact q3
          cases hm : mendedP es i with
          | true =>
            rw [hm] at e1 z1
            refine .inr ⟨_, h2, ⟨⟨by have := z2.nx; omega, fun b hb hb' => by rw [z2.get b (by omega), q2 b hb hb'], by rw [e1]; exact gm2⟩, rfl⟩, ?_⟩
            rw [e2, e3]
            simp only [S0, Nat.reduceAdd, Nat.reduceLeDiff, ↓reduceIte, le, i0 hi, t1, d2, d1, ca', kk 2 k2, z1, st]
          | false =>
            rw [hm] at e1 z1
            have hs := ok.sev i hi k2
            have d3'' := d3 h2 z2
            have hml := mo.len
            have mg := mo.getI (entAt es i).b
            have ix : idxS 1 (slc bm 0 4 1) (I (entAt es i).b) = some (ptr bm (entAt es i).b.toNat) := by rw [idxS_slcI, if_pos (by omega)]; simp
            have hlt : (entAt es i).b.toNat < mm.length := by omega
            have gv : h2.ld bm (entAt es i).b.toNat = some (I (getI mm (entAt es i).b)) := by rw [H.ld_of _ gm2]; exact cells_getI hlt
            have av : ibin .add (I (getI mm (entAt es i).b)) (I 1) = some (I (getI mm (entAt es i).b + 1)) := add_in (by omega) (by omega)
            have sv : h2.st bm (entAt es i).b.toNat (I (getI mm (entAt es i).b + 1)) = some (h2.put bm (some (.cells ((bump mm (entAt es i).b).map I) 3 true))) := by
              rw [H.st_of _ gm2, if_pos (by rw [List.length_map]; exact hlt)]; unfold bump; rw [List.map_set]
            refine .inr ⟨_, h2.put bm (some (.cells ((bump mm (entAt es i).b).map I) 3 true)), ⟨⟨by rw [H.put_nx]; have := z2.nx; omega, fun b hb hb' => by rw [H.put_get_ne _ _ hb', z2.get b (by omega), q2 b hb hb'], by rw [e1]; exact H.put_get_same _ _ _⟩, rfl⟩, ?_⟩
            rw [e2, e3]
            simp only [S0, Nat.reduceAdd, Nat.reduceLeDiff, ↓reduceIte, le, i0 hi, t1, d2, d1, ca', kk 2 k2, z1, d3'', ix, gv, av, pst_ptr, sv, st]
        rw [kn 2 k2] at e1
        have e1' : manyF es ride (openL es (i + 1)) = mm := by rw [e1]; rfl
        by_cases k4 : (entAt es i).kind = 4
        · have n5 := kn 5 (by omega)
          rw [kk 4 k4] at e2
          rw [n5] at e3
          refine .inr ⟨_, h1, ⟨⟨q1, q2, by rw [e1']; exact q3⟩, rfl⟩, ?_⟩
          rw [e2, e3]
          cases ct : tstR es ride day i <;> simp only [S0, Nat.reduceAdd, Nat.reduceLeDiff, ↓reduceIte, le, i0 hi, t1, d2, d1, ca', kn 2 k2, kk 4 k4, d0', st]
        rw [kn 4 k4] at e2
        by_cases k6 : (entAt es i).kind = 6
        · have n5 := kn 5 (by omega)
          rw [kk 6 k6] at e2
          rw [n5] at e3
          refine .inr ⟨_, h1, ⟨⟨q1, q2, by rw [e1']; exact q3⟩, rfl⟩, ?_⟩
          rw [e2, e3]
          simp only [S0, Nat.reduceAdd, Nat.reduceLeDiff, ↓reduceIte, le, i0 hi, t1, d2, d1, ca', kn 2 k2, kn 4 k4, kk 6 k6, st]
        rw [kn 6 k6] at e2
        refine .inr ⟨_, h1, ⟨⟨q1, q2, by rw [e1']; exact q3⟩, rfl⟩, ?_⟩
        rw [e2, e3]
        cases k5 : (entAt es i).kind == 5 <;> simp only [S0, Nat.reduceAdd, Nat.reduceLeDiff, ↓reduceIte, le, i0 hi, t1, d2, d1, ca', kn 2 k2, kn 4 k4, kn 6 k6, k5, d3', st])
    es.length 0 N _ hM (by omega) ⟨⟨Nat.le_refl _, fun _ _ _ => rfl, gm⟩, rfl⟩ (by omega)
theorem f174_c {d : Nat} (hd : 3 ≤ d) {cs : List Value} {b : Book} {es : List Entry} {ve : Value} {h : H} (r : BookR h cs b) (re : RS h 5 ve (es.map Entry.enc)) (ok : LogOk b es) (hle : es.length < 5000) {ride : Int} (hr : 0 ≤ ride ∧ ride < b.insured.length) {day : Int} (hday : 0 ≤ day ∧ day ≤ 10000) :
    ∃ v h', C d (.func 174) [.agg cs, .one ve, .one (I ride), .one (I day)] h = some (.one v, h') ∧ Fr h h' ∧ lenS v = some (I (whyR b es ride day).length) := by
  obtain ⟨e, he, rfl, hC⟩ := K.at (k := 2) hd
  have hN := K.big
  obtain ⟨hA, eA⟩ : ∃ q, q = h.new (.cells cs 28 true) := ⟨_, rfl⟩
  have fA : Fr h hA := by rw [eA]; exact (Fr.refl h).new _
  have nA : hA.next = h.next + 1 := by rw [eA]; rfl
  have gA : hA.get h.next = some (.cells cs 28 true) := by rw [eA]; simp
  obtain ⟨h1, k1, k2⟩ := loop174_0 K (e := e) (by omega) (by omega) gA (r.fr fA) (re.fr fA) ok hle ride hday nilS
  obtain ⟨v1, v2, v3, hcs', r1, r2, r3⟩ := r.ex
  obtain ⟨w1, h2, o2, c2⟩ := ((Own.start hA).go k2).addIf 1 (!chkR b es ride day b.rules.length) (by simp)
  have a1 := addIf_len [] 1 (!chkR b es ride day b.rules.length)
  have mk := mkS_nat h2 [I 0] 3 4 (by omega)
  obtain ⟨hM, eM⟩ : ∃ q, q = h2.new (.cells [I 0, I 0, I 0, I 0] 3 true) := ⟨_, rfl⟩
  have mk' : h2.mkS [I 0] 3 (I 4) (I 4) = some (slc h2.next 0 4 1, hM) := by rw [eM]; exact mk
  have fM : Fr h2 hM := by rw [eM]; exact (Fr.refl h2).new _
  have nM : hM.next = h2.next + 1 := by rw [eM]; rfl
  have n2 := o2.fr.nx
  have oM := o2.go fM
  have f0M := fA.trans oM.fr
  have g2 : hM.ld h.next 2 = some v3 := by rw [H.ld_of _ (by rw [oM.fr.get _ (by omega)]; exact gA), hcs']; rfl
  obtain ⟨b1, o1, _, q1, q2⟩ := r3.atI (n := ride) hr.1 hr.2
  have q3 := q2 hM f0M
  obtain ⟨h3, z1, z2, z3, z4⟩ := loop174_1 K (e := e) (b := b) he (bm := h2.next) (hM := hM) (by omega) (by rw [eM]; exact H.new_get_same _ _) (re.fr f0M) (fun x hx => by have := re.lt hx; omega) ok hle ride day w1
  have hml := (manyF_ok es ride (openL es es.length)).len
  have c3 : h3.ld h2.next 3 = some (I (getI (manyF es ride (openL es es.length)) 3)) := by rw [H.ld_of _ z4]; exact cells_getI (n := 3) (by rw [hml]; decide)
  have c2' : h3.ld h2.next 2 = some (I (getI (manyF es ride (openL es es.length)) 2)) := by rw [H.ld_of _ z4]; exact cells_getI (n := 2) (by rw [hml]; decide)
  have ix3 : idxS 1 (slc h2.next 0 4 1) (I 3) = some (ptr h2.next 3) := rfl
  have ix2 : idxS 1 (slc h2.next 0 4 1) (I 2) = some (ptr h2.next 2) := rfl
  have o3 : Own hA h3 w1 (Wz.addIf [] 1 (!chkR b es ride day b.rules.length)) := ⟨⟨by omega, fun x hx => by rw [z3 x (by omega) (by omega), oM.fr.get x hx]⟩, oM.og.keep z2 fun x hx hx' => z3 x hx' (by have := o2.og.lt hx; omega), o2.own⟩
  obtain ⟨w4, h4, o4, c4⟩ := o3.addIf 2 (worseR es ride) (by simp at a1; omega)
  have a2 := addIf_len (Wz.addIf [] 1 (!chkR b es ride day b.rules.length)) 2 (worseR es ride)
  obtain ⟨w5, h5, o5, c5⟩ := o4.addIf 3 (!tstR es ride day es.length) (by simp at a1; omega)
  have a3 := addIf_len (Wz.addIf (Wz.addIf [] 1 (!chkR b es ride day b.rules.length)) 2 (worseR es ride)) 3 (!tstR es ride day es.length)
  obtain ⟨w6, h6, o6, c6⟩ := o5.addIf 4 (decide (insR b es ride es.length < day)) (by simp at a1; omega)
  have d2 := c2 (fun v h => some (Out.normal, ([.one ve, .one (I ride), .one (I day), .one (ptr h.next 0), .one v], h)))
  refine ⟨w6, h6, ?_, fA.trans o6.fr, o6.len⟩
  have e2 := c2 (fun v hh => some (Out.normal, ([.one ve, .one (I ride), .one (I day), .one (ptr h.next 0), .one v], hh)))
  have e4 := c4 (fun v hh => some (Out.normal, ([.one (I day), .one v, .one (.bool (tstR es ride day es.length)), .one (I (insR b es ride es.length))], hh)))
  have e5 := c5 (fun v hh => some (Out.normal, ([.one (I day), .one v, .one (I (insR b es ride es.length))], hh)))
  have e6 := c6 (fun v hh => some (Out.normal, ([.one v], hh)))
  rw [hC _ _ _ rfl, F174_eq]; unfold F174
  rw [← eA]
  have hb : (if decide (getI (manyF es ride (openL es es.length)) 3 > 0) = true then some (Value.bool true, h3) else some (Value.bool (decide (getI (manyF es ride (openL es es.length)) 2 > 1)), h3)) = some (Value.bool (worseR es ride), h3) := by
    unfold worseR; rw [or_merge]
  have e4' := e4
  simp only [Option.bind_some, k1, outc_exit, ifN_same, unConD_cons, un1_one, unNil_nil, un_not, condV_bool, e2, outc_normal, mk', padd_ptr, pld_ptr, Nat.zero_add, g2, q1, q3, z1, ix3, ix2, c3, c2', ibin_gtrI, gsel_true, gsel_false, hb, e4, e5, e6, ibin_lssI]
end
end Go.Wz
