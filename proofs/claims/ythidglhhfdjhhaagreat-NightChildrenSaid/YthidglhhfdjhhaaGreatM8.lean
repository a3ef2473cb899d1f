/- Contracts: night's hand. -/
import Derived.Test.YthidglhhfdjhhaaGreatMB
set_option linter.unusedVariables false
set_option linter.unusedSimpArgs false
namespace Go.Wz
open Go

theorem RS.step {f f' : Nat → Prop} {h h' : H} {s : Nat} {v : Value} {l : List (List Value)} (r : RS h s v l) (S : Step f f' h h') (hv : ∀ b, bOf v = some b → ¬ f b) : RS h' s v l :=
  r.keep S.nx fun b hb => S.get b (r.lt hb) (hv b hb)
theorem OL.nil_of {h : H} {v : Value} {l : List Nat} (o : OL h v l) (hb : bOf v = none) : v = nilS := by
  rcases o with ⟨rfl, _⟩ | ⟨b, o⟩
  · rfl
  · rw [o.eq] at hb; cases hb

theorem three_rounds (N d : Nat) (hN : 1000 ≤ N) {h : H} {bo bp c a : Nat} {vl : Value} {reps : List Rep} {v1 v2 vh : Value} {W1 W2 : List Nat} {hd : List (List Value)} {x1 x2 x3 ve : Value}
    (S : OState h bo vl reps v1 v2 vh W1 W2 hd) (hp : h.get bp = some (.cells [ptr bo 0] 144 true)) (hpl : bp < h.next) (hpf : ¬ OFoot bo v1 v2 vh bp)
    (hl1 : W1.length < 900) (hl2 : W2.length < 900) (hns : RI h ve [0, c, a]) (hve : ∀ b, bOf ve = some b → ¬ OFoot bo v1 v2 vh b) :
    ∃ v1' v2' h', LP80_1 (CF N (d + 3)) N N [.one x1, .one (ptr bp 0), .one x2, .one x3, .one ve, .one (I 3), .one (I 0)] h = some (.exit 2, [.one x1, .one (ptr bp 0), .one x2, .one x3], h') ∧
      OState h' bo vl reps v1' v2' vh (without c W1) (without a W2) hd ∧ Step (OFoot bo v1 v2 vh) (OFoot bo v1' v2' vh) h h' := by
  obtain ⟨M, rfl⟩ : ∃ q, N = q + 4 := ⟨N - 4, by omega⟩
  have hpo : bp ≠ bo := fun hh => hpf (.inl hh)
  have hp1 : bOf v1 ≠ some bp := fun hh => hpf (.inr (.inl hh))
  have hp2 : bOf v2 ≠ some bp := fun hh => hpf (.inr (.inr (.inl hh)))
  -- round 0
  obtain ⟨w0, ha, e1, na, ca, oa, ba, fa⟩ := del_round (M + 4) d hN (k := 0) (m := M + 3) (x1 := x1) (x2 := x2) (x3 := x3) (by omega) hp S.cell rfl rfl (.inl ⟨rfl, rfl⟩ : OL h nilS []) (by simp) hpo hpl S.lt (by simp [bOf]) (by simp [bOf]) hns rfl rfl
  obtain rfl := oa.nil_of (by rw [ba]; rfl)
  have keepA : ∀ b, b < h.next → b ≠ bo → ha.get b = h.get b := fun b hb hne => fa b hb hne (by simp [bOf])
  have hpa : ha.get bp = some (.cells [ptr bo 0] 144 true) := by rw [keepA bp hpl hpo, hp]
  have nsa : RI ha ve [0, c, a] := hns.keep na fun b hb => keepA b (hns.lt hb) fun hh => hve b hb (.inl hh)
  -- round 1
  obtain ⟨w1, hb, e2, nb, cb, ob, bb, fb⟩ := del_round (M + 4) d hN (k := 1) (m := M + 2) (x1 := x1) (x2 := x2) (x3 := x3) (by omega) hpa ca rfl rfl (S.o1.keep na fun b hb hlt => keepA b hlt fun hh => S.n1 (hh ▸ hb)) hl1 hpo (by omega) (by have := S.lt; omega) hp1 S.n1 nsa rfl rfl
  have hpb : hb.get bp = some (.cells [ptr bo 0] 144 true) := by rw [fb bp (by omega) hpo hp1, hpa]
  have nsb : RI hb ve [0, c, a] := nsa.keep nb fun b hbb => fb b (nsa.lt hbb) (fun hh => hve b hbb (.inl hh)) fun hh => hve b hbb (.inr (.inl hh))
  -- round 2
  obtain ⟨w2, hc, e3, nc, cc, oc', bc, fc⟩ := del_round (M + 4) d hN (k := 2) (m := M + 1) (x1 := x1) (x2 := x2) (x3 := x3) (by omega) hpb cb rfl rfl
    (S.o2.keep (Nat.le_trans na nb) fun b hbb hlt => by rw [fb b (by omega) (fun hh => S.n2 (hh ▸ hbb)) (fun hh => S.n12 b hh hbb), keepA b hlt fun hh => S.n2 (hh ▸ hbb)])
    hl2 hpo (by omega) (by have := S.lt; omega) hp2 S.n2 nsb rfl rfl
  have kb : ∀ b, b < h.next → b ≠ bo → bOf v1 ≠ some b → bOf v2 ≠ some b → hc.get b = h.get b := fun b hlt h1 h2 h3 => by
    rw [fc b (by omega) h1 h3, fb b (by omega) h1 h2, keepA b hlt h1]
  refine ⟨w1, w2, hc, ?_, ?_, ?_⟩
  · rw [show I (0 : Int) = I ((0 : Nat) : Int) from rfl, e1, e2, e3]
    rw [LP80_1_succ]; unfold B80_1
    simp
  · exact { S with
      lt := by have := S.lt; omega
      cell := by simpa using cc
      o1 := by
        refine ob.keep nc fun b hbb hlt => ?_
        rw [bb] at hbb
        exact fc b hlt (fun hh => S.n1 (hh ▸ hbb)) (S.n12 b hbb)
      o2 := oc'
      oh := S.oh.keep (by omega) fun b hbb hlt => kb b hlt (fun hh => S.nh (hh ▸ hbb)) (fun hh => S.n1h b hh hbb) fun hh => S.n2h b hh hbb
      rows := S.rows.keep (by omega) fun b hbb => kb b (S.rows.lt hbb) (fun hh => S.nl (hh ▸ hbb)) (S.nl1 b hbb) (S.nl2 b hbb)
      n1 := by rw [bb]; exact S.n1
      n2 := by rw [bc]; exact S.n2
      n12 := by rw [bb, bc]; exact S.n12
      n1h := by rw [bb]; exact S.n1h
      n2h := by rw [bc]; exact S.n2h
      nl1 := by rw [bb]; exact S.nl1
      nl2 := by rw [bc]; exact S.nl2
      w1 := fun x hx => S.w1 x (List.mem_filter.1 hx).1
      w2 := fun x hx => S.w2 x (List.mem_filter.1 hx).1 }
  · exact {
      nx := by omega
      get := fun b hlt hf => kb b hlt (fun hh => hf (.inl hh)) (fun hh => hf (.inr (.inl hh))) fun hh => hf (.inr (.inr (.inl hh)))
      foot := fun b hlt hf => by unfold OFoot at hf ⊢; rw [bb, bc] at hf; exact hf }

theorem hand_loop (N d : Nat) (hN : 1000 ≤ N) {h0 : H} {bo bp at_ : Nat} {vl : Value} {reps : List Rep} {v1 v2 vh : Value} {W1 W2 : List Nat} {hd : List (List Value)} {xa : Value}
    (hl1 : W1.length < 900) (hl2 : W2.length < 900) (hdl : hd.length < 10000) (hpf : ¬ OFoot bo v1 v2 vh bp) :
    ∀ (t : List Nat) (i m : Nat) (h : H), OState h bo vl reps v1 v2 vh W1 W2 hd → h.get bp = some (.cells [ptr bo 0] 144 true) → bp < h.next → W1.drop i = t → i ≤ W1.length → t.length < m →
      (t.findSome? (fun c => (handC reps W1 W2 c).map fun a => (c, a)) = none ∧ ∃ h', LP80_0 (CF N (d + 5)) N m [.one xa, .one (ptr bp 0), .one v1, .one (I W1.length), .one (I i)] h = some (.exit 0, [], h') ∧ Fr h h') ∨
      (∃ c a v1' v2' vh' h', t.findSome? (fun c => (handC reps W1 W2 c).map fun a => (c, a)) = some (c, a) ∧ LP80_0 (CF N (d + 5)) N m [.one xa, .one (ptr bp 0), .one v1, .one (I W1.length), .one (I i)] h = some (.ret (.one (.bool true)), [], h') ∧
        OState h' bo vl reps v1' v2' vh' (without c W1) (without a W2) (hd ++ [[I c, I a, xa]]) ∧ Step (OFoot bo v1 v2 vh) (OFoot bo v1' v2' vh') h h') := by
  intro t
  induction t with
  | nil =>
    intro i m h S hp hpl hi hle hm
    obtain ⟨m, rfl⟩ : ∃ q, m = q + 1 := ⟨m - 1, by omega⟩
    rw [LP80_0_succ]; unfold B80_0
    obtain rfl := drop_nil hi hle
    exact .inl ⟨rfl, h, by simp, .refl h⟩
  | cons c t ih =>
    intro i m h S hp hpl hd' hle hm
    obtain ⟨m, rfl⟩ : ∃ q, m = q + 1 := ⟨m - 1, by omega⟩
    simp only [List.length_cons] at hm
    obtain ⟨hlt, hx, hdt, hlen⟩ := drop_cons hd'
    rw [LP80_0_succ]; unfold B80_0
    obtain ⟨be, oe, _, i1, i2⟩ := S.o1.ri.atd hd'
    have h1 : (i : Int) < W1.length := by omega
    have hcm : c ∈ W1 := hx ▸ List.getElem_mem hlt
    have hcl := S.w1 c hcm
    have e7 : ibin .add (I i) (I 1) = some (I (i + 1 : Nat)) := by rw [add_in (by omega) (by omega)]; rfl
    have hpo : bp ≠ bo := fun hh => hpf (.inl hh)
    -- the child's cell
    have st1 : pst (h.new (.cells [I 0] 3 true)) (I c) (ptr h.next 0) = some (h.new (.cells [I c] 3 true)) := by
      rw [pst_ptr, H.st_of _ (H.new_get_same _ _)]; simp [H.new_put]
    generalize eA : h.new (.cells [I c] 3 true) = hA at st1
    have fA : Fr h hA := by subst eA; exact (Fr.refl h).new _
    have SA := S.fr fA
    have nA : hA.next = h.next + 1 := by subst eA; rfl
    have gA : hA.get h.next = some (.cells [I c] 3 true) := by subst eA; simp
    have pA : hA.get bp = some (.cells [ptr bo 0] 144 true) := (fA.get _ hpl).trans hp
    have ix2 : idxP 1 3 (ptr bo 1) (I 2) = some (ptr bo 3) := by rw [idxP_ptrI]; rfl
    have ix1 : idxP 1 3 (ptr bo 1) (I 1) = some (ptr bo 2) := by rw [idxP_ptrI]; rfl
    have al1 := alone_c N (d + 4) hN (p := fB reps c) SA.o2.ri hl2 (vf := .func (.func 140) (Array.mk []) (Array.mk [ptr bp 0, ptr h.next 0])) (fun x hx => by
      rw [callV_func]
      have := fitsA_c N d SA.off hcl (S.w2 x hx) pA gA
      unfold fB; rw [RR_lt hcl, RR_lt (S.w2 x hx)]; exact this)
    -- the asker's cell
    have st2 : ∀ q : Nat, pst (hA.new (.cells [I 0] 3 true)) (I q) (ptr hA.next 0) = some (hA.new (.cells [I q] 3 true)) := fun q => by
      rw [pst_ptr, H.st_of _ (H.new_get_same _ _)]; simp [H.new_put]
    simp only [ibin_lssI, Option.bind_some, condV_bool, h1, decide_true, if_true, i1, pld_ptr, i2, st1, H.ld_of _ pA, List.getElem?_cons_zero, nilC_ptr, padd_ptr, Nat.zero_add, ix2, H.ld_of _ SA.cell, List.getElem?_cons_succ, al1, unT_tup, unCons_cons, un1_one, unNil_nil, st2, un_not]
    generalize eB : hA.new (.cells [I (aloneB (fB reps c) W2).1] 3 true) = hB
    have fB' : Fr hA hB := by subst eB; exact (Fr.refl hA).new _
    have SB := SA.fr fB'
    have nB : hB.next = h.next + 2 := by subst eB; simp [nA]
    have gB : hB.get hA.next = some (.cells [I (aloneB (fB reps c) W2).1] 3 true) := by subst eB; simp
    have gBc : hB.get h.next = some (.cells [I c] 3 true) := by rw [fB'.get _ (by omega), gA]
    have pB : hB.get bp = some (.cells [ptr bo 0] 144 true) := (fB'.get _ (by omega)).trans pA
    cases hal : (aloneB (fB reps c) W2).2 with
    | false =>
      have hnone : handC reps W1 W2 c = none := by simp [handC, hal]
      simp only [Bool.not_false, if_true, condV_bool, Option.bind_some, outc_normal, unConD_cons, un1_one, unNil_nil, e7]
      rcases ih (i + 1) m hB SB pB (by omega) hdt (by omega) (by omega) with ⟨q1, h', q2, q3⟩ | ⟨c', a', v1', v2', vh', h', q1, q2, q3, q4⟩
      · exact .inl ⟨by simp [List.findSome?_cons, hnone, q1], h', q2, fA.trans (fB'.trans q3)⟩
      · exact .inr ⟨c', a', v1', v2', vh', h', by simp [List.findSome?_cons, hnone, q1], q2, q3, ((Step.of_fr (fA.trans fB')).trans q4)⟩
    | true =>
      obtain ⟨ham, _⟩ := aloneB_mem hal
      generalize ha : (aloneB (fB reps c) W2).1 = a at *
      have hal' := S.w2 a ham
      have al2 := alone_c N (d + 4) hN (p := fun x => fB reps x a) SB.o1.ri hl1 (vf := .func (.func 142) (Array.mk []) (Array.mk [ptr bp 0, ptr hA.next 0])) (fun x hx => by
        rw [callV_func]
        have := fitsC_c N d SB.off (S.w1 x hx) hal' pB gB
        unfold fB; rw [RR_lt hal', RR_lt (S.w1 x hx)]; exact this)
      simp only [Bool.not_true, Bool.false_eq_true, if_false, condV_bool, pld_ptr, H.ld_of _ pB, List.getElem?_cons_zero, Option.bind_some, nilC_ptr, padd_ptr, Nat.zero_add, ix1, H.ld_of _ SB.cell, List.getElem?_cons_succ, al2, unT_tup, unCons_cons, un1_one, unNil_nil, un_not]
      cases hal2 : (aloneB (fun x => fB reps x a) W1).2 with
      | false =>
        have hnone : handC reps W1 W2 c = none := by simp [handC, hal, ha, hal2]
        simp only [Bool.not_false, if_true, condV_bool, Option.bind_some, outc_normal, unConD_cons, un1_one, unNil_nil, e7]
        rcases ih (i + 1) m hB SB pB (by omega) hdt (by omega) (by omega) with ⟨q1, h', q2, q3⟩ | ⟨c', a', v1', v2', vh', h', q1, q2, q3, q4⟩
        · exact .inl ⟨by simp [List.findSome?_cons, hnone, q1], h', q2, fA.trans (fB'.trans q3)⟩
        · exact .inr ⟨c', a', v1', v2', vh', h', by simp [List.findSome?_cons, hnone, q1], q2, q3, ((Step.of_fr (fA.trans fB')).trans q4)⟩
      | true =>
        have hsome : handC reps W1 W2 c = some a := by simp [handC, hal, ha, hal2]
        simp only [Bool.not_true, Bool.false_eq_true, if_false, condV_bool, Option.bind_some, pld_ptr, H.ld_of _ gB, H.ld_of _ gBc, List.getElem?_cons_zero, lenS_slc]
        generalize eC : hB.new (.cells [I 0, I c, I a] 3 true) = hC
        have fC : Fr hB hC := by subst eC; exact (Fr.refl hB).new _
        have SC := SB.fr fC
        have nC : hC.next = h.next + 3 := by subst eC; simp [nB]
        have pC : hC.get bp = some (.cells [ptr bo 0] 144 true) := (fC.get _ (by omega)).trans pB
        have cC : hC.get h.next = some (.cells [I c] 3 true) := by rw [fC.get _ (by omega), gBc]
        have aC : hC.get hA.next = some (.cells [I a] 3 true) := by rw [fC.get _ (by omega), gB]
        have flt : ∀ b, OFoot bo v1 v2 vh b → b < h.next := fun b => S.footlt
        have nsC : RI hC (slc hB.next 0 3 1) [0, c, a] := RS.mk (l := [[I ((0 : Nat) : Int)], [I (c : Int)], [I (a : Int)]]) (by simp) ⟨by omega, by subst eC; exact H.new_get_same _ _⟩ (by simp) (by simp)
        obtain ⟨w1, w2, hD, r1, SD, stD⟩ := three_rounds N (d + 2) hN (x1 := xa) (x2 := ptr h.next 0) (x3 := ptr hA.next 0) SC pC (by omega) hpf hl1 hl2 nsC (fun b hb => by
          rw [bOf_slc] at hb; cases hb; intro hh; have := flt _ hh; omega)
        have keepD : ∀ b, b < hC.next → ¬ OFoot bo v1 v2 vh b → hD.get b = hC.get b := stD.get
        have pD : hD.get bp = some (.cells [ptr bo 0] 144 true) := by rw [keepD bp (by omega) hpf, pC]
        have cD : hD.get h.next = some (.cells [I c] 3 true) := by rw [keepD _ (by omega) (fun hh => by have := flt _ hh; omega), cC]
        have aD : hD.get hA.next = some (.cells [I a] 3 true) := by rw [keepD _ (by omega) (fun hh => by have := flt _ hh; omega), aC]
        have hpD : ¬ OFoot bo w1 w2 vh bp := fun hh => hpf (stD.foot bp (by omega) hh)
        have nD := stD.nx
        obtain ⟨v', q1, q2, q3, z1, z2, z3, SE, stE⟩ := hand_end N d hN (c := c) (a := a) (at_ := xa) (k1 := I c) (k2 := I a) SD pD (by omega) hpD hdl
        have hid : ∀ (b : Nat) vs e w, b < hC.next → hD.get b = some (.cells vs e w) → (hideL [(hD.next + 9)] (H.skip hD 14)).get b = some (.cells vs e w) := fun b vs e w hb hg => by
          rw [hideL_one, H.put_get_ne _ _ (by omega), H.skip_get, hg]
        have hid0 : ∀ (b : Nat) vs e w, hD.get b = some (.cells vs e w) → (hideL [] (H.skip hD 14)).get b = some (.cells vs e w) := fun b vs e w hg => by
          rw [hideL_nil, H.skip_get, hg]
        have ld1 : H.ld (hideL [(hD.next + 9)] (H.skip hD 14)) bp 0 = some (ptr bo 0) := by rw [H.ld_of _ (hid _ _ _ _ (by omega) pD)]; rfl
        have ld2 : H.ld (hideL [(hD.next + 9)] (H.skip hD 14)) bo 4 = some vh := by rw [H.ld_of _ (hid _ _ _ _ (by have := SC.lt; omega) SD.cell)]; rfl
        have ld3 : H.ld (hideL [] (H.skip hD 14)) h.next 0 = some (I c) := by rw [H.ld_of _ (hid0 _ _ _ _ cD)]; rfl
        have ld4 : H.ld (hideL [] (H.skip hD 14)) hA.next 0 = some (I a) := by rw [H.ld_of _ (hid0 _ _ _ _ aD)]; rfl
        have spl : splice [I 0, I 0, I 0] 0 [I c, I a, xa] = [I c, I a, xa] := rfl
        refine .inr ⟨c, a, w1, w2, v', q3, by simp [List.findSome?_cons, hsome], ?_, SE, (Step.of_fr (fA.trans (fB'.trans fC))).trans (stD.trans stE)⟩
        rw [show LP80_1 (CF N (d + 5)) N N [.one xa, .one (ptr bp 0), .one (ptr h.next 0), .one (ptr hA.next 0), .one (slc hB.next 0 3 1), .one (I ((3 : Nat) : Int)), .one (I 0)] hC = _ from r1]
        simp only [Option.bind_some, outc_exit, outc_ret, ifN_same, unConD_cons, un1_one, unNil_nil, sameB_ptr, if_true, pld_ptr, ld1, nilC_ptr, padd_ptr, Nat.zero_add, ld2, ld3, ld4, fillK_agg, fillK_nil, List.length_cons, List.length_nil, Nat.le_refl, spl, bOf_ptr]
        rw [z1]
        simp only [Option.bind_some]
        rw [z2]
        simp only [Option.bind_some, outc_ret]
        rw [z3]
end Go.Wz
