/- NightChildren, over the evaluator. -/
import Derived.Test.YthidglhhfdjhhaaGreatN2
import Derived.Test.YthidglhhfdjhhaaGreatZE
set_option linter.unusedVariables false
set_option linter.unusedSimpArgs false
namespace Go.Wz
open Go

structure ChO (h : H) (bg cc : Nat) (vl vo vg : Value) (reps : List Rep) (gs : List Bool) (hd : List (Nat × Nat × Int)) : Prop where
  rows : RS h 3 vl (reps.map Rep.enc)
  out : RS h 3 vo (hd.map encH)
  lt : bg < h.next
  eq : vg = slc bg 0 gs.length cc
  cell : h.get bg = some (.cells (gs.map fun (x : Bool) => .bool x) 4 true)
  nl : bOf vl ≠ some bg
  no : bOf vo ≠ some bg
theorem ChO.fr {h h' : H} {bg cc : Nat} {vl vo vg : Value} {reps : List Rep} {gs : List Bool} {hd : List (Nat × Nat × Int)} (S : ChO h bg cc vl vo vg reps gs hd) (f : Fr h h') : ChO h' bg cc vl vo vg reps gs hd :=
  { S with rows := S.rows.fr f, out := S.out.fr f, lt := Nat.lt_of_lt_of_le S.lt f.nx, cell := (f.get _ S.lt).trans S.cell }
theorem ChO.rb {h : H} {bg cc : Nat} {vl vo vg : Value} {reps : List Rep} {gs : List Bool} {hd : List (Nat × Nat × Int)} (S : ChO h bg cc vl vo vg reps gs hd) : RB h vg gs :=
  ⟨fun x hx => by obtain ⟨b, _, rfl⟩ := List.mem_map.1 hx; rfl, .inr (.inr ⟨bg, 0, cc, _, 4, true, by simpa using S.eq, ⟨S.lt, S.cell⟩, by simp, by rw [flatten_oneB, List.drop_zero]; exact List.take_of_length_le (by simp)⟩)⟩
theorem ChO.idx {h : H} {bg cc : Nat} {vl vo vg : Value} {reps : List Rep} {gs : List Bool} {hd : List (Nat × Nat × Int)} (S : ChO h bg cc vl vo vg reps gs hd) {i : Nat} (hi : i < gs.length) :
    idxS 1 vg (I i) = some (ptr bg i) := by rw [S.eq, idxS_slcI, if_pos (by omega)]; simp
theorem ChO.set {h : H} {bg cc : Nat} {vl vo vg : Value} {reps : List Rep} {gs : List Bool} {hd : List (Nat × Nat × Int)} (S : ChO h bg cc vl vo vg reps gs hd) {i : Nat} (hi : i < gs.length) :
    ∃ h', pst h (.bool true) (ptr bg i) = some h' ∧ ChO h' bg cc vl vo vg reps (gs.set i true) hd ∧ h'.next = h.next ∧ ∀ b, b ≠ bg → h'.get b = h.get b := by
  refine ⟨h.put bg (some (.cells ((gs.set i true).map fun (x : Bool) => .bool x) 4 true)), ?_, ?_, rfl, fun b hb => H.put_get_ne _ _ hb⟩
  · rw [pst_ptr, H.st_of _ S.cell, if_pos (by simp; omega), List.map_set]
  · have keep : ∀ b, b ≠ bg → (h.put bg (some (.cells ((gs.set i true).map fun (x : Bool) => .bool x) 4 true))).get b = h.get b := fun b hb => H.put_get_ne _ _ hb
    exact { S with
      rows := S.rows.keep (by simp) fun b hb => keep b fun hh => S.nl (hh ▸ hb)
      out := S.out.keep (by simp) fun b hb => keep b fun hh => S.no (hh ▸ hb)
      lt := S.lt
      eq := by rw [S.eq]; simp
      cell := H.put_get_same _ _ _ }

theorem ch_outer (N d : Nat) (hN : 1000 ≤ N) {bg cc : Nat} {vl vo vg : Value} {reps : List Rep} {hd : List (Nat × Nat × Int)} {g' : List Bool} (ok : ∀ r ∈ reps, r.mok) (hlen : reps.length < 900) (hh : hd.length < 900) :
    ∀ (t : List (Nat × Nat × Int)) (i m : Nat) (h : H) (gs : List Bool), ChO h bg cc vl vo vg reps gs hd → gs.length = reps.length → hd.drop i = t → i ≤ hd.length → okRun reps gs t g' → t.length < m →
      ∃ h', LP10_0 (CH N (d + 1)) N m [.one vl, .one vo, .one vg, .one (I i)] h = some (.exit 0, [], h') := by
  intro t
  induction t with
  | nil =>
    intro i m h gs S hgl hdr hle R hm
    obtain ⟨m, rfl⟩ : ∃ q, m = q + 1 := ⟨m - 1, by omega⟩
    rw [LP10_0_succ]; unfold B10_0
    obtain rfl := drop_nil hdr hle
    have hl := S.out.len
    rw [List.length_map] at hl
    exact ⟨h, by simp [hl]⟩
  | cons x t ih =>
    intro i m h gs S hgl hdr hle R hm
    obtain ⟨m, rfl⟩ : ∃ q, m = q + 1 := ⟨m - 1, by omega⟩
    simp only [List.length_cons] at hm
    obtain ⟨hlt, hx, hdt, hl2⟩ := drop_cons hdr
    cases R with
    | cons h1 h2 =>
    obtain ⟨c, a, tt⟩ := x
    obtain ⟨hc, ha, gc, ga, kc, ka, fit, tc, ta, oth⟩ := h1
    simp only at hc ha gc ga kc ka fit tc ta oth
    rw [LP10_0_succ]; unfold B10_0
    have hl := S.out.len
    rw [List.length_map] at hl
    have hlr := S.rows.len
    rw [List.length_map] at hlr
    have hi1 : (i : Int) < hd.length := by omega
    have e7 : ibin .add (I i) (I 1) = some (I (i + 1 : Nat)) := by rw [add_in (by omega) (by omega)]; rfl
    have hd' : (hd.map encH).drop i = encH (c, a, tt) :: t.map encH := by rw [← List.map_drop, hdr]; rfl
    obtain ⟨bo, oo, _, o1, o2, _⟩ := S.out.atd hd'
    have o2' : h.ldn bo oo 3 = some [I c, I a, I tt] := o2
    -- the handing in a variable
    obtain ⟨hA, eA⟩ : ∃ q, q = (h.new (.cells [I 0, I 0, I 0] 77 true)).put h.next (some (.cells [I c, I a, I tt] 77 true)) := ⟨_, rfl⟩
    have pA : pstn (h.new (.cells [I 0, I 0, I 0] 77 true)) [I c, I a, I tt] (ptr h.next 0) = some hA := by
      rw [pstn_ptr, H.stn_of _ (H.new_get_same _ _), if_pos (by simp), eA]; rfl
    have fA : Fr h hA := by rw [eA]; exact ((Fr.refl h).new _).put (Nat.le_refl _) _
    have nA : hA.next = h.next + 1 := by rw [eA]; rfl
    have cA : hA.get h.next = some (.cells [I c, I a, I tt] 77 true) := by rw [eA]; exact H.put_get_same _ _ _
    have SA := S.fr fA
    have g0 : hA.ld h.next 0 = some (I c) := by rw [H.ld_of _ cA]; rfl
    have g1 : hA.ld h.next 1 = some (I a) := by rw [H.ld_of _ cA]; rfl
    have g2 : hA.ld h.next 2 = some (I tt) := by rw [H.ld_of _ cA]; rfl
    have ic := S.idx (i := c) (by omega)
    have ia := S.idx (i := a) (by omega)
    have lc : hA.ld bg c = some (.bool false) := by rw [H.ld_of _ SA.cell, ← gc]; simp [WW, show c < gs.length by omega]
    have la : hA.ld bg a = some (.bool false) := by rw [H.ld_of _ SA.cell, ← ga]; simp [WW, show a < gs.length by omega]
    obtain ⟨bc, oc, c1, cq⟩ := rep_ats S.rows hc
    obtain ⟨ba, oa, a1, aq⟩ := rep_ats S.rows ha
    obtain ⟨c2, c3, c4⟩ := cq hA fA
    obtain ⟨a2, a3, a4⟩ := aq hA fA
    have oka : (RR reps a).mok := by rw [RR_lt ha]; exact ok _ (List.getElem_mem ha)
    have okc : (RR reps c).mok := by rw [RR_lt hc]; exact ok _ (List.getElem_mem hc)
    have hne := fun (args : List SV) (h : H) => CH_ne N (d + 1) (show (40 : Nat) ≠ 16 by omega) args h
    obtain ⟨hf, f1, f2⟩ := fit_c N d (by omega) okc oka hA
    rw [show fitB (RR reps c) (RR reps a) = true from fit] at f1
    obtain ⟨d2, d3, d4⟩ := cq hf (fA.trans f2)
    obtain ⟨b2, b3, b4⟩ := aq hf (fA.trans f2)
    have q0 : hf.ld h.next 0 = some (I c) := by rw [f2.ld (by omega)]; exact g0
    have q1 : hf.ld h.next 1 = some (I a) := by rw [f2.ld (by omega)]; exact g1
    have q2 : hf.ld h.next 2 = some (I tt) := by rw [f2.ld (by omega)]; exact g2
    have SF := SA.fr f2
    have CS : ChS hf h.next vl vg reps gs c a tt := ⟨SF.rows, SF.rb, by have := f2.nx; omega, (f2.get _ (by omega)).trans cA⟩
    obtain ⟨h1', m1, m2⟩ := ch_inner N d hN (vo := vo) (vi := I i) ok hc ha hlen hgl reps.length 0 N hf CS (by omega) (by omega)
    have hall : allF (fun i => !badK reps gs c a tt i) 0 reps.length = true := by
      rw [allF_iff]
      intro j _ hj
      simp only [Bool.not_eq_true']
      cases hb : badK reps gs c a tt j with
      | false => rfl
      | true =>
        unfold badK at hb
        simp only [Bool.and_eq_true, Bool.not_eq_true', beq_eq_false_iff_ne, ne_eq, decide_eq_false_iff_not, Bool.or_eq_true, beq_iff_eq] at hb
        obtain ⟨⟨⟨⟨k1, k2⟩, k3⟩, k4⟩, k5⟩ := hb
        obtain ⟨k6, k7⟩ := oth j (by omega) k1 k2 k3 (by omega)
        rcases k5 with ⟨k5, k8⟩ | ⟨k5, k8⟩
        · rw [k6 k5] at k8; cases k8
        · rw [k7 k5] at k8; cases k8
    rw [hall, if_pos rfl] at m1
    have S1 := SF.fr m2
    obtain ⟨h2', p1, S2, n2, k2⟩ := S1.set (i := c) (by omega)
    obtain ⟨h3', p2, S3, n3, k3⟩ := S2.set (i := a) (by simp; omega)
    have hbg : h.next ≠ bg := by have := S.lt; omega
    have r0 : h1'.ld h.next 0 = some (I c) := by rw [m2.ld (by have := f2.nx; omega)]; exact q0
    have r1 : h2'.ld h.next 1 = some (I a) := by
      have : h2'.ld h.next 1 = h1'.ld h.next 1 := by unfold H.ld H.row; rw [k2 _ hbg]
      rw [this, m2.ld (by have := f2.nx; omega)]; exact q1
    obtain ⟨h', z⟩ := ih (i + 1) m h3' (goneS gs (c, a, tt)) S3 (by simp [goneS, hgl]) hdt (by omega) h2 (by omega)
    refine ⟨h', ?_⟩
    have x1 : ¬ ((c : Int) < 0) := by omega
    have x2 : ¬ ((c : Int) ≥ reps.length) := by omega
    have x3 : ¬ ((a : Int) < 0) := by omega
    have x4 : ¬ ((a : Int) ≥ reps.length) := by omega
    have x5 : ¬ (tt < (RR reps c).at_) := by omega
    have x6 : ¬ (tt < (RR reps a).at_) := by omega
    have m1' : LP10_1 (CH N (d + 1)) N N [.one vl, .one vo, .one vg, .one (I i), .one (ptr h.next 0), .one (I 0)] hf = _ := m1
    simp only [hl, hlr, ibin_lssI, Option.bind_some, condV_bool, hi1, decide_true, if_true, o1, pldn_ptr, o2', ifLen_eq, List.length_cons, List.length_nil, Nat.zero_add, Nat.reduceAdd, pA, padd_ptr, pld_ptr, g0, g1, x1, x2, x3, x4, decide_false, gsel_false, Bool.false_eq_true, if_false, ibin_geqI, ic, ia, lc, la, c1, c4, a1, a4, ibin_neqI, kc, ka, bne_self_eq_false, hideL_nil, frzL_nil, thawL_nil, c2, a2, hne, f1, un1_one, un_not, Bool.not_true, gateS_false, ovS_some, q0, q1, q2, d3, b3, x5, x6, pickV_false, m1', outc_exit, ifN_same, unConD_cons, unNil_nil, r0, p1, r1, p2, e7, z, Bool.not_false, Nat.add_zero]

theorem children_law (N d : Nat) (hN : 2000 ≤ N) {h : H} {vl : Value} {reps : List Rep} (r : RS h 3 vl (reps.map Rep.enc)) :
    ∃ h', execF Proofs.Tryz.prog (CH N (d + 7)) hints N 10 [.one vl] h = some (.one (.bool true), h') := by
  rw [F10_eq]; unfold F10
  have hl := r.len
  rw [List.length_map] at hl
  have hw := fun (h : H) => hookT_self 16 (CF N (d + 7)) h
  simp only [hl, Option.bind_some, ibin_gtrI, condV_bool]
  by_cases h80 : 80 < reps.length
  · have : (reps.length : Int) > 80 := by omega
    simp only [this, decide_true, if_true]
    exact ⟨h, by rw [show CH N (d + 7) (.func 16) [] h = _ from hw _]; rfl⟩
  · have : ¬ (reps.length : Int) > 80 := by omega
    simp only [this, decide_false, Bool.false_eq_true, if_false]
    generalize eA : h.new (.cells [] 81 true) = hA
    have fA : Fr h hA := by subst eA; exact (Fr.refl h).new _
    obtain ⟨v1, h1, e1, f1, r1, _⟩ := append0_c (h := hA) (b := h.next) (e := 81) (by subst eA; simp) (by subst eA; simp) (r.fr fA) (by simp; omega)
    obtain ⟨va, h2, e2, f2, o2⟩ := match_c N d hN (reps := reps) r1 (by omega)
    have rr := ((r.fr fA).fr f1).fr f2
    simp only [e1, Option.bind_some, CH_ne N (d + 7) (show (38 : Nat) ≠ 16 by omega), e2, unT_tup, unCons_cons, un1_one, unNil_nil, ibin_neqI, condV_bool]
    by_cases h0 : (matchP reps).2 = 0
    · have hb : ((matchP reps).2 != 0) = false := by rw [h0]; rfl
      rw [match_same] at h0
      obtain ⟨hok, g', hrun⟩ := match_right reps h0
      rw [← match_same] at hrun
      have hml := match_len reps
      have eM : h2.mkS [.bool false] 4 (I reps.length) (I reps.length) = some (slc h2.next 0 reps.length (if reps.length = 0 then 0 else 1), h2.new (.cells ((List.replicate reps.length false).map fun (x : Bool) => .bool x) 4 true)) := by
        show (if (0 : Int) ≤ (reps.length : Int) ∧ (reps.length : Int) ≤ (reps.length : Int) ∧ (reps.length : Int) ≤ 2 ^ 30 then some (Value.slice (some ⟨h2.next, 0, none⟩) (reps.length : Int).toNat (if (reps.length : Int) = 0 then 0 else 1), h2.new (.cells (List.replicate (reps.length : Int).toNat [Value.bool false]).flatten 4 true)) else none) = _
        rw [if_pos (by omega)]
        have e9 : (List.replicate (reps.length : Int).toNat [Value.bool false]).flatten = (List.replicate reps.length false).map fun (x : Bool) => Value.bool x := by
          rw [Int.toNat_natCast]
          generalize reps.length = n
          induction n with
          | zero => rfl
          | succ n ih => rw [List.replicate_succ, List.flatten_cons, ih]; rfl
        have e10 : (if (reps.length : Int) = 0 then 0 else 1) = (if reps.length = 0 then 0 else 1 : Nat) := by
          by_cases h : reps.length = 0
          · rw [if_pos (by omega), if_pos h]
          · rw [if_neg (by omega), if_neg h]
        rw [e9, e10, Int.toNat_natCast]
        rfl
      generalize eB : h2.new (.cells ((List.replicate reps.length false).map fun (x : Bool) => .bool x) 4 true) = hB at eM
      have fB : Fr h2 hB := by subst eB; exact (Fr.refl h2).new _
      have S : ChO hB h2.next (if reps.length = 0 then 0 else 1) vl va (slc h2.next 0 reps.length (if reps.length = 0 then 0 else 1)) reps (List.replicate reps.length false) (matchP reps).1 := {
        rows := rr.fr fB
        out := o2.rs.fr fB
        lt := by subst eB; simp
        eq := by simp
        cell := by subst eB; simp
        nl := fun hh => by have := rr.lt hh; omega
        no := fun hh => by have := o2.rs.lt hh; omega }
      obtain ⟨h', k1⟩ := ch_outer N (d + 6) (by omega) hok (by omega) (by omega) (matchP reps).1 0 N hB _ S (by simp) rfl (by omega) hrun (by omega)
      simp only [hb, Bool.false_eq_true, if_false, hl, Option.bind_some, eM]
      refine ⟨h', ?_⟩
      rw [show LP10_0 (CH N (d + 7)) N N [.one vl, .one va, .one (slc h2.next 0 reps.length (if reps.length = 0 then 0 else 1)), .one (I 0)] hB = _ from k1]
      simp only [Option.bind_some, outc_exit, ifN_same, unNil_nil]
      rw [show CH N (d + 7) (.func 16) [] h' = _ from hw _]
      rfl
    · have hb : ((matchP reps).2 != 0) = true := by rw [bne_iff_ne]; exact h0
      simp only [hb, if_true]
      exact ⟨h2, by rw [show CH N (d + 7) (.func 16) [] h2 = _ from hw _]; rfl⟩
end Go.Wz
namespace Go.Wz
theorem children_exec (w : World) (svs : List SV) (h : ArgsOK (HW w) [(false, [.sl [.int .i64, .int .i64, .int .i64]])] svs) :
    ∃ h', execF Proofs.Tryz.prog (CH 2000 7) hints 2000 10 svs (HW w) = some (.one (.bool true), h') := by
  unfold ArgsOK ArgsOK at h
  obtain ⟨v, t, rfl, ⟨a, rfl, h1⟩, rfl⟩ := h
  unfold OkR OkR at h1
  obtain ⟨v, t, h2, h3, rfl⟩ := h1
  cases h2
  unfold OkC at h3
  obtain ⟨rows, r, hr⟩ := h3
  obtain ⟨reps, rfl⟩ : ∃ reps : List Rep, rows = reps.map Rep.enc := by
    clear r
    induction rows with
    | nil => exact ⟨[], rfl⟩
    | cons x rows ih =>
      obtain ⟨reps, rfl⟩ := ih fun y hy => hr y (by simp [hy])
      have hx := hr x (by simp)
      unfold OkR OkR OkR OkR at hx
      obtain ⟨v1, _, rfl, c1, v2, _, rfl, c2, v3, _, rfl, c3, rfl⟩ := hx
      unfold OkC at c1 c2 c3
      obtain ⟨n1, rfl, _⟩ := c1
      obtain ⟨n2, rfl, _⟩ := c2
      obtain ⟨n3, rfl, _⟩ := c3
      exact ⟨⟨n1, n2, n3⟩ :: reps, rfl⟩
  exact children_law 2000 0 (Nat.le_refl _) r
end Go.Wz
