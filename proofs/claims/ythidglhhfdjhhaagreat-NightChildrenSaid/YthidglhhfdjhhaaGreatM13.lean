/- Contracts: the reference's Match. -/
import Derived.Test.YthidglhhfdjhhaaGreatMC
set_option linter.unusedVariables false
set_option linter.unusedSimpArgs false
namespace Go.Wz
open Go

theorem checkR_loop (N d : Nat) (hN : 1000 ≤ N) {vl : Value} {reps : List Rep} {h : H} (r0 : RS h 3 vl (reps.map Rep.enc)) (hlen : reps.length < 900) :
    ∀ (t : List Rep) (i m : Nat) (last : Int), reps.drop i = t → i ≤ reps.length → t.length < m →
      LP39_0 (CF N (d + 1)) N m [.one vl, .one (I last), .one (I i)] h = some (if chk last t = true then (.exit 0, [.one vl], h) else (.ret (.tup [.one nilS, .one (I 121)]), [], h)) := by
  intro t
  induction t with
  | nil =>
    intro i m last hi hle hm
    obtain ⟨m, rfl⟩ : ∃ q, m = q + 1 := ⟨m - 1, by omega⟩
    rw [LP39_0_succ]; unfold B39_0
    obtain rfl := drop_nil hi hle
    have hl := r0.len
    rw [List.length_map] at hl
    simp [chk, hl]
  | cons r t ih =>
    intro i m last hd hle hm
    obtain ⟨m, rfl⟩ : ∃ q, m = q + 1 := ⟨m - 1, by omega⟩
    simp only [List.length_cons] at hm
    obtain ⟨hlt, hx, hdt, hl2⟩ := drop_cons hd
    rw [LP39_0_succ]; unfold B39_0
    have hl := r0.len
    rw [List.length_map] at hl
    obtain ⟨b, o, e1, _, e2, e3, e4⟩ := reps_at r0 hlt
    rw [RR_lt hlt, hx] at e2 e3 e4
    have h1 : (i : Int) < reps.length := by omega
    have e7 : ibin .add (I i) (I 1) = some (I (i + 1 : Nat)) := by rw [add_in (by omega) (by omega)]; rfl
    simp only [hl, ibin_lssI, Option.bind_some, condV_bool, h1, decide_true, if_true, e1, padd_ptr, Nat.add_zero, pld_ptr, e2, from_c, un1_one, un_not, gsel_false]
    have k1 := ih (i + 1) m r.at_ hdt (by omega) (by omega)
    cases c3 : wb r.at_ last 4000
    · simp [chk, c3]
    cases c1 : wb r.kind 1 2
    · simp [chk, c3, c1, e3, pld_ptr, from_c]
    cases c2 : wb r.marks 0 4095
    · simp [chk, c3, c1, c2, e3, e4, pld_ptr, from_c]
    simp [chk, c3, c1, c2, e2, e3, e4, pld_ptr, from_c, e7, k1, -Int.natCast_add]

/-- the reference's state in memory -/
structure RW (h : H) (bw : Nat) (vl vw vo : Value) (reps : List Rep) (ws : List Bool) (hd : List (List Value)) : Prop where
  lt : bw < h.next
  eq : vw = slc bw 0 ws.length 1
  cell : h.get bw = some (.cells (ws.map fun (x : Bool) => .bool x) 4 true)
  rows : RS h 3 vl (reps.map Rep.enc)
  out : OG h vo 77 3 hd
  no : bOf vo ≠ some bw
  nl : bOf vl ≠ some bw
  nlo : ∀ b, bOf vl = some b → bOf vo ≠ some b
  len : ws.length = reps.length
  small : reps.length < 900
  ok : ∀ r ∈ reps, r.mok
theorem flatten_oneB (l : List Bool) : (l.map fun (x : Bool) => [Value.bool x]).flatten = l.map fun (x : Bool) => Value.bool x := by
  induction l with
  | nil => rfl
  | cons a l ih => simp [ih]
theorem RW.refS {h : H} {bw : Nat} {vl vw vo : Value} {reps : List Rep} {ws : List Bool} {hd : List (List Value)} (S : RW h bw vl vw vo reps ws hd) : RefS h vl vw reps ws where
  rows := S.rows
  waits := ⟨fun x hx => by obtain ⟨b, _, rfl⟩ := List.mem_map.1 hx; rfl, .inr (.inr ⟨bw, 0, 1, _, 4, true, by simpa using S.eq, ⟨S.lt, S.cell⟩, by simp, by rw [flatten_oneB, List.drop_zero]; exact List.take_of_length_le (by simp)⟩)⟩
  len := S.len
  small := S.small
  ok := S.ok
theorem RW.fr {h h' : H} {bw : Nat} {vl vw vo : Value} {reps : List Rep} {ws : List Bool} {hd : List (List Value)} (S : RW h bw vl vw vo reps ws hd) (f : Fr h h') : RW h' bw vl vw vo reps ws hd :=
  { S with
    lt := Nat.lt_of_lt_of_le S.lt f.nx
    cell := (f.get _ S.lt).trans S.cell
    rows := S.rows.fr f
    out := S.out.keep f.nx fun b _ hb => f.get b hb }
def RFoot (bw : Nat) (vo : Value) (b : Nat) : Prop := b = bw ∨ bOf vo = some b
/-- a place in the list of those who wait is written -/
theorem RW.set {h : H} {bw : Nat} {vl vw vo : Value} {reps : List Rep} {ws : List Bool} {hd : List (List Value)} (S : RW h bw vl vw vo reps ws hd) {i : Nat} (hi : i < reps.length) (x : Bool) :
    ∃ h', idxS 1 vw (I i) = some (ptr bw i) ∧ pst h (.bool x) (ptr bw i) = some h' ∧ RW h' bw vl vw vo reps (ws.set i x) hd ∧ Step (RFoot bw vo) (RFoot bw vo) h h' := by
  have hl := S.len
  refine ⟨h.put bw (some (.cells ((ws.set i x).map fun (x : Bool) => .bool x) 4 true)), ?_, ?_, ?_, ?_⟩
  · rw [S.eq, idxS_slcI, if_pos (by omega)]; simp
  · rw [pst_ptr, H.st_of _ S.cell, if_pos (by simp; omega), List.map_set]
  · have keep : ∀ b, b ≠ bw → (h.put bw (some (.cells ((ws.set i x).map fun (x : Bool) => .bool x) 4 true))).get b = h.get b := fun b hb => H.put_get_ne _ _ hb
    exact { S with
      lt := S.lt
      eq := by rw [S.eq]; simp
      cell := H.put_get_same _ _ _
      rows := S.rows.keep (by simp) fun b hb => keep b fun hh => S.nl (hh ▸ hb)
      out := S.out.keep (by simp) fun b hb _ => keep b fun hh => S.no (hh ▸ hb)
      len := by simp [hl] }
  · exact ⟨by simp, fun b hb hf => H.put_get_ne _ _ fun hh => hf (.inl hh), fun _ _ hf => hf⟩

abbrev RSt := List Bool × List (Nat × Nat × Int)
def refAll (reps : List Rep) (t : Int) : Nat → RSt → RSt
  | 0, s => s
  | n + 1, s => match nextR reps s.1 with
    | none => s
    | some (c, a) => refAll reps t n ((s.1.set c false).set a false, s.2 ++ [(c, a, t)])
def refG (reps : List Rep) : Nat → List Rep → RSt → RSt
  | _, [], s => s
  | i, r :: t, s => refG reps (i + 1) t (refAll reps r.at_ 1000 (s.1.set i true, s.2))
theorem firstF_some {α : Type} {p : Nat → Option α} : ∀ {k i : Nat} {x : α}, firstF p i k = some x → ∃ j, i ≤ j ∧ j < i + k ∧ p j = some x ∧ ∀ q, i ≤ q → q < j → p q = none
  | 0, i, x, h => by simp [firstF] at h
  | k + 1, i, x, h => by
    unfold firstF at h
    split at h
    · rename_i y hy; cases h; exact ⟨i, by omega, by omega, hy, fun q h1 h2 => by omega⟩
    · rename_i hn
      obtain ⟨j, h1, h2, h3, h4⟩ := firstF_some h
      exact ⟨j, by omega, by omega, h3, fun q hq1 hq2 => by
        by_cases e : q = i
        · subst e; exact hn
        · exact h4 q (by omega) hq2⟩
theorem firstF_none {α : Type} {p : Nat → Option α} : ∀ {k i : Nat}, firstF p i k = none → ∀ q, i ≤ q → q < i + k → p q = none
  | 0, i, h, q, h1, h2 => by omega
  | k + 1, i, h, q, h1, h2 => by
    unfold firstF at h
    split at h
    · cases h
    · rename_i hn
      by_cases e : q = i
      · subst e; exact hn
      · exact firstF_none h q (by omega) (by omega)
theorem nextR_some {reps : List Rep} {ws : List Bool} {c a : Nat} (h : nextR reps ws = some (c, a)) :
    c < reps.length ∧ a < reps.length ∧ WW ws c = true ∧ (RR reps c).kind = 1 ∧ pA reps ws c a = true := by
  obtain ⟨j, h1, h2, h3, _⟩ := firstF_some h
  unfold pickC at h3
  split at h3
  · rename_i hw
    simp only [Option.map_eq_some_iff, Prod.mk.injEq] at h3
    obtain ⟨y, h4, rfl, rfl⟩ := h3
    obtain ⟨q, q1, q2, q3, _⟩ := firstF_some h4
    unfold pickA at q3
    split at q3
    · cases q3; exact ⟨by omega, by omega, hw.1, hw.2, ‹_›⟩
    · cases q3
  · cases h3
/-- how many wait -/
def cnt (ws : List Bool) : Nat := (ws.filter id).length
theorem cnt_set_false {ws : List Bool} : ∀ {i : Nat}, WW ws i = true → cnt (ws.set i false) + 1 = cnt ws := by
  induction ws with
  | nil => intro i h; simp [WW] at h
  | cons x ws ih =>
    intro i h
    cases i with
    | zero => simp [WW] at h; subst h; simp [cnt]
    | succ i =>
      have := ih (i := i) (by simpa [WW] using h)
      unfold cnt at this ⊢
      cases x <;> simp <;> omega
theorem cnt_set_le {ws : List Bool} : ∀ {i : Nat}, cnt (ws.set i false) ≤ cnt ws := by
  induction ws with
  | nil => intro i; simp [cnt]
  | cons x ws ih =>
    intro i
    cases i with
    | zero => cases x <;> simp [cnt]
    | succ i =>
      have := ih (i := i)
      unfold cnt at this ⊢
      cases x <;> simp <;> omega
theorem cnt_le (ws : List Bool) : cnt ws ≤ ws.length := List.length_filter_le _ _

theorem whileR_loop (N d : Nat) (hN : 1000 ≤ N) {bw i : Nat} {vl vw : Value} {reps : List Rep} (hi : i < reps.length) :
    ∀ (n m : Nat) (h : H) (vo : Value) (s : RSt), RW h bw vl vw vo reps s.1 (s.2.map encH) → cnt s.1 ≤ n → n < m → s.2.length + cnt s.1 ≤ 5000 →
      ∃ vo' h', LP39_2 (CF N (d + 3)) N m [.one vl, .one vo, .one vw, .one (I i)] h = some (.exit 4, [.one vl, .one vo', .one vw, .one (I i)], h') ∧
        RW h' bw vl vw vo' reps (refAll reps (RR reps i).at_ n s).1 ((refAll reps (RR reps i).at_ n s).2.map encH) ∧ Step (RFoot bw vo) (RFoot bw vo') h h' ∧
        (refAll reps (RR reps i).at_ n s).2.length + cnt (refAll reps (RR reps i).at_ n s).1 ≤ s.2.length + cnt s.1 := by
  intro n
  induction n with
  | zero =>
    intro m h vo s S hn hm hl
    obtain ⟨m, rfl⟩ : ∃ q, m = q + 1 := ⟨m - 1, by omega⟩
    rw [LP39_2_succ]; unfold B39_2
    obtain ⟨h', k1, k2⟩ := next_c N d hN S.refS
    cases hnx : nextR reps s.1 with
    | none =>
      rw [hnx] at k1
      exact ⟨vo, h', by simp [k1], S.fr k2, Step.of_fr k2, Nat.le_refl _⟩
    | some x =>
      obtain ⟨c, a⟩ := x
      have := cnt_set_false (nextR_some hnx).2.2.1
      omega
  | succ n ih =>
    intro m h vo s S hn hm hl
    obtain ⟨m, rfl⟩ : ∃ q, m = q + 1 := ⟨m - 1, by omega⟩
    rw [LP39_2_succ]; unfold B39_2
    obtain ⟨h', k1, k2⟩ := next_c N d hN S.refS
    unfold refAll
    cases hnx : nextR reps s.1 with
    | none =>
      rw [hnx] at k1
      exact ⟨vo, h', by simp [k1], S.fr k2, Step.of_fr k2, Nat.le_refl _⟩
    | some x =>
      obtain ⟨c, a⟩ := x
      rw [hnx] at k1
      obtain ⟨hc, ha, hwc, _, _⟩ := nextR_some hnx
      have S1 := S.fr k2
      obtain ⟨h2, i1, p1, S2, st1⟩ := S1.set hc false
      obtain ⟨h3, i2, p2, S3, st2⟩ := S2.set ha false
      obtain ⟨bl, ol, l1, _, l2, _⟩ := reps_at S3.rows hi
      have hc0 : ¬ ((c : Int) < 0) := by omega
      generalize eA : h3.new (.cells [I c, I a, I (RR reps i).at_] 77 true) = hA
      have fA : Fr h3 hA := by subst eA; exact (Fr.refl h3).new _
      have nA : hA.next = h3.next + 1 := by subst eA; rfl
      have rx : RS hA 3 (slc h3.next 0 1 1) [encH (c, a, (RR reps i).at_)] := RS.mk (l := [encH (c, a, (RR reps i).at_)]) (by simp [encH]) ⟨by omega, by subst eA; exact H.new_get_same _ _⟩ (by simp) (by simp [encH])
      have S4 := S3.fr fA
      obtain ⟨h5, e1, e2, e3, e4⟩ := append_c S4.out rx (by simp) (by simp; omega)
      simp only [List.length_cons, List.length_nil, Nat.zero_add, List.length_map] at e1 e3
      have S5 : RW h5 bw vl vw (slc hA.next 0 (s.2.length + 1) 1) reps ((s.1.set c false).set a false) ((s.2 ++ [(c, a, (RR reps i).at_)]).map encH) := { S4 with
        lt := by have := S4.lt; omega
        cell := by rw [e4 bw S4.lt S4.no]; exact S4.cell
        rows := S4.rows.keep (by omega) fun b hb => e4 b (S4.rows.lt hb) (S4.nlo b hb)
        out := by simpa using e3
        no := by rw [bOf_slc]; intro hh; simp only [Option.some.injEq] at hh; have := S4.lt; omega
        nlo := fun b hb => by rw [bOf_slc]; intro hh; simp only [Option.some.injEq] at hh; have := S4.rows.lt hb; omega }
      have hcn : cnt ((s.1.set c false).set a false) + 1 ≤ cnt s.1 := by
        have := cnt_set_false hwc
        have := cnt_set_le (ws := s.1.set c false) (i := a)
        omega
      obtain ⟨vo', h6, m1, m2, m3, m4⟩ := ih m h5 _ ((s.1.set c false).set a false, s.2 ++ [(c, a, (RR reps i).at_)]) S5 (by simp only; omega) (by omega) (by simp; omega)
      refine ⟨vo', h6, ?_, m2, ?_, ?_⟩
      · simp only [k1, Option.bind_some, unT_tup, unCons_cons, un1_one, unNil_nil, ibin_lssI, hc0, decide_false, condV_bool, Bool.false_eq_true, if_false, i1, p1, i2, p2, l1, padd_ptr, Nat.add_zero, pld_ptr, l2, fillK_agg, List.length_cons, List.length_nil, Nat.zero_add, Nat.le_refl, if_true, fillK_nil, show splice [I 0, I 0, I 0] 0 [I (c : Int), I (a : Int), I (RR reps i).at_] = [I c, I a, I (RR reps i).at_] from rfl, eA, e1, m1]
      · refine ((Step.of_fr k2).trans (st1.trans (st2.trans (Step.of_fr fA)))).trans (Step.trans ⟨by omega, fun b hb hf => e4 b hb fun hh => hf (.inr hh), fun b hb hf => ?_⟩ m3)
        rcases hf with hf | hf
        · exact .inl hf
        · rw [bOf_slc] at hf; simp only [Option.some.injEq] at hf; omega
      · simp only [List.length_append, List.length_cons, List.length_nil] at m4 ⊢; omega

theorem cnt_set_true {ws : List Bool} : ∀ {i : Nat}, cnt (ws.set i true) ≤ cnt ws + 1 := by
  induction ws with
  | nil => intro i; simp [cnt]
  | cons x ws ih =>
    intro i
    cases i with
    | zero => cases x <;> simp [cnt]
    | succ i =>
      have := ih (i := i)
      unfold cnt at this ⊢
      cases x <;> simp <;> omega
theorem matchR_loop (N d : Nat) (hN : 2000 ≤ N) {bw : Nat} {vl vw : Value} {reps : List Rep} :
    ∀ (t : List Rep) (i m : Nat) (h : H) (vo : Value) (s : RSt), RW h bw vl vw vo reps s.1 (s.2.map encH) → reps.drop i = t → i ≤ reps.length → t.length < m → s.2.length + cnt s.1 ≤ i →
      ∃ vo' h', LP39_1 (CF N (d + 3)) N m [.one vl, .one vo, .one vw, .one (I i)] h = some (.exit 2, [.one vo'], h') ∧ RW h' bw vl vw vo' reps (refG reps i t s).1 ((refG reps i t s).2.map encH) ∧ Step (RFoot bw vo) (RFoot bw vo') h h' := by
  intro t
  induction t with
  | nil =>
    intro i m h vo s S hi hle hm hl
    obtain ⟨m, rfl⟩ : ∃ q, m = q + 1 := ⟨m - 1, by omega⟩
    rw [LP39_1_succ]; unfold B39_1
    obtain rfl := drop_nil hi hle
    exact ⟨vo, h, by simp [S.refS.lenS], S, Step.of_fr (.refl h)⟩
  | cons r t ih =>
    intro i m h vo s S hd hle hm hl
    obtain ⟨m, rfl⟩ : ∃ q, m = q + 1 := ⟨m - 1, by omega⟩
    simp only [List.length_cons] at hm
    obtain ⟨hlt, hx, hdt, hl2⟩ := drop_cons hd
    rw [LP39_1_succ]; unfold B39_1
    have hs := S.small
    have h1 : (i : Int) < reps.length := by omega
    have e7 : ibin .add (I i) (I 1) = some (I (i + 1 : Nat)) := by rw [add_in (by omega) (by omega)]; rfl
    obtain ⟨h1', i1, p1, S1, st1⟩ := S.set hlt true
    have hc1 := cnt_set_true (ws := s.1) (i := i)
    have hc2 := cnt_le (s.1.set i true)
    have hsl := S.len
    simp only [List.length_set] at hc2
    obtain ⟨vo1, h2, m1, m2, m3, m4⟩ := whileR_loop N d (by omega) hlt 1000 N h1' vo (s.1.set i true, s.2) S1 (by simp only; omega) (by omega) (by simp only; omega)
    rw [RR_lt hlt, hx] at m2 m4
    simp only at m4
    obtain ⟨vo2, h3, k1, k2, k3⟩ := ih (i + 1) m h2 vo1 _ m2 hdt (by omega) (by omega) (by omega)
    refine ⟨vo2, h3, ?_, k2, st1.trans (m3.trans k3)⟩
    simp only [S.refS.lenS, ibin_lssI, Option.bind_some, condV_bool, h1, decide_true, if_true, i1, p1, m1, outc_exit, ifN_same, unConD_cons, un1_one, unNil_nil, e7, k1]

/-- what the reference's Match returns -/
def matchRef (reps : List Rep) : List (Nat × Nat × Int) × Int :=
  if 60 < reps.length then ([], 2) else if chk 0 reps = true then ((refG reps 0 reps (List.replicate reps.length false, [])).2, 0) else ([], 121)
theorem matchR_c (N d : Nat) (hN : 2000 ≤ N) {h : H} {vl : Value} {reps : List Rep} (r : RS h 3 vl (reps.map Rep.enc)) (hlen : reps.length ≤ 800) :
    ∃ v h', CF N (d + 4) (.func 39) [.one vl] h = some (.tup [.one v, .one (I (matchRef reps).2)], h') ∧ Fr h h' ∧ OG h' v 77 3 ((matchRef reps).1.map encH) := by
  rw [CF_succ, F39_eq]; unfold F39
  have hl := r.len
  rw [List.length_map] at hl
  rw [hl]
  simp only [Option.bind_some, ibin_gtrI, condV_bool]
  unfold matchRef
  by_cases h60 : 60 < reps.length
  · have : (reps.length : Int) > 60 := by omega
    simp only [this, decide_true, if_true, h60]
    exact ⟨_, h, rfl, .refl h, by simp, .inl ⟨rfl, rfl⟩⟩
  · have : ¬ (reps.length : Int) > 60 := by omega
    simp only [this, decide_false, Bool.false_eq_true, if_false, h60]
    have k1 := checkR_loop N (d + 2) (by omega) r (by omega) reps 0 N 0 rfl (by omega) (by omega)
    rw [show LP39_0 (CF N (d + 3)) N N [.one vl, .one (I 0), .one (I 0)] h = _ from k1]
    cases hc : chk 0 reps with
    | false => exact ⟨_, h, by simp, .refl h, by simp, .inl ⟨rfl, rfl⟩⟩
    | true =>
      simp only [if_true, Option.bind_some, outc_exit, ifN_same, unConD_cons, un1_one, unNil_nil, hl]
      by_cases h0 : reps = []
      · subst h0
        have mk : H.mkS h [.bool false] 4 (I ((([] : List Rep).length : Nat) : Int)) (I ((([] : List Rep).length : Nat) : Int)) = some (slc h.next 0 0 0, h.new (.cells [] 4 true)) := rfl
        rw [mk]
        simp only [Option.bind_some]
        obtain ⟨M, rfl⟩ : ∃ q, N = q + 1 := ⟨N - 1, by omega⟩
        refine ⟨nilS, h.new (.cells [] 4 true), ?_, (Fr.refl h).new _, by simp [refG], .inl ⟨rfl, by simp [refG]⟩⟩
        rw [LP39_1_succ]; unfold B39_1
        simp only [List.length_nil] at hl
        simp [hl]
      · have hpos : 0 < reps.length := List.length_pos_iff.2 h0
        have mk : H.mkS h [.bool false] 4 (I (reps.length : Int)) (I (reps.length : Int)) = some (slc h.next 0 reps.length 1, h.new (.cells ((List.replicate reps.length false).map fun (x : Bool) => .bool x) 4 true)) := by
          unfold H.mkS I
          simp only
          rw [if_pos (by omega), if_neg (by omega)]
          have : (List.replicate (reps.length : Int).toNat [Value.bool false]).flatten = (List.replicate reps.length false).map fun (x : Bool) => Value.bool x := by
            rw [Int.toNat_natCast, ← flatten_oneB, List.map_replicate]
          rw [this]; rfl
        rw [mk]
        simp only [Option.bind_some]
        generalize eA : h.new (.cells ((List.replicate reps.length false).map fun (x : Bool) => .bool x) 4 true) = hA
        have fA : Fr h hA := by subst eA; exact (Fr.refl h).new _
        have nA : hA.next = h.next + 1 := by subst eA; rfl
        have S : RW hA h.next vl (slc h.next 0 reps.length 1) nilS reps (List.replicate reps.length false) ((([] : List (Nat × Nat × Int))).map encH) := {
          lt := by omega
          eq := by simp
          cell := by subst eA; simp
          rows := r.fr fA
          out := ⟨by simp, .inl ⟨rfl, rfl⟩⟩
          no := by simp [bOf]
          nl := fun hh => by have := r.lt hh; omega
          nlo := by simp [bOf]
          len := by simp
          small := by omega
          ok := fun x hx => (chkK hc x hx).2 }
        obtain ⟨vo', h2, m1, m2, m3⟩ := matchR_loop N d hN reps 0 N hA nilS (List.replicate reps.length false, []) S rfl (by omega) (by omega) (by simp [cnt])
        refine ⟨vo', h2, ?_, ?_, m2.out⟩
        · rw [show LP39_1 (CF N (d + 3)) N N [.one vl, .one nilS, .one (slc h.next 0 reps.length 1), .one (I 0)] hA = _ from m1]
          simp
        · refine ⟨by have := m3.nx; omega, fun b hb => ?_⟩
          rw [m3.get b (by omega), fA.get b hb]
          rintro (hh | hh)
          · omega
          · simp [bOf] at hh
end Go.Wz
