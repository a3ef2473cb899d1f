import Derived.Test.YthidglhhfdjhhaaGreatM10
/- Contracts: the reference's alone, next. -/
set_option linter.unusedVariables false
set_option linter.unusedSimpArgs false
namespace Go.Wz
open Go

def allF (p : Nat → Bool) : Nat → Nat → Bool
  | _, 0 => true
  | i, k + 1 => p i && allF p (i + 1) k
theorem allF_iff (p : Nat → Bool) : ∀ (k i : Nat), allF p i k = true ↔ ∀ j, i ≤ j → j < i + k → p j = true
  | 0, i => by simp [allF]; omega
  | k + 1, i => by
    simp only [allF, Bool.and_eq_true, allF_iff p k (i + 1)]
    constructor
    · rintro ⟨h1, h2⟩ j hj hj2
      by_cases e : j = i
      · subst e; exact h1
      · exact h2 j (by omega) (by omega)
    · intro h
      exact ⟨h i (by omega) (by omega), fun j h1 h2 => h j (by omega) (by omega)⟩
def firstF {α : Type} (p : Nat → Option α) : Nat → Nat → Option α
  | _, 0 => none
  | i, k + 1 => match p i with | some x => some x | none => firstF p (i + 1) k

/-- bools in memory, to be read -/
def RB (h : H) (v : Value) (l : List Bool) : Prop := RS h 1 v (l.map fun (x : Bool) => [.bool x])
theorem RB.at {h : H} {v : Value} {l : List Bool} (r : RB h v l) {i : Nat} (hi : i < l.length) : ∃ b o, b < h.next ∧ idxS 1 v (I (i : Int)) = some (ptr b o) ∧ h.ld b o = some (.bool l[i]) := by
  obtain ⟨b, o, h1, h2, _, h4⟩ := RS.at r (i := i) (by simpa using hi)
  refine ⟨b, o, h1, h2, ?_⟩
  have := h4 0 (by omega)
  simpa using this
def WW (ws : List Bool) (i : Nat) : Bool := (ws[i]?).getD false
theorem WW_lt {ws : List Bool} {i : Nat} (h : i < ws.length) : WW ws i = ws[i] := by simp [WW, h]
theorem reps_at {h : H} {vl : Value} {reps : List Rep} (r : RS h 3 vl (reps.map Rep.enc)) {i : Nat} (hi : i < reps.length) :
    ∃ b o, idxS 3 vl (I (i : Int)) = some (ptr b o) ∧ h.ldn b o 3 = some (RR reps i).enc ∧ h.ld b o = some (I (RR reps i).at_) ∧ h.ld b (o + 1) = some (I (RR reps i).kind) ∧ h.ld b (o + 2) = some (I (RR reps i).marks) := by
  obtain ⟨b, o, _, h1, h2, h3⟩ := r.at (i := i) (by simpa using hi)
  have e : (reps.map Rep.enc)[i]'(by simpa using hi) = (RR reps i).enc := by rw [List.getElem_map, RR_lt hi]
  rw [e] at h2
  refine ⟨b, o, h1, h2, ?_, ?_, ?_⟩
  · have := h3 0 (by omega); rw [e] at this; simpa [Rep.enc] using this
  · have := h3 1 (by omega); rw [e] at this; simpa [Rep.enc] using this
  · have := h3 2 (by omega); rw [e] at this; simpa [Rep.enc] using this

def badR (reps : List Rep) (ws : List Bool) (c a i : Nat) : Bool :=
  WW ws i && !(i == c) && !(i == a) && ((RR reps i).kind == 1 && fB reps i a || (RR reps i).kind == 2 && fB reps c i)

theorem aloneR_loop (N d : Nat) (hN : 1000 ≤ N) {h0 : H} {vl vw : Value} {reps : List Rep} {ws : List Bool} (r0 : RS h0 3 vl (reps.map Rep.enc)) (rw0 : RB h0 vw ws) (hw : ws.length = reps.length) (hlen : reps.length < 900)
    (ok : ∀ r ∈ reps, r.mok) {c a : Nat} (hc : c < reps.length) (ha : a < reps.length) :
    ∀ (k i m : Nat) (h : H), Fr h0 h → i + k = reps.length → k < m →
      ∃ h', LP145_0 (CF N (d + 1)) N m [.one vl, .one vw, .one (I c), .one (I a), .one (I i)] h = some (if allF (fun i => !badR reps ws c a i) i k = true then (.exit 0, [], h') else (.ret (.one (.bool false)), [], h')) ∧ Fr h h' := by
  intro k
  induction k with
  | zero =>
    intro i m h f hi hm
    obtain ⟨m, rfl⟩ : ∃ q, m = q + 1 := ⟨m - 1, by omega⟩
    rw [LP145_0_succ]; unfold B145_0
    obtain rfl : i = reps.length := by omega
    have hl := r0.len
    rw [List.length_map] at hl
    exact ⟨h, by simp [hl, allF], .refl h⟩
  | succ k ih =>
    intro i m h f hi hm
    obtain ⟨m, rfl⟩ : ∃ q, m = q + 1 := ⟨m - 1, by omega⟩
    rw [LP145_0_succ]; unfold B145_0
    have hl := r0.len
    rw [List.length_map] at hl
    have hlt : i < reps.length := by omega
    have h1 : (i : Int) < reps.length := by omega
    have e7 : ibin .add (I i) (I 1) = some (I (i + 1 : Nat)) := by rw [add_in (by omega) (by omega)]; rfl
    obtain ⟨bw, ow, _, w1, w2⟩ := RB.at (RS.fr rw0 f) (i := i) (by omega)
    rw [← WW_lt (by omega)] at w2
    obtain ⟨bi, oi, i1, i2, i3, i4, _⟩ := reps_at (r0.fr f) hlt
    obtain ⟨ba, oa, a1, a2, _⟩ := reps_at (r0.fr f) ha
    obtain ⟨bc, oc, c1, c2, _⟩ := reps_at (r0.fr f) hc
    have oki : (RR reps i).mok := by rw [RR_lt hlt]; exact ok _ (List.getElem_mem hlt)
    have oka : (RR reps a).mok := by rw [RR_lt ha]; exact ok _ (List.getElem_mem ha)
    have okc : (RR reps c).mok := by rw [RR_lt hc]; exact ok _ (List.getElem_mem hc)
    simp only [hl, ibin_lssI, Option.bind_some, condV_bool, h1, decide_true, if_true, w1, pld_ptr, w2, un_not, gsel_false, ibin_eqlI, eqNat]
    cases hwi : WW ws i with
    | false =>
      obtain ⟨h', k1, k2⟩ := ih (i + 1) m h f (by omega) (by omega)
      refine ⟨h', ?_, k2⟩
      have hb : badR reps ws c a i = false := by simp [badR, hwi]
      simp [e7, k1, allF, hb, hwi, -Int.natCast_add]
    | true =>
      cases hic : i == c with
      | true =>
        obtain ⟨h', k1, k2⟩ := ih (i + 1) m h f (by omega) (by omega)
        refine ⟨h', ?_, k2⟩
        have hb : badR reps ws c a i = false := by simp [badR, hwi, hic]
        simp [e7, k1, allF, hb, hwi, hic, -Int.natCast_add]
      | false =>
        cases hia : i == a with
        | true =>
          obtain ⟨h', k1, k2⟩ := ih (i + 1) m h f (by omega) (by omega)
          refine ⟨h', ?_, k2⟩
          have hb : badR reps ws c a i = false := by simp [badR, hwi, hic, hia]
          simp [e7, k1, allF, hb, hwi, hic, hia, -Int.natCast_add]
        | false =>
          simp only [Bool.not_true, Bool.false_eq_true, if_false, Option.bind_some, condV_bool, i1, padd_ptr, pld_ptr, hideL_nil, i4, ibin_eqlI]
          cases hk1 : (RR reps i).kind == 1 with
          | true =>
            have hk2 : ((RR reps i).kind == 2) = false := by
              have : (RR reps i).kind = 1 := by simpa using hk1
              rw [this]; rfl
            obtain ⟨hf, f1, f2⟩ := fit_c N d (by omega) oki oka h
            cases hfit : fitB (RR reps i) (RR reps a) with
            | true =>
              refine ⟨hf, ?_, f2⟩
              have hb : badR reps ws c a i = true := by simp [badR, hwi, hic, hia, hk1, hk2, hfit, fB]
              simp [i1, i2, i4, a1, a2, pldn_ptr, pld_ptr, f1, hfit, hk2, allF, hb, hwi, hic, hia, hk1, -Int.natCast_add]
            | false =>
              obtain ⟨h', k1, k2⟩ := ih (i + 1) m hf (f.trans f2) (by omega) (by omega)
              refine ⟨h', ?_, f2.trans k2⟩
              obtain ⟨bi', oi', i1', _, _, i4', _⟩ := reps_at ((r0.fr f).fr f2) hlt
              have := i1.symm.trans i1'
              simp only [Option.some.injEq] at this
              have e9 : pld hf (ptr bi (oi + 1)) = some (I (RR reps i).kind) := by
                have hb : bi' = bi ∧ oi' = oi := by unfold ptr at this; simp at this; exact ⟨this.1.symm, this.2.symm⟩
                rw [pld_ptr, ← hb.1, ← hb.2, i4']
              rw [pld_ptr] at e9
              have hb : badR reps ws c a i = false := by simp [badR, hwi, hic, hia, hk1, hk2, hfit, fB]
              simp [i1, i2, i4, a1, a2, pldn_ptr, pld_ptr, f1, hfit, hk2, allF, hb, hwi, hic, hia, hk1, e9, e7, k1, -Int.natCast_add]
          | false =>
            cases hk2 : (RR reps i).kind == 2 with
            | true =>
              obtain ⟨hf, f1, f2⟩ := fit_c N d (by omega) okc oki h
              cases hfit : fitB (RR reps c) (RR reps i) with
              | true =>
                refine ⟨hf, ?_, f2⟩
                have hb : badR reps ws c a i = true := by simp [badR, hwi, hic, hia, hk1, hk2, hfit, fB]
                simp [i1, i2, i4, c1, c2, pldn_ptr, pld_ptr, f1, hfit, hk2, allF, hb, hwi, hic, hia, hk1, -Int.natCast_add]
              | false =>
                obtain ⟨h', k1, k2⟩ := ih (i + 1) m hf (f.trans f2) (by omega) (by omega)
                refine ⟨h', ?_, f2.trans k2⟩
                have hb : badR reps ws c a i = false := by simp [badR, hwi, hic, hia, hk1, hk2, hfit, fB]
                simp [i1, i2, i4, c1, c2, pldn_ptr, pld_ptr, f1, hfit, hk2, allF, hb, hwi, hic, hia, hk1, e7, k1, -Int.natCast_add]
            | false =>
              obtain ⟨h', k1, k2⟩ := ih (i + 1) m h f (by omega) (by omega)
              refine ⟨h', ?_, k2⟩
              have hb : badR reps ws c a i = false := by simp [badR, hwi, hic, hia, hk1, hk2]
              simp [i1, i2, i4, pldn_ptr, pld_ptr, hk2, allF, hb, hwi, hic, hia, hk1, e7, k1, -Int.natCast_add]
end Go.Wz
/- Contracts: the reference's next. -/
set_option linter.unusedVariables false
set_option linter.unusedSimpArgs false
namespace Go.Wz
open Go

/-- a sound setting of the reference: the reports and who waits -/
structure RefS (h : H) (vl vw : Value) (reps : List Rep) (ws : List Bool) : Prop where
  rows : RS h 3 vl (reps.map Rep.enc)
  waits : RB h vw ws
  len : ws.length = reps.length
  small : reps.length < 900
  ok : ∀ r ∈ reps, r.mok
theorem RefS.fr {h h' : H} {vl vw : Value} {reps : List Rep} {ws : List Bool} (S : RefS h vl vw reps ws) (f : Fr h h') : RefS h' vl vw reps ws :=
  { S with rows := S.rows.fr f, waits := RS.fr S.waits f }
theorem RefS.lenS {h : H} {vl vw : Value} {reps : List Rep} {ws : List Bool} (S : RefS h vl vw reps ws) : lenS vl = some (I reps.length) := by
  have := S.rows.len; rwa [List.length_map] at this

def aloneRB (reps : List Rep) (ws : List Bool) (c a : Nat) : Bool := allF (fun i => !badR reps ws c a i) 0 reps.length
theorem aloneR_c (N d : Nat) (hN : 1000 ≤ N) {h : H} {vl vw : Value} {reps : List Rep} {ws : List Bool} (S : RefS h vl vw reps ws) {c a : Nat} (hc : c < reps.length) (ha : a < reps.length) :
    ∃ h', CF N (d + 2) (.func 145) [.one vl, .one vw, .one (I c), .one (I a)] h = some (.one (.bool (aloneRB reps ws c a)), h') ∧ Fr h h' := by
  have hs := S.small
  obtain ⟨h', k1, k2⟩ := aloneR_loop N d hN S.rows S.waits S.len S.small S.ok hc ha reps.length 0 N h (.refl h) (by omega) (by omega)
  refine ⟨h', ?_, k2⟩
  rw [CF_succ, F145_eq]; unfold F145
  rw [show LP145_0 (CF N (d + 1)) N N [.one vl, .one vw, .one (I c), .one (I a), .one (I 0)] h = _ from k1]
  unfold aloneRB
  cases allF (fun i => !badR reps ws c a i) 0 reps.length <;> simp

def pA (reps : List Rep) (ws : List Bool) (c a : Nat) : Bool := WW ws a && ((RR reps a).kind == 2) && fB reps c a && aloneRB reps ws c a
def pickA (reps : List Rep) (ws : List Bool) (c a : Nat) : Option Nat := if pA reps ws c a = true then some a else none
theorem next_inner (N d : Nat) (hN : 1000 ≤ N) {vl vw : Value} {reps : List Rep} {ws : List Bool} {c : Nat} (hc : c < reps.length) :
    ∀ (k a m : Nat) (h : H), RefS h vl vw reps ws → a + k = reps.length → k < m →
      ∃ h', LP81_1 (CF N (d + 2)) N m [.one vl, .one vw, .one (I c), .one (I a)] h =
        some (match firstF (pickA reps ws c) a k with | some x => (.ret (.tup [.one (I c), .one (I x)]), [], h') | none => (.exit 2, [.one vl, .one vw, .one (I c)], h')) ∧ Fr h h' := by
  intro k
  induction k with
  | zero =>
    intro a m h S hi hm
    obtain ⟨m, rfl⟩ : ∃ q, m = q + 1 := ⟨m - 1, by omega⟩
    rw [LP81_1_succ]; unfold B81_1
    obtain rfl : a = reps.length := by omega
    exact ⟨h, by simp [S.lenS, firstF], .refl h⟩
  | succ k ih =>
    intro a m h S hi hm
    obtain ⟨m, rfl⟩ : ∃ q, m = q + 1 := ⟨m - 1, by omega⟩
    rw [LP81_1_succ]; unfold B81_1
    have hlt : a < reps.length := by omega
    have hwl := S.len
    have h1 : (a : Int) < reps.length := by omega
    have hs := S.small
    have e7 : ibin .add (I a) (I 1) = some (I (a + 1 : Nat)) := by rw [add_in (by omega) (by omega)]; rfl
    obtain ⟨bw, ow, _, w1, w2⟩ := RB.at S.waits (i := a) (by omega)
    rw [← WW_lt (by omega)] at w2
    obtain ⟨ba, oa, a1, a2, a3, a4, _⟩ := reps_at S.rows hlt
    obtain ⟨bc, oc, c1, c2, _⟩ := reps_at S.rows hc
    have oka : (RR reps a).mok := by rw [RR_lt hlt]; exact S.ok _ (List.getElem_mem hlt)
    have okc : (RR reps c).mok := by rw [RR_lt hc]; exact S.ok _ (List.getElem_mem hc)
    simp only [S.lenS, ibin_lssI, Option.bind_some, condV_bool, h1, decide_true, if_true, w1, hideL_nil, pld_ptr, w2]
    unfold firstF
    cases hwa : WW ws a with
    | false =>
      obtain ⟨h', k1, k2⟩ := ih (a + 1) m h S (by omega) (by omega)
      have hp : pickA reps ws c a = none := by simp [pickA, pA, hwa]
      exact ⟨h', by simp [hp, e7, k1, -Int.natCast_add], k2⟩
    | true =>
      cases hk : (RR reps a).kind == 2 with
      | false =>
        obtain ⟨h', k1, k2⟩ := ih (a + 1) m h S (by omega) (by omega)
        have hp : pickA reps ws c a = none := by simp [pickA, pA, hwa, hk]
        exact ⟨h', by simp [hp, e7, k1, a1, pld_ptr, a4, hk, -Int.natCast_add], k2⟩
      | true =>
        obtain ⟨hf, f1, f2⟩ := fit_c N (d + 1) (by omega) okc oka h
        cases hfit : fitB (RR reps c) (RR reps a) with
        | false =>
          obtain ⟨h', k1, k2⟩ := ih (a + 1) m hf (S.fr f2) (by omega) (by omega)
          have hp : pickA reps ws c a = none := by simp [pickA, pA, hwa, hk, fB, hfit]
          exact ⟨h', by simp [hp, e7, k1, a1, a2, c1, c2, pldn_ptr, pld_ptr, a4, hk, f1, hfit, -Int.natCast_add], f2.trans k2⟩
        | true =>
          obtain ⟨hg, g1, g2⟩ := aloneR_c N d hN (S.fr f2) hc hlt
          cases hal : aloneRB reps ws c a with
          | false =>
            obtain ⟨h', k1, k2⟩ := ih (a + 1) m hg ((S.fr f2).fr g2) (by omega) (by omega)
            have hp : pickA reps ws c a = none := by simp [pickA, pA, hwa, hk, fB, hfit, hal]
            exact ⟨h', by simp [hp, e7, k1, a1, a2, c1, c2, pldn_ptr, pld_ptr, a4, hk, f1, hfit, g1, hal, -Int.natCast_add], f2.trans (g2.trans k2)⟩
          | true =>
            have hp : pickA reps ws c a = some a := by simp [pickA, pA, hwa, hk, fB, hfit, hal]
            exact ⟨hg, by simp [hp, e7, a1, a2, c1, c2, pldn_ptr, pld_ptr, a4, hk, f1, hfit, g1, hal, -Int.natCast_add], f2.trans g2⟩

def pickC (reps : List Rep) (ws : List Bool) (c : Nat) : Option (Nat × Nat) :=
  if WW ws c = true ∧ (RR reps c).kind = 1 then (firstF (pickA reps ws c) 0 reps.length).map fun a => (c, a) else none
def nextR (reps : List Rep) (ws : List Bool) : Option (Nat × Nat) := firstF (pickC reps ws) 0 reps.length
theorem next_loop (N d : Nat) (hN : 1000 ≤ N) {vl vw : Value} {reps : List Rep} {ws : List Bool} :
    ∀ (k c m : Nat) (h : H), RefS h vl vw reps ws → c + k = reps.length → k < m →
      ∃ h', LP81_0 (CF N (d + 2)) N m [.one vl, .one vw, .one (I c)] h =
        some (match firstF (pickC reps ws) c k with | some (x, y) => (.ret (.tup [.one (I x), .one (I y)]), [], h') | none => (.exit 0, [], h')) ∧ Fr h h' := by
  intro k
  induction k with
  | zero =>
    intro c m h S hi hm
    obtain ⟨m, rfl⟩ : ∃ q, m = q + 1 := ⟨m - 1, by omega⟩
    rw [LP81_0_succ]; unfold B81_0
    obtain rfl : c = reps.length := by omega
    exact ⟨h, by simp [S.lenS, firstF], .refl h⟩
  | succ k ih =>
    intro c m h S hi hm
    obtain ⟨m, rfl⟩ : ∃ q, m = q + 1 := ⟨m - 1, by omega⟩
    rw [LP81_0_succ]; unfold B81_0
    have hlt : c < reps.length := by omega
    have hwl := S.len
    have h1 : (c : Int) < reps.length := by omega
    have hs := S.small
    have e7 : ibin .add (I c) (I 1) = some (I (c + 1 : Nat)) := by rw [add_in (by omega) (by omega)]; rfl
    obtain ⟨bw, ow, _, w1, w2⟩ := RB.at S.waits (i := c) (by omega)
    rw [← WW_lt (by omega)] at w2
    obtain ⟨bc, oc, c1, c2, c3, c4, _⟩ := reps_at S.rows hlt
    simp only [S.lenS, ibin_lssI, Option.bind_some, condV_bool, h1, decide_true, if_true, w1, pld_ptr, w2, un_not, gsel_false]
    unfold firstF
    by_cases hcond : WW ws c = true ∧ (RR reps c).kind = 1
    · obtain ⟨hw, hk⟩ := hcond
      obtain ⟨hA, k1, k2⟩ := next_inner N d hN (vl := vl) (vw := vw) hlt reps.length 0 N h S (by omega) (by omega)
      have k1' : LP81_1 (CF N (d + 2)) N N [.one vl, .one vw, .one (I c), .one (I 0)] h = _ := k1
      have hp : pickC reps ws c = (firstF (pickA reps ws c) 0 reps.length).map fun a => (c, a) := by unfold pickC; rw [if_pos ⟨hw, hk⟩]
      rw [hp]
      cases hfa : firstF (pickA reps ws c) 0 reps.length with
      | none =>
        rw [hfa] at k1'
        obtain ⟨h', m1, m2⟩ := ih (c + 1) m hA (S.fr k2) (by omega) (by omega)
        exact ⟨h', by simp [hw, hk, c1, pld_ptr, c4, k1', e7, m1, -Int.natCast_add], k2.trans m2⟩
      | some y =>
        rw [hfa] at k1'
        exact ⟨hA, by simp [hw, hk, c1, pld_ptr, c4, k1', e7, -Int.natCast_add], k2⟩
    · have hp : pickC reps ws c = none := by unfold pickC; rw [if_neg hcond]
      rw [hp]
      obtain ⟨h', m1, m2⟩ := ih (c + 1) m h S (by omega) (by omega)
      refine ⟨h', ?_, m2⟩
      cases hw : WW ws c with
      | false => simp [hw, e7, m1, -Int.natCast_add]
      | true =>
        have hk : ¬ (RR reps c).kind = 1 := fun hk => hcond ⟨hw, hk⟩
        simp [hw, hk, c1, pld_ptr, c4, e7, m1, -Int.natCast_add]
theorem next_c (N d : Nat) (hN : 1000 ≤ N) {h : H} {vl vw : Value} {reps : List Rep} {ws : List Bool} (S : RefS h vl vw reps ws) :
    ∃ h', CF N (d + 3) (.func 81) [.one vl, .one vw] h = some (match nextR reps ws with | some (x, y) => .tup [.one (I x), .one (I y)] | none => .tup [.one (I (-1)), .one (I (-1))], h') ∧ Fr h h' := by
  have hs := S.small
  obtain ⟨h', k1, k2⟩ := next_loop N d hN (ws := ws) reps.length 0 N h S (by omega) (by omega)
  refine ⟨h', ?_, k2⟩
  rw [CF_succ, F81_eq]; unfold F81
  rw [show LP81_0 (CF N (d + 2)) N N [.one vl, .one vw, .one (I 0)] h = _ from k1]
  unfold nextR
  cases firstF (pickC reps ws) 0 reps.length <;> simp
end Go.Wz
