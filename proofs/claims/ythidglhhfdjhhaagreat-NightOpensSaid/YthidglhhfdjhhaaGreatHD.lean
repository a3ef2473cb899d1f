/- The law NightOpens, over calls. -/
import Derived.Test.YthidglhhfdjhhaaGreatHC
set_option linter.unusedVariables false
set_option linter.unusedSimpArgs false
namespace Go.Wz
open Go
theorem i64or_nat (a b : Nat) (ha : a < 2 ^ 63) (hb : b < 2 ^ 63) : i64or a b = ((a ||| b : Nat) : Int) := by
  unfold i64or
  have h1 : BitVec.ofInt 64 (a : Int) = BitVec.ofNat 64 a := by simp
  have h2 : BitVec.ofInt 64 (b : Int) = BitVec.ofNat 64 b := by simp
  rw [h1, h2, BitVec.toNat_or, BitVec.toNat_ofNat, BitVec.toNat_ofNat, Nat.mod_eq_of_lt (by omega), Nat.mod_eq_of_lt (by omega)]
  have h3 : a ||| b < 2 ^ 63 := Nat.or_lt_two_pow ha hb
  exact IntWalk.i64_in _ ⟨by omega, by omega⟩
/-- a set of rides -/
def SetOk (n : Nat) (set : Int) : Prop := ∃ m : Nat, set = m ∧ m < 2 ^ n
theorem SetOk.more {n : Nat} {set : Int} (h : SetOk n set) (hn : n ≤ 16) {j : Nat} (hj : j < n) : SetOk n (moreP set j) := by
  obtain ⟨m, rfl, hm⟩ := h
  have h1 : 2 ^ n ≤ 2 ^ 16 := Nat.pow_le_pow_right (by omega) hn
  have h2 : 2 ^ j < 2 ^ n := Nat.pow_lt_pow_right (by omega) hj
  refine ⟨m ||| 2 ^ j, ?_, Nat.or_lt_two_pow hm h2⟩
  unfold moreP
  rw [show ((2 : Int) ^ (j : Int).toNat) = ((2 ^ j : Nat) : Int) by simp, i64or_nat _ _ (by omega) (by omega)]
theorem opStep_ok {s : Supply} {n : Nat} {st : Int × List Int} (h : SetOk n st.1) (hn : n ≤ 16) {j : Nat} (hj : j < n) : SetOk n (opStep s st j).1 := by
  unfold opStep
  split
  · exact h.more hn hj
  · exact h
theorem opFold_ok {s : Supply} {n : Nat} (hn : n ≤ 16) {l : List Int} (h : ∀ x ∈ l, ∃ i : Nat, i < n ∧ x = i) : SetOk n (opFold s l).1 := by
  suffices hh : ∀ (l : List Int) (st : Int × List Int), (∀ x ∈ l, ∃ i : Nat, i < n ∧ x = i) → SetOk n st.1 → SetOk n (l.foldl (opStep s) st).1 from
    hh l (0, []) h ⟨0, rfl, Nat.pow_pos (by omega)⟩
  intro l
  induction l with
  | nil => exact fun st _ h => h
  | cons x l ih =>
    intro st hx h
    obtain ⟨i, hi, rfl⟩ := hx x (by simp)
    exact ih _ (fun y hy => hx y (by simp [hy])) (opStep_ok h hn hi)
theorem opFold_split (s : Supply) (l : List Int) : ∀ (st : Int × List Int), ∃ r, (l.foldl (opStep s) st).2 = st.2 ++ r ∧ r.Sublist l := by
  induction l with
  | nil => exact fun st => ⟨[], by simp, List.Sublist.refl _⟩
  | cons x l ih =>
    intro st
    rw [List.foldl_cons]
    obtain ⟨r, h1, h2⟩ := ih (opStep s st x)
    unfold opStep at h1 ⊢
    split at h1
    · rename_i hc
      rw [if_pos hc]
      exact ⟨x :: r, by rw [h1]; simp, h2.cons_cons x⟩
    · rename_i hc
      rw [if_neg hc]
      exact ⟨r, h1, h2.cons x⟩
/-- what is next among those that open -/
theorem opens_next (s : Supply) {l : List Int} (hg : Grow l) {i : Nat} (hi : i < l.length) :
    (decide ((opFold s (l.take i)).2.length < (opFold s l).2.length) && getI (opFold s l).2 ((opFold s (l.take i)).2.length : Int) == l[i]) = (fitsP s (moreP (opFold s (l.take i)).1 l[i])).2.1 := by
  have e0 : l = l.take i ++ l[i] :: l.drop (i + 1) := by
    rw [List.getElem_cons_drop, List.take_append_drop]
  have e1 : opFold s l = (l.drop (i + 1)).foldl (opStep s) (opStep s (opFold s (l.take i)) l[i]) := by
    conv => lhs; rw [e0]
    unfold opFold; rw [List.foldl_append, List.foldl_cons]
  have hlt : ∀ x ∈ l.drop (i + 1), l[i] < x := by
    have hp : Grow (l.take i ++ l[i] :: l.drop (i + 1)) := by rw [← e0]; exact hg
    exact (List.pairwise_cons.1 (List.pairwise_append.1 hp).2.1).1
  rw [e1]
  generalize opFold s (l.take i) = st
  obtain ⟨r, h1, h2⟩ := opFold_split s (l.drop (i + 1)) (opStep s st l[i])
  rw [h1]
  unfold opStep
  cases hf : (fitsP s (moreP st.1 l[i])).2.1 with
  | true =>
    rw [if_pos rfl]
    simp [getI]
  | false =>
    rw [if_neg (by simp)]
    cases r with
    | nil => simp
    | cons x r =>
      have := hlt x (h2.subset (by simp))
      have hne : ¬ x = l[i] := by omega
      simp [getI, hne]
theorem fits_ok {g : Gala} (ok : GOk g) {set : Int} (h : SetOk g.ev.rides.length set) : (fitsP g.sup set).2.2 = 0 := by
  unfold fitsP
  split
  · rename_i hh
    exfalso
    apply hh
    unfold setErr
    rw [if_neg (by simp [ok.sup]), if_pos]
    obtain ⟨m, rfl, hm⟩ := h
    rw [ok.loads]
    refine wi_iff.2 ⟨by omega, ?_⟩
    have : ((2 : Int) ^ g.ev.rides.length) = ((2 ^ g.ev.rides.length : Nat) : Int) := by simp
    rw [this]; omega
  · rfl
section
variable {C : Nat → CallT} {N : Nat} (K : CallsOf C N)
include K
theorem loop3 {e : Nat} (he : 5 ≤ e) {g : Gala} (ok : GOk g) {cs : List Value} {vr v1 v2 v3 ve vb vl vm vy : Value} {bg bq : Nat} {v15 v65 : Value} {h0 : H} (hbg : bg < h0.next) (hbq : bq < h0.next)
    (gg : h0.get bg = some (.cells (gcs g vr v1 v2 v3 ve vb vl vm vy) 35 true)) (S : GalaS h0 g vr v1 v2 v3 ve vb vl vm vy)
    {ur u1 u2 u3 ue ub ul um uy : Value} (gq : h0.get bq = some (.cells (gcs g ur u1 u2 u3 ue ub ul um uy) 35 true)) (Q : GalaS h0 g ur u1 u2 u3 ue ub ul um uy)
    (r15 : RInt h0 v15 (opensP g)) (r65 : RInt h0 v65 (relP g)) :
    ∃ h', LP3_0 (C e) N N [.one (ptr bg 0), .one (ptr bq 0), .one v15, .one v65, .one (I 0), .one (I 0), .one (I 0)] h0 = some (.exit 0, [.one v15, .one (I (opensP g).length)], h') ∧ Fr h0 h' := by
  have hN := K.big
  have hrl := relP_len g
  have hsm := ok.small
  have hins := ok.ins
  have hmem : ∀ x ∈ relP g, ∃ i : Nat, i < g.ev.rides.length ∧ x = i := fun x hx => by obtain ⟨i, h1, h2⟩ := relL_mem hx; exact ⟨i, by omega, h2⟩
  have hol := opFold_len g.sup (relP g)
  have main := loop_inv (LP := LP3_0 (C e) N) (n := (relP g).length)
    (fun i vs h1 => Fr h0 h1 ∧ vs = [.one (ptr bg 0), .one (ptr bq 0), .one v15, .one v65, .one (I (opFold g.sup ((relP g).take i)).1), .one (I (opFold g.sup ((relP g).take i)).2.length), .one (I i)])
    (fun o => ∃ h', o = some (.exit 0, [.one v15, .one (I (opensP g).length)], h') ∧ Fr h0 h')
    (fun m vs h1 ⟨f, hv⟩ => ⟨h1, by rw [hv, LP3_0_succ, List.take_of_length_le (Nat.le_refl _)]; unfold B3_0; simp only [S0, Nat.reduceAdd, Nat.reduceLeDiff, ↓reduceIte, r65.len, in0]; rfl, f⟩)
    (fun i m vs h1 hi ⟨f, hv⟩ => by
      subst hv
      rw [LP3_0_succ]; unfold B3_0
      obtain ⟨j, hj, hje⟩ := hmem (relP g)[i] (List.getElem_mem hi)
      have nx := opens_next g.sup (relL_grow g.book (uptoP g.es g.day) g.day g.book.insured.length) hi
      have hgi : getI (relP g) (i : Int) = j := by rw [← hje]; unfold getI; rw [show ((i : Int)).toNat = i by omega, List.getElem?_eq_getElem hi]; rfl
      have nx : (decide ((opFold g.sup ((relP g).take i)).2.length < (opensP g).length) && getI (opensP g) ((opFold g.sup ((relP g).take i)).2.length : Int) == (relP g)[i]) = (fitsP g.sup (moreP (opFold g.sup ((relP g).take i)).1 (relP g)[i])).2.1 := nx
      rw [hje] at nx
      have tk : (relP g).take (i + 1) = (relP g).take i ++ [(j : Int)] := by rw [List.take_add_one, List.getElem?_eq_getElem hi, ← hje]; rfl
      have e1 := opFold_snoc g.sup ((relP g).take i) (j : Int)
      rw [← tk] at e1
      have so := opFold_ok (s := g.sup) (n := g.ev.rides.length) (by omega) (l := (relP g).take i) (fun x hx => hmem x (List.mem_of_mem_take hx))
      have ol := opFold_len g.sup ((relP g).take i)
      rw [List.length_take] at ol
      generalize opFold g.sup ((relP g).take i) = st at nx e1 so ol
      have sm := so.more (by omega) hj
      have fe := fits_ok ok sm
      obtain ⟨b1, o1, _, a1, a2⟩ := r65.atI (n := (i : Int)) (by omega) (by omega)
      have a3 := a2 h1 f
      rw [hgi] at a3
      have c0 : decide ((j : Int) < 0) = false := by simp
      have c1 : decide ((j : Int) ≥ (g.ev.rides.length : Int)) = false := by simp; omega
      have g0 : h1.ld bg 0 = some vr := by rw [f.ld hbg, H.ld_of _ gg]; rfl
      have t7 : h1.ldn bq 7 5 = some [ub, ul, I g.sup.power, I g.sup.hold, I g.sup.volts] := by rw [f.ldn hbq, H.ldn_of _ gq]; rfl
      have cv := cvt_u64 j (by omega)
      have sh := shl_u j (by omega)
      have hor : ibin .or (I st.1) (I (2 ^ j)) = some (I (moreP st.1 j)) := rfl
      obtain ⟨h2, z1, z2⟩ := f24_c K (d := e) he (set := moreP st.1 j) (Q.sup.fr f)
      rw [fe] at z1
      have a4 := a2 h2 (f.trans z2)
      rw [hgi] at a4
      have n0 : ((0 : Int) != 0) = false := rfl
      have sti := i1 (show i + 1 ≤ (relP g).length from hi) (by omega)
      have sta : ibin .add (I st.2.length) (I 1) = some (I ((st.2.length : Int) + 1)) := add_in (by omega) (by omega)
      refine .inr ⟨_, h2, ⟨f.trans z2, rfl⟩, ?_⟩
      rw [e1]
      unfold opStep
      by_cases hat : st.2.length < (opensP g).length
      · have hat' : decide ((st.2.length : Int) < ((opensP g).length : Int)) = true := by simp; omega
        obtain ⟨_, _, _, y1, y2⟩ := r15.atI (n := (st.2.length : Int)) (by omega) (by omega)
        have y3 := y2 h2 (f.trans z2)
        rw [decide_eq_true hat, Bool.true_and] at nx
        rw [← nx] at z1 ⊢
        cases hq : getI (opensP g) (st.2.length : Int) == (j : Int) with
        | true =>
          rw [hq] at z1
          have hlen : ((st.2 ++ [(j : Int)]).length : Int) = st.2.length + 1 := by simp
          simp only [S0, Nat.reduceAdd, Nat.reduceLeDiff, ↓reduceIte, r65.len, i0 hi, a1, a3, c0, g0, S.ev.len, c1, cv, sh, hor, t7, z1, r15.len, hat', y1, y3, a4, hq, n0, bbin_neq, beq_self_eq_true, hlen, sta, sti]
        | false =>
          rw [hq] at z1
          simp only [S0, Nat.reduceAdd, Nat.reduceLeDiff, ↓reduceIte, r65.len, i0 hi, a1, a3, c0, g0, S.ev.len, c1, cv, sh, hor, t7, z1, r15.len, hat', y1, y3, a4, hq, n0, bbin_neq, beq_self_eq_true, sti]
      · have hat' : decide ((st.2.length : Int) < ((opensP g).length : Int)) = false := by simp; omega
        rw [decide_eq_false hat, Bool.false_and] at nx
        rw [← nx] at z1 ⊢
        simp only [S0, Nat.reduceAdd, Nat.reduceLeDiff, ↓reduceIte, r65.len, i0 hi, a1, a3, c0, g0, S.ev.len, c1, cv, sh, hor, t7, z1, r15.len, hat', n0, bbin_neq, beq_self_eq_true, sti])
    (relP g).length 0 N _ h0 (by omega) ⟨.refl h0, rfl⟩ (by omega)
  exact main
end
end Go.Wz
