/- NightChildren: the plain law. -/
import Derived.Test.YthidglhhfdjhhaaGreatM14
set_option linter.unusedVariables false
set_option linter.unusedSimpArgs false
namespace Go.Wz
open Go

/-- a handing is right, if those are gone that are gone -/
def okOne (reps : List Rep) (gone : List Bool) (x : Nat × Nat × Int) : Prop :=
  x.1 < reps.length ∧ x.2.1 < reps.length ∧ WW gone x.1 = false ∧ WW gone x.2.1 = false ∧ (RR reps x.1).kind = 1 ∧ (RR reps x.2.1).kind = 2 ∧ fB reps x.1 x.2.1 = true ∧
  (RR reps x.1).at_ ≤ x.2.2 ∧ (RR reps x.2.1).at_ ≤ x.2.2 ∧
  ∀ k, k < reps.length → WW gone k = false → k ≠ x.1 → k ≠ x.2.1 → (RR reps k).at_ < x.2.2 → ((RR reps k).kind = 1 → fB reps k x.2.1 = false) ∧ ((RR reps k).kind = 2 → fB reps x.1 k = false)
def goneS (gone : List Bool) (x : Nat × Nat × Int) : List Bool := (gone.set x.1 true).set x.2.1 true
inductive okRun (reps : List Rep) : List Bool → List (Nat × Nat × Int) → List Bool → Prop
  | nil (g : List Bool) : okRun reps g [] g
  | cons {g g' : List Bool} {x : Nat × Nat × Int} {l : List (Nat × Nat × Int)} (h : okOne reps g x) (t : okRun reps (goneS g x) l g') : okRun reps g (x :: l) g'
theorem okRun.append {reps : List Rep} {g g' g'' : List Bool} {l l' : List (Nat × Nat × Int)} (a : okRun reps g l g') (b : okRun reps g' l' g'') : okRun reps g (l ++ l') g'' := by
  induction a with
  | nil => exact b
  | cons h _ ih => exact .cons h (ih b)

/-- who waits behind report i: who came up to it and is not gone -/
structure Wt (reps : List Rep) (ws gone : List Bool) (i : Nat) : Prop where
  l1 : ws.length = reps.length
  l2 : gone.length = reps.length
  w : ∀ j, j < reps.length → WW ws j = (decide (j ≤ i) && !WW gone j)
  z : ∀ j, i < j → WW gone j = false

theorem refAll_ok {reps : List Rep} (mono : ∀ j k, j ≤ k → k < reps.length → (RR reps j).at_ ≤ (RR reps k).at_) {i : Nat} (hi : i < reps.length) :
    ∀ (m : Nat) (ws gone : List Bool) (hd : List (Nat × Nat × Int)), Wt reps ws gone i →
      ∃ new gone', (refAll reps (RR reps i).at_ m (ws, hd)).2 = hd ++ new ∧ okRun reps gone new gone' ∧ Wt reps (refAll reps (RR reps i).at_ m (ws, hd)).1 gone' i
  | 0, ws, gone, hd, W => ⟨[], gone, by simp [refAll], .nil _, W⟩
  | m + 1, ws, gone, hd, W => by
    unfold refAll
    cases hnx : nextR reps ws with
    | none => exact ⟨[], gone, by simp, .nil _, W⟩
    | some x =>
      obtain ⟨c, a⟩ := x
      obtain ⟨hc, ha, hwc, hkc, hp⟩ := nextR_some hnx
      have hwa : WW ws a = true ∧ (RR reps a).kind = 2 ∧ fB reps c a = true ∧ ∀ j, j < reps.length → badR reps ws c a j = false := by
        unfold pA aloneRB at hp
        simp only [Bool.and_eq_true, beq_iff_eq, allF_iff, Bool.not_eq_true'] at hp
        exact ⟨hp.1.1.1, hp.1.1.2, hp.1.2, fun j hj => hp.2 j (Nat.zero_le _) (by omega)⟩
      have hne : c ≠ a := fun hh => by rw [hh, hwa.2.1] at hkc; omega
      have wc := W.w c hc; rw [hwc] at wc; simp at wc
      have wa := W.w a ha; rw [hwa.1] at wa; simp at wa
      have ok1 : okOne reps gone (c, a, (RR reps i).at_) := by
        refine ⟨hc, ha, wc.2, wa.2, hkc, hwa.2.1, hwa.2.2.1, mono c i wc.1 hi, mono a i wa.1 hi, fun k hk hg hkc' hka' hat => ?_⟩
        have hki : k ≤ i := by
          refine Nat.le_of_not_lt fun hh => ?_
          have := mono i k (by omega) hk
          simp only at hat
          omega
        have hb := hwa.2.2.2 k hk
        have hwk : WW ws k = true := by rw [W.w k hk]; simp [hki, hg]
        unfold badR at hb
        simp [hwk, hkc', hka'] at hb
        exact ⟨fun h1 => by have := hb.1 h1; exact this, fun h2 => by have := hb.2 h2; exact this⟩
      have hci := wc.1
      have hai := wa.1
      have W1 : Wt reps ((ws.set c false).set a false) (goneS gone (c, a, (RR reps i).at_)) i := by
        refine ⟨by simp [W.l1], by simp [goneS, W.l2], fun j hj => ?_, fun j hj => by
          unfold goneS
          rw [WW_set (by simp [W.l2, ha]), WW_set (by rw [W.l2]; exact hc), if_neg (by show ¬ j = a; omega), if_neg (by show ¬ j = c; omega)]
          exact W.z j hj⟩
        unfold goneS
        rw [WW_set (by simp [W.l1, ha]), WW_set (by rw [W.l1]; exact hc), WW_set (by simp [W.l2, ha]), WW_set (by rw [W.l2]; exact hc), W.w j hj]
        by_cases e1 : j = a
        · simp [e1]
        · by_cases e2 : j = c
          · simp [e2]
          · simp [e1, e2]
      obtain ⟨new, gone', h1, h2, h3⟩ := refAll_ok mono hi m _ _ (hd ++ [(c, a, (RR reps i).at_)]) W1
      exact ⟨(c, a, (RR reps i).at_) :: new, gone', by simp only [h1]; simp, .cons ok1 h2, h3⟩

theorem refG_ok {reps : List Rep} (mono : ∀ j k, j ≤ k → k < reps.length → (RR reps j).at_ ≤ (RR reps k).at_) :
    ∀ (t : List Rep) (i : Nat) (ws gone : List Bool) (hd : List (Nat × Nat × Int)), reps.drop i = t → ws.length = reps.length → gone.length = reps.length → (∀ j, j < reps.length → WW ws j = (decide (j < i) && !WW gone j)) → (∀ j, i ≤ j → WW gone j = false) →
      ∃ new gone', (refG reps i t (ws, hd)).2 = hd ++ new ∧ okRun reps gone new gone'
  | [], i, ws, gone, hd, _, _, _, _, _ => ⟨[], gone, by simp [refG], .nil _⟩
  | r :: t, i, ws, gone, hd, hdr, l1, l2, w, g0 => by
    obtain ⟨hlt, hx, hdt, _⟩ := drop_cons hdr
    unfold refG
    have hr : RR reps i = r := by rw [RR_lt hlt, hx]
    have W : Wt reps (ws.set i true) gone i := ⟨by simp [l1], l2, fun j hj => by
      rw [WW_set (by omega)]
      by_cases e : j = i
      · subst e; simp [g0 j (Nat.le_refl _)]
      · rw [if_neg e, w j hj]
        congr 1
        rw [decide_eq_decide]; omega, fun j hj => g0 j (by omega)⟩
    obtain ⟨new, gone', h1, h2, h3⟩ := refAll_ok mono hlt 1000 _ _ hd W
    rw [hr] at h1 h3
    obtain ⟨new2, gone2, k1, k2⟩ := refG_ok mono t (i + 1) _ gone' (hd ++ new) hdt h3.l1 h3.l2 (fun j hj => by rw [h3.w j hj]; congr 1; rw [decide_eq_decide]; omega) (fun j hj => h3.z j (by omega))
    refine ⟨new ++ new2, gone2, ?_, h2.append k2⟩
    rw [← List.append_assoc, ← k1, ← h1]
theorem chk_mono : ∀ {l : List Rep} {last : Int}, chk last l = true → (∀ j, j < l.length → last ≤ (RR l j).at_) ∧ ∀ j k, j ≤ k → k < l.length → (RR l j).at_ ≤ (RR l k).at_
  | [], _, _ => ⟨fun j hj => by simp at hj, fun j k _ hk => by simp at hk⟩
  | r :: l, last, h => by
    simp only [chk, Bool.and_eq_true, wb, decide_eq_true_eq] at h
    obtain ⟨h1, h2⟩ := chk_mono h.2
    have e0 : RR (r :: l) 0 = r := rfl
    have e1 : ∀ j, RR (r :: l) (j + 1) = RR l j := fun j => rfl
    refine ⟨fun j hj => ?_, fun j k hjk hk => ?_⟩
    · cases j with
      | zero => rw [e0]; exact h.1.2.1
      | succ j => rw [e1]; have := h1 j (by simpa using hj); have := h.1.2.1; omega
    · cases k with
      | zero => obtain rfl : j = 0 := by omega
                exact Int.le_refl _
      | succ k =>
        cases j with
        | zero => rw [e0, e1]; exact h1 k (by simpa using hk)
        | succ j => rw [e1, e1]; exact h2 j k (by omega) (by simpa using hk)
theorem match_right (reps : List Rep) (h0 : (matchRef reps).2 = 0) : (∀ r ∈ reps, r.mok) ∧ ∃ g', okRun reps (List.replicate reps.length false) (matchRef reps).1 g' := by
  unfold matchRef at h0 ⊢
  split at h0
  · simp at h0
  · rename_i h60
    rw [if_neg h60]
    split at h0
    · rename_i hc
      rw [if_pos hc]
      refine ⟨fun r hr => (chkK hc r hr).2, ?_⟩
      have hz : ∀ j, WW (List.replicate reps.length false) j = false := fun j => by simp [WW, List.getElem?_replicate]; split <;> rfl
      obtain ⟨new, g', h1, h2⟩ := refG_ok (chk_mono hc).2 reps 0 (List.replicate reps.length false) (List.replicate reps.length false) [] rfl (by simp) (by simp) (fun j hj => by rw [hz]; simp) (fun j _ => hz j)
      rw [List.nil_append] at h1
      exact ⟨g', by rw [h1]; exact h2⟩
    · simp at h0
end Go.Wz
