/- The plain law: both say the same. -/
import Derived.Test.YthidglhhfdjhhaaGreatM13
set_option linter.unusedVariables false
set_option linter.unusedSimpArgs false
namespace Go.Wz
open Go

def q1 (reps : List Rep) (ws : List Bool) (j : Nat) : Bool := WW ws j && (RR reps j).kind == 1
def q2 (reps : List Rep) (ws : List Bool) (j : Nat) : Bool := WW ws j && (RR reps j).kind == 2
structure Rel (reps : List Rep) (ws : List Bool) (W1 W2 : List Nat) : Prop where
  len : ws.length = reps.length
  e1 : W1 = (List.range reps.length).filter (q1 reps ws)
  e2 : W2 = (List.range reps.length).filter (q2 reps ws)

theorem alone_iff {p : Nat → Bool} {l : List Nat} (hn : l.Nodup) (x : Nat) : (aloneB p l = (x, true)) ↔ x ∈ l ∧ p x = true ∧ ∀ y ∈ l, y ≠ x → p y = false := by
  unfold aloneB
  have hnf : (l.filter p).Nodup := hn.filter p
  have hm : ∀ y, y ∈ l.filter p ↔ y ∈ l ∧ p y = true := fun y => List.mem_filter
  constructor
  · intro h
    split at h
    · rename_i z hz
      simp only [Prod.mk.injEq, and_true] at h
      subst h
      have h1 := (hm z).1 (by rw [hz]; simp)
      refine ⟨h1.1, h1.2, fun y hy hne => ?_⟩
      cases hp : p y with
      | false => rfl
      | true =>
        have := (hm y).2 ⟨hy, hp⟩
        rw [hz] at this
        simp at this; exact absurd this hne
    · simp at h
  · rintro ⟨h1, h2, h3⟩
    have hx := (hm x).2 ⟨h1, h2⟩
    have hall : ∀ y ∈ l.filter p, y = x := fun y hy => by
      obtain ⟨a, b⟩ := (hm y).1 hy
      by_cases e : y = x
      · exact e
      · rw [h3 y a e] at b; cases b
    have : l.filter p = [x] := by
      cases hl : l.filter p with
      | nil => rw [hl] at hx; simp at hx
      | cons y t =>
        rw [hl] at hall hnf
        have hy := hall y (by simp)
        cases t with
        | nil => rw [hy]
        | cons z t =>
          have hz := hall z (by simp)
          rw [hy, hz] at hnf
          simp at hnf
    rw [this]

theorem firstF_range {α : Type} (p : Nat → Option α) : ∀ (k i : Nat), firstF p i k = (List.range' i k).findSome? p
  | 0, i => rfl
  | k + 1, i => by
    unfold firstF
    rw [List.range'_succ, List.findSome?_cons, firstF_range p k (i + 1)]
    cases p i <;> rfl
theorem findSome_filter {α : Type} (q : Nat → Bool) (f : Nat → Option α) : ∀ (l : List Nat), (l.filter q).findSome? f = l.findSome? fun x => if q x = true then f x else none
  | [] => rfl
  | x :: l => by
    rw [List.findSome?_cons, List.filter_cons]
    cases hq : q x with
    | true => simp only [if_true, List.findSome?_cons, findSome_filter q f l]
    | false => simp only [Bool.false_eq_true, if_false, findSome_filter q f l]
theorem findSome_congr {α : Type} {f g : Nat → Option α} : ∀ {l : List Nat}, (∀ x ∈ l, f x = g x) → l.findSome? f = l.findSome? g
  | [], _ => rfl
  | x :: l, h => by rw [List.findSome?_cons, List.findSome?_cons, h x (by simp), findSome_congr fun y hy => h y (by simp [hy])]

theorem pA_iff {reps : List Rep} {ws : List Bool} {W1 W2 : List Nat} (R : Rel reps ws W1 W2) {c a : Nat} (hc : c < reps.length) (hwc : WW ws c = true) (hkc : (RR reps c).kind = 1) (ha : a < reps.length) :
    pA reps ws c a = true ↔ aloneB (fB reps c) W2 = (a, true) ∧ aloneB (fun x => fB reps x a) W1 = (c, true) := by
  have n1 : W1.Nodup := by rw [R.e1]; exact List.nodup_range.filter _
  have n2 : W2.Nodup := by rw [R.e2]; exact List.nodup_range.filter _
  have m1 : ∀ j, j ∈ W1 ↔ j < reps.length ∧ WW ws j = true ∧ (RR reps j).kind = 1 := fun j => by rw [R.e1, List.mem_filter]; simp [q1]
  have m2 : ∀ j, j ∈ W2 ↔ j < reps.length ∧ WW ws j = true ∧ (RR reps j).kind = 2 := fun j => by rw [R.e2, List.mem_filter]; simp [q2]
  rw [alone_iff n2, alone_iff n1, m2, m1]
  unfold pA aloneRB
  simp only [Bool.and_eq_true, beq_iff_eq, allF_iff, Bool.not_eq_true', Nat.zero_le, true_implies, Nat.zero_add]
  constructor
  · rintro ⟨⟨⟨h1, h2⟩, h3⟩, h4⟩
    refine ⟨⟨⟨ha, h1, h2⟩, h3, fun y hy hne => ?_⟩, ⟨hc, hwc, hkc⟩, h3, fun y hy hne => ?_⟩
    · obtain ⟨y1, y2, y3⟩ := (m2 y).1 hy
      have := h4 y y1
      have hyc : y ≠ c := fun hh => by rw [hh, hkc] at y3; omega
      unfold badR at this
      simp [y2, y3, hne, hyc] at this
      exact this
    · obtain ⟨y1, y2, y3⟩ := (m1 y).1 hy
      have := h4 y y1
      have hya : y ≠ a := fun hh => by rw [hh, h2] at y3; omega
      unfold badR at this
      simp [y2, y3, hne, hya] at this
      exact this
  · rintro ⟨⟨⟨_, h1, h2⟩, h3, h4⟩, _, _, h5⟩
    refine ⟨⟨⟨h1, h2⟩, h3⟩, fun j hj => ?_⟩
    cases hb : badR reps ws c a j with
    | false => rfl
    | true =>
      unfold badR at hb
      simp only [Bool.and_eq_true, Bool.or_eq_true, Bool.not_eq_true', beq_eq_false_iff_ne, ne_eq, beq_iff_eq] at hb
      obtain ⟨⟨⟨b1, b2⟩, b3⟩, b4 | b4⟩ := hb
      · rw [h5 j ((m1 j).2 ⟨hj, b1, b4.1⟩) b2] at b4; simp at b4
      · rw [h4 j ((m2 j).2 ⟨hj, b1, b4.1⟩) b3] at b4; simp at b4

theorem hand_next {reps : List Rep} {ws : List Bool} {W1 W2 : List Nat} (R : Rel reps ws W1 W2) : handF reps W1 W2 = nextR reps ws := by
  unfold handF nextR
  rw [firstF_range, ← List.range_eq_range']
  have key : ∀ c, c < reps.length → WW ws c = true → (RR reps c).kind = 1 → handC reps W1 W2 c = firstF (pickA reps ws c) 0 reps.length := by
    intro c hc hw hk
    have hmem : c ∈ W1 := by rw [R.e1, List.mem_filter]; simp [q1, hc, hw, hk]
    cases hf : firstF (pickA reps ws c) 0 reps.length with
    | some a =>
      obtain ⟨j, _, j2, j3, _⟩ := firstF_some hf
      unfold pickA at j3
      split at j3
      · rename_i hp
        cases j3
        obtain ⟨x1, x2⟩ := (pA_iff R hc hw hk (by omega)).1 hp
        unfold handC
        rw [x1]
        simp only [if_true, x2]
      · cases j3
    | none =>
      have hno := firstF_none hf
      unfold handC
      split
      · rename_i h1
        split
        · rename_i h2
          exfalso
          have ha := (aloneB_mem h1).1
          have hal : (aloneB (fB reps c) W2).1 < reps.length := by
            have h3 : ∀ j, j ∈ W2 → j < reps.length := fun j hj => by rw [R.e2, List.mem_filter] at hj; simpa using hj.1
            exact h3 _ ha
          have e1 : aloneB (fB reps c) W2 = ((aloneB (fB reps c) W2).1, true) := by rw [← h1]
          have n1 : W1.Nodup := by rw [R.e1]; exact List.nodup_range.filter _
          have n2 : W2.Nodup := by rw [R.e2]; exact List.nodup_range.filter _
          have e2 : aloneB (fun x => fB reps x (aloneB (fB reps c) W2).1) W1 = (c, true) := by
            have f1 := (alone_iff n2 _).1 e1
            have e3 : aloneB (fun x => fB reps x (aloneB (fB reps c) W2).1) W1 = ((aloneB (fun x => fB reps x (aloneB (fB reps c) W2).1) W1).1, true) := by rw [← h2]
            have f2 := (alone_iff n1 _).1 e3
            by_cases e : c = (aloneB (fun x => fB reps x (aloneB (fB reps c) W2).1) W1).1
            · rw [e3, ← e]
            · have := f2.2.2 c hmem e
              rw [f1.2.1] at this; cases this
          have hp := (pA_iff R hc hw hk hal).2 ⟨e1, e2⟩
          have := hno _ (Nat.zero_le _) (by omega : (aloneB (fB reps c) W2).1 < 0 + reps.length)
          unfold pickA at this
          rw [if_pos hp] at this
          cases this
        · rfl
      · rfl
  rw [R.e1, findSome_filter]
  refine findSome_congr fun c hc => ?_
  have hc' : c < reps.length := by simpa using hc
  unfold pickC
  by_cases h : WW ws c = true ∧ (RR reps c).kind = 1
  · rw [if_pos h, if_pos (by simp [q1, h.1, h.2]), ← R.e1, key c hc' h.1 h.2]
  · rw [if_neg h, if_neg (by simp [q1]; intro h1 h2; exact h ⟨h1, h2⟩)]

theorem WW_set {ws : List Bool} {i j : Nat} {x : Bool} (hi : i < ws.length) : WW (ws.set i x) j = if j = i then x else WW ws j := by
  unfold WW
  rw [List.getElem?_set]
  by_cases h : i = j
  · subst h; simp [hi]
  · rw [if_neg h, if_neg (by omega)]
theorem Rel.hand {reps : List Rep} {ws : List Bool} {W1 W2 : List Nat} (R : Rel reps ws W1 W2) {c a : Nat} (hc : c < reps.length) (ha : a < reps.length) (hkc : (RR reps c).kind = 1) (hka : (RR reps a).kind = 2) :
    Rel reps ((ws.set c false).set a false) (without c W1) (without a W2) where
  len := by simp [R.len]
  e1 := by
    rw [R.e1]; unfold without
    rw [List.filter_filter]
    refine List.filter_congr fun j hj => ?_
    unfold q1
    rw [WW_set (by simp [R.len, ha]), WW_set (by simp [R.len, hc])]
    by_cases h1 : j = c
    · subst h1; simp
    · by_cases h2 : j = a
      · subst h2; simp [hka]
      · simp [h1, h2]
  e2 := by
    rw [R.e2]; unfold without
    rw [List.filter_filter]
    refine List.filter_congr fun j hj => ?_
    unfold q2
    rw [WW_set (by simp [R.len, ha]), WW_set (by simp [R.len, hc])]
    by_cases h1 : j = a
    · subst h1; simp
    · by_cases h2 : j = c
      · subst h2; simp [hkc]
      · simp [h1, h2]
theorem all_same {reps : List Rep} {t : Int} : ∀ (n : Nat) (ws : List Bool) (W1 W2 : List Nat) (hd : List (Nat × Nat × Int)), Rel reps ws W1 W2 →
    Rel reps (refAll reps t n (ws, hd)).1 (handAll reps t n (W1, W2, hd)).1 (handAll reps t n (W1, W2, hd)).2.1 ∧ (handAll reps t n (W1, W2, hd)).2.2 = (refAll reps t n (ws, hd)).2 ∧
      ∀ j, WW (refAll reps t n (ws, hd)).1 j = true → WW ws j = true
  | 0, ws, W1, W2, hd, R => ⟨R, rfl, fun j h => h⟩
  | n + 1, ws, W1, W2, hd, R => by
    unfold handAll refAll
    have e := hand_next R
    simp only [e]
    cases hnx : nextR reps ws with
    | none => exact ⟨R, rfl, fun j h => h⟩
    | some x =>
      obtain ⟨c, a⟩ := x
      obtain ⟨hc, ha, hw, hk, hp⟩ := nextR_some hnx
      have hka : (RR reps a).kind = 2 := by
        unfold pA at hp; simp only [Bool.and_eq_true, beq_iff_eq] at hp; exact hp.1.1.2
      obtain ⟨h1, h2, h3⟩ := all_same n _ _ _ (hd ++ [(c, a, t)]) (R.hand hc ha hk hka)
      refine ⟨h1, h2, fun j hj => ?_⟩
      have := h3 j hj
      rw [WW_set (by simp [R.len, ha]), WW_set (by simp [R.len, hc])] at this
      split at this
      · cases this
      · split at this
        · cases this
        · exact this
theorem filter_upto {q : Nat → Bool} {i n : Nat} (hi : i ≤ n) (hq : ∀ j, i ≤ j → q j = false) : (List.range n).filter q = (List.range i).filter q := by
  obtain ⟨k, rfl⟩ : ∃ k, n = i + k := ⟨n - i, by omega⟩
  rw [List.range_add, List.filter_append]
  have : (List.map (i + ·) (List.range k)).filter q = [] := by
    rw [List.filter_eq_nil_iff]
    intro j hj
    obtain ⟨y, _, rfl⟩ := List.mem_map.1 hj
    simp [hq (i + y) (by omega)]
  rw [this, List.append_nil]
theorem Rel.push {reps : List Rep} {ws : List Bool} {W1 W2 : List Nat} {hd : List (Nat × Nat × Int)} (R : Rel reps ws W1 W2) {i : Nat} (hi : i < reps.length) (hno : ∀ j, i ≤ j → WW ws j = false) (hk : (RR reps i).kind = 1 ∨ (RR reps i).kind = 2) :
    Rel reps (ws.set i true) (push (RR reps i).kind i (W1, W2, hd)).1 (push (RR reps i).kind i (W1, W2, hd)).2.1 := by
  have hil : i < ws.length := by rw [R.len]; exact hi
  have up : ∀ (q : List Bool → Nat → Bool), (∀ j, WW ws j = false → q ws j = false) → (∀ j, i < j → q (ws.set i true) j = q ws j) → (∀ j, j < i → q (ws.set i true) j = q ws j) →
      (List.range reps.length).filter (q (ws.set i true)) = (List.range reps.length).filter (q ws) ++ if q (ws.set i true) i = true then [i] else [] := by
    intro q h1 h2 h3
    have a1 : (List.range reps.length).filter (q ws) = (List.range i).filter (q ws) := filter_upto (by omega) fun j hj => h1 j (hno j hj)
    have a2 : (List.range reps.length).filter (q (ws.set i true)) = (List.range (i + 1)).filter (q (ws.set i true)) := filter_upto (by omega) fun j hj => by rw [h2 j (by omega)]; exact h1 j (hno j (by omega))
    rw [a1, a2, List.range_succ, List.filter_append]
    congr 1
    · exact List.filter_congr fun j hj => h3 j (by simpa using hj)
    · rw [List.filter_cons]; split <;> rfl
  have u1 := up (q1 reps) (fun j hj => by simp [q1, hj]) (fun j hj => by simp only [q1]; rw [WW_set hil, if_neg (by omega)]) (fun j hj => by simp only [q1]; rw [WW_set hil, if_neg (by omega)])
  have u2 := up (q2 reps) (fun j hj => by simp [q2, hj]) (fun j hj => by simp only [q2]; rw [WW_set hil, if_neg (by omega)]) (fun j hj => by simp only [q2]; rw [WW_set hil, if_neg (by omega)])
  rw [← R.e1] at u1
  rw [← R.e2] at u2
  have t1 : q1 reps (ws.set i true) i = ((RR reps i).kind == 1) := by simp only [q1]; rw [WW_set hil, if_pos rfl]; simp
  have t2 : q2 reps (ws.set i true) i = ((RR reps i).kind == 2) := by simp only [q2]; rw [WW_set hil, if_pos rfl]; simp
  rw [t1] at u1
  rw [t2] at u2
  refine ⟨by simp [R.len], ?_, ?_⟩
  · rw [u1]; unfold Wz.push
    rcases hk with hk | hk <;> simp [hk]
  · rw [u2]; unfold Wz.push
    rcases hk with hk | hk <;> simp [hk]

theorem G_same {reps : List Rep} : ∀ (t : List Rep) (i : Nat) (ws : List Bool) (W1 W2 : List Nat) (hd : List (Nat × Nat × Int)), Rel reps ws W1 W2 → reps.drop i = t → (∀ j, i ≤ j → WW ws j = false) → (∀ r ∈ reps, r.kind = 1 ∨ r.kind = 2) →
    (matchG reps i t (W1, W2, hd)).2.2 = (refG reps i t (ws, hd)).2
  | [], i, ws, W1, W2, hd, R, h, hno, hk => rfl
  | r :: t, i, ws, W1, W2, hd, R, h, hno, hk => by
    obtain ⟨hlt, hx, hdt, _⟩ := drop_cons h
    unfold matchG refG
    have hr : RR reps i = r := by rw [RR_lt hlt, hx]
    have hki : (RR reps i).kind = 1 ∨ (RR reps i).kind = 2 := by rw [hr, ← hx]; exact hk _ (List.getElem_mem hlt)
    have R1 := R.push (hd := hd) hlt hno hki
    rw [hr] at R1
    have hp : push r.kind i (W1, W2, hd) = ((push r.kind i (W1, W2, hd)).1, (push r.kind i (W1, W2, hd)).2.1, hd) := by unfold push; split <;> rfl
    rw [hp]
    obtain ⟨h1, h2, h3⟩ := all_same (t := r.at_) 1000 _ _ _ hd R1
    generalize hA : handAll reps r.at_ 1000 ((push r.kind i (W1, W2, hd)).1, (push r.kind i (W1, W2, hd)).2.1, hd) = A at *
    generalize hB : refAll reps r.at_ 1000 (ws.set i true, hd) = Bq at *
    obtain ⟨A1, A2, A3⟩ := A
    obtain ⟨B1, B2⟩ := Bq
    simp only at h1 h2 h3
    subst h2
    refine G_same t (i + 1) B1 A1 A2 A3 h1 hdt (fun j hj => ?_) hk
    cases hw : WW B1 j with
    | false => rfl
    | true =>
      have := h3 j hw
      rw [WW_set (by rw [R.len]; exact hlt), if_neg (by omega), hno j (by omega)] at this
      cases this
theorem match_same (reps : List Rep) : matchP reps = matchRef reps := by
  unfold matchP matchRef
  split
  · rfl
  · split
    · rename_i hc
      rw [G_same reps 0 (List.replicate reps.length false) [] [] [] ⟨by simp, ?_, ?_⟩ rfl (fun j _ => by simp [WW, List.getElem?_replicate]; split <;> rfl) (fun r hr => (chkK hc r hr).1)]
      · symm; rw [List.filter_eq_nil_iff]; intro j _; simp [q1, WW, List.getElem?_replicate]; split <;> simp
      · symm; rw [List.filter_eq_nil_iff]; intro j _; simp [q2, WW, List.getElem?_replicate]; split <;> simp
    · rfl
end Go.Wz
