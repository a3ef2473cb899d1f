/- The plain law of Fits: both say the same. -/
import Derived.Test.YthidglhhfdjhhaaGreatGI
set_option linter.unusedVariables false
set_option linter.unusedSimpArgs false
namespace Go.Wz
open Go

theorem i64and_one (a : Int) : i64and a 1 = 0 ∨ i64and a 1 = 1 := by
  unfold i64and
  have h : (BitVec.ofInt 64 a &&& BitVec.ofInt 64 1).toNat ≤ 1 := by
    rw [BitVec.toNat_and]
    exact Nat.le_trans Nat.and_le_right (by decide)
  rw [IntWalk.i64_in _ ⟨by omega, by omega⟩]
  omega
theorem bit_in (set : Int) (i : Nat) : bit set i = inR set i := by
  unfold bit inR
  rcases i64and_one (set.fdiv (2 ^ i)) with h | h <;> rw [h] <;> rfl
theorem TT_add {T : List Int} {j J : Nat} {a : Int} (hj : j < T.length) : TT' (addAt T j a) J = TT' T J + (if j = J then a else 0) := by
  unfold TT' addAt
  rw [List.getElem?_set]
  by_cases h : j = J
  · subst h; simp [hj]
  · simp [h]
def onT (s : Supply) (l : Load) (b : Int) (ph : Nat) (k : Nat) (c : Int) : Bool := decide (l.phase.toNat = ph) && (decide (b = -1) || undF s b k c == b)
theorem chain_sum {s : Supply} (so : SupOk s) {l : Load} (hp : 0 ≤ l.phase ∧ l.phase ≤ 2) {b : Int} (hb : -1 ≤ b ∧ b < s.boards.length) {ph : Nat} (hph : ph ≤ 2) :
    ∀ (k : Nat) (c : Int) (T : List Int), (c + 1).toNat ≤ k → -1 ≤ c ∧ c < s.boards.length → T.length = (s.boards.length + 1) * 3 →
      TT' ((chainF s k c).foldl (fun T x => addAt T (slot s x * 3 + l.phase.toNat) l.amps) T) (slot s b * 3 + ph) = TT' T (slot s b * 3 + ph) + (if onT s l b ph k c = true then l.amps else 0) := by
  have base : ∀ (k : Nat) (T : List Int), T.length = (s.boards.length + 1) * 3 →
      TT' ((chainF s k (-1)).foldl (fun T x => addAt T (slot s x * 3 + l.phase.toNat) l.amps) T) (slot s b * 3 + ph) = TT' T (slot s b * 3 + ph) + (if onT s l b ph k (-1) = true then l.amps else 0) := by
    intro k T hT
    have ec : chainF s k (-1) = [-1] := by cases k with | zero => rfl | succ k => unfold chainF; rw [if_neg (by omega)]
    have e1 : undF s b k (-1) = -1 := by cases k with | zero => rfl | succ k => unfold undF; rw [if_neg (by omega)]
    have hsl : slot s (-1) * 3 + l.phase.toNat = slot s b * 3 + ph ↔ -1 = b ∧ l.phase.toNat = ph := by
      unfold slot; split <;> split <;> omega
    rw [ec, List.foldl_cons, List.foldl_nil, TT_add (by rw [hT]; have : slot s (-1) = s.boards.length := rfl; omega)]
    congr 1
    unfold onT
    rw [e1]
    by_cases hph' : l.phase.toNat = ph
    · by_cases hb1 : b = -1
      · rw [if_pos (hsl.2 ⟨hb1.symm, hph'⟩)]; simp [hph', hb1]
      · rw [if_neg (fun h => hb1 (hsl.1 h).1.symm)]
        have : ¬ ((-1 : Int) = b) := fun h => hb1 h.symm
        simp [this, hb1]
    · rw [if_neg (fun h => hph' (hsl.1 h).2)]; simp [hph']
  intro k
  induction k with
  | zero =>
    intro c T h0 hc hT
    obtain rfl : c = -1 := by omega
    exact base 0 T hT
  | succ k ih =>
    intro c T h0 hc hT
    have hs : ∀ x : Int, -1 ≤ x ∧ x < s.boards.length → slot s x < s.boards.length + 1 := fun x hx => by unfold slot; split <;> omega
    have hj : slot s c * 3 + l.phase.toNat < T.length := by have := hs c hc; omega
    have hsl : slot s c * 3 + l.phase.toNat = slot s b * 3 + ph ↔ c = b ∧ l.phase.toNat = ph := by
      unfold slot; split <;> split <;> omega
    by_cases hc0 : c ≥ 0
    · conv => lhs; unfold chainF
      rw [if_pos hc0, List.foldl_cons, ih (par s c) _ (by have := so.parlt hc0 hc.2; omega) (by have := so.parlt hc0 hc.2; omega) (by rw [addAt_len]; exact hT), TT_add hj]
      have hpl := so.parlt hc0 hc.2
      have e1 : undF s b (k + 1) c = if c > b then undF s b k (par s c) else c := rfl
      have e2 : ¬ par s c > b → undF s b k (par s c) = par s c := fun h => by cases k with | zero => rfl | succ k => unfold undF; rw [if_neg h]
      by_cases hph' : l.phase.toNat = ph
      · by_cases hcb : c = b
        · rw [if_pos (hsl.2 ⟨hcb, hph'⟩)]
          have o1 : onT s l b ph (k + 1) c = true := by unfold onT; rw [e1, if_neg (by omega)]; simp [hph', hcb]
          have o2 : onT s l b ph k (par s c) = false := by
            unfold onT; rw [e2 (by omega)]
            have h1 : ¬ (par s c = b) := by omega
            have h2 : ¬ (b = -1) := by omega
            simp [h1, h2]
          rw [o1, o2]; simp
        · rw [if_neg (fun h => hcb (hsl.1 h).1)]
          have o1 : onT s l b ph (k + 1) c = onT s l b ph k (par s c) := by
            unfold onT
            by_cases hb1 : b = -1
            · simp [hb1]
            · rw [e1]
              by_cases hgt : c > b
              · rw [if_pos hgt]
              · rw [if_neg hgt, e2 (by omega)]
                have q1 : (c == b) = false := by simpa using hcb
                have q2 : (par s c == b) = false := by
                  have h1 : ¬ (par s c = b) := by omega
                  simpa using h1
                rw [q1, q2]
          rw [o1]; simp
      · have o1 : onT s l b ph (k + 1) c = false := by unfold onT; simp [hph']
        have o2 : onT s l b ph k (par s c) = false := by unfold onT; simp [hph']
        rw [if_neg (fun h => hph' (hsl.1 h).2), o1, o2]; simp
    · obtain rfl : c = -1 := by omega
      exact base (k + 1) T hT
theorem foldl_len {s : Supply} {l : Load} : ∀ (L : List Int) (T : List Int), (L.foldl (fun T x => addAt T (slot s x * 3 + l.phase.toNat) l.amps) T).length = T.length
  | [], _ => rfl
  | x :: L, T => by rw [List.foldl_cons, foldl_len L, addAt_len]
theorem tab_cur {s : Supply} (so : SupOk s) {set b : Int} (hb : -1 ≤ b ∧ b < s.boards.length) {ph : Nat} (hph : ph ≤ 2) :
    ∀ (t : List Load) (i : Nat) (T : List Int) (a : Int), (∀ l ∈ t, l ∈ s.loads) → T.length = (s.boards.length + 1) * 3 → TT' T (slot s b * 3 + ph) = a →
      TT' (tabF s set i t T) (slot s b * 3 + ph) = curF (condR s set b ph) i t a
  | [], i, T, a, _, _, h => h
  | l :: t, i, T, a, hm, hT, h => by
    unfold tabF curF
    have hl := so.load l (hm l (by simp))
    have hc := chain_sum so (l := l) ⟨hl.2.2.1, hl.2.2.2.1⟩ hb hph (l.board.toNat + 1) l.board T (by omega) (by omega) hT
    have hcond : condR s set b ph i l = (bit set i && onT s l b ph (l.board.toNat + 1) l.board) := by
      unfold condR onT under
      rw [bit_in, Bool.and_assoc]
      congr 2
      · rw [Bool.eq_iff_iff, beq_iff_eq, decide_eq_true_iff]; omega
      · congr 1
        rw [decide_eq_decide]; omega
    rw [hcond]
    cases hbt : bit set i with
    | false => exact tab_cur so hb hph t (i + 1) T a (fun x hx => hm x (by simp [hx])) hT h
    | true =>
      refine tab_cur so hb hph t (i + 1) _ _ (fun x hx => hm x (by simp [hx])) (by unfold addLoad; rw [if_pos rfl, foldl_len]; exact hT) ?_
      rw [if_pos rfl, Bool.true_and]
      unfold addLoad chain
      rw [hc, h]
      split <;> simp_all
theorem tab_is {s : Supply} (so : SupOk s) {set b : Int} (hb : -1 ≤ b ∧ b < s.boards.length) {ph : Nat} (hph : ph ≤ 2) : TT' (tab s set) (slot s b * 3 + ph) = curR s set b ph := by
  refine tab_cur so hb hph s.loads 0 _ 0 (fun _ h => h) (by simp) ?_
  unfold TT'
  rw [List.getElem?_replicate]
  split <;> rfl
theorem mx3_gt (a b c m : Int) : decide (mx3 a b c > m) = (decide (a > m) || decide (b > m) || decide (c > m)) := by
  unfold mx3
  rw [Bool.eq_iff_iff]
  simp only [Bool.or_eq_true, decide_eq_true_eq]
  by_cases h1 : b > a
  · rw [if_pos h1]
    by_cases h2 : c > b
    · rw [if_pos h2]; omega
    · rw [if_neg h2]; omega
  · rw [if_neg h1]
    by_cases h2 : c > a
    · rw [if_pos h2]; omega
    · rw [if_neg h2]; omega
theorem over_most {s : Supply} (so : SupOk s) {set b : Int} (hb : -1 ≤ b ∧ b < s.boards.length) : overB s set b = decide (mostT (tab s set) (slot s b) > bearsR s b) := by
  unfold mostT
  rw [mx3_gt]
  have e0 := tab_is so (set := set) hb (ph := 0) (by omega)
  have e1 := tab_is so (set := set) hb (ph := 1) (by omega)
  have e2 := tab_is so (set := set) hb (ph := 2) (by omega)
  rw [Nat.add_zero] at e0
  rw [e0, e1, e2]
  unfold overB
  simp only [anyI, Bool.or_false, Bool.or_assoc]
def findN (q : Nat → Bool) : Nat → Nat → Option Nat
  | _, 0 => none
  | i, n + 1 => if q i = true then some i else findN q (i + 1) n
theorem findI_N {α : Type} {q : Nat → α → Bool} {q' : Nat → Bool} : ∀ (l : List α) (i : Nat), (∀ (j : Nat) x, l[j]? = some x → q (i + j) x = q' (i + j)) → findI q i l = findN q' i l.length
  | [], i, _ => rfl
  | x :: l, i, h => by
    rw [List.length_cons]
    unfold findI findN
    have h0 := h 0 x rfl
    rw [Nat.add_zero] at h0
    rw [h0, findI_N l (i + 1) fun j y hy => by have := h (j + 1) y (by simpa using hy); rwa [show i + 1 + j = i + (j + 1) by omega]]
theorem findN_shift (r : Int → Bool) : ∀ (n i : Nat), findN (fun i => r ((i : Int) - 1)) (i + 1) n = (findN (fun i => r (i : Int)) i n).map (· + 1)
  | 0, i => rfl
  | n + 1, i => by
    unfold findN
    have : ((i + 1 : Nat) : Int) - 1 = i := by omega
    rw [this, findN_shift r n (i + 1)]
    split <;> rfl
theorem over_same {s : Supply} (so : SupOk s) (set : Int) : overP s (tab s set) = overR s set := by
  unfold overP overR
  rw [findI_N (q' := fun i => overB s set ((i : Int) - 1)) (List.range (s.boards.length + 1)) 0 (fun _ _ _ => rfl), List.length_range]
  have hE : findI (fun i (b : Board) => decide (mostT (tab s set) i > b.rating)) 0 s.boards = findN (fun i => overB s set (i : Int)) 0 s.boards.length := by
    refine findI_N _ _ fun j x hx => ?_
    have hj := (List.getElem?_eq_some_iff.1 hx).1
    rw [Nat.zero_add, over_most so (by omega)]
    have e1 : slot s (j : Int) = j := by unfold slot; rw [if_neg (by omega)]; omega
    have e2 : bearsR s (j : Int) = x.rating := by unfold bearsR; rw [if_neg (by omega), Int.toNat_natCast, hx]; rfl
    rw [e1, e2]
  rw [hE]
  conv => rhs; unfold findN
  have h0 := over_most so (set := set) (b := -1) (by omega)
  have e1 : slot s (-1) = s.boards.length := rfl
  have e2 : bearsR s (-1) = s.power := rfl
  rw [e1, e2] at h0
  rw [show (((0 : Nat) : Int) - 1) = -1 from rfl, h0]
  by_cases hp : mostT (tab s set) s.boards.length > s.power
  · rw [if_pos hp, if_pos (by simpa using hp)]; rfl
  · rw [if_neg hp, if_neg (by simpa using hp), findN_shift (overB s set)]
    cases findN (fun i => overB s set (i : Int)) 0 s.boards.length with
    | none => rfl
    | some i => simp
theorem fits_same (s : Supply) (set : Int) : fitsP s set = fitsR s set := by
  unfold fitsP fitsR
  split
  · rfl
  · rename_i h
    have so : SupOk s := SupOk.of_err (by unfold setErr at h; split at h <;> simp_all)
    rw [over_same so]
end Go.Wz
