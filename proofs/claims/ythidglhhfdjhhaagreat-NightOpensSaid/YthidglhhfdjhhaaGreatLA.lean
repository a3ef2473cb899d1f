/- Rules of bits, own slices, appending: what all texts of this seat use. -/
import Derived.Test.YthidglhhfdjhhaaGreatR0
set_option linter.unusedVariables false
set_option linter.unusedSimpArgs false
namespace Go.Wz
open Go
noncomputable abbrev CF (N d : Nat) : CallT := callF Proofs.Tryz.prog hints N d
theorem CF_succ (N d : Nat) (f : FuncId) (args : List SV) (h : H) : CF N (d + 1) (.func f) args h = execF Proofs.Tryz.prog (CF N d) hints N f args h := callF_succ _ _ _ _ _ _ _

def i64and (a b : Int) : Int := IntKind.i64.wrap (BitVec.ofInt 64 a &&& BitVec.ofInt 64 b).toNat
theorem i64and_nat (a b : Nat) (ha : a < 2 ^ 63) (hb : b < 2 ^ 63) : i64and a b = ((a &&& b : Nat) : Int) := by
  unfold i64and
  have h1 : (BitVec.ofInt 64 (a : Int)) = BitVec.ofNat 64 a := by simp
  have h2 : (BitVec.ofInt 64 (b : Int)) = BitVec.ofNat 64 b := by simp
  rw [h1, h2, BitVec.toNat_and, BitVec.toNat_ofNat, BitVec.toNat_ofNat, Nat.mod_eq_of_lt (by omega), Nat.mod_eq_of_lt (by omega)]
  have h3 : a &&& b ≤ a := Nat.and_le_left
  exact IntWalk.i64_in _ ⟨by omega, by omega⟩
theorem ibin_andI (a b : Int) : ibin .and (I a) (I b) = some (I (i64and a b)) := rfl
theorem ibin_shrI (a : Int) (b : Nat) (hb : b < 64) : ibin .shr (I a) (.int .u64 b) = some (I (a.fdiv (2 ^ b))) := by
  show (if (b : Int) < 0 then none else some (Value.int .i64 (a.fdiv (2 ^ (min (b : Int).toNat 64))))) = _
  rw [if_neg (by omega), show min (b : Int).toNat 64 = b by simp; omega]; rfl
theorem cvt_u64 (n : Nat) (hn : n < 2 ^ 63) : cvt .u64 (I n) = some (.int .u64 n) := by
  show some (Value.int .u64 (IntKind.u64.wrap n)) = _
  rw [IntWalk.u64_in _ (by omega)]
theorem H.ext' {a b : H} (h1 : a.get = b.get) (h2 : a.next = b.next) : a = b := by cases a; cases b; cases h1; cases h2; rfl
theorem H.put_self {h : H} {b : Nat} {x : Option Blk} (hg : h.get b = x) : h.put b x = h := by
  refine H.ext' (funext fun i => ?_) rfl
  rw [H.put_gt]; split
  · subst hg; subst_vars; rfl
  · rfl
theorem H.new_put (h : H) (x y : Blk) : (h.new x).put h.next (some y) = h.new y := by
  refine H.ext' (funext fun i => ?_) rfl
  rw [H.put_gt, H.new_get, H.new_get]; split <;> rfl
theorem thaw_put2 {h : H} {bp b : Nat} (x y : Option Blk) (hb : b ≠ bp) : ((h.put bp x).put b y).put bp (h.get bp) = h.put b y := by
  refine H.ext' (funext fun i => ?_) rfl
  simp only [H.put_gt]
  by_cases h1 : i = bp
  · subst h1; rw [if_pos rfl, if_neg (by omega)]
  · rw [if_neg h1, if_neg h1]
theorem thaw_id {h : H} {bp : Nat} (x : Option Blk) : (h.put bp x).put bp (h.get bp) = h := by
  refine H.ext' (funext fun i => ?_) rfl
  simp only [H.put_gt]
  by_cases h1 : i = bp
  · subst h1; rw [if_pos rfl]
  · rw [if_neg h1, if_neg h1]
theorem eqNat (x n : Nat) : ((x : Int) == (n : Int)) = (x == n) := by rw [Bool.eq_iff_iff, beq_iff_eq, beq_iff_eq, Int.ofNat_inj]
/-- blocks that are no part of f stay as they are; f' is new or part of f -/
structure Step (f f' : Nat → Prop) (h h' : H) : Prop where
  nx : h.next ≤ h'.next
  get : ∀ b, b < h.next → ¬ f b → h'.get b = h.get b
  foot : ∀ b, b < h.next → f' b → f b
theorem Step.trans {f f' f'' : Nat → Prop} {h h' h'' : H} (p : Step f f' h h') (q : Step f' f'' h' h'') : Step f f'' h h'' where
  nx := Nat.le_trans p.nx q.nx
  get := fun b hb hf => (q.get b (Nat.lt_of_lt_of_le hb p.nx) fun hh => hf (p.foot b hb hh)).trans (p.get b hb hf)
  foot := fun b hb hf => p.foot b hb (q.foot b (Nat.lt_of_lt_of_le hb p.nx) hf)
theorem Step.of_fr {f : Nat → Prop} {h h' : H} (p : Fr h h') : Step f f h h' := ⟨p.nx, fun b hb _ => p.get b hb, fun _ _ hf => hf⟩

/-- rows of s cells each, in a slice that is nil or own -/
structure OG1 (h : H) (b : Nat) (v : Value) (e : TypeId) (s : Nat) (l : List (List Value)) : Prop where
  lt : b < h.next
  eq : v = slc b 0 l.length 1
  row : ∃ vs, h.get b = some (.cells vs e true) ∧ l.length * s ≤ vs.length ∧ vs.take (l.length * s) = l.flatten
def OG (h : H) (v : Value) (e : TypeId) (s : Nat) (l : List (List Value)) : Prop := (∀ x ∈ l, x.length = s) ∧ ((v = .slice none 0 0 ∧ l = []) ∨ ∃ b, OG1 h b v e s l)
theorem OG.rs {h : H} {v : Value} {e : TypeId} {s : Nat} {l : List (List Value)} (o : OG h v e s l) : RS h s v l := by
  refine ⟨o.1, ?_⟩
  rcases o.2 with o | ⟨b, o⟩
  · exact .inl o
  · obtain ⟨vs, h1, h2, h3⟩ := o.row
    exact .inr (.inr ⟨b, 0, 1, vs, e, true, o.eq, ⟨o.lt, h1⟩, by simpa using h2, by simpa using h3⟩)
theorem OG.keep {h h' : H} {v : Value} {e : TypeId} {s : Nat} {l : List (List Value)} (o : OG h v e s l) (hn : h.next ≤ h'.next) (hg : ∀ b, bOf v = some b → b < h.next → h'.get b = h.get b) : OG h' v e s l := by
  refine ⟨o.1, ?_⟩
  rcases o.2 with o | ⟨b, o⟩
  · exact .inl o
  · exact .inr ⟨b, Nat.lt_of_lt_of_le o.lt hn, o.eq, by rw [hg b (by rw [o.eq]; rfl) o.lt]; exact o.row⟩
theorem OG.lt {h : H} {v : Value} {e : TypeId} {s : Nat} {l : List (List Value)} (o : OG h v e s l) {b : Nat} (hb : bOf v = some b) : b < h.next := by
  rcases o.2 with ⟨rfl, _⟩ | ⟨b', o⟩
  · simp [bOf] at hb
  · rw [o.eq] at hb; cases hb; exact o.lt
/-- append(s, xs..) -/
theorem append_c {h : H} {v : Value} {e : TypeId} {s : Nat} {l xs : List (List Value)} {sx : Value} (o : OG h v e s l) (rx : RS h s sx xs) (hx : xs ≠ []) (hlen : l.length + xs.length ≤ 2 ^ 30) :
    ∃ h', h.appS s e sx v = some (slc h.next 0 (l.length + xs.length) 1, h') ∧ h'.next = h.next + 1 ∧ OG h' (slc h.next 0 (l.length + xs.length) 1) e s (l ++ xs) ∧
      ∀ b, b < h.next → bOf v ≠ some b → h'.get b = h.get b := by
  have hm : xs.length ≠ 0 := by simpa using hx
  have hs := rx.els
  have hall : ∀ x ∈ l ++ xs, x.length = s := fun x hx => by
    rcases List.mem_append.1 hx with hx | hx
    · exact o.1 x hx
    · exact rx.1 x hx
  have key : ∀ h0 : H, h0.next = h.next → OG (h0.new (.cells (l ++ xs).flatten e true)) (slc h.next 0 (l.length + xs.length) 1) e s (l ++ xs) := fun h0 hn => by
    refine ⟨hall, .inr ⟨h.next, by simp [hn], by simp, (l ++ xs).flatten, by rw [← hn]; exact H.new_get_same _ _, ?_, ?_⟩⟩
    · rw [flatten_len _ hall]; exact Nat.le_refl _
    · rw [List.take_of_length_le (by rw [flatten_len _ hall]; exact Nat.le_refl _)]
  simp only [H.appS, hs.1, hs.2, Option.bind_some]
  rcases o.2 with ⟨rfl, rfl⟩ | ⟨b, o1⟩
  · refine ⟨h.new (.cells xs.flatten e true), ?_, rfl, key h rfl, fun b hb _ => H.new_get_lt _ _ hb⟩
    show (if xs.length = 0 then _ else if 2 ^ 30 < 0 + xs.length then _ else _) = _
    rw [if_neg hm, if_neg (by omega)]
    simp [slc]
  · obtain ⟨vs, h1, h2, h3⟩ := o1.row
    rw [o1.eq]
    refine ⟨(h.put b none).new (.cells (l ++ xs).flatten e true), ?_, rfl, key (h.put b none) rfl, fun b' hb' hne => ?_⟩
    · show (if xs.length = 0 then _ else if 2 ^ 30 < l.length + xs.length then _ else if l.length = 0 ∧ 1 = 0 then _ else _) = _
      rw [if_neg hm, if_neg (by omega), if_neg (by omega), h1]
      simp only [h2, and_self, if_true, true_and, h3, List.flatten_append]
      rfl
    · rw [H.new_get_lt _ _ (by simpa using hb'), H.put_get_ne _ _ (fun hh => hne (by rw [hh]; rfl))]
abbrev nilS : Value := .slice none 0 0
/-- append([]T{}, xs..) -/
theorem append0_c {h : H} {b : Nat} {e : TypeId} {s : Nat} {xs : List (List Value)} {sx : Value} (hb : b < h.next) (hg : h.get b = some (.cells [] e true)) (rx : RS h s sx xs) (hlen : xs.length ≤ 2 ^ 30) :
    ∃ v h', h.appS s e sx (slc b 0 0 0) = some (v, h') ∧ Fr h h' ∧ RS h' s v xs ∧ (∀ b', bOf v = some b' → b' = b ∨ h.next ≤ b') := by
  by_cases hx : xs = []
  · subst hx
    refine ⟨slc b 0 0 0, h, ?_, .refl h, ⟨by simp, .inr (.inl ⟨rfl, b, 0, hb, rfl⟩)⟩, fun b' hb' => by rw [bOf_slc] at hb'; cases hb'; exact .inl rfl⟩
    obtain ⟨h1, h2⟩ := rx.els
    simp only [H.appS, h1, h2, Option.bind_some]
    rfl
  · have hm : xs.length ≠ 0 := by simpa using hx
    have hs := rx.els
    refine ⟨slc h.next 0 xs.length 1, h.new (.cells xs.flatten e true), ?_, (Fr.refl h).new _, RS.mk rx.1 ⟨by simp, H.new_get_same _ _⟩ ?_ ?_, fun b' hb' => by rw [bOf_slc] at hb'; cases hb'; exact .inr (Nat.le_refl _)⟩
    · simp only [H.appS, hs.1, hs.2, Option.bind_some]
      show (if xs.length = 0 then _ else if 2 ^ 30 < 0 + xs.length then _ else _) = _
      rw [if_neg hm, if_neg (by omega)]
      rfl
    · rw [flatten_len _ rx.1]; omega
    · rw [List.drop_zero, List.take_of_length_le (by rw [flatten_len _ rx.1]; exact Nat.le_refl _)]

end Go.Wz
