import Derived.CallsIn
import Derived.WalkKit
import Derived.Deep.Draws
import Derived.Laws.CopyRow
import Derived.Laws.Cells
import Derived.ControlIn
import Derived.Laws.Append
import Derived.Laws.MakeOwn
import Derived.Laws.StructEq
import Derived.ChangeKeysEq
/- The framework, part A of A to D: an evaluator of the model over an abstract heap, and its soundness. -/
set_option linter.unusedSimpArgs false
set_option linter.unusedVariables false
section
namespace Go.Wz

/-- What a temporary holds: its shape is known at sight. -/
inductive SV where
  | undef
  | one (v : Value)
  | agg (cs : List Value)
  | tup (vs : List SV)


inductive TT where
  | e
  | n (v : Option SV) (l r : TT)
noncomputable def TT.look (t : TT) (d : Option SV) (i : Nat) : Option SV :=
  TT.rec (motive := fun _ => Nat → Option SV) (fun _ => d)
    (fun v _ _ il ir i => Bool.rec (Bool.rec (il (Nat.div (Nat.sub i 1) 2)) (ir (Nat.div (Nat.sub i 1) 2)) (Nat.beq (Nat.mod i 2) 0)) v (Nat.beq i 0)) t i
noncomputable def TT.ins (d v : Option SV) (f : Nat) (t : TT) (i : Nat) : TT :=
  Nat.rec (motive := fun _ => TT → Nat → TT) (fun t _ => t)
    (fun _ ih t i => TT.rec (motive := fun _ => TT)
      (Bool.rec (Bool.rec (.n d (ih .e (Nat.div (Nat.sub i 1) 2)) .e) (.n d .e (ih .e (Nat.div (Nat.sub i 1) 2))) (Nat.beq (Nat.mod i 2) 0)) (.n v .e .e) (Nat.beq i 0))
      (fun u l r _ _ => Bool.rec (Bool.rec (.n u (ih l (Nat.div (Nat.sub i 1) 2)) r) (.n u l (ih r (Nat.div (Nat.sub i 1) 2))) (Nat.beq (Nat.mod i 2) 0)) (.n v l r) (Nat.beq i 0)) t) f t i
theorem TT.look_e (d : Option SV) (i : Nat) : TT.look .e d i = d := rfl
theorem TT.look_n (v d : Option SV) (l r : TT) (i : Nat) : TT.look (.n v l r) d i = if i = 0 then v else if i % 2 = 0 then r.look d ((i - 1) / 2) else l.look d ((i - 1) / 2) := by
  show Bool.rec (motive := fun _ => Option SV) (Bool.rec (motive := fun _ => Option SV) (l.look d ((i - 1) / 2)) (r.look d ((i - 1) / 2)) (Nat.beq (i % 2) 0)) v (Nat.beq i 0) = _
  by_cases h0 : i = 0
  · subst h0; rfl
  · have e0 : Nat.beq i 0 = false := by cases i with | zero => exact absurd rfl h0 | succ n => rfl
    rw [e0, if_neg h0]
    by_cases h1 : i % 2 = 0
    · rw [h1, if_pos rfl]; rfl
    · rw [if_neg h1]
      have e1 : i % 2 = 1 := by omega
      rw [e1]; rfl
theorem TT.ins_e (d v : Option SV) (f i : Nat) : TT.ins d v (f + 1) .e i = if i = 0 then .n v .e .e else if i % 2 = 0 then .n d .e (TT.ins d v f .e ((i - 1) / 2)) else .n d (TT.ins d v f .e ((i - 1) / 2)) .e := by
  show Bool.rec (motive := fun _ => TT) (Bool.rec (motive := fun _ => TT) (TT.n d (TT.ins d v f .e ((i - 1) / 2)) .e) (TT.n d .e (TT.ins d v f .e ((i - 1) / 2))) (Nat.beq (i % 2) 0)) (TT.n v .e .e) (Nat.beq i 0) = _
  by_cases h0 : i = 0
  · subst h0; rfl
  · have e0 : Nat.beq i 0 = false := by cases i with | zero => exact absurd rfl h0 | succ n => rfl
    rw [e0, if_neg h0]
    by_cases h1 : i % 2 = 0
    · rw [h1, if_pos rfl]; rfl
    · rw [if_neg h1]
      have e1 : i % 2 = 1 := by omega
      rw [e1]; rfl
theorem TT.ins_n (d v u : Option SV) (l r : TT) (f i : Nat) : TT.ins d v (f + 1) (.n u l r) i = if i = 0 then .n v l r else if i % 2 = 0 then .n u l (TT.ins d v f r ((i - 1) / 2)) else .n u (TT.ins d v f l ((i - 1) / 2)) r := by
  show Bool.rec (motive := fun _ => TT) (Bool.rec (motive := fun _ => TT) (TT.n u (TT.ins d v f l ((i - 1) / 2)) r) (TT.n u l (TT.ins d v f r ((i - 1) / 2))) (Nat.beq (i % 2) 0)) (TT.n v l r) (Nat.beq i 0) = _
  by_cases h0 : i = 0
  · subst h0; rfl
  · have e0 : Nat.beq i 0 = false := by cases i with | zero => exact absurd rfl h0 | succ n => rfl
    rw [e0, if_neg h0]
    by_cases h1 : i % 2 = 0
    · rw [h1, if_pos rfl]; rfl
    · rw [if_neg h1]
      have e1 : i % 2 = 1 := by omega
      rw [e1]; rfl
theorem TT.look_ins (d v : Option SV) : ∀ (f : Nat) (t : TT) (i j : Nat), i < f → (TT.ins d v f t i).look d j = if j = i then v else t.look d j := by
  intro f
  induction f with
  | zero => intro t i j h; omega
  | succ f ih =>
    intro t i j h
    cases t with
    | e =>
      rw [TT.ins_e]
      by_cases h0 : i = 0
      · subst h0
        rw [if_pos rfl, TT.look_n]
        by_cases hj : j = 0 <;> simp [hj, TT.look_e]
      · rw [if_neg h0]
        by_cases h1 : i % 2 = 0
        · rw [if_pos h1, TT.look_n]
          by_cases hj : j = 0
          · subst hj; rw [if_pos rfl, if_neg (by omega), TT.look_e]
          · rw [if_neg hj]
            by_cases hj2 : j % 2 = 0
            · rw [if_pos hj2, ih _ _ _ (by omega)]
              by_cases hji : j = i
              · subst hji; simp
              · rw [if_neg (by omega), if_neg hji, TT.look_e, TT.look_e]
            · rw [if_neg hj2, if_neg (by omega), TT.look_e, TT.look_e]
        · rw [if_neg h1, TT.look_n]
          by_cases hj : j = 0
          · subst hj; rw [if_pos rfl, if_neg (by omega), TT.look_e]
          · rw [if_neg hj]
            by_cases hj2 : j % 2 = 0
            · rw [if_pos hj2, if_neg (by omega), TT.look_e, TT.look_e]
            · rw [if_neg hj2, ih _ _ _ (by omega)]
              by_cases hji : j = i
              · subst hji; simp
              · rw [if_neg (by omega), if_neg hji, TT.look_e, TT.look_e]
    | n u l r =>
      rw [TT.ins_n, TT.look_n u]
      by_cases h0 : i = 0
      · subst h0
        rw [if_pos rfl, TT.look_n]
        by_cases hj : j = 0 <;> simp [hj]
      · rw [if_neg h0]
        by_cases h1 : i % 2 = 0
        · rw [if_pos h1, TT.look_n]
          by_cases hj : j = 0
          · subst hj; rw [if_pos rfl, if_neg (by omega), if_pos rfl]
          · rw [if_neg hj, if_neg hj]
            by_cases hj2 : j % 2 = 0
            · rw [if_pos hj2, if_pos hj2, ih _ _ _ (by omega)]
              by_cases hji : j = i
              · subst hji; simp
              · rw [if_neg (by omega), if_neg hji]
            · rw [if_neg hj2, if_neg hj2, if_neg (by omega)]
        · rw [if_neg h1, TT.look_n]
          by_cases hj : j = 0
          · subst hj; rw [if_pos rfl, if_neg (by omega), if_pos rfl]
          · rw [if_neg hj, if_neg hj]
            by_cases hj2 : j % 2 = 0
            · rw [if_pos hj2, if_pos hj2, if_neg (by omega)]
            · rw [if_neg hj2, if_neg hj2, ih _ _ _ (by omega)]
              by_cases hji : j = i
              · subst hji; simp
              · rw [if_neg (by omega), if_neg hji]

theorem TT.ins_fuel (d v : Option SV) : ∀ (f g : Nat) (t : TT) (i : Nat), i < f → i < g → TT.ins d v f t i = TT.ins d v g t i := by
  intro f
  induction f with
  | zero => intro g t i h; omega
  | succ f ih =>
    intro g t i h1 h2
    cases g with
    | zero => omega
    | succ g =>
      cases t with
      | e =>
        rw [TT.ins_e, TT.ins_e]
        by_cases h0 : i = 0
        · rw [if_pos h0, if_pos h0]
        · rw [if_neg h0, if_neg h0, ih g .e ((i - 1) / 2) (by omega) (by omega)]
      | n u l r =>
        rw [TT.ins_n, TT.ins_n]
        by_cases h0 : i = 0
        · rw [if_pos h0, if_pos h0]
        · rw [if_neg h0, if_neg h0, ih g l ((i - 1) / 2) (by omega) (by omega), ih g r ((i - 1) / 2) (by omega) (by omega)]
theorem TT.ins_comm (d v u : Option SV) : ∀ (f : Nat) (t : TT) (i j : Nat), i < f → j < f → i ≠ j → TT.ins d u f (TT.ins d v f t i) j = TT.ins d v f (TT.ins d u f t j) i := by
  intro f
  induction f with
  | zero => intro t i j h; omega
  | succ f ih =>
    intro t i j h1 h2 h3
    by_cases hi : i = 0 <;> by_cases hj : j = 0 <;> by_cases pi : i % 2 = 0 <;> by_cases pj : j % 2 = 0 <;> cases t <;>
      (try (exfalso; omega)) <;> simp only [TT.ins_e, TT.ins_n, hi, hj, pi, pj, if_true, if_false] <;>
      first
        | rfl
        | rw [ih _ _ _ (by omega) (by omega) (by omega)]
structure St where
  tr : TT
  len : Nat
  df : Option SV
noncomputable def St.get (st : St) (i : Nat) : Option SV := st.tr.look st.df i
noncomputable def St.set (st : St) (d : Nat) (v : Option SV) : St := Bool.rec st { tr := TT.ins st.df v (Nat.succ d) st.tr d, len := st.len, df := st.df } (Nat.blt d st.len)
/-- n temporaries, all alike -/
def St.all (n : Nat) (x : Option SV) : St := { tr := .e, len := n, df := x }
theorem St.all_get (n : Nat) (x : Option SV) (i : Nat) : (St.all n x).get i = x := rfl
theorem St.all_len (n : Nat) (x : Option SV) : (St.all n x).len = n := rfl
theorem St.set_len (st : St) (d : Nat) (v : Option SV) : (st.set d v).len = st.len := by
  unfold St.set; cases Nat.blt d st.len <;> rfl
theorem St.get_set (st : St) (d : Nat) (v : Option SV) (i : Nat) : (st.set d v).get i = if i = d ∧ d < st.len then v else st.get i := by
  unfold St.set
  cases h : Nat.blt d st.len with
  | false =>
    have : ¬ d < st.len := by intro hh; rw [(Nat.blt_eq ▸ hh : Nat.blt d st.len = true)] at h; cases h
    rw [if_neg (by omega)]
  | true =>
    have hh : d < st.len := (by simpa [Nat.blt_eq] using h)
    show (TT.ins st.df v (d + 1) st.tr d).look st.df i = _
    rw [TT.look_ins _ _ _ _ _ _ (by omega)]
    by_cases hi : i = d
    · rw [if_pos hi, if_pos ⟨hi, hh⟩]
    · rw [if_neg hi, if_neg (by omega)]; rfl
theorem St.set_comm (st : St) (i j : Nat) (v u : Option SV) (h : i ≠ j) : (st.set i v).set j u = (st.set j u).set i v := by
  unfold St.set
  cases h1 : Nat.blt i st.len <;> cases h2 : Nat.blt j st.len <;> simp only [h1, h2]
  have e1 := TT.ins_fuel st.df v (i + 1) (i + j + 1)
  have e2 := TT.ins_fuel st.df u (j + 1) (i + j + 1)
  simp only [Nat.succ_eq_add_one]
  rw [e1 _ i (by omega) (by omega), e2 _ j (by omega) (by omega), e2 _ j (by omega) (by omega), e1 _ i (by omega) (by omega), TT.ins_comm _ _ _ _ _ _ _ (by omega) (by omega) h]
end Go.Wz
end
section
noncomputable section
namespace Go.Wz

/-- Shapes. -/
inductive Sh where
  | one
  | agg
  | tup (l : List Sh)
/-- Which temporaries are kept where ways meet, and their shapes. -/
abbrev Keep := List (Nat × Sh)
structure Join where
  n : Keep
  e : List (Nat × Keep)
/-- What the evaluator is told beside the code: where ways meet. A wrong hint can't make anything false. -/
inductive Hint where
  | o
  | s (a b : Hint)
  | c (j : Option Join) (a b : Hint)
  | b (j : Option Join) (a : Hint)
  | l (i : Keep) (j : Join) (a : Hint)
  | r (asg body : Hint)

/-- A block of the abstract heap: a row of cells (own: may be written and appended to), or the record of a loop over a function. -/
inductive Blk where
  | cells (vs : List Value) (e : TypeId) (own : Bool)
  | loop (st : LoopState) (pend : Option Code) (fn : FuncId) (tmps : St) (ps : Array Tmp) (asg body : Code) (ha hb : Hint)

structure H where
  get : Nat → Option Blk
  next : Nat

def H.put (h : H) (b : Nat) (x : Option Blk) : H := { get := fun i => if i = b then x else h.get i, next := h.next }
def H.new (h : H) (x : Blk) : H := { get := fun i => if i = h.next then some x else h.get i, next := h.next + 1 }
/-- the cells of a row -/
def H.row (h : H) (b : Nat) : Option (List Value) := match h.get b with | some (.cells vs _ _) => some vs | _ => none
def H.ld (h : H) (b o : Nat) : Option Value := (h.row b).bind fun vs => vs[o]?
def H.ldn (h : H) (b o n : Nat) : Option (List Value) := (h.row b).bind fun vs => if o + n ≤ vs.length then some ((vs.drop o).take n) else none
def splice (vs : List Value) (o : Nat) (xs : List Value) : List Value := vs.take o ++ xs ++ vs.drop (o + xs.length)
def H.st (h : H) (b o : Nat) (v : Value) : Option H :=
  match h.get b with
  | some (.cells vs e true) => if o < vs.length then some (h.put b (some (.cells (vs.set o v) e true))) else none
  | _ => none
def H.stn (h : H) (b o : Nat) (xs : List Value) : Option H :=
  match h.get b with
  | some (.cells vs e true) => if o + xs.length ≤ vs.length then some (h.put b (some (.cells (splice vs o xs) e true))) else none
  | _ => none

/-! ### Values -/
def ptr (b o : Nat) : Value := .pointer (some ⟨b, o, none⟩)
/-- a slice; the capacity is 0 where it is known to be 0 (of an empty one), else 1: not known -/
def slc (b o n c : Nat) : Value := .slice (some ⟨b, o, none⟩) n c
def I (n : Int) : Value := .int .i64 n

def pld (h : H) : Value → Option Value
  | .pointer (some ⟨b, o, none⟩) => h.ld b o
  | _ => none
def pldn (h : H) (n : Nat) : Value → Option (List Value)
  | .pointer (some ⟨b, o, none⟩) => h.ldn b o n
  | _ => none
def pst (h : H) (x : Value) : Value → Option H
  | .pointer (some ⟨b, o, none⟩) => h.st b o x
  | _ => none
def pstn (h : H) (xs : List Value) : Value → Option H
  | .pointer (some ⟨b, o, none⟩) => h.stn b o xs
  | _ => none
def padd (n : Nat) : Value → Option Value
  | .pointer (some ⟨b, o, none⟩) => some (.pointer (some ⟨b, o + n, none⟩))
  | _ => none
/-- the address of an element of a slice -/
def idxS (size : Nat) : Value → Value → Option Value
  | .slice (some ⟨b, o, none⟩) n _, .int _ i => if 0 ≤ i ∧ i < n then some (.pointer (some ⟨b, o + i.toNat * size, none⟩)) else none
  | _, _ => none
/-- the address of an element of an array -/
def idxP (size len : Nat) : Value → Value → Option Value
  | .pointer (some ⟨b, o, none⟩), .int _ i => if 0 ≤ i ∧ i < len then some (.pointer (some ⟨b, o + i.toNat * size, none⟩)) else none
  | _, _ => none
def lenS : Value → Option Value
  | .slice _ n _ => some (.int .i64 n)
  | _ => none
def eqV : Value → Value → Option Bool
  | .int k a, .int k' b => if k = k' then some (a == b) else none
  | .bool a, .bool b => some (a == b)
  | .pointer none, .pointer b => some b.isNone
  | .pointer (some _), .pointer none => some false
  | .slice none _ _, .slice b _ _ => some b.isNone
  | .slice (some _) _ _, .slice none _ _ => some false
  | .nilFunc, .nilFunc => some true
  | .nilFunc, .func _ _ _ => some false
  | .func _ _ _, .nilFunc => some false
  | _, _ => none
/-- integers, as the model computes them -/
def ibin (op : BinOp) : Value → Value → Option Value
  | .int k a, .int k' b =>
    match op with
    | .shl => if b < 0 then none else some (.int k (k.wrap (a * 2 ^ (min b.toNat k.bits))))
    | .shr => if b < 0 then none else some (.int k (a.fdiv (2 ^ (min b.toNat k.bits))))
    | op => if k = k' then
      (match op with
      | .add => some (.int k (k.wrap (a + b)))
      | .sub => some (.int k (k.wrap (a - b)))
      | .mul => some (.int k (k.wrap (a * b)))
      | .quo => if b = 0 then none else some (.int k (k.wrap (a.tdiv b)))
      | .rem => if b = 0 then none else some (.int k (a.tmod b))
      | .and => some (.int k (k.wrap (BitVec.ofInt k.bits a &&& BitVec.ofInt k.bits b).toNat))
      | .or => some (.int k (k.wrap (BitVec.ofInt k.bits a ||| BitVec.ofInt k.bits b).toNat))
      | .xor => some (.int k (k.wrap (BitVec.ofInt k.bits a ^^^ BitVec.ofInt k.bits b).toNat))
      | .andNot => some (.int k (k.wrap (BitVec.ofInt k.bits a &&& ~~~BitVec.ofInt k.bits b).toNat))
      | .eql => some (.bool (a == b))
      | .neq => some (.bool (a != b))
      | .lss => some (.bool (decide (a < b)))
      | .leq => some (.bool (decide (a ≤ b)))
      | .gtr => some (.bool (decide (a > b)))
      | .geq => some (.bool (decide (a ≥ b)))
      | _ => none)
      else none
  | _, _ => none
/-- '==' and '!=' of what is no integer -/
def ebin (op : BinOp) (a b : Value) : Option Value :=
  match op with
  | .eql => (eqV a b).map .bool
  | .neq => (eqV a b).map fun x => .bool !x
  | _ => none
def bin (op : BinOp) (a b : Value) : Option Value := match a with | .int _ _ => ibin op a b | _ => ebin op a b
def eqL : List Value → List Value → Option Bool
  | [], [] => some true
  | a :: as, b :: bs => (eqV a b).bind fun x => (eqL as bs).map fun y => x && y
  | _, _ => none
def un (op : UnOp) : Value → Option Value
  | .bool b => match op with | .not => some (.bool !b) | _ => none
  | .int k n => match op with | .neg => some (.int k (k.wrap (0 - n))) | _ => none
  | _ => none
def cvt (k : IntKind) : Value → Option Value
  | .int _ n => some (.int k (k.wrap n))
  | _ => none
def mx2 : Value → Value → Option Value
  | .int k x, .int _ y => some (.int k (if y > x then y else x))
  | _, _ => none
def mn2 : Value → Value → Option Value
  | .int k x, .int _ y => some (.int k (if y < x then y else x))
  | _, _ => none
def condV {R : Type} (v : Value) (A B : Option R) : Option R := match v with | .bool t => if t then A else B | _ => none
/-- s[lo:hi] of a slice -/
def cutS (size : Nat) (lo hi : Option Value) : Value → Option Value
  | .slice a n c =>
    match (match lo with | none => some 0 | some (.int _ i) => if 0 ≤ i then some i.toNat else none | _ => none), (match hi with | none => some n | some (.int _ i) => if 0 ≤ i then some i.toNat else none | _ => none) with
    | some l, some u => if l ≤ u ∧ u ≤ n then
        (match a with
        | none => some (.slice none 0 0)
        | some ⟨b, o, none⟩ => some (.slice (some ⟨b, o + l * size, none⟩) (u - l) (if c = 0 then 0 else 1))
        | _ => none)
      else none
    | _, _ => none
  | _ => none
/-- s[0:0:0] -/
def cut0 : Value → Option Value
  | .slice a _ _ => some (.slice a 0 0)
  | _ => none
/-- the cells of the first n elements of a slice -/
def H.els (h : H) (size : Nat) : Value → Option (List Value)
  | .slice none _ _ => some []
  | .slice (some ⟨b, o, none⟩) n _ => if n = 0 then some [] else h.ldn b o (n * size)
  | _ => none
/-- append(s, xs..), xs: the cells of m elements. The old row is gone; the new one has a number of its own. -/
def H.app (h : H) (size : Nat) (e : TypeId) (xs : List Value) (m : Nat) : Value → Option (Value × H)
  | .slice a n c =>
    if m = 0 then some (.slice a n c, h)
    else if 2 ^ 30 < n + m then none
    else match a with
    | none => some (.slice (some ⟨h.next, 0, none⟩) m 1, h.new (.cells xs e true))
    | some ⟨b, o, none⟩ =>
      if n = 0 ∧ c = 0 then some (.slice (some ⟨h.next, 0, none⟩) m 1, h.new (.cells xs e true))
      else (match h.get b with
        | some (.cells vs e' true) => if o = 0 ∧ n * size ≤ vs.length ∧ e' = e then some (.slice (some ⟨h.next, 0, none⟩) (n + m) 1, (h.put b none).new (.cells (vs.take (n * size) ++ xs) e true)) else none
        | _ => none)
    | _ => none
  | _ => none
end Go.Wz
end
end
section
noncomputable section
namespace Go.Wz

abbrev Callee := Fn
abbrev CallT := Callee → List SV → H → Option (SV × H)

def plain : Value → Bool
  | .bool _ | .int _ _ | .string _ | .nilFunc | .pointer none | .slice none 0 0 | .map none | .nilIface => true
  | _ => false

def evO (st : St) : Operand → Option SV
  | .tmp t => st.get t
  | .const (.agg cs) => if cs.toList.all plain then some (.agg cs.toList) else none
  | .const v => if plain v then some (.one v) else none
  | .func f => some (.one (.func (.func f) #[] #[]))
  | .global _ => none

section
variable {R : Type}
/-- a result taken apart by its shape -/
def un1 (x : SV) (k : Value → Option R) : Option R := match x with | .one v => k v | .undef => none | .agg _ => none | .tup _ => none
def unA (x : SV) (k : List Value → Option R) : Option R := match x with | .agg cs => k cs | .undef => none | .one _ => none | .tup _ => none
def v1 (x : Option SV) (k : Value → Option R) : Option R := match x with | some s => un1 s k | none => none
def vA (x : Option SV) (k : List Value → Option R) : Option R := match x with | some s => unA s k | none => none
def vc (x : Option SV) (k : List Value → Option R) : Option R := match x with | some (.one v) => k [v] | some (.agg cs) => k cs | _ => none
def vs1 (xs : List (Option SV)) (k : List Value → Option R) : Option R :=
  match xs with
  | [] => k []
  | x :: r => v1 x fun v => vs1 r fun l => k (v :: l)
def vsv (xs : List (Option SV)) (k : List SV → Option R) : Option R :=
  match xs with
  | [] => k []
  | some x :: r => vsv r fun l => k (x :: l)
  | none :: _ => none
mutual
def dsh : Sh → SV → (SV → Option R) → Option R
  | .one, x, k => un1 x fun v => k (.one v)
  | .agg, x, k => unA x fun cs => k (.agg cs)
  | .tup l, x, k => match x with | .tup vs => dshs l vs fun xs => k (.tup xs) | _ => none
def dshs : List Sh → List SV → (List SV → Option R) → Option R
  | [], vs, k => match vs with | [] => k [] | _ => none
  | s :: l, vs, k => match vs with | v :: r => dsh s v fun x => dshs l r fun xs => k (x :: xs) | _ => none
end
end

section types
variable (P : Program)
def szT (t : TypeId) : Option Nat := (P.info? t).map (·.size)
def aggT (t : TypeId) : Option Bool := (P.underlying t).map fun | .struct _ | .array _ _ => true | _ => false
def zeroC (t : TypeId) : Option (List Value) :=
  match (P.info? t).bind (·.zero) with
  | some (.agg cs) => if cs.toList.all plain then some cs.toList else none
  | some v => if plain v then some [v] else none
  | none => none
def shT : Nat → TypeId → Option Sh
  | 0, _ => none
  | n + 1, t => match P.underlying t with
    | some (.struct _) | some (.array _ _) => some .agg
    | some (.tuple ts) => (ts.toList.mapM (shT n)).map .tup
    | some _ => some .one
    | none => none
def fldT (s : TypeId) (f : Nat) : Option (Nat × TypeId) := match P.underlying s with | some (.struct fs) => (fs[f]?).map fun x => (x.offset, x.type) | _ => none
def elemS (t : TypeId) : Option TypeId := match P.underlying t with | some (.slice e) => some e | _ => none
end types

/-- '==' of numbers (false) and bools (true), cell by cell -/
def eqB (f : Bool) (a b : Value) : Option Bool :=
  match f with
  | false => (match a, b with | .int k x, .int k' y => if k = k' then some (x == y) else none | _, _ => none)
  | true => (match a, b with | .bool x, .bool y => some (x == y) | _, _ => none)
def eqBs : List Bool → List Value → List Value → Option Bool
  | [], as, bs => (match as, bs with | [], [] => some true | _, _ => none)
  | f :: fs, as, bs => (match as, bs with | a :: as, b :: bs => (eqB f a b).bind fun x => (eqBs fs as bs).map fun y => x && y | _, _ => none)
def basicT (P : Program) (t : TypeId) : Option Bool := match P.underlying t with | some (.int _) => some false | some .bool => some true | _ => none
def flatF (P : Program) : Nat → List Field → Option (List Bool)
  | _, [] => some []
  | i, f :: l => if f.offset == i && f.name != "_" then (basicT P f.type).bind fun b => (flatF P (i + 1) l).map fun r => b :: r else none
/-- a struct or an array of numbers and bools: what each cell is -/
def flatT (P : Program) (t : TypeId) : Option (List Bool) :=
  match P.underlying t with
  | some (.struct fs) => if !P.stoodInHeld t && !P.eqGuardType P.depth t then flatF P 0 fs.toList else none
  | some (.array n e) => if !P.eqGuardType P.depth t && szT P e == some 1 then (basicT P e).map fun b => List.replicate n b else none
  | _ => none
def binA (op : BinOp) (fs : List Bool) (as bs : List Value) : Option Value :=
  match op with
  | .eql => (eqBs fs as bs).map .bool
  | .neq => (eqBs fs as bs).map fun x => .bool !x
  | _ => none
/-- equality by the type; integers by 'ibin' -/
def binT (P : Program) (op : BinOp) (t : TypeId) (a b : Value) : Option Value :=
  match P.underlying t with
  | some (.int _) => ibin op a b
  | some .bool => (match a, b with | .bool x, .bool y => (match op with | .eql => some (.bool (x == y)) | .neq => some (.bool !(x == y)) | _ => none) | _, _ => none)
  | some (.pointer _) => (match a, b with | .pointer none, .pointer y => ebin op (.pointer none) (.pointer y) | .pointer (some x), .pointer none => ebin op (.pointer (some x)) (.pointer none) | _, _ => none)
  | some (.slice _) => (match a, b with | .slice x n c, .slice y m d => ebin op (.slice x n c) (.slice y m d) | _, _ => none)
  | some (.func _ _ _) => (match a, b with | .nilFunc, .nilFunc => ebin op .nilFunc .nilFunc | .nilFunc, .func x y z => ebin op .nilFunc (.func x y z) | .func x y z, .nilFunc => ebin op (.func x y z) .nilFunc | _, _ => none)
  | _ => none

def slen : Value → Option Nat
  | .slice _ n _ => some n
  | _ => none
def H.appS (h : H) (size : Nat) (e : TypeId) (x s : Value) : Option (Value × H) := (slen x).bind fun m => (h.els size x).bind fun cs => h.app size e cs m s
def H.copyS (h : H) (size : Nat) (d s : Value) : Option (Value × H) :=
  match d, s with
  | .slice a n _, .slice b m c => (h.els size (.slice b (min m n) c)).bind fun cs =>
      (match a with
       | none => some (.int .i64 (min m n : Nat), h)
       | some ⟨b', o, none⟩ => (if min m n = 0 then some (.int .i64 (min m n : Nat), h) else (h.stn b' o cs).map fun h' => (.int .i64 (min m n : Nat), h'))
       | _ => none)
  | _, _ => none
def H.clearS (h : H) (z : List Value) (d : Value) : Option H :=
  match d with
  | .slice none _ _ => some h
  | .slice _ 0 _ => some h
  | .slice (some ⟨b, o, none⟩) n _ => h.stn b o ((List.replicate n z).flatten)
  | _ => none
/-- make([]T, n, c): the spare room is not told -/
def H.mkS (h : H) (z : List Value) (e : TypeId) (n c : Value) : Option (Value × H) :=
  match n, c with
  | .int _ l, .int _ m => if 0 ≤ l ∧ l ≤ m ∧ m ≤ 2 ^ 30 then some (.slice (some ⟨h.next, 0, none⟩) l.toNat (if m = 0 then 0 else 1), h.new (.cells (List.replicate l.toNat z).flatten e true)) else none
  | _, _ => none

def nilC : Value → Option Value
  | .pointer (some a) => some (.pointer (some a))
  | .func (.func f) a b => some (.func (.func f) a b)
  | .func (.yield f) a b => some (.func (.yield f) a b)
  | .slice a n c => some (.slice a n c)
  | _ => none
def pickV (c : Value) (a b : Option SV) : Option Value := match c with | .bool t => (match (if t then a else b) with | some (.one v) => some v | _ => none) | _ => none
def gsel {R : Type} (c : Value) (w : Bool) (A B : Option R) : Option R := match c with | .bool t => if t = w then A else B | _ => none
def idxA (len : Nat) : Value → Option Nat
  | .int _ i => if 0 ≤ i ∧ i < len then some i.toNat else none
  | _ => none
def idxStr (s i : Value) : Option Value := match s, i with
  | .string s, .int _ i => if 0 ≤ i then (s[i.toNat]?).map fun b => .int .u8 b.toNat else none
  | _, _ => none
def callV (call : CallT) (f : Value) (args : List SV) (h : H) : Option (SV × H) :=
  match f with
  | .func fn first cap => call fn (first.toList.map .one ++ args ++ cap.toList.map .one) h
  | _ => none
/-- the function that a loop ranges over -/
def callG (call : CallT) (f : Value) (args : List SV) (h : H) : Option (SV × H) :=
  match f with
  | .func (.func g) first cap => call (.func g) (first.toList.map .one ++ args ++ cap.toList.map .one) h
  | _ => none
def mms (f : Value → Value → Option Value) : Value → List Value → Option Value
  | a, [] => some a
  | a, b :: r => (f a b).bind fun c => mms f c r

section
variable {R : Type} (P : Program) (call : CallT)
/-- the parts of a composite, laid into its cells -/
def fillK (k : List Value → Option R) (zs : List Value) : List (Nat × Nat × Option SV) → Option R
  | [] => k zs
  | (off, size, x) :: rest => if off + size ≤ zs.length then (match x with
    | some (.one v) => if size = 1 then fillK k (zs.set off v) rest else none
    | some (.agg cs) => if cs.length = size then fillK k (splice zs off cs) rest else none
    | _ => none) else none

def opK (st : St) (o : Oper) (h : H) (k : Option SV → H → Option R) : Option R :=
  match o.op with
  | .move x | .assign x => (match evO st x with | some v => k (some v) h | none => none)
  | .pick c a b => v1 (evO st c) fun c => (pickV c (evO st a) (evO st b)).bind fun v => k (some (.one v)) h
  | .alloc e => (match zeroC P e with | some cs => k (some (.one (ptr h.next 0))) (h.new (.cells cs e true)) | none => none)
  | .box e x => vc (evO st x) fun cs => k (some (.one (ptr h.next 0))) (h.new (.cells cs e true))
  | .build t parts =>
    (match P.underlying t, zeroC P t with
    | some (.struct fs), some zs => (match fs.toList.mapM (fun f => (P.info? f.type).map fun i => (f.offset, i.size)) with
      | some places => if parts.toList.all (fun p => (places[p.1]?).isSome) = true then fillK (fun cs => k (some (.agg cs)) h) zs (parts.toList.map fun p => (((places[p.1]?).getD (0, 0)).1, ((places[p.1]?).getD (0, 0)).2, evO st p.2)) else none
      | none => none)
    | some (.array _ e), some zs => (match szT P e with
      | some s => fillK (fun cs => k (some (.agg cs)) h) zs (parts.toList.map fun p => (p.1 * s, s, evO st p.2))
      | none => none)
    | _, _ => none)
  | .buildSlice t len parts =>
    (match elemS P t with
    | some e => (match szT P e, zeroC P e with
      | some s, some z => if 1 ≤ s ∧ z.length = s ∧ len * s ≤ 2 ^ 20 then
          fillK (fun cs => k (some (.one (.slice (some ⟨h.next, 0, none⟩) len (if len = 0 then 0 else 1)))) (h.new (.cells cs e true))) (List.replicate len z).flatten (parts.toList.map fun p => (p.1 * s, s, evO st p.2))
        else none
      | _, _ => none)
    | none => none)
  | .load t a => v1 (evO st a) fun p => (match aggT P t, szT P t with
    | some true, some n => (pldn h n p).bind fun cs => k (some (.agg cs)) h
    | some false, some _ => (pld h p).bind fun v => k (some (.one v)) h
    | _, _ => none)
  | .store t a x => v1 (evO st a) fun p => (match szT P t with
    | some n => (match evO st x with
      | some (.one v) => if n = 1 then (pst h v p).bind fun h' => k (some .undef) h' else none
      | some (.agg cs) => if cs.length = n then (pstn h cs p).bind fun h' => k (some .undef) h' else none
      | _ => none)
    | none => none)
  | .nilCheck x => v1 (evO st x) fun v => (nilC v).bind fun v => k (some (.one v)) h
  | .binOp op t x y _ => (match flatT P t with
    | some n => vA (evO st x) fun as => vA (evO st y) fun bs => (binA op n as bs).bind fun v => k (some (.one v)) h
    | none => v1 (evO st x) fun a => v1 (evO st y) fun b => (binT P op t a b).bind fun v => k (some (.one v)) h)
  | .unOp op _ x => v1 (evO st x) fun a => (un op a).bind fun v => k (some (.one v)) h
  | .convert sT d x => (match P.underlying d with
    | some (.int kd) => if (P.underlying sT).isSome = true then v1 (evO st x) fun a => (cvt kd a).bind fun v => k (some (.one v)) h else none
    | _ => none)
  | .makeFunc (.func f) first cap => vs1 (first.toList.map (evO st)) fun fs => vs1 (cap.toList.map (evO st)) fun cs => k (some (.one (.func (.func f) fs.toArray cs.toArray))) h
  | .makeSlice t l c => (match elemS P t with
    | some e => (match szT P e, zeroC P e, (P.info? e).map (·.bytes) with
      | some s, some z, some by_ => if 1 ≤ s ∧ z.length = s ∧ by_ ≤ 2 ^ 16 then v1 (evO st l) fun l => v1 (evO st c) fun c => (h.mkS z e l c).bind fun r => k (some (.one r.1)) r.2 else none
      | _, _, _ => none)
    | none => none)
  | .slice t x lo hi mx => (match elemS P t with
    | some e => (match szT P e with
      | some s => if 1 ≤ s then v1 (evO st x) fun v =>
        (match lo, hi, mx with
        | none, none, none => (cutS s none none v).bind fun v => k (some (.one v)) h
        | some l, none, none => v1 (evO st l) fun l => (cutS s (some l) none v).bind fun v => k (some (.one v)) h
        | none, some u, none => v1 (evO st u) fun u => (cutS s none (some u) v).bind fun v => k (some (.one v)) h
        | some l, some u, none => v1 (evO st l) fun l => v1 (evO st u) fun u => (cutS s (some l) (some u) v).bind fun v => k (some (.one v)) h
        | lo, some (.const (.int _ 0)), some (.const (.int _ 0)) => (match lo with
          | none | some (.const (.int _ 0)) => (cut0 v).bind fun v => k (some (.one v)) h
          | _ => none)
        | _, _, _ => none) else none
      | none => none)
    | none => none)
  | .fieldAddr s x f => (match fldT P s f with
    | some (off, ft) => (match szT P ft with
      | some n => if 1 ≤ n then v1 (evO st x) fun p => (padd off p).bind fun v => k (some (.one v)) h else none
      | none => none)
    | none => none)
  | .field t x f => (match fldT P t f with
    | some (off, ft) => (match evO st x with
      | some (.agg cs) => (match aggT P ft, szT P ft with
        | some true, some n => k (some (.agg ((cs.drop off).take n))) h
        | some false, some _ => (cs[off]?).bind fun v => k (some (.one v)) h
        | _, _ => none)
      | _ => none)
    | none => none)
  | .indexAddr t x i => (match P.underlying t with
    | some (.slice e) => (match szT P e with
      | some s => v1 (evO st x) fun x => v1 (evO st i) fun i => (idxS s x i).bind fun v => k (some (.one v)) h
      | none => none)
    | some (.array n e) => (match szT P e with
      | some s => v1 (evO st x) fun x => v1 (evO st i) fun i => (idxP s n x i).bind fun v => k (some (.one v)) h
      | none => none)
    | _ => none)
  | .index t x i => (match P.underlying t, evO st x with
    | some (.array n e), some (.agg cs) => (match aggT P e, szT P e with
      | some false, some 1 => v1 (evO st i) fun i => (idxA n i).bind fun j => (cs[j]?).bind fun v => k (some (.one v)) h
      | _, _ => none)
    | some .string, some (.one s) => v1 (evO st i) fun i => (idxStr s i).bind fun v => k (some (.one v)) h
    | _, _ => none)
  | .extract x i => (match evO st x with
    | some (.tup l) => (match l[i]? with | some v => k (some v) h | none => none)
    | _ => none)
  | .call c => (match c.callee with
    | .builtin b => (match b, c.args.toList with
      | .len, [x] => (match (c.argTypes[0]?).bind P.underlying with
        | some (.slice _) => v1 (evO st x) fun v => (lenS v).bind fun v => k (some (.one v)) h
        | some (.array n _) => k (some (.one (.int .i64 n))) h
        | _ => none)
      | .append, [s, x] => (match (c.argTypes[0]?).bind (elemS P), (c.argTypes[1]?).bind (elemS P) with
        | some e, some _ => (match szT P e, (P.info? e).map (·.bytes), zeroC P e with
          | some z, some by_, some zs => if 1 ≤ z ∧ by_ ≤ 2 ^ 16 ∧ 1 ≤ by_ ∧ zs.length = z then v1 (evO st s) fun s => v1 (evO st x) fun x => (h.appS z e x s).bind fun r => k (some (.one r.1)) r.2 else none
          | _, _, _ => none)
        | _, _ => none)
      | .max, x :: l => v1 (evO st x) fun x => vs1 (l.map (evO st)) fun l => (mms mx2 x l).bind fun v => k (some (.one v)) h
      | .min, x :: l => v1 (evO st x) fun x => vs1 (l.map (evO st)) fun l => (mms mn2 x l).bind fun v => k (some (.one v)) h
      | .copy, [d, s] => (match (c.argTypes[0]?).bind (elemS P) with
        | some e => (match szT P e with
          | some z => if 1 ≤ z then v1 (evO st d) fun d => v1 (evO st s) fun s => (h.copyS z d s).bind fun r => k (some (.one r.1)) r.2 else none
          | none => none)
        | none => none)
      | .clear, [d] => (match (c.argTypes[0]?).bind (elemS P) with
        | some e => (match zeroC P e, szT P e with
          | some z, some n => if z.length = n ∧ 1 ≤ n then v1 (evO st d) fun d => (h.clearS z d).bind fun h' => k (some (.tup [])) h' else none
          | _, _ => none)
        | none => none)
      | _, _ => none)
    | .value f => v1 (evO st f) fun f => vsv (c.args.toList.map (evO st)) fun args => (callV call f args h).bind fun r => (match shT P 3 o.type with
      | some sh => dsh sh r.1 fun v => k (some v) r.2
      | none => none)
    | .invoke _ _ => none)
  | _ => none

end

def setO (st : St) (d : Option Tmp) (v : Option SV) : St := match d with | some d => st.set d v | none => st
def clearL (st : St) : List Nat → St
  | [] => st
  | d :: l => clearL (st.set d none) l
/-- the operations of a group hang on its guard or on one another -/
def grpOk (j : Nat) (w : Bool) (cj : Tmp) : List Nat → List (Nat × Oper) → Bool
  | _, [] => true
  | seen, (i, o) :: l => (match o.guard with | some (j', w') => (j' == j && w' == w) || seen.contains j' | none => false) && (match o.dst with | some d => d != cj | none => false) && grpOk j w cj (i :: seen) l

/-- a region in the text's order; operations under a guard are one group, which a 'pick' closes -/
def opsK (P : Program) (call : CallT) (all : Array Oper) : Nat → Option (Nat × Bool) → List (Nat × Oper) → St → H → {R : Type} → (St → H → Option R) → Option R
  | 0, _, _, _, _, _, _ => none
  | _ + 1, _, [], st, h, _, k => k st h
  | n + 1, g, (i, o) :: rest, st, h, _, k =>
    if o.guard = g then opK P call st o h fun v h => opsK P call all n g rest (setO st o.dst v) h k
    else (match o.guard, (((i, o) :: rest).dropWhile fun x => x.2.guard != g) with
      | some (j, w), (_, p) :: rest' => (match p.op, p.dst, (all[j]?).bind (·.dst) with
        | .pick (.tmp c) a b, some d, some cj =>
          if c = cj ∧ grpOk j w cj [] (((i, o) :: rest).takeWhile fun x => x.2.guard != g) = true then
            v1 (evO st (.tmp c)) fun cv =>
              (gsel cv w (opsK P call all n (some (j, w)) (((i, o) :: rest).takeWhile fun x => x.2.guard != g) st h (R := Value × H) fun st h => v1 (evO st (if w then a else b)) fun v => some (v, h))
                (v1 (evO (clearL st ((((i, o) :: rest).takeWhile fun x => x.2.guard != g).filterMap (·.2.dst))) (if w then b else a)) fun v => some (v, h))).bind fun r =>
              opsK P call all n g rest' (setO (clearL st ((((i, o) :: rest).takeWhile fun x => x.2.guard != g).filterMap (·.2.dst))) (some d) (some (.one r.1))) r.2 k
          else none
        | _, _, _ => none)
      | _, _ => none)

/-! ### A region whose order is drawn -/
/-- how an operation goes along with others: 0 looks at no memory, 1 loads, 2 makes a block, 3 all else -/
def opMode (o : Oper) : Nat :=
  match o.op with
  | .move _ | .assign _ | .pick _ _ _ | .build _ _ | .nilCheck _ | .binOp _ _ _ _ _ | .unOp _ _ _ | .convert _ _ _ | .makeFunc _ _ _ | .slice _ _ _ _ _ | .fieldAddr _ _ _ | .field _ _ _ | .indexAddr _ _ _ | .index _ _ _ | .extract _ _ => 0
  | .load _ _ => 1
  | .alloc _ | .box _ _ | .buildSlice _ _ _ => 2
  | .call c => (match c.callee with
    | .builtin .len | .builtin .max | .builtin .min => 0
    | _ => 3)
  | _ => 3
def tmpO : Operand → Option Nat | .tmp t => some t | _ => none
/-- the temporaries that an operation looks at -/
def rdsO (all : Array Oper) (o : Oper) : List Nat :=
  (o.op.operands.toList.filterMap tmpO) ++ (match o.guard with | some (j, _) => (match (all[j]?).bind (·.dst) with | some c => [c] | none => []) | none => [])
def keepG : List Nat → St → St → St
  | [], _, r => r
  | i :: l, st, r => keepG l st (r.set i (st.get i))
/-- no temporaries but some -/
def keepAt (l : List Nat) (st : St) : St := keepG l st (St.all st.len none)
structure Md where
  m : Nat
  hid : List Nat
  fr : List Nat
  root : Option Nat
def hideL : List Nat → H → H
  | [], h => h
  | b :: l, h => (hideL l h).put b none
def Blk.ro : Blk → Option Blk
  | .cells vs e _ => some (.cells vs e false)
  | .loop .. => none
def frzL : List Nat → H → H
  | [], h => h
  | b :: l, h => (frzL l h).put b ((h.get b).bind Blk.ro)
def thawL : List Nat → H → H → H
  | [], _, h' => h'
  | b :: l, h, h' => (thawL l h h').put b (h.get b)
def bOf : Value → Option Nat
  | .pointer (some ⟨b, _, none⟩) => some b
  | .slice (some ⟨b, _, none⟩) _ _ => some b
  | _ => none
def sameB {R : Type} (p q : Value) (X : Option R) : Option R := match bOf p, bOf q with | some a, some b => if a = b then X else none | _, _ => none
def chkRoot {R : Type} (st : St) (r : Option Nat) (o : Oper) (X : Option R) : Option R :=
  match r with
  | none => X
  | some t => (match o.op with
    | .load _ a => v1 (evO st (.tmp t)) fun p => v1 (evO st a) fun q => sameB p q X
    | _ => none)
def frB {R : Type} (st : St) : List Nat → (List Nat → Option R) → Option R
  | [], k => k []
  | t :: l, k => v1 (evO st (.tmp t)) fun p => (bOf p).bind fun b => frB st l fun bs => k (b :: bs)
section
variable {R : Type} (P : Program)
/-- what makes a block, under a given number -/
def aopK (st : St) (o : Oper) (h : H) (b : Nat) (k : Value → Option Blk → Option R) : Option R :=
  match o.op with
  | .alloc e => (match zeroC P e with | some cs => k (ptr b 0) (some (.cells cs e true)) | none => none)
  | .box e x => vc (evO st x) fun cs => k (ptr b 0) (some (.cells cs e true))
  | .buildSlice t len parts =>
    (match elemS P t with
    | some e => (match szT P e, zeroC P e with
      | some s, some z => if 1 ≤ s ∧ z.length = s ∧ len * s ≤ 2 ^ 20 then
          fillK (fun cs => k (.slice (some ⟨b, 0, none⟩) len (if len = 0 then 0 else 1)) (some (.cells cs e true))) (List.replicate len z).flatten (parts.toList.map fun p => (p.1 * s, s, evO st p.2))
        else none
      | _, _ => none)
    | none => none)
  | _ => none
end
def runO {R : Type} (P : Program) (call : CallT) (base : Nat) (md : Md) (i : Nat) (o : Oper) (st : St) (h : H) (k : Option SV → H → Option R) : Option R :=
  match md.m with
  | 0 => opK P call st o h fun v _ => k v h
  | 1 => chkRoot st md.root o (opK P call st o (hideL (md.hid.map (base + ·)) h) fun v _ => k v h)
  | 2 => aopK P st o (hideL (md.hid.map (base + ·)) h) (base + i) fun v x => k (some (.one v)) (h.put (base + i) x)
  | _ => frB st md.fr fun bs => opK P call st o (frzL bs (hideL (md.hid.map (base + ·)) h)) fun v h' => k v (thawL (bs ++ md.hid.map (base + ·)) h h')
def ovS : Option SV → SV | some v => v | none => .undef
def gateS {R : Type} (c : SV) (w : Bool) (A B : Option R) : Option R := match c with | .one (.bool t) => if t = w then A else B | .undef => B | _ => none
def stepK {R : Type} (P : Program) (call : CallT) (all : Array Oper) (base : Nat) (md : Md) (i : Nat) (o : Oper) (st : St) (h : H) (k : St → H → Option R) : Option R :=
  match o.guard with
  | none => runO P call base md i o (keepAt (rdsO all o ++ md.fr ++ md.root.toList) st) h fun v h' => k (setO st o.dst v) h'
  | some (j, w) => (match (all[j]?).bind (·.dst) with
    | some c => (match evO (keepAt (rdsO all o ++ md.fr ++ md.root.toList) st) (.tmp c) with
      | some cv => (gateS cv w (runO P call base md i o (keepAt (rdsO all o ++ md.fr ++ md.root.toList) st) h fun v h' => v.bind fun v => some (some v, h')) (some ((none : Option SV), h))).bind fun r => k (setO st o.dst (some (ovS r.1))) r.2
      | none => none)
    | none => none)
def runD {R : Type} (P : Program) (call : CallT) (all : Array Oper) (base : Nat) : List (Nat × Oper × Md) → St → H → (St → H → Option R) → Option R
  | [], st, h, k => k st h
  | (i, o, md) :: l, st, h, k => stepK P call all base md i o st h fun st h => runD P call all base l st h k

def addU (l : List Nat) : List Nat → List Nat
  | [] => l
  | a :: r => if l.contains a then addU l r else addU (a :: l) r
def edgesO (o : Oper) : List Nat := (o.after.toList.filter (Region.binds .any ·)).map (·.on)
/-- what each operation must wait for, by whatever road -/
def ancTab : List Oper → List (List Nat) → List (List Nat)
  | [], t => t
  | o :: l, t => ancTab l (t ++ [(edgesO o).foldl (fun r e => addU (addU r [e]) (t.getD e [])) []])
def chase (ops : List Oper) : Nat → Nat → Nat
  | 0, t => t
  | n + 1, t => (match ops.find? (fun o => o.dst == some t) with
    | some o => (match o.op with
      | .fieldAddr _ (.tmp x) _ | .indexAddr _ (.tmp x) _ | .nilCheck (.tmp x) | .move (.tmp x) => chase ops n x
      | _ => t)
    | none => t)
/-- how each operation of a region is to be run -/
def mdsOf (ops : List Oper) : List (Nat × Oper × Md) :=
  let anc := ancTab ops []
  let un := fun i j => i != j && !(anc.getD i []).contains j && !(anc.getD j []).contains i
  let ix := ops.zipIdx.map fun x => (x.2, x.1)
  let m0 := ix.map fun x => (x.1, x.2, opMode x.2)
  let m1 := m0.map fun x => (x.1, x.2.1, if x.2.2 == 2 && !(m0.any fun y => un x.1 y.1 && y.2.2 != 0) then 3 else x.2.2)
  m1.map fun x => (x.1, x.2.1, {
    m := x.2.2
    hid := if x.2.2 == 0 then [] else (m1.filter fun y => y.2.2 == 2 && un x.1 y.1).map (·.1)
    fr := if x.2.2 == 3 then (m1.filter fun y => y.2.2 == 1 && un x.1 y.1).filterMap fun y => (match y.2.1.op with | .load _ (.tmp t) => some (chase ops ops.length t) | _ => none) else []
    root := if x.2.2 == 1 && (m1.any fun y => y.2.2 == 3 && un x.1 y.1) then (match x.2.1.op with | .load _ (.tmp t) => some (chase ops ops.length t) | _ => none) else none : Md })
def dstNot (l : List Nat) : Option Nat → Bool | none => true | some d => !l.contains d
/-- two operations that may change places -/
def indep (all : Array Oper) (x y : Nat × Oper × Md) : Bool :=
  x.1 != y.1 &&
  dstNot (rdsO all y.2.1 ++ y.2.2.fr ++ y.2.2.root.toList) x.2.1.dst && dstNot (rdsO all x.2.1 ++ x.2.2.fr ++ x.2.2.root.toList) y.2.1.dst && dstNot x.2.1.dst.toList y.2.1.dst &&
  (match x.2.2.m, y.2.2.m with
  | 0, _ | _, 0 => true
  | 1, 1 => true
  | 1, 2 => x.2.2.hid.contains y.1
  | 2, 1 => y.2.2.hid.contains x.1
  | 2, 2 => x.2.2.hid.contains y.1 && y.2.2.hid.contains x.1
  | 1, 3 => (match x.2.2.root with | some t => y.2.2.fr.contains t | none => false)
  | 3, 1 => (match y.2.2.root with | some t => x.2.2.fr.contains t | none => false)
  | 2, 3 => y.2.2.hid.contains x.1
  | 3, 2 => x.2.2.hid.contains y.1
  | _, _ => false)
def modeOk (o : Oper) (md : Md) : Bool :=
  match md.m with | 0 => opMode o == 0 | 1 => opMode o == 1 | 2 => opMode o == 2 | _ => true
def pairsOk (all : Array Oper) (anc : List (List Nat)) : List (Nat × Oper × Md) → Bool
  | [] => true
  | x :: l => l.all (fun y => (anc.getD y.1 []).contains x.1 || indep all x y) && modeOk x.2.1 x.2.2 && pairsOk all anc l
def okD (all : Array Oper) (ms : List (Nat × Oper × Md)) : Bool :=
  pairsOk all (ancTab all.toList []) ms && all.toList.zipIdx.all (fun x => (edgesO x.1).all fun e => Nat.blt e x.2)
def drawK {R : Type} (P : Program) (call : CallT) (ops : Array Oper) (st : St) (h : H) (k : St → H → Option R) : Option R :=
  if okD ops (mdsOf ops.toList) then
    runD P call ops h.next (mdsOf ops.toList) st (if (mdsOf ops.toList).any (fun x => x.2.2.m == 2) then { get := h.get, next := h.next + ops.size } else h) k
  else none

inductive Out where
  | normal
  | exit (id : Nat)
  | ret (v : SV)

abbrev X := Out × List SV × H
def coll (st : St) : Keep → List SV
  | [] => []
  | (i, _) :: l => (match st.get i with | some v => v | none => .undef) :: coll st l
def keepFor : List (Nat × Keep) → Nat → Keep
  | [], _ => []
  | (i, k) :: l, id => if id = i then k else keepFor l id
def fin (j : Join) (o : Out) (st : St) (h : H) : Option X :=
  match o with
  | .normal => some (.normal, coll st j.n, h)
  | .exit id => some (.exit id, coll st (keepFor j.e id), h)
  | .ret v => some (.ret v, [], h)
section
variable {R : Type}
def destr : Keep → List SV → St → (St → Option R) → Option R
  | [], vs, st, k => (match vs with | [] => k st | _ => none)
  | (i, s) :: ks, vs, st, k => (match vs with | v :: r => dsh s v fun x => destr ks r (st.set i (some x)) k | [] => none)
def exits (vs : List SV) (id : Nat) (k : Nat → List SV → Option R) : List (Nat × Keep) → Option R
  | [] => none
  | (i, _) :: l => if id = i then k i vs else exits vs id k l
def outc (o : Out) (kn : Option R) (ke : Nat → Option R) (kr : SV → Option R) : Option R :=
  match o with | .normal => kn | .exit id => ke id | .ret v => kr v
def aft (j : Join) (n : Nat) (k : Out → St → H → Option R) (r : X) : Option R :=
  outc r.1 (destr j.n r.2.1 (St.all n none) fun st => k .normal st r.2.2)
    (fun id => exits r.2.1 id (fun i vs => destr (keepFor j.e i) vs (St.all n none) fun st => k (.exit i) st r.2.2) j.e)
    (fun v => k (.ret v) (St.all 0 none) r.2.2)
def resL (P : Program) (st : St) (h : H) : List ResultVar → (List SV → Option R) → Option R
  | [], k => k []
  | .tmp t :: l, k => (match evO st (.tmp t) with | some v => resL P st h l fun vs => k (v :: vs) | none => none)
  | .cell a t :: l, k => v1 (evO st (.tmp a)) fun p => (match aggT P t, szT P t with
    | some true, some n => (pldn h n p).bind fun cs => resL P st h l fun vs => k (.agg cs :: vs)
    | some false, some _ => (pld h p).bind fun v => resL P st h l fun vs => k (.one v :: vs)
    | _, _ => none)
def resK (P : Program) (st : St) (h : H) (rs : List ResultVar) (k : SV → Option R) : Option R :=
  resL P st h rs fun vs => (match vs with | [v] => k v | vs => k (.tup vs))
end
/-- at most m rounds of a loop -/
def loopIt (f : St → H → (Out → St → H → Option X) → Option X) (ki : Keep) (j : Join) (n : Nat) : Nat → List SV → H → Option X
  | 0, _, _ => none
  | m + 1, vs, h => destr ki vs (St.all n none) fun st => f st h fun o st h => (match o with
    | .normal => loopIt f ki j n m (coll st ki) h
    | .exit id => fin j (.exit id) st h
    | .ret v => fin j (.ret v) st h)
def hl1 : Hint → Hint | .s x _ => x | .c _ x _ => x | .b _ x => x | .l _ _ x => x | .r x _ => x | .o => .o
def hl2 : Hint → Hint | .s _ y => y | .c _ _ y => y | .r _ y => y | _ => .o
def hjn : Hint → Option Join | .c q _ _ => q | .b q _ => q | _ => none

/-- the end of a loop over a function: which way it goes on -/
def endL {R : Type} (l : Nat) (h : H) (kn : H → Option R) (ke : Nat → H → Option R) (kr : H → Option R) : Option R :=
  match h.get l with
  | some (.loop .busy _ _ _ _ _ _ _ _) => none
  | some (.loop _ none _ _ _ _ _ _ _) => kn (h.put l none)
  | some (.loop _ (some (.exit id)) _ _ _ _ _ _ _) => ke id (h.put l none)
  | some (.loop _ (some .ret) _ _ _ _ _ _ _) => kr (h.put l none)
  | _ => none
/-- a round begins -/
def begR {R : Type} (l : Nat) (h : H) (k : H → Option R) : Option R :=
  match h.get l with
  | some (.loop .ready p f st ps asg body ga gb) => k (h.put l (some (.loop .busy p f st ps asg body ga gb)))
  | _ => none
/-- a round ends -/
def endR (l : Nat) (jump : Option Code) (h : H) : Option (SV × H) :=
  match h.get l with
  | some (.loop _ _ f st ps asg body ga gb) => some (.one (.bool jump.isNone), h.put l (some (.loop (if jump.isNone then .ready else .done) jump f st ps asg body ga gb)))
  | _ => none

def exec (P : Program) (call : CallT) (N : Nat) (res : Option (Array ResultVar)) : Code → Hint → St → H → {R : Type} → (Out → St → H → Option R) → Option R
  | .skip, _, st, h, _, k => k .normal st h
  | .region _ ops draw, _, st, h, _, k => if draw then drawK P call ops st h (fun st h => k .normal st h) else opsK P call ops (2 * ops.size + 2) none (ops.toList.zipIdx.map fun x => (x.2, x.1)) st h fun st h => k .normal st h
  | .seq a b, g, st, h, _, k => exec P call N res a (hl1 g) st h fun o st h => (match o with
    | .normal => exec P call N res b (hl2 g) st h k
    | .exit id => k (.exit id) st h
    | .ret v => k (.ret v) st h)
  | .cond c a b, g, st, h, _, k => (match (hjn g) with
    | none => v1 (evO st c) fun cv => condV cv (exec P call N res a (hl1 g) st h k) (exec P call N res b (hl2 g) st h k)
    | some j => v1 (evO st c) fun cv => (condV cv (exec P call N res a (hl1 g) st h (fin j)) (exec P call N res b (hl2 g) st h (fin j))).bind (aft j st.len k))
  | .block id c, g, st, h, _, k => (match (hjn g) with
    | none => exec P call N res c (hl1 g) st h fun o st h => (match o with
      | .normal => k .normal st h
      | .exit i => if i = id then k .normal st h else k (.exit i) st h
      | .ret v => k (.ret v) st h)
    | some j => (exec P call N res c (hl1 g) st h fun o st h => (match o with
      | .normal => fin j .normal st h
      | .exit i => if i = id then fin j .normal st h else fin j (.exit i) st h
      | .ret v => fin j (.ret v) st h)).bind (aft j st.len k))
  | .loop c, g, st, h, _, k => (match g with
    | .l ki j ga => (loopIt (fun st h k => exec P call N res c ga st h k) ki j st.len N (coll st ki) h).bind (aft j st.len k)
    | _ => none)
  | .exit id, _, st, h, _, k => k (.exit id) st h
  | .ret, _, st, h, _, k => (match res with
    | some rs => resK P st h rs.toList fun v => k (.ret v) st h
    | none => k (.ret .undef) st h)
  | .rangeFunc f ps asg body, g, st, h, _, k => (match res with
    | none => none
    | some rs => v1 (evO st f) fun fv => (callG call fv [.one (.func (.yield h.next) #[] #[])] (h.new (.loop .ready none 0 st ps asg body (hl1 g) (hl2 g)))).bind fun r => endL h.next r.2 (fun h => k .normal st h) (fun id h => k (.exit id) st h) (fun h => resK P st h rs.toList fun v => k (.ret v) st h))
  | _, _, _, _, _, _ => none

def setA (st : St) : Nat → List SV → St
  | _, [] => st
  | i, x :: l => setA (st.set i (some x)) (i + 1) l
def setPs (st : St) : List (Tmp × SV) → St
  | [] => st
  | (t, v) :: l => setPs (st.set t (some v)) l

def callF (P : Program) (hints : FuncId → Hint) (N : Nat) : Nat → CallT
  | 0, _, _, _ => none
  | d + 1, fn, args, h => (match fn with
    | .func f => (match P.funcs[f]? with
      | some fd => (match fd.body with
        | some c => exec P (callF P hints N d) N (some fd.results) c (hints f) (setA (St.all (max args.length fd.ntmps) (some .undef)) 0 args) h fun o st h => (match o with
          | .ret v => some (v, h)
          | .normal => resK P st h fd.results.toList fun v => some (v, h)
          | .exit _ => none)
        | none => none)
      | none => none)
    | .yield l => (match h.get l with
      | some (.loop .ready pend f st ps asg body ga gb) => if args.length = ps.size then
          exec P (callF P hints N d) N none asg ga (setPs st (ps.toList.zip args)) h fun o st1 h => (match o with
          | .normal => begR l h fun h => exec P (callF P hints N d) N none body gb st1 h fun o _ h => (match o with
            | .normal => endR l none h
            | .exit id => endR l (some (.exit id)) h
            | .ret _ => endR l (some .ret) h)
          | _ => none)
        else none
      | _ => none)
    | _ => none)
end Go.Wz
end
end
section
namespace Go.Wz

/-- where an abstract block lies: the block, the first cell, the size of an element (0: nobody appends), the block's cells -/
structure Loc where
  cb : Nat
  co : Nat
  esz : Nat
  csz : Nat
abbrev Inj := Nat → Option Loc
def Inj.le (ι ι' : Inj) : Prop := ∀ b L, ι b = some L → ι' b = some L
theorem Inj.le_refl (ι : Inj) : ι.le ι := fun _ _ h => h
theorem Inj.le_trans {a b c : Inj} (h : a.le b) (k : b.le c) : a.le c := fun x L e => k x L (h x L e)

mutual
inductive VR (ι : Inj) : Value → Value → Prop
  | bool (b : Bool) : VR ι (.bool b) (.bool b)
  | int (k : IntKind) (n : Int) : VR ι (.int k n) (.int k n)
  | string (s : ByteArray) : VR ι (.string s) (.string s)
  | nilFunc : VR ι .nilFunc .nilFunc
  | nilIface : VR ι .nilIface .nilIface
  | nilMap : VR ι (.map none) (.map none)
  | nilPtr : VR ι (.pointer none) (.pointer none)
  | nilSl : VR ι (.slice none 0 0) (.slice none 0 0)
  | ptr {b : Nat} {L : Loc} (o : Nat) (h : ι b = some L) : VR ι (.pointer (some ⟨b, o, none⟩)) (.pointer (some ⟨L.cb, L.co + o, none⟩))
  | sl {b : Nat} {L : Loc} (o n c : Nat) (h : ι b = some L) (hn : n ≤ c) (hc : o = 0 → L.co + c * L.esz ≤ L.csz) : VR ι (.slice (some ⟨b, o, none⟩) n 1) (.slice (some ⟨L.cb, L.co + o, none⟩) n c)
  | sl0 {b : Nat} (o : Nat) (a : Addr) : VR ι (.slice (some ⟨b, o, none⟩) 0 0) (.slice (some a) 0 0)
  | slE {b : Nat} (o cb co c : Nat) (ho : o ≠ 0) : VR ι (.slice (some ⟨b, o, none⟩) 0 1) (.slice (some ⟨cb, co, none⟩) 0 c)
  | func (f : FuncId) {xs ys xs' ys' : List Value} (hx : VRs ι xs xs') (hy : VRs ι ys ys') : VR ι (.func (.func f) ⟨xs⟩ ⟨ys⟩) (.func (.func f) ⟨xs'⟩ ⟨ys'⟩)
  | yield {l : Nat} {L : Loc} (h : ι l = some L) : VR ι (.func (.yield l) #[] #[]) (.func (.yield L.cb) #[] #[])
inductive VRs (ι : Inj) : List Value → List Value → Prop
  | nil : VRs ι [] []
  | cons {v v' : Value} {l l' : List Value} (h : VR ι v v') (t : VRs ι l l') : VRs ι (v :: l) (v' :: l')
end
mutual
theorem VR.mono {ι ι' : Inj} (hι : ι.le ι') {v v' : Value} (h : VR ι v v') : VR ι' v v' := by
  cases h with
  | bool b => exact .bool b
  | int k n => exact .int k n
  | string s => exact .string s
  | nilFunc => exact .nilFunc
  | nilIface => exact .nilIface
  | nilMap => exact .nilMap
  | nilPtr => exact .nilPtr
  | nilSl => exact .nilSl
  | ptr o h => exact .ptr o (hι _ _ h)
  | sl o n c h hn hc => exact .sl o n c (hι _ _ h) hn hc
  | sl0 o a => exact .sl0 o a
  | slE o cb co c ho => exact .slE o cb co c ho
  | func f hx hy => exact .func f (VRs.mono hι hx) (VRs.mono hι hy)
  | yield h => exact .yield (hι _ _ h)
theorem VRs.mono {ι ι' : Inj} (hι : ι.le ι') {v v' : List Value} (h : VRs ι v v') : VRs ι' v v' := by
  cases h with
  | nil => exact .nil
  | cons h t => exact .cons (VR.mono hι h) (VRs.mono hι t)
end
variable {P : Program} {ι ι' : Inj}
theorem VRs.length {l l' : List Value} (h : VRs ι l l') : l.length = l'.length := by
  induction l generalizing l' with
  | nil => cases h; rfl
  | cons a l ih => cases h with | cons h t => simp [ih t]
theorem VRs.get {l l' : List Value} (h : VRs ι l l') (i : Nat) {v : Value} (hv : l[i]? = some v) : ∃ v', l'[i]? = some v' ∧ VR ι v v' := by
  induction l generalizing l' i with
  | nil => simp at hv
  | cons a l ih =>
    cases h with
    | cons h t =>
      cases i with
      | zero => simp at hv; subst hv; exact ⟨_, rfl, h⟩
      | succ i => simpa using ih t i (by simpa using hv)
theorem VRs.append {a a' b b' : List Value} (h : VRs ι a a') (k : VRs ι b b') : VRs ι (a ++ b) (a' ++ b') := by
  induction a generalizing a' with
  | nil => cases h; exact k
  | cons x a ih => cases h with | cons h t => exact .cons h (ih t)
theorem VRs.take {a a' : List Value} (h : VRs ι a a') (n : Nat) : VRs ι (a.take n) (a'.take n) := by
  induction a generalizing a' n with
  | nil => cases h; simp; exact .nil
  | cons x a ih => cases h with | cons h t => cases n with | zero => exact .nil | succ n => exact .cons h (ih t n)
theorem VRs.drop {a a' : List Value} (h : VRs ι a a') (n : Nat) : VRs ι (a.drop n) (a'.drop n) := by
  induction a generalizing a' n with
  | nil => cases h; simp; exact .nil
  | cons x a ih => cases h with | cons h t => cases n with | zero => exact .cons h t | succ n => exact ih t n
theorem VRs.set {a a' : List Value} (h : VRs ι a a') (i : Nat) {v v' : Value} (hv : VR ι v v') : VRs ι (a.set i v) (a'.set i v') := by
  induction a generalizing a' i with
  | nil => cases h; exact .nil
  | cons x a ih => cases h with | cons h t => cases i with | zero => exact .cons hv t | succ i => exact .cons h (ih t i)
/-- a list of cells out of its places -/
theorem VRs.of_get {l l' : List Value} (hl : l.length = l'.length) (h : ∀ (i : Nat) v, l[i]? = some v → ∃ v', l'[i]? = some v' ∧ VR ι v v') : VRs ι l l' := by
  induction l generalizing l' with
  | nil => cases l' with | nil => exact .nil | cons => simp at hl
  | cons a l ih =>
    cases l' with
    | nil => simp at hl
    | cons b l' =>
      obtain ⟨v', e, hv⟩ := h 0 a rfl
      simp at e; subst e
      exact .cons hv (ih (by simpa using hl) fun i v hi => by simpa using h (i + 1) v (by simpa using hi))
theorem VR.plain {v : Value} (h : plain v = true) : VR ι v v := by
  unfold Wz.plain at h
  split at h
  all_goals first | exact .bool _ | exact .int _ _ | exact .string _ | exact .nilFunc | exact .nilPtr | exact .nilSl | exact .nilMap | exact .nilIface | simp at h
theorem VRs.plain {l : List Value} (h : l.all Wz.plain = true) : VRs ι l l := by
  induction l with
  | nil => exact .nil
  | cons a l ih => simp at h; exact .cons (VR.plain h.1) (ih (by simpa using h.2))
theorem VRs.replicate {v v' : Value} (h : VR ι v v') (n : Nat) : VRs ι (List.replicate n v) (List.replicate n v') := by
  induction n with
  | zero => exact .nil
  | succ n ih => exact .cons h ih
/-- what is one cell is no aggregate -/
theorem VR.cells {v v' : Value} (h : VR ι v v') : v'.cells = #[v'] := by cases h <;> rfl
theorem VR.notAgg {v v' : Value} (h : VR ι v v') : (∀ cs, v' ≠ .agg cs) ∧ (∀ cs, v' ≠ .tuple cs) := by cases h <;> simp

mutual
inductive SR (ι : Inj) : SV → Value → Prop
  | undef : SR ι .undef Go.undef
  | one {v v' : Value} (h : VR ι v v') : SR ι (.one v) v'
  | agg {cs cs' : List Value} (h : VRs ι cs cs') : SR ι (.agg cs) (.agg ⟨cs'⟩)
  | tup {vs : List SV} {vs' : List Value} (h : SRs ι vs vs') : SR ι (.tup vs) (.tuple ⟨vs'⟩)
inductive SRs (ι : Inj) : List SV → List Value → Prop
  | nil : SRs ι [] []
  | cons {v : SV} {v' : Value} {l : List SV} {l' : List Value} (h : SR ι v v') (t : SRs ι l l') : SRs ι (v :: l) (v' :: l')
end
mutual
theorem SR.mono (hι : ι.le ι') {v : SV} {v' : Value} (h : SR ι v v') : SR ι' v v' := by
  cases h with
  | undef => exact .undef
  | one h => exact .one (h.mono hι)
  | agg h => exact .agg (h.mono hι)
  | tup h => exact .tup (SRs.mono hι h)
theorem SRs.mono (hι : ι.le ι') {v : List SV} {v' : List Value} (h : SRs ι v v') : SRs ι' v v' := by
  cases h with
  | nil => exact .nil
  | cons h t => exact .cons (SR.mono hι h) (SRs.mono hι t)
end
theorem SRs.get {l : List SV} {l' : List Value} (h : SRs ι l l') (i : Nat) {v : SV} (hv : l[i]? = some v) : ∃ v', l'[i]? = some v' ∧ SR ι v v' := by
  induction l generalizing l' i with
  | nil => simp at hv
  | cons a l ih =>
    cases h with
    | cons h t =>
      cases i with
      | zero => simp at hv; subst hv; exact ⟨_, rfl, h⟩
      | succ i => simpa using ih t i (by simpa using hv)
theorem SRs.length {l : List SV} {l' : List Value} (h : SRs ι l l') : l.length = l'.length := by
  induction l generalizing l' with
  | nil => cases h; rfl
  | cons a l ih => cases h with | cons h t => simp [ih t]
theorem SRs.append {a b : List SV} {a' b' : List Value} (h : SRs ι a a') (k : SRs ι b b') : SRs ι (a ++ b) (a' ++ b') := by
  induction a generalizing a' with
  | nil => cases h; exact k
  | cons x a ih => cases h with | cons h t => exact .cons h (ih t)
theorem SRs.ones {l l' : List Value} (h : VRs ι l l') : SRs ι (l.map .one) l' := by
  induction l generalizing l' with
  | nil => cases h; exact .nil
  | cons a l ih => cases h with | cons h t => exact .cons (.one h) (ih t)

/-- the temporaries -/
structure TR (ι : Inj) (st : St) (tmps : Array Value) : Prop where
  size : tmps.size = st.len
  at_ : ∀ (i : Nat) sv, st.get i = some sv → SR ι sv (tmps.getD i Go.undef)
theorem TR.mono (hι : ι.le ι') {st : St} {tmps : Array Value} (h : TR ι st tmps) : TR ι' st tmps :=
  ⟨h.size, fun i sv e => (h.at_ i sv e).mono hι⟩
theorem getD_setIf {tmps : Array Value} {d i : Nat} {v : Value} : (tmps.setIfInBounds d v).getD i Go.undef = if i = d ∧ d < tmps.size then v else tmps.getD i Go.undef := by
  simp only [Array.getD_eq_getD_getElem?, Array.getElem?_setIfInBounds]
  by_cases h1 : d = i
  · subst h1
    by_cases h2 : d < tmps.size
    · simp [h2]
    · simp [h2, Array.getElem?_eq_none (Nat.le_of_not_lt h2)]
  · rw [if_neg h1, if_neg (by omega)]
theorem TR.set {st : St} {tmps : Array Value} (h : TR ι st tmps) (d : Nat) {sv : SV} {v : Value} (hv : SR ι sv v) : TR ι (st.set d (some sv)) (tmps.setIfInBounds d v) := by
  refine ⟨by simp [h.size, St.set_len], fun i sv' e => ?_⟩
  rw [St.get_set] at e
  rw [getD_setIf, h.size]
  split at e
  · rename_i hc
    rw [if_pos hc]; cases e; exact hv
  · rename_i hc
    rw [if_neg hc]; exact h.at_ i sv' e
theorem TR.forget {st : St} {tmps : Array Value} (h : TR ι st tmps) (d : Nat) (v : Value) : TR ι (st.set d none) (tmps.setIfInBounds d v) := by
  refine ⟨by simp [h.size, St.set_len], fun i sv' e => ?_⟩
  rw [St.get_set] at e
  rw [getD_setIf, h.size]
  split at e
  · cases e
  · rename_i hc
    rw [if_neg hc]; exact h.at_ i sv' e
/-- less is known -/
def St.le (a b : St) : Prop := a.len = b.len ∧ ∀ (i : Nat) sv, a.get i = some sv → b.get i = some sv
theorem TR.le {st st' : St} {tmps : Array Value} (h : TR ι st tmps) (hl : St.le st' st) : TR ι st' tmps :=
  ⟨by rw [h.size, hl.1], fun i sv e => h.at_ i sv (hl.2 i sv e)⟩
theorem TR.eval {st : St} {a : Act} (h : TR ι st a.tmps) {x : Operand} {sv : SV} (e : evO st x = some sv) : SR ι sv (a.eval x) := by
  cases x with
  | tmp t =>
    exact h.at_ t sv e
  | const v =>
    unfold evO at e
    split at e
    · simp_all
    · rename_i cs he
      cases he
      split at e
      · simp at e; subst e; exact .agg (VRs.plain ‹_›)
      · simp at e
    · rename_i v' _ he
      cases he
      split at e
      · simp at e; subst e; exact .one (VR.plain ‹_›)
      · simp at e
    · simp_all
    · simp_all
  | global g => simp [evO] at e
  | func f => simp [evO] at e; subst e; exact .one (.func f .nil .nil)

def Blk.wr : Blk → Bool
  | .cells _ _ own => own
  | .loop .. => true

/-- what a block of the abstract heap says of its block in memory -/
def BR (P : Program) (B : Nat) (ι : Inj) (L : Loc) (x : Blk) (w : World) : Prop :=
  match x with
  | .cells vs e own => ∃ (c : Array Value) (e' : TypeId) (fz : Nat × Nat), w.heap[L.cb]? = some (.cells c e' fz) ∧ L.co + vs.length ≤ c.size ∧ VRs ι vs ((c.toList.drop L.co).take vs.length) ∧
      (own = true → L.co = 0 ∧ e' = e ∧ fz = (0, 0) ∧ B ≤ L.cb ∧ c.size = L.csz ∧ L.esz = (szT P e).getD 0)
  | .loop s p f tmps ps asg body _ _ => B ≤ L.cb ∧ ∃ r : Loop, w.heap[L.cb]? = some (.loop r) ∧ r.state = s ∧ r.pending = p ∧ r.params = ps ∧ r.assign = asg ∧ r.body = body ∧ TR ι tmps r.tmps

structure Sim (P : Program) (B : Nat) (ι : Inj) (h : H) (w : World) : Prop where
  base : B ≤ w.heap.size
  dom : ∀ b, h.next ≤ b → ι b = none
  lt : ∀ b L, ι b = some L → L.cb < w.heap.size
  live : ∀ b x, h.get b = some x → ∃ L, ι b = some L ∧ BR P B ι L x w
  sep : ∀ b b' x x' L L', h.get b = some x → h.get b' = some x' → ι b = some L → ι b' = some L' → b ≠ b' → L.cb = L'.cb → x.wr = false ∧ x'.wr = false

structure Ext (P : Program) (B : Nat) (ι : Inj) (h : H) (w : World) (ι' : Inj) (h' : H) (w' : World) : Prop where
  le : ι.le ι'
  sim : Sim P B ι' h' w'
  nx : h.next ≤ h'.next
  size : w.heap.size ≤ w'.heap.size
  fr : ∀ cb, cb < w.heap.size → (∀ b x L, h.get b = some x → ι b = some L → x.wr = true → L.cb ≠ cb) → w'.heap[cb]? = w.heap[cb]?
  img : ∀ b x L, h'.get b = some x → ι' b = some L → x.wr = true → w.heap.size ≤ L.cb ∨ ∃ b0 x0 L0, h.get b0 = some x0 ∧ ι b0 = some L0 ∧ x0.wr = true ∧ L0.cb = L.cb
  ro : ∀ b x L, h'.get b = some x → ι' b = some L → x.wr = false → L.cb < w.heap.size → h.get b = some x
  old : ∀ b, b < h.next → ι' b = ι b
  os : w'.os = w.os
  tape : w'.tape = w.tape
  out : w'.output = w.output
theorem Ext.refl {B : Nat} {ι : Inj} {h : H} {w : World} (s : Sim P B ι h w) : Ext P B ι h w ι h w :=
  ⟨Inj.le_refl _, s, Nat.le_refl _, Nat.le_refl _, fun _ _ _ => rfl, fun b x L a b' c => .inr ⟨b, x, L, a, b', c, rfl⟩, fun _ _ _ a _ _ _ => a, fun _ _ => rfl, rfl, rfl, rfl⟩
theorem Ext.trans {B : Nat} {ι1 ι2 ι3 : Inj} {h1 h2 h3 : H} {w1 w2 w3 : World} (p : Ext P B ι1 h1 w1 ι2 h2 w2) (q : Ext P B ι2 h2 w2 ι3 h3 w3) : Ext P B ι1 h1 w1 ι3 h3 w3 where
  le := Inj.le_trans p.le q.le
  sim := q.sim
  nx := Nat.le_trans p.nx q.nx
  size := Nat.le_trans p.size q.size
  fr := fun cb hlt hn => by
    rw [q.fr cb (Nat.lt_of_lt_of_le hlt p.size) ?_, p.fr cb hlt hn]
    intro b x L hg hi hw he
    rcases p.img b x L hg hi hw with hh | ⟨b0, x0, L0, g0, i0, w0, e0⟩
    · omega
    · exact hn b0 x0 L0 g0 i0 w0 (e0.trans he)
  img := fun b x L hg hi hw => by
    rcases q.img b x L hg hi hw with hh | ⟨b0, x0, L0, g0, i0, w0, e0⟩
    · exact .inl (Nat.le_trans p.size hh)
    · rcases p.img b0 x0 L0 g0 i0 w0 with hh | ⟨b1, x1, L1, g1, i1, w1, e1⟩
      · exact .inl (e0 ▸ hh)
      · exact .inr ⟨b1, x1, L1, g1, i1, w1, e1.trans e0⟩
  ro := fun b x L hg hi hw hlt => by
    have h2 := q.ro b x L hg hi hw (Nat.lt_of_lt_of_le hlt p.size)
    obtain ⟨L2, e2, _⟩ := p.sim.live b x h2
    have e3 := q.le _ _ e2
    rw [hi] at e3; cases e3
    exact p.ro b x L h2 e2 hw hlt
  old := fun b hb => (q.old b (Nat.lt_of_lt_of_le hb p.nx)).trans (p.old b hb)
  os := q.os.trans p.os
  tape := q.tape.trans p.tape
  out := q.out.trans p.out
end Go.Wz
end
section
namespace Go.Wz
variable {P : Program} {B : Nat} {ι ι' : Inj} {h h' : H} {w w' : World}

theorem BR.keep {L : Loc} {x : Blk} (hb : BR P B ι L x w) (hι : ι.le ι') (hw : w'.heap[L.cb]? = w.heap[L.cb]?) : BR P B ι' L x w' := by
  cases x with
  | cells vs e own =>
    obtain ⟨c, e', fz, a, b, c', d⟩ := hb
    exact ⟨c, e', fz, hw.trans a, b, c'.mono hι, d⟩
  | loop s p f tmps ps asg body ha hb' =>
    obtain ⟨a, r, e, r1, r2, r3, r4, r5, t⟩ := hb
    exact ⟨a, r, hw.trans e, r1, r2, r3, r4, r5, t.mono hι⟩

theorem H.row_eq {b : Nat} {vs : List Value} (e : h.row b = some vs) : ∃ t own, h.get b = some (.cells vs t own) := by
  unfold H.row at e
  split at e
  · rename_i vs' t own he; simp at e; subst e; exact ⟨t, own, he⟩
  · simp at e

theorem Sim.cells (s : Sim P B ι h w) {b : Nat} {vs : List Value} (e : h.row b = some vs) {L : Loc} (hL : ι b = some L) :
    ∃ (c : Array Value) (t : TypeId) (fz : Nat × Nat), w.heap[L.cb]? = some (.cells c t fz) ∧ L.co + vs.length ≤ c.size ∧ VRs ι vs ((c.toList.drop L.co).take vs.length) := by
  obtain ⟨t, own, hg⟩ := H.row_eq e
  obtain ⟨L', e', hb⟩ := s.live b _ hg
  rw [hL] at e'; cases e'
  obtain ⟨c, t', fz, a, b', c', _⟩ := hb
  exact ⟨c, t', fz, a, b', c'⟩

theorem cell_of {L : Loc} {o : Nat} {c : Array Value} {t : TypeId} {fz : Nat × Nat} (hw : w.heap[L.cb]? = some (.cells c t fz)) : w.cell? ⟨L.cb, L.co + o, none⟩ = c[L.co + o]? := by
  simp [World.cell?, hw]

theorem Sim.ld (s : Sim P B ι h w) {b o : Nat} {v : Value} (e : h.ld b o = some v) {L : Loc} (hL : ι b = some L) : ∃ v', w.cell? ⟨L.cb, L.co + o, none⟩ = some v' ∧ VR ι v v' := by
  unfold H.ld at e
  rw [Option.bind_eq_some_iff] at e
  obtain ⟨vs, hr, hv⟩ := e
  obtain ⟨c, t, fz, a, b', c'⟩ := s.cells hr hL
  obtain ⟨v', h1, h2⟩ := c'.get o hv
  refine ⟨v', ?_, h2⟩
  rw [cell_of a]
  rw [List.getElem?_take] at h1
  split at h1
  · simpa [List.getElem?_drop] using h1
  · simp at h1

theorem Sim.ldn (s : Sim P B ι h w) {b o n : Nat} {vs : List Value} (e : h.ldn b o n = some vs) {L : Loc} (hL : ι b = some L) :
    ∃ vs' : List Value, vs'.length = n ∧ VRs ι vs vs' ∧ ∀ i, i < n → w.cell? ⟨L.cb, L.co + o + i, none⟩ = vs'[i]? := by
  unfold H.ldn at e
  rw [Option.bind_eq_some_iff] at e
  obtain ⟨us, hr, hv⟩ := e
  split at hv
  · rename_i hle
    simp at hv; subst hv
    obtain ⟨c, t, fz, a, b', c'⟩ := s.cells hr hL
    refine ⟨(((c.toList.drop L.co).take us.length).drop o).take n, ?_, (c'.drop o).take n, fun i hi => ?_⟩
    · simp; omega
    · rw [show L.co + o + i = L.co + (o + i) by omega, cell_of a]
      simp only [List.getElem?_take, List.getElem?_drop, Array.getElem?_toList]
      rw [if_pos hi, if_pos (by omega)]
  · simp at hv

/-- a new block -/
def Inj.add (ι : Inj) (b : Nat) (L : Loc) : Inj := fun i => if i = b then some L else ι i
theorem Inj.le_add {b : Nat} {L : Loc} (hb : ι b = none) : ι.le (ι.add b L) := by
  intro x M e
  unfold Inj.add
  split
  · subst_vars; rw [hb] at e; simp at e
  · exact e
theorem Inj.add_same {b : Nat} {L : Loc} : ι.add b L b = some L := by simp [Inj.add]
theorem Inj.add_ne {b i : Nat} {L : Loc} (hi : i ≠ b) : ι.add b L i = ι i := by simp [Inj.add, hi]

theorem heap_alloc_lt {o : Obj} {k : Nat} (hk : k < w.heap.size) : (w.alloc o).heap[k]? = w.heap[k]? := by
  show (w.heap.push o)[k]? = _
  rw [Array.getElem?_push, if_neg (Nat.ne_of_lt hk)]
theorem heap_alloc_at {o : Obj} : (w.alloc o).heap[w.heap.size]? = some o := by
  show (w.heap.push o)[w.heap.size]? = _
  simp

theorem Sim.new (s : Sim P B ι h w) (x : Blk) (o : Obj) (L : Loc) (hL : L.cb = w.heap.size)
    (hb : BR P B (ι.add h.next L) L x (w.alloc o)) : Ext P B ι h w (ι.add h.next L) (h.new x) (w.alloc o) := by
  have hn : ι h.next = none := s.dom _ (Nat.le_refl _)
  have hle := Inj.le_add (L := L) hn
  have hget : ∀ b y, (h.new x).get b = some y → (b = h.next ∧ y = x) ∨ (b ≠ h.next ∧ h.get b = some y) := by
    intro b y e
    simp only [H.new] at e
    split at e
    · simp at e; exact .inl ⟨‹_›, e.symm⟩
    · exact .inr ⟨‹_›, e⟩
  have hlt : ∀ b y, h.get b = some y → ∃ M, ι b = some M ∧ M.cb < w.heap.size ∧ (ι.add h.next L) b = some M := by
    intro b y e
    obtain ⟨M, e1, _⟩ := s.live b y e
    exact ⟨M, e1, s.lt b M e1, hle _ _ e1⟩
  refine ⟨hle, ⟨?_, ?_, ?_, ?_, ?_⟩, ?_, ?_, ?_, ?_, ?_, ?_, rfl, rfl, rfl⟩
  · have := s.base; simp; omega
  · intro b hb'
    have hb'' : h.next + 1 ≤ b := hb'
    rw [Inj.add_ne (by omega)]; exact s.dom b (by omega)
  · intro b M e
    by_cases hbn : b = h.next
    · subst hbn; rw [Inj.add_same] at e; cases e; simp [hL]
    · rw [Inj.add_ne hbn] at e; have := s.lt b M e; simp; omega
  · intro b y e
    rcases hget b y e with ⟨rfl, rfl⟩ | ⟨hne, hg⟩
    · exact ⟨L, Inj.add_same, hb⟩
    · obtain ⟨M, e1, hbr⟩ := s.live b y hg
      exact ⟨M, by rw [Inj.add_ne hne]; exact e1, hbr.keep hle (heap_alloc_lt (s.lt b M e1))⟩
  · intro b b' y y' M M' e e' i i' hne hcb
    rcases hget b y e with ⟨rfl, rfl⟩ | ⟨hb1, hg⟩ <;> rcases hget b' y' e' with ⟨rfl, rfl⟩ | ⟨hb2, hg'⟩
    · exact absurd rfl hne
    · rw [Inj.add_same] at i; cases i
      obtain ⟨N, e1, l1, e2⟩ := hlt b' y' hg'
      rw [e2] at i'; cases i'; omega
    · rw [Inj.add_same] at i'; cases i'
      obtain ⟨N, e1, l1, e2⟩ := hlt b y hg
      rw [e2] at i; cases i; omega
    · rw [Inj.add_ne hb1] at i; rw [Inj.add_ne hb2] at i'
      exact s.sep b b' y y' M M' hg hg' i i' hne hcb
  · simp [H.new]
  · simp
  · intro cb hcb _; exact heap_alloc_lt hcb
  · intro b y M e i hw
    rcases hget b y e with ⟨rfl, rfl⟩ | ⟨hne, hg⟩
    · rw [Inj.add_same] at i; cases i; exact .inl (by omega)
    · rw [Inj.add_ne hne] at i; exact .inr ⟨b, y, M, hg, i, hw, rfl⟩
  · intro b y M e i hw hlt'
    rcases hget b y e with ⟨rfl, rfl⟩ | ⟨hne, hg⟩
    · rw [Inj.add_same] at i; cases i; omega
    · exact hg
  · intro b hb'; exact Inj.add_ne (by omega)

theorem Sim.newCells (s : Sim P B ι h w) {cs : List Value} {c : Array Value} {e : TypeId} {esz : Nat} (he : esz = (szT P e).getD 0) (hl : cs.length ≤ c.size) (hv : VRs ι cs (c.toList.take cs.length)) :
    Ext P B ι h w (ι.add h.next ⟨w.heap.size, 0, esz, c.size⟩) (h.new (.cells cs e true)) (w.alloc (.cells c e)) :=
  s.new _ _ _ rfl ⟨c, e, (0, 0), heap_alloc_at, by simpa using hl, by simpa using hv.mono (Inj.le_add (s.dom _ (Nat.le_refl _))), fun _ => ⟨rfl, rfl, rfl, s.base, rfl, he⟩⟩

/-- a block that is written, in place -/
theorem Sim.upd (s : Sim P B ι h w) {b : Nat} {x x' : Blk} {L : Loc} (hg : h.get b = some x) (hL : ι b = some L) (hw : x.wr = true) (hx : x'.wr = true) (o : Obj)
    (hsz : w'.heap = w.heap.setIfInBounds L.cb o) (ht : w'.tape = w.tape) (hos : w'.os = w.os) (hout : w'.output = w.output)
    (hb : BR P B ι L x' w') : Ext P B ι h w ι (h.put b (some x')) w' := by
  have hget : ∀ i y, (h.put b (some x')).get i = some y → (i = b ∧ y = x') ∨ (i ≠ b ∧ h.get i = some y) := by
    intro i y e
    simp only [H.put] at e
    split at e
    · simp at e; exact .inl ⟨‹_›, e.symm⟩
    · exact .inr ⟨‹_›, e⟩
  have hsame : ∀ k, k ≠ L.cb → w'.heap[k]? = w.heap[k]? := by
    intro k hk; rw [hsz]; simp [Ne.symm hk]
  refine ⟨Inj.le_refl _, ⟨?_, s.dom, ?_, ?_, ?_⟩, Nat.le_refl _, ?_, ?_, ?_, ?_, fun _ _ => rfl, hos, ht, hout⟩
  · have := s.base; rw [hsz]; simpa using this
  · intro i M e; rw [hsz]; simpa using s.lt i M e
  · intro i y e
    rcases hget i y e with ⟨rfl, rfl⟩ | ⟨hne, hgi⟩
    · exact ⟨L, hL, hb⟩
    · obtain ⟨M, e1, hbr⟩ := s.live i y hgi
      refine ⟨M, e1, hbr.keep (Inj.le_refl _) (hsame _ fun hcb => ?_)⟩
      have := (s.sep i b y x M L hgi hg e1 hL hne hcb).2
      rw [hw] at this; cases this
  · intro i j y y' M M' e e' a a' hne hcb
    rcases hget i y e with ⟨rfl, rfl⟩ | ⟨hi, hgi⟩ <;> rcases hget j y' e' with ⟨rfl, rfl⟩ | ⟨hj, hgj⟩
    · exact absurd rfl hne
    · have := (s.sep i j x y' M M' hg hgj a a' hne hcb).1; rw [hw] at this; cases this
    · have := (s.sep i j y x M M' hgi hg a a' hne hcb).2; rw [hw] at this; cases this
    · exact s.sep i j y y' M M' hgi hgj a a' hne hcb
  · rw [hsz]; simp
  · intro cb hcb hn
    exact hsame cb fun hk => hn b x L hg hL hw hk.symm
  · intro i y M e a hwy
    rcases hget i y e with ⟨rfl, rfl⟩ | ⟨hne, hgi⟩
    · rw [hL] at a; cases a; exact .inr ⟨i, x, L, hg, hL, hw, rfl⟩
    · exact .inr ⟨i, y, M, hgi, a, hwy, rfl⟩
  · intro i y M e a hwy _
    rcases hget i y e with ⟨rfl, rfl⟩ | ⟨hne, hgi⟩
    · rw [hx] at hwy; cases hwy
    · exact hgi

/-- a block that is given up -/
theorem Sim.kill (s : Sim P B ι h w) (b : Nat) : Ext P B ι h w ι (h.put b none) w := by
  have hget : ∀ i y, (h.put b none).get i = some y → h.get i = some y := by
    intro i y e; simp only [H.put] at e; split at e <;> simp_all
  exact ⟨Inj.le_refl _, ⟨s.base, s.dom, s.lt, fun i y e => s.live i y (hget i y e), fun i j y y' M M' e e' => s.sep i j y y' M M' (hget _ _ e) (hget _ _ e')⟩,
    Nat.le_refl _, Nat.le_refl _, fun _ _ _ => rfl, fun i y M e a hw => .inr ⟨i, y, M, hget _ _ e, a, hw, rfl⟩, fun i y M e _ _ _ => hget _ _ e, fun _ _ => rfl, rfl, rfl, rfl⟩

theorem splice_length (vs : List Value) (o : Nat) (xs : List Value) (hl : o + xs.length ≤ vs.length) : (splice vs o xs).length = vs.length := by
  simp [splice]; omega

/-- a block that is written in place and told anew, under another number -/
theorem Sim.move (s : Sim P B ι h w) {b : Nat} {x x' : Blk} {L L' : Loc} (hg : h.get b = some x) (hL : ι b = some L) (hw : x.wr = true) (hx : x'.wr = true) (hcb : L'.cb = L.cb) (o : Obj)
    (hsz : w'.heap = w.heap.setIfInBounds L.cb o) (ht : w'.tape = w.tape) (hos : w'.os = w.os) (hout : w'.output = w.output)
    (hb : BR P B (ι.add h.next L') L' x' w') : Ext P B ι h w (ι.add h.next L') ((h.put b none).new x') w' := by
  have hn : ι h.next = none := s.dom _ (Nat.le_refl _)
  have hle := Inj.le_add (L := L') hn
  have hget : ∀ i y, ((h.put b none).new x').get i = some y → (i = h.next ∧ y = x') ∨ (i ≠ h.next ∧ i ≠ b ∧ h.get i = some y) := by
    intro i y e
    replace e : (if i = h.next then some x' else if i = b then none else h.get i) = some y := e
    by_cases h1 : i = h.next
    · rw [if_pos h1] at e; simp at e; exact .inl ⟨h1, e.symm⟩
    · rw [if_neg h1] at e
      by_cases h2 : i = b
      · rw [if_pos h2] at e; simp at e
      · rw [if_neg h2] at e; exact .inr ⟨h1, h2, e⟩
  have hsame : ∀ k, k ≠ L.cb → w'.heap[k]? = w.heap[k]? := by
    intro k hk; rw [hsz]; simp [Ne.symm hk]
  have hoth : ∀ i y M, h.get i = some y → i ≠ b → ι i = some M → M.cb ≠ L.cb := by
    intro i y M hgi hne e1 he
    have := (s.sep i b y x M L hgi hg e1 hL hne he).2
    rw [hw] at this; cases this
  refine ⟨hle, ⟨?_, ?_, ?_, ?_, ?_⟩, ?_, ?_, ?_, ?_, ?_, ?_, hos, ht, hout⟩
  · have := s.base; rw [hsz]; simpa using this
  · intro i hi
    have hi' : h.next + 1 ≤ i := hi
    rw [Inj.add_ne (by omega)]; exact s.dom i (by omega)
  · intro i M e
    rw [hsz]
    by_cases hbn : i = h.next
    · subst hbn; rw [Inj.add_same] at e; cases e; have := s.lt b L hL; simp; omega
    · rw [Inj.add_ne hbn] at e; simpa using s.lt i M e
  · intro i y e
    rcases hget i y e with ⟨rfl, rfl⟩ | ⟨hne, hnb, hgi⟩
    · exact ⟨L', Inj.add_same, hb⟩
    · obtain ⟨M, e1, hbr⟩ := s.live i y hgi
      exact ⟨M, by rw [Inj.add_ne hne]; exact e1, hbr.keep hle (hsame _ (hoth i y M hgi hnb e1))⟩
  · intro i j y y' M M' e e' a a' hne hcc
    rcases hget i y e with ⟨rfl, rfl⟩ | ⟨hi, hib, hgi⟩ <;> rcases hget j y' e' with ⟨rfl, rfl⟩ | ⟨hj, hjb, hgj⟩
    · exact absurd rfl hne
    · rw [Inj.add_same] at a; cases a; rw [Inj.add_ne hj] at a'
      exact absurd (hcc.symm.trans hcb) (hoth j y' M' hgj hjb a')
    · rw [Inj.add_same] at a'; cases a'; rw [Inj.add_ne hi] at a
      exact absurd (hcc.trans hcb) (hoth i y M hgi hib a)
    · rw [Inj.add_ne hi] at a; rw [Inj.add_ne hj] at a'
      exact s.sep i j y y' M M' hgi hgj a a' hne hcc
  · simp [H.new, H.put]
  · rw [hsz]; simp
  · intro cb hlt hnn
    exact hsame cb fun hk => hnn b x L hg hL hw hk.symm
  · intro i y M e a hwy
    rcases hget i y e with ⟨rfl, rfl⟩ | ⟨hi, hib, hgi⟩
    · rw [Inj.add_same] at a; cases a; exact .inr ⟨b, x, L, hg, hL, hw, hcb.symm⟩
    · rw [Inj.add_ne hi] at a; exact .inr ⟨i, y, M, hgi, a, hwy, rfl⟩
  · intro i y M e a hwy _
    rcases hget i y e with ⟨rfl, rfl⟩ | ⟨hi, hib, hgi⟩
    · rw [hx] at hwy; cases hwy
    · exact hgi
  · intro i hi; exact Inj.add_ne (by omega)

/-- a draw changes nothing -/
theorem Sim.drew (s : Sim P B ι h w) (n : Nat) : Ext P B ι h w ι h (w.drewN n) :=
  ⟨Inj.le_refl _, ⟨s.base, s.dom, s.lt, fun b x e => let ⟨L, a, c⟩ := s.live b x e; ⟨L, a, c.keep (Inj.le_refl _) rfl⟩, s.sep⟩, Nat.le_refl _, Nat.le_refl _, fun _ _ _ => rfl,
    fun i y M e a hw => .inr ⟨i, y, M, e, a, hw, rfl⟩, fun i y M e _ _ _ => e, fun _ _ => rfl, rfl, rfl, rfl⟩
end Go.Wz
end
section
namespace Go.Wz
variable {B : Nat} {ι ι' : Inj} {h h' : H} {w w' : World} {P : Program} {R : Type}

theorem v1_some {x : Option SV} {k : Value → Option R} {r : R} (e : v1 x k = some r) : ∃ v, x = some (.one v) ∧ k v = some r := by
  cases x with
  | none => simp [v1] at e
  | some s => cases s <;> simp [v1, un1] at e; exact ⟨_, rfl, e⟩
theorem vA_some {x : Option SV} {k : List Value → Option R} {r : R} (e : vA x k = some r) : ∃ v, x = some (.agg v) ∧ k v = some r := by
  cases x with
  | none => simp [vA] at e
  | some s => cases s <;> simp [vA, unA] at e; exact ⟨_, rfl, e⟩
theorem vs1_some {xs : List (Option SV)} : ∀ {k : List Value → Option R} {r : R}, vs1 xs k = some r → ∃ l : List Value, xs = l.map (fun v => some (.one v)) ∧ k l = some r := by
  induction xs with
  | nil => intro k r e; exact ⟨[], rfl, e⟩
  | cons x xs ih =>
    intro k r e
    obtain ⟨v, hv, e⟩ := v1_some e
    obtain ⟨l, hl, e⟩ := ih e
    exact ⟨v :: l, by simp [hv, hl], e⟩
theorem vsv_some {xs : List (Option SV)} : ∀ {k : List SV → Option R} {r : R}, vsv xs k = some r → ∃ l : List SV, xs = l.map some ∧ k l = some r := by
  induction xs with
  | nil => intro k r e; exact ⟨[], rfl, e⟩
  | cons x xs ih =>
    intro k r e
    unfold vsv at e
    split at e
    · rename_i h; simp at h
    · rename_i x' r' h
      simp at h
      obtain ⟨rfl, rfl⟩ := h
      obtain ⟨l, hl, e⟩ := ih e
      exact ⟨_ :: l, by simp [hl], e⟩
    · simp at e
theorem vc_some {x : Option SV} {k : List Value → Option R} {r : R} (e : vc x k = some r) : (∃ v, x = some (.one v) ∧ k [v] = some r) ∨ (∃ cs, x = some (.agg cs) ∧ k cs = some r) := by
  unfold vc at e; split at e
  · exact .inl ⟨_, rfl, e⟩
  · exact .inr ⟨_, rfl, e⟩
  · simp at e

/-- What is known of what an operation leaves. -/
def OR (ι : Inj) (v : Option SV) (x : Value) : Prop := ∀ sv, v = some sv → SR ι sv x
def OpWp (F : Fence) (P : Program) (o : Oper) (a : Act) (w : World) (Post : Value → World → Prop) : Prop :=
  ∀ (next : Act → World → Prop) (Q : Exit → Act → World → Prop), (∀ x w', Post x w' → next (a.put o.dst x) w') → o.wpIn F 0 P a w next Q
structure Wide (F : Fence) : Prop where
  fn : ∀ f, F.fn f
  depth : F.depth = none
theorem semAt_of {F : Fence} {o : Oper} {ρ : Operand → Value} (hd : ∀ c, o.op ≠ .defer c) : o.semAt F.round ρ = execOp ρ o := Oper.semAt_eq _ ρ o hd
theorem OpWp.value {F : Fence} (hF : Wide F) {o : Oper} {a : Act} {x : Value} {Post : Value → World → Prop} (hd : ∀ c, o.op ≠ .defer c)
    (hr : (execOp a.eval o).run P w = .ok (.value x) w') (hp : Post x w') : OpWp F P o a w Post := fun next Q hn =>
  ⟨fun f _ => hF.fn f, by rw [semAt_of hd, hr]; exact hn _ _ hp⟩
theorem OpWp.skip {F : Fence} (hF : Wide F) {o : Oper} {a : Act} {Post : Value → World → Prop} (hd : ∀ c, o.op ≠ .defer c)
    (hr : (execOp a.eval o).run P w = .ok .skip w') (hp : Post Go.undef w') : OpWp F P o a w Post := fun next Q hn =>
  ⟨fun f _ => hF.fn f, by rw [semAt_of hd, hr]; exact hn _ _ hp⟩

/-! ### Types -/
theorem run_ti {t : TypeId} {i : TypeInfo} (e : P.info? t = some i) : (typeInfo t).run P w = .ok i w := by simp [typeInfo, e]
theorem run_un {t : TypeId} {d : TypeDesc} (e : P.underlying t = some d) : (underlying t).run P w = .ok d w := by simp [underlying, e]
theorem run_sz {t : TypeId} {n : Nat} (e : szT P t = some n) : (sizeOf t).run P w = .ok n w := by
  simp only [szT, Option.map_eq_some_iff] at e
  obtain ⟨i, hi, rfl⟩ := e
  simp [sizeOf, run_ti hi]
theorem run_ag {t : TypeId} {b : Bool} (e : aggT P t = some b) : (isAgg t).run P w = .ok b w := by
  simp only [aggT, Option.map_eq_some_iff] at e
  obtain ⟨d, hd, rfl⟩ := e
  simp only [isAgg, Sem.run_bind, run_un hd, Result.andThen_ok]
  cases d <;> rfl
theorem run_zero {t : TypeId} {cs : List Value} (e : zeroC P t = some cs) : ∃ z : Value, (∀ w, (zeroValue t).run P w = .ok z w) ∧ z.cells = ⟨cs⟩ ∧ VRs ι cs cs := by
  unfold zeroC at e
  cases hi : P.info? t with
  | none => simp [hi] at e
  | some i =>
    cases hz : i.zero with
    | none => simp [hi, hz] at e
    | some z =>
      refine ⟨z, fun w => by simp [zeroValue, run_ti hi, hz], ?_⟩
      simp only [hi, hz, Option.bind_some] at e
      split at e
      · rename_i cs' he
        cases he
        split at e
        · simp at e; subst e; exact ⟨rfl, VRs.plain ‹_›⟩
        · simp at e
      · rename_i v hne he
        cases he
        split at e
        · rename_i hp
          simp at e; subst e
          exact ⟨(VR.plain (ι := ι) hp).cells, .cons (VR.plain hp) .nil⟩
        · simp at e
      · simp at e

/-! ### Reading and writing memory -/
theorem addr_add (b o n : Nat) : (⟨b, o, none⟩ : Addr).add n = ⟨b, o + n, none⟩ := by unfold Addr.add; split <;> simp_all
theorem VR.one' {v v' : Value} (h : VR ι v v') : v'.oneCell' = true := by cases h <;> rfl
theorem VRs.one' {l l' : List Value} (h : VRs ι l l') : ∀ v ∈ l', v.oneCell' = true := by
  induction l generalizing l' with
  | nil => cases h; simp
  | cons a l ih => cases h with | cons h t => intro v hv; exact (List.mem_cons.1 hv).elim (fun e => e ▸ h.one') (ih t v)

theorem pld_ok (s : Sim P B ι h w) {p p' v : Value} (hp : VR ι p p') (e : pld h p = some v) : ∃ a v', p' = .pointer (some a) ∧ (load a).run P w = .ok v' w ∧ VR ι v v' := by
  unfold pld at e
  split at e
  · cases hp with
    | ptr o hL =>
      obtain ⟨v', h1, h2⟩ := s.ld e hL
      exact ⟨_, v', rfl, by simp [h1], h2⟩
  · simp at e
theorem ldn_ok (s : Sim P B ι h w) {b o n : Nat} {vs : List Value} (e : h.ldn b o n = some vs) {L : Loc} (hL : ι b = some L) :
    ∃ vs' : List Value, vs'.length = n ∧ VRs ι vs vs' ∧ ∀ k, (loadCells ⟨L.cb, L.co + o, none⟩ n).run P (w.drewN k) = .ok ⟨vs'⟩ (w.drewN k) := by
  obtain ⟨vs', hl, hv, hc⟩ := s.ldn e hL
  refine ⟨vs', hl, hv, fun k => ?_⟩
  have := run_loadCells_list (P := P) (w.drewN k) ⟨L.cb, L.co + o, none⟩ vs' (fun j v hj => by
    rw [addr_add]; show w.cell? _ = _
    rw [hc j (by have := (List.getElem?_eq_some_iff.1 hj).1; omega)]; exact hj)
  rw [hl] at this
  exact this
theorem pldn_ok (s : Sim P B ι h w) {n : Nat} {p p' : Value} {vs : List Value} (hp : VR ι p p') (e : pldn h n p = some vs) :
    ∃ a vs', p' = .pointer (some a) ∧ vs'.length = n ∧ (loadCells a n).run P w = .ok ⟨vs'⟩ w ∧ VRs ι vs vs' := by
  unfold pldn at e
  split at e
  · cases hp with
    | ptr o hL =>
      obtain ⟨vs', hl, hv, hr⟩ := ldn_ok (P := P) s e hL
      exact ⟨_, vs', rfl, hl, hr 0, hv⟩
  · simp at e

theorem setRow_heap_eq (w : World) (g : Nat) (c : Array Value) (t : TypeId) (cur : Array Value) (hg : w.heap[g]? = some (.cells cur t (0, 0))) :
    (w.setRow g c).heap = w.heap.setIfInBounds g (.cells c t (0, 0)) := by
  have hlt := (Array.getElem?_eq_some_iff.1 hg).1
  apply Array.ext_getElem?
  intro i
  have := setRow_heap w g cur c t (0, 0) hg
  by_cases hi : i = g
  · subst hi; rw [this]; simp [hlt]
  · have h2 : (w.setRow g c).heap[i]? = w.heap[i]? := by
      simp only [World.setRow]
      first
        | (rw [Array.getElem?_modify]; simp [Ne.symm hi])
        | simp [Ne.symm hi]
    rw [h2]; simp [Ne.symm hi]

/-- cells are written, one after the other -/
theorem Sim.stn (s : Sim P B ι h w) {b o : Nat} {xs xs' : List Value} (e : h.stn b o xs = some h') {L : Loc} (hL : ι b = some L) (hx : VRs ι xs xs') :
    ∃ w', (storeCells ⟨L.cb, L.co + o, none⟩ xs').run P w = .ok () w' ∧ Ext P B ι h w ι h' w' := by
  unfold H.stn at e
  split at e
  · rename_i vs t hg
    split at e
    · rename_i hle
      simp at e; subst e
      obtain ⟨L', e', hb⟩ := s.live b _ hg
      rw [hL] at e'; cases e'
      obtain ⟨c, t', fz, hw, hlen, hv, hown⟩ := hb
      obtain ⟨hco, ht, hf, hB, hcs, hes⟩ := hown rfl
      obtain ⟨rfl⟩ : t = t' := ht.symm
      subst hf
      have hl := hx.length
      have hvl : vs.length ≤ c.size := by omega
      have hst := run_storeCells_at (P := P) L.cb (L.co + o) t xs' 0 c w hw (by omega) hx.one'
      refine ⟨_, hst, s.upd hg hL rfl rfl _ (setRow_heap_eq w L.cb _ t c hw) rfl rfl rfl ?_⟩
      refine ⟨_, _, (0, 0), setRow_heap w L.cb c _ t (0, 0) hw, ?_, ?_, fun _ => ⟨hco, rfl, rfl, hB, ?_, hes⟩⟩
      · simp [hco, splice_length vs o xs hle]; omega
      · rw [hco] at hv
        simp only [hco, Nat.zero_add, Nat.add_zero, List.drop_zero, splice_length vs o xs hle] at hv ⊢
        have e2 : ((c.toList.take o ++ xs' ++ c.toList.drop (o + xs'.length))).take vs.length = splice (c.toList.take vs.length) o xs' := by
          unfold splice
          rw [List.take_append, List.take_append]
          simp only [List.length_append, List.length_take, Array.length_toList]
          rw [List.take_take, List.take_of_length_le (l := xs') (by omega), List.take_take, List.drop_take]
          congr 2
          · congr 1; omega
          · congr 1; omega
        simp only [e2]
        unfold splice
        exact ((hv.take o).append hx).append (by rw [hl]; exact hv.drop _)
      · rw [← hcs]; simp; omega
    · simp at e
  · simp at e

theorem splice_one (vs : List Value) (o : Nat) (v : Value) (ho : o < vs.length) : splice vs o [v] = vs.set o v := by
  simp [splice, List.set_eq_take_append_cons_drop, ho]
theorem H.st_stn {b o : Nat} {v : Value} : h.st b o v = h.stn b o [v] := by
  unfold H.st H.stn
  split
  · rename_i vs e hg
    simp only [List.length_singleton]
    by_cases hlt : o < vs.length
    · rw [if_pos hlt, if_pos (by omega), splice_one vs o v hlt]
    · rw [if_neg hlt, if_neg (by omega)]
  · rfl
theorem pst_ok (s : Sim P B ι h w) {p p' x x' : Value} (hp : VR ι p p') (hx : VR ι x x') (e : pst h x p = some h') :
    ∃ a w', p' = .pointer (some a) ∧ (storeCells a [x']).run P w = .ok () w' ∧ Ext P B ι h w ι h' w' := by
  unfold pst at e
  split at e
  · cases hp with
    | ptr o hL =>
      rw [H.st_stn] at e
      obtain ⟨w', h1, h2⟩ := s.stn (P := P) e hL (.cons hx .nil)
      exact ⟨_, w', rfl, h1, h2⟩
  · simp at e
theorem pstn_ok (s : Sim P B ι h w) {p p' : Value} {xs xs' : List Value} (hp : VR ι p p') (hx : VRs ι xs xs') (e : pstn h xs p = some h') :
    ∃ a w', p' = .pointer (some a) ∧ (storeCells a xs').run P w = .ok () w' ∧ Ext P B ι h w ι h' w' := by
  unfold pstn at e
  split at e
  · cases hp with
    | ptr o hL =>
      obtain ⟨w', h1, h2⟩ := s.stn (P := P) e hL hx
      exact ⟨_, w', rfl, h1, h2⟩
  · simp at e
end Go.Wz
end
section
namespace Go.Wz
variable {B : Nat} {ι ι' : Inj} {h h' : H} {w w' : World} {P : Program}

theorem VR.slice_inv {a : Option Addr} {n c : Nat} {v' : Value} (hv : VR ι (.slice a n c) v') : ∃ a' c', v' = .slice a' n c' ∧ n ≤ c' := by
  cases hv with
  | nilSl => exact ⟨_, _, rfl, Nat.le_refl _⟩
  | sl o n c h hn hc => exact ⟨_, _, rfl, hn⟩
  | sl0 o a => exact ⟨_, _, rfl, Nat.le_refl _⟩
  | slE o cb co c ho => exact ⟨_, _, rfl, Nat.zero_le _⟩

theorem els_ok (s : Sim P B ι h w) {size : Nat} {x x' : Value} {cs : List Value} (hx : VR ι x x') (e : h.els size x = some cs) :
    ∃ m a' c' cs', x' = .slice a' m c' ∧ slen x = some m ∧ cs'.length = m * size ∧ VRs ι cs cs' ∧ ∀ k, (Builtin.firstCells size m x').run P (w.drewN k) = .ok ⟨cs'⟩ (w.drewN k) := by
  unfold H.els at e
  split at e
  · simp at e; subst e
    cases hx with
    | nilSl => exact ⟨0, _, _, [], rfl, rfl, by simp, .nil, fun _ => rfl⟩
  · rename_i b o n c
    split at e
    · rename_i hn0
      subst hn0
      simp at e; subst e
      cases hx with
      | sl _ _ _ hL hn hc => exact ⟨0, _, _, [], rfl, rfl, by simp, .nil, by simp [Builtin.firstCells, loadCells, loadCellsFrom]⟩
      | sl0 _ a => exact ⟨0, _, _, [], rfl, rfl, by simp, .nil, by simp [Builtin.firstCells, loadCells, loadCellsFrom]⟩
      | slE _ cb co c ho => exact ⟨0, _, _, [], rfl, rfl, by simp, .nil, by simp [Builtin.firstCells, loadCells, loadCellsFrom]⟩
    · rename_i hn0
      cases hx with
      | sl _ _ _ hL hn hc =>
        obtain ⟨vs', hl, hv, hr⟩ := ldn_ok (P := P) s e hL
        exact ⟨n, _, _, vs', rfl, rfl, hl, hv, by simpa [Builtin.firstCells] using hr⟩
      | sl0 _ a => exact absurd rfl hn0
      | slE _ cb co c ho => exact absurd rfl hn0
  · simp at e

structure ElemInfo (P : Program) (t e : TypeId) (size bytes : Nat) : Prop where
  ht : P.underlying t = some (.slice e)
  hs : szT P e = some size
  hb : (P.info? e).map (·.bytes) = some bytes
theorem ElemInfo.info {t e : TypeId} {size bytes : Nat} (hE : ElemInfo P t e size bytes) : ∃ i, P.info? e = some i ∧ i.size = size ∧ i.bytes = bytes := by
  have h1 := hE.hs; have h2 := hE.hb
  simp only [szT, Option.map_eq_some_iff] at h1 h2
  obtain ⟨i, hi, a⟩ := h1
  obtain ⟨j, hj, b⟩ := h2
  rw [hi] at hj; cases hj
  exact ⟨i, hi, a, b⟩

theorem run_app_in {t0 t1 ty e e1 : TypeId} {size bytes : Nat} (hE : ElemInfo P t0 e size bytes) (h1 : P.underlying t1 = some (.slice e1)) {a a' : Option Addr} {n c m c' : Nat} {cs : List Value}
    (hf : (Builtin.firstCells size m (.slice a' m c')).run P w = .ok ⟨cs⟩ w) (hle : n + m ≤ c)
    (hst : (match a with | some a => storeCells (a.add (n * size)) cs | none => pure ()).run P w = .ok () w') :
    (Builtin.append_ #[t0, t1] ty #[.slice a n c, .slice a' m c']).run P w = .ok (.slice a (n + m) c) w' := by
  cases a with
  | none =>
    simp at hst; subst hst
    simp [Builtin.append_, run_un hE.ht, run_un h1, run_sz hE.hs, Builtin.lenOf, hle, hf]
  | some a =>
    simp at hst
    simp [Builtin.append_, run_un hE.ht, run_un h1, run_sz hE.hs, Builtin.lenOf, hle, hf, hst]

theorem run_app_grow {t0 t1 ty e e1 : TypeId} {size bytes : Nat} (hE : ElemInfo P t0 e size bytes) (h1 : P.underlying t1 = some (.slice e1)) {z : Value} (hz : ∀ w, (zeroValue e).run P w = .ok z w) {a a' : Option Addr} {n c m c' : Nat} {cs old : List Value}
    (hf : (Builtin.firstCells size m (.slice a' m c')).run P w.drew = .ok ⟨cs⟩ w.drew) (ho : (Builtin.firstCells size n (.slice a n c)).run P w.drew = .ok ⟨old⟩ w.drew)
    (hlt : c < n + m) (hsm : n + m ≤ 2 ^ 30) (hby : bytes ≤ 2 ^ 16) (hb0 : 1 ≤ bytes) :
    ∃ cap rest, n + m ≤ cap ∧ rest.size = (cap - (n + m)) * z.cells.size ∧
      (Builtin.append_ #[t0, t1] ty #[.slice a n c, .slice a' m c']).run P w = .ok (.slice (some ⟨w.heap.size, 0, none⟩) (n + m) cap) (w.drew.alloc (.cells ((⟨old⟩ : Array Value) ++ ((⟨cs⟩ : Array Value) ++ rest)) e)) := by
  obtain ⟨i, hi, rfl, rfl⟩ := hE.info
  have hcap := nextslicecap_le hlt
  have hroom : ¬ (2 ^ 48 < Builtin.nextslicecap (n + m) c * i.bytes) := by
    have : Builtin.nextslicecap (n + m) c * i.bytes ≤ (2 * 2 ^ 30) * 2 ^ 16 := Nat.mul_le_mul (by omega) hby
    omega
  have hfc : (Question.appendCap (n + m) c e).forced = false := rfl
  let cp := (Question.appendCap (n + m) c e).cut (w.tape w.drawn (Question.appendCap (n + m) c e))
  have hcp : n + m ≤ cp := by simp only [cp, Question.cut]; omega
  refine ⟨cp, Builtin.zeroCells z.cells (cp - (n + m)), hcp, by simp [Builtin.zeroCells], ?_⟩
  have hmax : ¬ (IntKind.i64.max < ((n + m : Nat) : Int)) := by
    have : IntKind.i64.max = 9223372036854775807 := by decide
    omega
  simp only [Builtin.append_]
  simp [run_un hE.ht, run_un h1, run_sz hE.hs, run_ti hi, Builtin.lenOf, Nat.not_le.2 hlt, hroom, hfc, hf, ho, hz, show ¬ i.bytes = 0 by omega, newRow, cp]

theorem zeroC_len {e : TypeId} {zs : List Value} (hz : zeroC P e = some zs) : ∃ z : Value, (∀ w, (zeroValue e).run P w = .ok z w) ∧ z.cells = ⟨zs⟩ ∧ (∀ ι, VRs ι zs zs) := by
  obtain ⟨z, a, b, _⟩ := run_zero (ι := fun _ => none) hz
  refine ⟨z, a, b, fun ι => ?_⟩
  obtain ⟨z', _, _, c⟩ := run_zero (ι := ι) hz
  exact c

theorem take_append_prefix {α : Type} (a b : List α) (n : Nat) (h : n = a.length) : (a ++ b).take n = a := by subst h; simp

/-- a row that grows out of an old one (of no cells: out of nothing) -/
theorem grow_ok {t0 t1 ty e e1 : TypeId} {size bytes : Nat} (hE : ElemInfo P t0 e size bytes) (h1 : P.underlying t1 = some (.slice e1)) {zs : List Value} (hz : zeroC P e = some zs) (hzl : zs.length = size)
    (hby : bytes ≤ 2 ^ 16) (hb0 : 1 ≤ bytes) (s : Sim P B ι h w) {a a' : Option Addr} {n c m c' : Nat} {cs cs' old old' : List Value}
    (hf : (Builtin.firstCells size m (.slice a' m c')).run P w.drew = .ok ⟨cs'⟩ w.drew) (ho : (Builtin.firstCells size n (.slice a n c)).run P w.drew = .ok ⟨old'⟩ w.drew)
    (hcs : VRs ι cs cs') (hold : VRs ι old old') (hl1 : cs'.length = m * size) (hl2 : old'.length = n * size) (hlt : c < n + m) (hsm : n + m ≤ 2 ^ 30) :
    ∃ v' w' ι', (Builtin.append_ #[t0, t1] ty #[.slice a n c, .slice a' m c']).run P w = .ok v' w' ∧ Ext P B ι h w ι' (h.new (.cells (old ++ cs) e true)) w' ∧ VR ι' (.slice (some ⟨h.next, 0, none⟩) (n + m) 1) v' := by
  obtain ⟨z, hz1, hz2, hz3⟩ := zeroC_len hz
  obtain ⟨cap, rest, hcap, hrest, hrun⟩ := run_app_grow (ty := ty) hE h1 hz1 hf ho hlt hsm hby hb0
  have hsz : z.cells.size = size := by rw [hz2]; simp [hzl]
  rw [hsz] at hrest
  have e1' := hcs.length
  have e2' := hold.length
  have x1 := s.drew 1
  have hd : w.drewN 1 = w.drew := rfl
  rw [hd] at x1
  have hlen : (old ++ cs).length = (n + m) * size := by simp [e1', e2', hl1, hl2, Nat.add_mul]
  have hcsz : ((⟨old'⟩ : Array Value) ++ ((⟨cs'⟩ : Array Value) ++ rest)).size = cap * size := by
    simp [hl1, hl2, hrest, ← Nat.add_mul]
    congr 1; omega
  have x2 := x1.sim.newCells (cs := old ++ cs) (c := (⟨old'⟩ : Array Value) ++ ((⟨cs'⟩ : Array Value) ++ rest)) (e := e) (esz := size) (by rw [hE.hs]; rfl)
    (by rw [hlen, hcsz]; exact Nat.mul_le_mul_right _ hcap)
    (by
      have : ((⟨old'⟩ : Array Value) ++ ((⟨cs'⟩ : Array Value) ++ rest)).toList = (old' ++ cs') ++ rest.toList := by simp
      rw [this, take_append_prefix _ _ _ (by simp [e1', e2'])]
      exact hold.append hcs)
  refine ⟨_, _, _, hrun, x1.trans x2, ?_⟩
  have hw : w.drew.heap.size = w.heap.size := rfl
  have := VR.sl (ι := ι.add h.next ⟨w.drew.heap.size, 0, size, ((⟨old'⟩ : Array Value) ++ ((⟨cs'⟩ : Array Value) ++ rest)).size⟩) (b := h.next) 0 (n + m) cap Inj.add_same hcap (fun _ => by simp only [hcsz]; omega)
  simpa [hw] using this

theorem appS_ok {t0 t1 ty e e1 : TypeId} {size bytes : Nat} (hE : ElemInfo P t0 e size bytes) (h1 : P.underlying t1 = some (.slice e1)) {zs : List Value} (hz : zeroC P e = some zs) (hzl : zs.length = size) (hs1 : 1 ≤ size)
    (hby : bytes ≤ 2 ^ 16) (hb0 : 1 ≤ bytes) (s : Sim P B ι h w) {sl sl' x x' v : Value} (hs : VR ι sl sl') (hx : VR ι x x') (e' : h.appS size e x sl = some (v, h')) :
    ∃ v' w' ι', (Builtin.append_ #[t0, t1] ty #[sl', x']).run P w = .ok v' w' ∧ Ext P B ι h w ι' h' w' ∧ VR ι' v v' := by
  unfold H.appS at e'
  rw [Option.bind_eq_some_iff] at e'
  obtain ⟨m, hm, e'⟩ := e'
  rw [Option.bind_eq_some_iff] at e'
  obtain ⟨cs, hcs, e'⟩ := e'
  obtain ⟨m', a', c', cs', rfl, hm', hlen, hv, hf⟩ := els_ok (P := P) s hx hcs
  rw [hm] at hm'; cases hm'
  have hfd : (Builtin.firstCells size m (.slice a' m c')).run P w.drew = .ok ⟨cs'⟩ w.drew := hf 1
  replace hf : (Builtin.firstCells size m (.slice a' m c')).run P w = .ok ⟨cs'⟩ w := hf 0
  unfold H.app at e'
  split at e'
  · rename_i a n c
    split at e'
    · -- nothing is appended
      rename_i hm0
      subst hm0
      simp at e'
      obtain ⟨rfl, rfl⟩ := e'
      obtain ⟨a2, c2, rfl, hc2⟩ := hs.slice_inv
      have : cs' = [] := List.eq_nil_of_length_eq_zero (by simpa using hlen)
      subst this
      exact ⟨_, w, ι, run_app_in hE h1 hf (by omega) (by cases a2 <;> simp [storeCells]), Ext.refl s, by simpa using hs⟩
    · rename_i hm0
      split at e'
      · simp at e'
      · rename_i hbig
        have hnone : ∀ {a2 : Option Addr}, sl' = .slice a2 0 0 → n = 0 → v = .slice (some ⟨h.next, 0, none⟩) m 1 → h' = h.new (.cells cs e true) →
            ∃ v' w' ι', (Builtin.append_ #[t0, t1] ty #[sl', .slice a' m c']).run P w = .ok v' w' ∧ Ext P B ι h w ι' h' w' ∧ VR ι' v v' := by
          rintro a2 rfl rfl rfl rfl
          have := grow_ok (ty := ty) (old := []) (old' := []) (n := 0) (c := 0) (a := a2) hE h1 hz hzl hby hb0 s hfd (by cases a2 <;> simp [Builtin.firstCells, loadCells, loadCellsFrom]) hv .nil hlen (by simp) (by omega) (by omega)
          simpa using this
        split at e'
        · cases hs with
          | nilSl => simp at e'; exact hnone rfl rfl e'.1.symm e'.2.symm
        · rename_i b o
          split at e'
          · rename_i hnc
            obtain ⟨rfl, rfl⟩ := hnc
            cases hs with
            | sl0 o a => simp at e'; exact hnone rfl rfl e'.1.symm e'.2.symm
          · split at e'
            · rename_i vs et hg
              split at e'
              · rename_i hcond
                obtain ⟨rfl, hle, rfl⟩ := hcond
                simp at e'
                obtain ⟨rfl, rfl⟩ := e'
                obtain ⟨L, hL, hb⟩ := s.live b _ hg
                obtain ⟨cc, et', fz, hw, hlen2, hvs, hown⟩ := hb
                obtain ⟨hco, ht, hfz, hB, hcsz, hesz⟩ := hown rfl
                obtain ⟨rfl⟩ : et = et' := ht.symm
                subst hfz
                have hes : L.esz = size := by rw [hesz, hE.hs]; rfl
                have hvl := hvs
                rw [hco] at hvl
                simp only [List.drop_zero] at hvl
                cases hs with
                | sl0 o a => simp at *
                | slE o cb co c ho => exact absurd rfl ho
                | sl o n c2 hL2 hn hc2 =>
                  rw [hL] at hL2; cases hL2
                  replace hc2 := hc2 rfl
                  rw [hco, hes] at hc2
                  simp only [Nat.zero_add] at hc2
                  by_cases hroom : n + m ≤ c2
                  · -- in place
                    have hfit : n * size + cs'.length ≤ cc.size := by
                      rw [hlen, ← Nat.add_mul, hcsz]; exact Nat.le_trans (Nat.mul_le_mul_right _ hroom) hc2
                    have hst := run_storeCells_at (P := P) L.cb (n * size) et cs' 0 cc w hw (by simpa using hfit) hv.one'
                    simp only [Nat.add_zero] at hst
                    have hrun := run_app_in (ty := ty) (a := some ⟨L.cb, L.co + 0, none⟩) (n := n) (c := c2) hE h1 hf hroom (w' := w.setRow L.cb (cc.toList.take (n * size) ++ cs' ++ cc.toList.drop (n * size + cs'.length)).toArray)
                      (by simp only [addr_add, hco, Nat.zero_add]; exact hst)
                    have hl := hv.length
                    have hcc : (cc.toList.take (n * size) ++ cs' ++ cc.toList.drop (n * size + cs'.length)).toArray.size = cc.size := by simp; omega
                    refine ⟨_, _, ι.add h.next ⟨L.cb, 0, size, cc.size⟩, hrun, ?_, ?_⟩
                    · refine s.move (L' := ⟨L.cb, 0, size, cc.size⟩) hg hL rfl rfl rfl _ (setRow_heap_eq w L.cb _ et cc hw) rfl rfl rfl ?_
                      refine ⟨_, _, (0, 0), setRow_heap w L.cb cc _ et (0, 0) hw, ?_, ?_, fun _ => ⟨rfl, rfl, rfl, hB, hcc, by simp [hE.hs]⟩⟩
                      · rw [hcc]; simp only [List.length_append, List.length_take, hl]; omega
                      · simp only [List.drop_zero]
                        have hle2 := Inj.le_add (L := ⟨L.cb, 0, size, cc.size⟩) (s.dom h.next (Nat.le_refl _))
                        have e3 : (List.take (n * size) cc.toList ++ cs' ++ List.drop (n * size + cs'.length) cc.toList).take (List.take (n * size) vs ++ cs).length = (cc.toList.take vs.length).take (n * size) ++ cs' := by
                          rw [take_append_prefix]
                          · rw [List.take_take, Nat.min_eq_left hle]
                          · simp only [List.length_append, List.length_take, Array.length_toList, hl]; omega
                        rw [e3]
                        exact ((hvl.take _).append hv).mono hle2
                    · have hh := VR.sl (ι := ι.add h.next ⟨L.cb, 0, size, cc.size⟩) (b := h.next) 0 (n + m) c2 Inj.add_same hroom (fun _ => by simp only; rw [hcsz]; omega)
                      simpa [hco] using hh
                  · -- it grows
                    have k1 := s.kill b
                    have hldn : h.ldn b 0 (n * size) = some (vs.take (n * size)) := by
                      simp [H.ldn, H.row, hg, hle]
                    obtain ⟨o', hol, hov, hor'⟩ := ldn_ok (P := P) s hldn hL
                    have hor : (loadCells ⟨L.cb, L.co + 0, none⟩ (n * size)).run P w.drew = .ok ⟨o'⟩ w.drew := hor' 1
                    obtain ⟨v', w', ι', q1, q2, q3⟩ := grow_ok (ty := ty) (old := vs.take (n * size)) (old' := o') (n := n) (c := c2) (a := some ⟨L.cb, L.co + 0, none⟩) hE h1 hz hzl hby hb0 k1.sim hfd
                      (by simpa [Builtin.firstCells] using hor) hv hov hlen hol (by omega) (by omega)
                    exact ⟨v', w', ι', q1, k1.trans q2, q3⟩
              · simp at e'
            · simp at e'
        · simp at e'
  · simp at e'
end Go.Wz
end
section
namespace Go.Wz
variable {B : Nat} {ι ι' : Inj} {h h' : H} {w w' : World} {P : Program}

theorem flat_length (zs : List Value) (n : Nat) : (List.replicate n zs).flatten.length = n * zs.length := by simp
theorem rep_flat (zs : List Value) (k n : Nat) (hk : zs.length = k) (h1 : 1 ≤ k) : (List.range (n * k)).map (fun i => (⟨zs⟩ : Array Value)[i % k]!) = (List.replicate n zs).flatten := by
  induction n with
  | zero => simp
  | succ n ih =>
    have e1 : (List.range (k)).map (fun i => (⟨zs⟩ : Array Value)[(i) % k]!) = zs := by
      apply List.ext_getElem
      · simp [hk]
      · intro i h1 h2
        simp at h1
        simp [Nat.mod_eq_of_lt h1, hk, h1]
    rw [Nat.succ_mul, List.range_add, List.map_append, ih, List.replicate_succ', List.flatten_append]
    congr 1
    simp only [List.map_map, List.flatten_singleton]
    have e2 : ((fun i => (⟨zs⟩ : Array Value)[i % k]!) ∘ fun x => n * k + x) = fun i => (⟨zs⟩ : Array Value)[i % k]! := by
      funext i
      simp [Nat.add_comm (n * k) i, Nat.add_mul_mod_self_right]
    rw [e2, e1]
theorem VRs.flat {zs zs' : List Value} (hz : VRs ι zs zs') (n : Nat) : VRs ι (List.replicate n zs).flatten (List.replicate n zs').flatten := by
  induction n with
  | zero => exact .nil
  | succ n ih => simp only [List.replicate_succ, List.flatten_cons]; exact hz.append ih
theorem zeroCells_eq (zs : List Value) (n : Nat) (h1 : 1 ≤ zs.length) : Builtin.zeroCells ⟨zs⟩ n = ⟨(List.replicate n zs).flatten⟩ := by
  apply Array.ext'
  simp only [Builtin.zeroCells, Array.toList_map, Array.toList_range]
  exact rep_flat zs zs.length n rfl h1

theorem VR.shorter {a : Option Addr} {n m c : Nat} {v' : Value} (hv : VR ι (.slice a n c) v') (hm : m ≤ n) (hc : n = 0 → m = 0) : ∃ a' c', v' = .slice a' n c' ∧ VR ι (.slice a m c) (.slice a' m c') := by
  cases hv with
  | nilSl => obtain rfl : m = 0 := by omega
             exact ⟨_, _, rfl, .nilSl⟩
  | sl o n c hL hn hc => exact ⟨_, _, rfl, .sl o m c hL (by omega) hc⟩
  | sl0 o a =>
    obtain rfl : m = 0 := by omega
    exact ⟨_, _, rfl, .sl0 o a⟩
  | slE o cb co c ho => obtain rfl : m = 0 := by omega
                        exact ⟨_, _, rfl, .slE o cb co c ho⟩

theorem ldn_len {b o n : Nat} {vs : List Value} (e : h.ldn b o n = some vs) : vs.length = n := by
  unfold H.ldn at e
  rw [Option.bind_eq_some_iff] at e
  obtain ⟨us, _, hv⟩ := e
  split at hv
  · simp at hv; subst hv; simp; omega
  · simp at hv

theorem copyS_ok {t0 t1 ty e : TypeId} {size : Nat} (ht : P.underlying t0 = some (.slice e)) (hs : szT P e = some size) (s : Sim P B ι h w) {d d' x x' v : Value} (hd : VR ι d d') (hx : VR ι x x') (e' : h.copyS size d x = some (v, h')) :
    ∃ v' w' ι', (Builtin.copy_ #[t0, t1] ty #[d', x']).run P w = .ok v' w' ∧ Ext P B ι h w ι' h' w' ∧ VR ι' v v' := by
  unfold H.copyS at e'
  split at e'
  · rename_i a n c0 b m c
    rw [Option.bind_eq_some_iff] at e'
    obtain ⟨cs, hcs, e'⟩ := e'
    obtain ⟨b', c', rfl, hxs⟩ := hx.shorter (m := min m n) (Nat.min_le_left _ _) (by omega)
    obtain ⟨a', c2, rfl, _⟩ := hd.slice_inv
    obtain ⟨k, b2, c3, cs', e2, hk, hlen, hv, hf⟩ := els_ok (P := P) s hxs hcs
    cases e2
    have hf' : (Builtin.firstCells size (min m n) (.slice b' m c')).run P w = .ok ⟨cs'⟩ w := by
      have := hf 0
      cases b' <;> exact this
    have hmin : Nat.min m n = min m n := rfl
    split at e'
    · simp at e'; obtain ⟨rfl, rfl⟩ := e'
      cases hd with
      | nilSl => exact ⟨_, w, ι, by simp only [Nat.min_zero] at hf'; simp [Builtin.copy_, run_un ht, run_sz hs, Builtin.lenOf, goInt, hf'], Ext.refl s, .int _ _⟩
    · rename_i b4 o
      split at e'
      · rename_i h0
        simp at e'; obtain ⟨rfl, rfl⟩ := e'
        have : cs' = [] := List.eq_nil_of_length_eq_zero (by rw [hlen, h0]; simp)
        subst this
        cases a' with
        | none => cases hd
        | some ad => exact ⟨_, w, ι, by simp [Builtin.copy_, run_un ht, run_sz hs, Builtin.lenOf, hmin, goInt, storeCells, hf'], Ext.refl s, .int _ _⟩
      · rename_i h0
        rw [Option.map_eq_some_iff] at e'
        obtain ⟨h2, hst, e'⟩ := e'
        simp at e'; obtain ⟨rfl, rfl⟩ := e'
        cases hd with
        | sl _ _ _ hL hn hc =>
          obtain ⟨w2, q1, q2⟩ := s.stn (P := P) hst hL hv
          exact ⟨_, w2, ι, by simp [Builtin.copy_, run_un ht, run_sz hs, Builtin.lenOf, hmin, goInt, q1, hf'], q2, .int _ _⟩
        | sl0 _ a => exact absurd (Nat.min_zero m) h0
        | slE _ cb co c ho => exact absurd (Nat.min_zero m) h0
    · simp at e'
  · simp at e'

theorem clearS_ok {t0 ty e : TypeId} {size : Nat} (ht : P.underlying t0 = some (.slice e)) {zs : List Value} (hz : zeroC P e = some zs) (h1 : 1 ≤ zs.length) (s : Sim P B ι h w) {d d' : Value} (hd : VR ι d d') (e' : h.clearS zs d = some h') :
    ∃ w' ι', (Builtin.clear_ #[t0] ty #[d']).run P w = .ok (.tuple #[]) w' ∧ Ext P B ι h w ι' h' w' := by
  obtain ⟨z, hz1, hz2, hz3⟩ := zeroC_len hz
  unfold H.clearS at e'
  split at e'
  · simp at e'; subst e'
    cases hd with
    | nilSl => exact ⟨w, ι, by simp [Builtin.clear_, run_un ht], Ext.refl s⟩
  · simp at e'; subst e'
    obtain ⟨a', c', rfl, _⟩ := hd.slice_inv
    exact ⟨w, ι, by cases a' <;> simp [Builtin.clear_, run_un ht], Ext.refl s⟩
  · rename_i b o n c hn0
    have hn0' : n ≠ 0 := fun hh => hn0 hh
    cases hd with
    | sl _ _ c2 hL hn hc =>
      obtain ⟨w2, q1, q2⟩ := s.stn (P := P) e' hL ((hz3 ι).flat n)
      refine ⟨w2, ι, ?_, q2⟩
      obtain ⟨k, rfl⟩ : ∃ k, n = k + 1 := ⟨n - 1, by omega⟩
      simp [Builtin.clear_, run_un ht, hz1, hz2, zeroCells_eq zs (k + 1) h1, q1]
    | sl0 _ a => exact absurd rfl hn0'
    | slE _ cb co c ho => exact absurd rfl hn0'
  · simp at e'

theorem mkS_ok {t e : TypeId} {size bytes : Nat} (hE : ElemInfo P t e size bytes) {zs : List Value} (hz : zeroC P e = some zs) (hzl : zs.length = size) (h1 : 1 ≤ size) (hby : bytes ≤ 2 ^ 16)
    (s : Sim P B ι h w) {n n' c c' v : Value} (hn : VR ι n n') (hc : VR ι c c') (e' : h.mkS zs e n c = some (v, h')) :
    ∃ v' w' ι', (Instr.makeSlice t n' c').run P w = .ok v' w' ∧ Ext P B ι h w ι' h' w' ∧ VR ι' v v' := by
  obtain ⟨z, hz1, hz2, hz3⟩ := zeroC_len hz
  obtain ⟨i, hi, his, hib⟩ := hE.info
  unfold H.mkS at e'
  split at e'
  · rename_i k l k' m
    cases hn; cases hc
    split at e'
    · rename_i hcond
      obtain ⟨h0, hlm, hm⟩ := hcond
      simp at e'; obtain ⟨rfl, rfl⟩ := e'
      obtain ⟨l, rfl⟩ := Int.eq_ofNat_of_zero_le h0
      obtain ⟨m, rfl⟩ := Int.eq_ofNat_of_zero_le (Int.le_trans h0 hlm)
      have hlm' : l ≤ m := by omega
      have hm' : m ≤ 2 ^ 30 := by omega
      have w64 : ∀ k : Nat, k ≤ 2 ^ 30 → IntKind.i64.wrap (k : Int) = k := by
        intro k hk
        unfold IntKind.wrap
        simp only [IntKind.bits, IntKind.signed]
        have : ((k : Int) % 2 ^ 64) = k := by omega
        simp [this]; omega
      have hbm : bytes * m ≤ 2 ^ 46 := by
        calc bytes * m ≤ 2 ^ 16 * 2 ^ 30 := Nat.mul_le_mul hby hm'
          _ = 2 ^ 46 := by decide
      have hbl : bytes * l ≤ 2 ^ 46 := Nat.le_trans (Nat.mul_le_mul_left _ hlm') hbm
      have x1 : Ext P B ι h w (ι.add h.next ⟨w.heap.size, 0, size, m * size⟩) (h.new (.cells (List.replicate l zs).flatten e true)) (w.alloc (.cells ⟨(List.replicate m zs).flatten⟩ e)) := by
        have := s.newCells (cs := (List.replicate l zs).flatten) (c := ⟨(List.replicate m zs).flatten⟩) (e := e) (esz := size) (by rw [hE.hs]; rfl)
          (by simp [hzl]; exact Nat.mul_le_mul_right _ hlm')
          (by
            simp only
            obtain ⟨q, rfl⟩ := Nat.exists_eq_add_of_le hlm'
            rw [← List.replicate_append_replicate, List.flatten_append, take_append_prefix _ _ _ rfl]
            exact (hz3 ι).flat l)
        simpa [hzl] using this
      refine ⟨.slice (some ⟨w.heap.size, 0, none⟩) l m, _, _, ?_, x1, ?_⟩
      · have hz0 : ∃ zz, i.zero = some zz ∧ zz = z := by
          have := hz1 w
          unfold zeroValue at this
          simp only [Sem.run_bind, run_ti hi, Result.andThen_ok] at this
          cases hzz : i.zero with
          | none => rw [hzz] at this; simp at this
          | some zz => rw [hzz] at this; simp at this; exact ⟨zz, rfl, this⟩
        obtain ⟨zz, hzz, rfl⟩ := hz0
        have hr := run_make (P := P) w t e i zz hE.ht hi hzz k k' l m (by omega) (by omega) (by
          have : (bytes : Int) * m = ((bytes * m : Nat) : Int) := by simp
          rw [hib]; omega) (by omega)
        simp only [Int.toNat_natCast] at hr
        rw [hr]
        have e2 : madeCells zz.cells (m * i.size) = ⟨(List.replicate m zs).flatten⟩ := by
          apply Array.ext'
          rw [hz2, his]
          simp only [madeCells, Array.toList_map, Array.toList_range, List.size_toArray, hzl]
          exact rep_flat zs size m hzl h1
        rw [e2]
      · by_cases hmz : m = 0
        · subst hmz
          obtain rfl : l = 0 := by omega
          simpa using VR.sl0 (ι := ι.add h.next ⟨w.heap.size, 0, size, 0 * size⟩) (b := h.next) 0 ⟨w.heap.size, 0, none⟩
        · have := VR.sl (ι := ι.add h.next ⟨w.heap.size, 0, size, m * size⟩) (b := h.next) 0 l m Inj.add_same hlm' (fun _ => by simp)
          simpa [hmz] using this
    · simp at e'
  · simp at e'

/-! ### Composite literals -/
theorem fold_set (cs : List Value) (off : Nat) : ∀ (k : Nat) (zs : Array Value), off + k + cs.length ≤ zs.size →
    ((cs.zipIdx k).foldl (fun (a : Array Value) (p : Value × Nat) => a.setIfInBounds (off + p.2) p.1) zs).toList = splice zs.toList (off + k) cs := by
  induction cs with
  | nil => intro k zs h; simp [splice]
  | cons c cs ih =>
    intro k zs h
    simp only [List.zipIdx_cons, List.foldl_cons]
    simp only [List.length_cons] at h
    rw [ih (k + 1) _ (by simp; omega)]
    simp only [Array.toList_setIfInBounds, splice, List.length_cons]
    have hlt : off + k < zs.toList.length := by simp; omega
    rw [show off + (k + 1) = off + k + 1 by omega]
    rw [List.take_set, List.drop_set_of_lt (by omega)]
    rw [← List.take_append_getElem hlt]
    rw [List.set_append_right _ _ (by simp; omega)]
    simp [Nat.min_eq_left (Nat.le_of_lt (by simpa using hlt)), Nat.add_comm, Nat.add_left_comm]

theorem fill_step (place : Nat → Option (Nat × Nat)) (zs : Array Value) (i off size : Nat) (v : Value) (rest : List (Nat × Value)) (hp : place i = some (off, size)) (hs : v.cells.size = size) (hl : off + size ≤ zs.size) :
    Instr.fill place zs ((i, v) :: rest) = Instr.fill place ⟨splice zs.toList off v.cells.toList⟩ rest := by
  rw [Instr.fill]
  simp only [hp]
  have h1 : ¬ (v.cells.size ≠ size || off + v.cells.size > zs.size) = true := by simp [hs, hl]
  rw [if_neg h1]
  congr 1
  apply Array.ext'
  have := fold_set v.cells.toList off 0 zs (by simp [hs]; omega)
  simp only [Nat.add_zero] at this
  rw [← this]
  rw [← Array.foldl_toList]
  congr 2
  simp

theorem splice_set (vs : List Value) (o : Nat) (v : Value) (ho : o < vs.length) : splice vs o [v] = vs.set o v := splice_one vs o v ho
theorem VRs.splice {vs vs' xs xs' : List Value} (h : VRs ι vs vs') (hx : VRs ι xs xs') (o : Nat) : VRs ι (Wz.splice vs o xs) (Wz.splice vs' o xs') := by
  unfold Wz.splice
  rw [hx.length]
  exact ((h.take o).append hx).append (h.drop _)

/-- what the parts of a literal are, in memory's words -/
theorem fillK_ok {R : Type} {k : List Value → Option R} {r : R} {st : St} {a : Act} (hT : TR ι st a.tmps) (place : Nat → Option (Nat × Nat)) :
    ∀ (parts : List (Nat × Operand)) (l : List (Nat × Nat × Option SV)) (zs zs' : List Value), VRs ι zs zs' →
      l = parts.map (fun p => ((place p.1).getD (0, 0)).1 |> fun o => (o, ((place p.1).getD (0, 0)).2, evO st p.2)) → (∀ p ∈ parts, (place p.1).isSome = true) → fillK k zs l = some r →
      ∃ cs cs', k cs = some r ∧ Instr.fill place ⟨zs'⟩ (parts.map fun p => (p.1, a.eval p.2)) = some ⟨cs'⟩ ∧ VRs ι cs cs' ∧ cs.length = zs.length := by
  intro parts
  induction parts with
  | nil =>
    intro l zs zs' hz hl _ hk
    simp at hl; subst hl
    exact ⟨zs, zs', hk, rfl, hz, rfl⟩
  | cons p parts ih =>
    intro l zs zs' hz hl hpl hk
    obtain ⟨i, x⟩ := p
    have hp := hpl (i, x) (by simp)
    obtain ⟨⟨off, size⟩, hpi⟩ := Option.isSome_iff_exists.1 hp
    simp only [List.map_cons, hpi, Option.getD_some] at hl
    subst hl
    unfold fillK at hk
    split at hk
    · rename_i hle
      have hlz := hz.length
      split at hk
      · rename_i v hv
        split at hk
        · rename_i h1
          subst h1
          have hev := hT.eval hv
          cases hev with
          | one hv' =>
            have hc := hv'.cells
            obtain ⟨cs, cs', q1, q2, q3, q4⟩ := ih _ (zs.set off v) (zs'.set off (a.eval x)) (hz.set off hv') rfl (fun p hp => hpl p (by simp [hp])) hk
            refine ⟨cs, cs', q1, ?_, q3, by simpa using q4⟩
            simp only [List.map_cons]
            rw [fill_step place ⟨zs'⟩ i off 1 (a.eval x) _ hpi (by rw [hc]; rfl) (by simp; omega)]
            rw [hc]
            simp only
            rw [splice_one _ _ _ (by omega)]
            exact q2
        · simp at hk
      · rename_i cs0 hv
        split at hk
        · rename_i h1
          subst h1
          have hev := hT.eval hv
          generalize hgx : a.eval x = gx at hev
          cases hev with
          | agg hv' =>
            rename_i cs0'
            obtain ⟨cs, cs', q1, q2, q3, q4⟩ := ih _ (Wz.splice zs off cs0) (Wz.splice zs' off cs0') (hz.splice hv' off) rfl (fun p hp => hpl p (by simp [hp])) hk
            refine ⟨cs, cs', q1, ?_, q3, by rw [q4, splice_length _ _ _ hle]⟩
            simp only [List.map_cons]
            rw [fill_step place ⟨zs'⟩ i off cs0.length (a.eval x) _ hpi (by rw [hgx]; simp [Value.cells, hv'.length]) (by simp; omega)]
            rw [hgx]
            exact q2
        · simp at hk
      · simp at hk
    · simp at hk
end Go.Wz
end
section
namespace Go.Wz
variable {B : Nat} {ι ι' : Inj} {h h' : H} {w w' : World} {P : Program}

section eqs
variable {t : TypeId}
theorem eq_bool (hu : P.underlying t = some .bool) (x y : Bool) : (Op.equal t (.bool x) (.bool y)).run P w = .ok (x == y) w := by
  show (Op.equalIn (9999 + 1) t _ _).run P w = _
  rw [Op.equalIn]; simp only [Sem.run_bind, run_un hu, Result.andThen_ok]; rfl
theorem eq_ptr1 {e : TypeId} (hu : P.underlying t = some (.pointer e)) (y : Option Addr) : (Op.equal t (.pointer none) (.pointer y)).run P w = .ok y.isNone w := by
  show (Op.equalIn (9999 + 1) t _ _).run P w = _
  rw [Op.equalIn]; simp only [Sem.run_bind, run_un hu, Result.andThen_ok]; rfl
theorem eq_ptr2 {e : TypeId} (hu : P.underlying t = some (.pointer e)) (y : Addr) : (Op.equal t (.pointer (some y)) (.pointer none)).run P w = .ok false w := by
  show (Op.equalIn (9999 + 1) t _ _).run P w = _
  rw [Op.equalIn]; simp only [Sem.run_bind, run_un hu, Result.andThen_ok]; rfl
theorem eq_sl1 {e : TypeId} (hu : P.underlying t = some (.slice e)) (b : Option Addr) (n c m d : Nat) : (Op.equal t (.slice none n c) (.slice b m d)).run P w = .ok b.isNone w := by
  show (Op.equalIn (9999 + 1) t _ _).run P w = _
  rw [Op.equalIn]; simp only [Sem.run_bind, run_un hu, Result.andThen_ok]; rfl
theorem eq_sl2 {e : TypeId} (hu : P.underlying t = some (.slice e)) (b : Addr) (n c m d : Nat) : (Op.equal t (.slice (some b) n c) (.slice none m d)).run P w = .ok false w := by
  show (Op.equalIn (9999 + 1) t _ _).run P w = _
  rw [Op.equalIn]; simp only [Sem.run_bind, run_un hu, Result.andThen_ok]; rfl
theorem eq_fn0 {a b : Array TypeId} {c : Bool} (hu : P.underlying t = some (.func a b c)) : (Op.equal t .nilFunc .nilFunc).run P w = .ok true w := by
  show (Op.equalIn (9999 + 1) t _ _).run P w = _
  rw [Op.equalIn]; simp only [Sem.run_bind, run_un hu, Result.andThen_ok]; rfl
theorem eq_fn1 {a b : Array TypeId} {c : Bool} (hu : P.underlying t = some (.func a b c)) (f : Fn) (x y : Array Value) : (Op.equal t .nilFunc (.func f x y)).run P w = .ok false w := by
  show (Op.equalIn (9999 + 1) t _ _).run P w = _
  rw [Op.equalIn]; simp only [Sem.run_bind, run_un hu, Result.andThen_ok]; rfl
theorem eq_fn2 {a b : Array TypeId} {c : Bool} (hu : P.underlying t = some (.func a b c)) (f : Fn) (x y : Array Value) : (Op.equal t (.func f x y) .nilFunc).run P w = .ok false w := by
  show (Op.equalIn (9999 + 1) t _ _).run P w = _
  rw [Op.equalIn]; simp only [Sem.run_bind, run_un hu, Result.andThen_ok]; rfl
end eqs

theorem _root_.List.getElem?_drop_zero_helper {α : Type} {l m : List α} {i : Nat} {a : α} (h : l.drop i = a :: m) : l[i]? = some a := by
  have := List.getElem?_drop (xs := l) (i := i) (j := 0)
  rw [h] at this; simpa using this.symm
theorem _root_.List.drop_drop_helper {α : Type} {l m : List α} {i : Nat} {a : α} (h : l.drop i = a :: m) : l.drop (i + 1) = m := by
  have := List.drop_drop (l := l) (i := 1) (j := i)
  rw [h] at this; simpa using this.symm
theorem eqB_ok {t : TypeId} {d : Nat} {f : Bool} {a b a' b' : Value} {r : Bool} (ht : basicT P t = some f) (ha : VR ι a a') (hb : VR ι b b') (e : eqB f a b = some r) :
    (Op.equalIn (d + 1) t a' b').run P w = .ok r w := by
  unfold basicT at ht
  unfold eqB at e
  split at ht
  · rename_i hu
    cases ht
    simp only at e
    split at e
    · split at e
      · rename_i hk
        subst hk
        cases e
        cases ha; cases hb
        exact run_equalIn_int w d t _ _ _ _ hu
      · simp at e
    · simp at e
  · rename_i hu
    cases ht
    simp only at e
    split at e
    · cases e
      cases ha; cases hb
      exact run_equalIn_bool w d t _ _ hu
    · simp at e
  · simp at ht
theorem part_basic {t : TypeId} {f : Bool} (ht : basicT P t = some f) {cs : List Value} {i : Nat} {v : Value} (hv : cs[i]? = some v) : (part t ⟨cs⟩ i).run P w = .ok v w := by
  have hag : aggT P t = some false := by
    unfold basicT at ht; unfold aggT
    split at ht
    · rename_i hu; rw [hu]; rfl
    · rename_i hu; rw [hu]; rfl
    · simp at ht
  simp [part, run_ag hag, hv]
theorem eqFields_ok {as bs as' bs' : List Value} {d : Nat} : ∀ (l : List Field) (i : Nat) (fs : List Bool) (r : Bool), flatF P i l = some fs → VRs ι as as' → VRs ι bs bs' → eqBs fs (as.drop i) (bs.drop i) = some r →
    (Op.eqFields (d + 1) ⟨as'⟩ ⟨bs'⟩ l).run P w = .ok r w := by
  intro l
  induction l with
  | nil =>
    intro i fs r hf ha hb e
    simp only [flatF, Option.some.injEq] at hf
    subst hf
    unfold eqBs at e
    split at e
    · cases e; simp [Op.eqFields]
    · simp at e
  | cons f l ih =>
    intro i fs r hf ha hb e
    unfold flatF at hf
    split at hf
    · rename_i hc
      simp only [Bool.and_eq_true, beq_iff_eq, bne_iff_ne, ne_eq] at hc
      obtain ⟨hoff, hnm⟩ := hc
      simp only [Option.bind_eq_some_iff, Option.map_eq_some_iff] at hf
      obtain ⟨b, hb1, fr, hfr, rfl⟩ := hf
      unfold eqBs at e
      split at e
      · rename_i a as2 c bs2 ha2 hb2
        simp only [Option.bind_eq_some_iff, Option.map_eq_some_iff] at e
        obtain ⟨x, hx, y, hy, rfl⟩ := e
        have ga : as[i]? = some a := List.getElem?_drop_zero_helper ha2
        have gb : bs[i]? = some c := List.getElem?_drop_zero_helper hb2
        have da : as.drop (i + 1) = as2 := List.drop_drop_helper ha2
        have db : bs.drop (i + 1) = bs2 := List.drop_drop_helper hb2
        obtain ⟨a', ga', va⟩ := ha.get i ga
        obtain ⟨c', gc', vc⟩ := hb.get i gb
        have h3 := ih (i + 1) fr y hfr ha hb (by rw [da, db]; exact hy)
        unfold Op.eqFields
        rw [if_pos hnm]
        simp only [Sem.run_bind, hoff, part_basic hb1 ga', part_basic hb1 gc', Result.andThen_ok, eqB_ok hb1 va vc hx]
        cases x
        · simp
        · simpa using h3
      · simp at e
    · simp at hf
theorem eqItems_ok {as bs as' bs' : List Value} {d : Nat} {t : TypeId} {f : Bool} (ht : basicT P t = some f) : ∀ (n i : Nat) (r : Bool), VRs ι as as' → VRs ι bs bs' → eqBs (List.replicate n f) (as.drop i) (bs.drop i) = some r →
    (Op.eqItems (d + 1) t 1 ⟨as'⟩ ⟨bs'⟩ (List.range' i n)).run P w = .ok r w := by
  intro n
  induction n with
  | zero =>
    intro i r ha hb e
    rw [List.replicate_zero] at e
    unfold eqBs at e
    split at e
    · cases e; simp [Op.eqItems]
    · simp at e
  | succ n ih =>
    intro i r ha hb e
    rw [List.replicate_succ] at e
    unfold eqBs at e
    split at e
    · rename_i a as2 c bs2 ha2 hb2
      simp only [Option.bind_eq_some_iff, Option.map_eq_some_iff] at e
      obtain ⟨x, hx, y, hy, rfl⟩ := e
      have ga : as[i]? = some a := List.getElem?_drop_zero_helper ha2
      have gb : bs[i]? = some c := List.getElem?_drop_zero_helper hb2
      have da : as.drop (i + 1) = as2 := List.drop_drop_helper ha2
      have db : bs.drop (i + 1) = bs2 := List.drop_drop_helper hb2
      obtain ⟨a', ga', va⟩ := ha.get i ga
      obtain ⟨c', gc', vc⟩ := hb.get i gb
      have h3 := ih (i + 1) y ha hb (by rw [da, db]; exact hy)
      rw [List.range'_succ]
      unfold Op.eqItems
      simp only [Sem.run_bind, Nat.mul_one, part_basic ht ga', part_basic ht gc', Result.andThen_ok, eqB_ok ht va vc hx]
      cases x
      · simp
      · simpa using h3
    · simp at e
theorem equal_flat {t : TypeId} {fs : List Bool} {as bs as' bs' : List Value} {r : Bool} (hn : flatT P t = some fs) (ha : VRs ι as as') (hb : VRs ι bs bs') (e : eqBs fs as bs = some r) :
    (Op.equal t (.agg ⟨as'⟩) (.agg ⟨bs'⟩)).run P w = .ok r w := by
  unfold flatT at hn
  split at hn
  · rename_i fl hu
    split at hn
    · rename_i hc
      simp only [Bool.and_eq_true, Bool.not_eq_true'] at hc
      have hfs : P.fieldsOf t = fl := by simp [Program.fieldsOf, hu]
      show (Op.equalIn (9999 + 1) t _ _).run P w = _
      rw [run_equalIn_struct w 9999 t _ _ (by rw [hfs]; exact hu) hc.1, hfs]
      exact eqFields_ok (d := 9998) fl.toList 0 fs r hn ha hb (by simpa using e)
    · simp at hn
  · rename_i n el hu
    split at hn
    · rename_i hc
      simp only [Bool.and_eq_true, Bool.not_eq_true', beq_iff_eq] at hc
      obtain ⟨b, hb1, rfl⟩ := Option.map_eq_some_iff.1 hn
      have hsz := hc.2
      unfold szT at hsz
      obtain ⟨i, hi, hi1⟩ := Option.map_eq_some_iff.1 hsz
      show (Op.equalIn (9999 + 1) t _ _).run P w = _
      rw [run_equalIn_array w 9999 _ _ hu hi, List.range_eq_range']
      have hcell : P.cellsOf el = 1 := by simp [Program.cellsOf, hi, hi1]
      rw [hcell]
      exact eqItems_ok (d := 9998) hb1 n 0 r ha hb (by simpa using e)
    · simp at hn
  · simp at hn
theorem binA_ok {op : BinOp} {t : TypeId} {x y : Operand} {fs : List Bool} {as bs : List Value} {a' b' v : Value} (ha : SR ι (.agg as) a') (hb : SR ι (.agg bs) b') (hn : flatT P t = some fs) (e : binA op fs as bs = some v) :
    ∃ v', (do eqGuard op t x y a' b'; binOp op t a' b' : Sem Value).run P w = .ok v' w ∧ VR ι v v' := by
  cases ha with
  | agg ha =>
  cases hb with
  | agg hb =>
  have hg : P.eqGuardType P.depth t = false := by
    unfold flatT at hn
    split at hn
    · split at hn
      · rename_i hc; simp only [Bool.and_eq_true, Bool.not_eq_true'] at hc; exact hc.2
      · simp at hn
    · split at hn
      · rename_i hc; simp only [Bool.and_eq_true, Bool.not_eq_true'] at hc; exact hc.1
      · simp at hn
    · simp at hn
  rw [Sem.run_bind, run_eqGuard_agg w op t x y _ _ hg]
  simp only [Result.andThen_ok]
  unfold binA at e
  split at e
  · obtain ⟨r, hr, rfl⟩ := Option.map_eq_some_iff.1 e
    exact ⟨_, by simp [binOp, equal_flat hn ha hb hr] <;> rfl, .bool _⟩
  · obtain ⟨r, hr, rfl⟩ := Option.map_eq_some_iff.1 e
    exact ⟨_, by simp [binOp, equal_flat hn ha hb hr] <;> rfl, .bool _⟩
  · simp at e

theorem ibin_ok {op : BinOp} {t : TypeId} {x y : Operand} {a b a' b' v : Value} (ha : VR ι a a') (hb : VR ι b b') (e : ibin op a b = some v) :
    ∃ v', (do eqGuard op t x y a' b'; binOp op t a' b' : Sem Value).run P w = .ok v' w ∧ VR ι v v' := by
  unfold ibin at e
  split at e
  · rename_i k m k' n
    cases ha; cases hb
    have hg : (eqGuard op t x y (.int k m) (.int k' n)).run P w = .ok () w := by
      unfold eqGuard; cases op <;> simp
    simp only [Sem.run_bind, hg, Result.andThen_ok]
    split at e
    · split at e
      · simp at e
      · simp at e; subst e
        rename_i hn
        exact ⟨_, by simp [binOp, Op.shift, hn], .int _ _⟩
    · split at e
      · simp at e
      · simp at e; subst e
        rename_i hn
        exact ⟨_, by simp [binOp, Op.shift, hn], .int _ _⟩
    · rename_i h1 h2
      split at e
      · rename_i hkk
        subst hkk
        refine ⟨v, ?_, ?_⟩
        · split at e <;> first | (simp at e; done) | skip
          all_goals first
            | (simp at e; subst e; simp [binOp, Op.intArith, Op.intBits, Op.intCmp]; done)
            | (split at e <;> simp at e; subst e; simp [binOp, Op.intDiv, *]; done)
        · split at e <;> first | (simp at e; done) | skip
          all_goals first
            | (simp at e; subst e; first | exact .int _ _ | exact .bool _)
            | (split at e <;> simp at e; subst e; first | exact .int _ _ | exact .bool _)
      · simp at e
  · simp at e

theorem binT_ok {op : BinOp} {t : TypeId} {x y : Operand} {a b a' b' v : Value} (ha : VR ι a a') (hb : VR ι b b') (e : binT P op t a b = some v) :
    ∃ v', (do eqGuard op t x y a' b'; binOp op t a' b' : Sem Value).run P w = .ok v' w ∧ VR ι v v' := by
  unfold binT at e
  split at e
  · exact ibin_ok ha hb e
  · rename_i hu
    split at e
    · cases ha; cases hb
      split at e
      all_goals first | (simp at e; done) | (simp at e; subst e; exact ⟨_, by simp [eqGuard, binOp, eq_bool hu] <;> rfl, .bool _⟩)
    · simp at e
  · rename_i el hu
    split at e
    all_goals first | (simp at e; done) | skip
    · cases ha
      cases op <;> simp [ebin, eqV] at e
      all_goals
        subst e
        cases hb <;> exact ⟨_, by simp [eqGuard, binOp, eq_ptr1 hu] <;> rfl, .bool _⟩
    · cases hb
      cases op <;> simp [ebin, eqV] at e
      all_goals
        subst e
        cases ha
        exact ⟨_, by simp [eqGuard, binOp, eq_ptr2 hu] <;> rfl, .bool _⟩
  · rename_i el hu
    split at e
    all_goals first | (simp at e; done) | skip
    rename_i s1 n1 c1 s2 n2 c2
    cases s1 with
    | none =>
      cases ha
      cases op <;> simp [ebin, eqV] at e
      all_goals
        subst e
        cases hb <;> exact ⟨_, by simp [eqGuard, binOp, eq_sl1 hu] <;> rfl, .bool _⟩
    | some a1 =>
      cases s2 with
      | none =>
        cases hb
        cases op <;> simp [ebin, eqV] at e
        all_goals
          subst e
          cases ha <;> exact ⟨_, by simp [eqGuard, binOp, eq_sl2 hu] <;> rfl, .bool _⟩
      | some a2 => cases op <;> simp [ebin, eqV] at e
  · rename_i hu
    split at e
    all_goals first | (simp at e; done) | skip
    all_goals
      cases op <;> simp [ebin, eqV] at e
    all_goals
      subst e
      cases ha <;> cases hb <;> exact ⟨_, by simp [eqGuard, binOp, eq_fn0 hu, eq_fn1 hu, eq_fn2 hu] <;> rfl, .bool _⟩
  · simp at e

theorem un_ok {op : UnOp} {a a' v : Value} (ha : VR ι a a') (e : un op a = some v) : ∃ v', (Op.unary op a').run P w = .ok v' w ∧ VR ι v v' := by
  unfold un at e
  split at e
  · cases ha
    split at e
    · simp at e; subst e; exact ⟨_, by simp [Op.unary], .bool _⟩
    · simp at e
  · cases ha
    split at e
    · simp at e; subst e; exact ⟨_, by simp [Op.unary, Op.intArith], .int _ _⟩
    · simp at e
  · simp at e
theorem cvt_ok {k : IntKind} {s d : TypeId} {a a' v : Value} (hd : P.underlying d = some (.int k)) (hs : P.underlying s ≠ none) (ha : VR ι a a') (e : cvt k a = some v) : ∃ v', (convert s d a').run P w = .ok v' w ∧ VR ι v v' := by
  unfold cvt at e
  split at e
  · cases ha
    simp at e; subst e
    obtain ⟨ds, hs⟩ := Option.ne_none_iff_exists'.1 hs
    refine ⟨_, ?_, .int _ _⟩
    simp only [convert, Sem.run_bind, run_un hs, run_un hd, Result.andThen_ok]
    cases ds <;> rfl
  · simp at e

theorem mms_ok {f : Value → Value → Option Value} {g : Value → Value → Sem Value} (hfg : ∀ a b a' b' v, VR ι a a' → VR ι b b' → f a b = some v → ∃ v', (g a' b').run P w = .ok v' w ∧ VR ι v v') :
    ∀ (l l' : List Value) (a a' v : Value), VR ι a a' → VRs ι l l' → mms f a l = some v → ∃ v', (l'.foldlM g a').run P w = .ok v' w ∧ VR ι v v' := by
  intro l
  induction l with
  | nil => intro l' a a' v ha hl e; cases hl; simp [mms] at e; subst e; exact ⟨a', rfl, ha⟩
  | cons b l ih =>
    intro l' a a' v ha hl e
    cases hl with
    | cons hb ht =>
      simp only [mms, Option.bind_eq_some_iff] at e
      obtain ⟨c, hc, e⟩ := e
      obtain ⟨c', h1, h2⟩ := hfg _ _ _ _ _ ha hb hc
      obtain ⟨v', h3, h4⟩ := ih _ _ _ _ h2 ht e
      exact ⟨v', by simp [List.foldlM_cons, h1, h3], h4⟩
theorem mx2_ok {a b a' b' v : Value} (ha : VR ι a a') (hb : VR ι b b') (e : mx2 a b = some v) : ∃ v', (Builtin.max2 a' b').run P w = .ok v' w ∧ VR ι v v' := by
  unfold mx2 at e; split at e
  · cases ha; cases hb; simp at e; subst e; exact ⟨_, rfl, .int _ _⟩
  · simp at e
theorem mn2_ok {a b a' b' v : Value} (ha : VR ι a a') (hb : VR ι b b') (e : mn2 a b = some v) : ∃ v', (Builtin.min2 a' b').run P w = .ok v' w ∧ VR ι v v' := by
  unfold mn2 at e; split at e
  · cases ha; cases hb; simp at e; subst e; exact ⟨_, rfl, .int _ _⟩
  · simp at e
theorem nilC_ok {a a' v : Value} (ha : VR ι a a') (e : nilC a = some v) (p : Program) : v = a ∧ ∀ (rest : Value → Sem Next), (match a' with
    | .pointer none | .nilIface | .nilFunc => (runtimePanic .nilDeref : Sem Next)
    | .func (.method name) first captured => rest a'
    | x => pure (.value x)).run p w = .ok (.value a') w := by
  unfold nilC at e
  split at e
  all_goals first | (simp at e; done) | (simp at e; subst e; refine ⟨rfl, fun rest => ?_⟩; cases ha <;> rfl)
theorem padd_ok {n : Nat} {p p' v : Value} (hp : VR ι p p') (e : padd n p = some v) : ∃ a, p' = .pointer (some a) ∧ VR ι v (.pointer (some (a.add n))) := by
  unfold padd at e; split at e
  · cases hp with
    | ptr _ hL =>
      rename_i b o L
      simp at e; subst e
      exact ⟨_, rfl, by rw [addr_add]; have := VR.ptr (ι := ι) (o + n) hL; simpa [Nat.add_assoc] using this⟩
  · simp at e
theorem idxS_ok {t el : TypeId} {size : Nat} (ht : P.underlying t = some (.slice el)) (hs : szT P el = some size) {x x' i i' v : Value} (hx : VR ι x x') (hi : VR ι i i') (e : idxS size x i = some v) :
    ∃ v', (Instr.indexAt t x' i').run P w = .ok v' w ∧ VR ι v v' := by
  unfold idxS at e; split at e
  · cases hi
    split at e
    · rename_i hb
      simp at e; subst e
      cases hx with
      | sl _ _ _ hL hn hc =>
        rename_i b o n k j L c
        refine ⟨.pointer (some ((⟨L.cb, L.co + o, none⟩ : Addr).add (j.toNat * size))), ?_, ?_⟩
        · simp [Instr.indexAt, asIntOf, run_un ht, run_sz hs, hb]
        · rw [addr_add]; have := VR.ptr (ι := ι) (o + j.toNat * size) hL; simpa [Nat.add_assoc] using this
      | sl0 _ _ => omega
      | slE _ _ _ _ _ => omega
    · simp at e
  · simp at e
theorem idxP_ok {t el : TypeId} {size n : Nat} (ht : P.underlying t = some (.array n el)) (hs : szT P el = some size) {x x' i i' v : Value} (hx : VR ι x x') (hi : VR ι i i') (e : idxP size n x i = some v) :
    ∃ v', (Instr.indexAt t x' i').run P w = .ok v' w ∧ VR ι v v' := by
  unfold idxP at e; split at e
  · cases hi
    split at e
    · rename_i hb
      simp at e; subst e
      cases hx with
      | ptr _ hL =>
        rename_i b o k j L
        refine ⟨.pointer (some ((⟨L.cb, L.co + o, none⟩ : Addr).add (j.toNat * size))), ?_, ?_⟩
        · simp [Instr.indexAt, asIntOf, Instr.sureAddr, run_un ht, run_sz hs, hb]
        · rw [addr_add]; have := VR.ptr (ι := ι) (o + j.toNat * size) hL; simpa [Nat.add_assoc] using this
    · simp at e
  · simp at e
end Go.Wz
end
section
namespace Go.Wz
variable {B : Nat} {ι ι' : Inj} {h h' : H} {w w' : World} {P : Program}

def CallPost (P : Program) (B : Nat) (ι : Inj) (h : H) (w : World) (v : SV) (h' : H) (e : Ending) (w' : World) : Prop :=
  ∃ x ι', e = .returned x ∧ Ext P B ι h w ι' h' w' ∧ SR ι' v x
/-- What is asked of the calls. -/
def CallOK (P : Program) (B : Nat) (call : CallT) : Prop :=
  ∀ (fn : Fn) args h v h', call fn args h = some (v, h') → ∀ (F : Fence), Wide F → ∀ ι w args', Sim P B ι h w → SRs ι args args' →
    match fn with
    | .func f => (callFunc f ⟨args'⟩).run P w = .ok (.enter f ⟨args'⟩) w ∧ CallsIn F 0 P f ⟨args'⟩ w (CallPost P B ι h w v h')
    | .yield l => ∀ L, ι l = some L → ∃ f tmps asg body, (Instr.yield L.cb ⟨args'⟩).run P w = .ok (.round L.cb f tmps asg body) w ∧ RoundIn F 0 P L.cb f tmps asg body w (CallPost P B ι h w v h')
    | _ => False

mutual
theorem dsh_some {R : Type} : ∀ (s : Sh) (x : SV) (k : SV → Option R) (r : R), dsh s x k = some r → k x = some r
  | .one, x, k, r, e => by
    unfold dsh at e; cases x <;> simp [un1] at e; exact e
  | .agg, x, k, r, e => by
    unfold dsh at e; cases x <;> simp [unA] at e; exact e
  | .tup l, x, k, r, e => by
    unfold dsh at e; split at e
    · exact dshs_some l _ _ r e
    · simp at e
theorem dshs_some {R : Type} : ∀ (s : List Sh) (x : List SV) (k : List SV → Option R) (r : R), dshs s x k = some r → k x = some r
  | [], x, k, r, e => by
    unfold dshs at e; split at e
    · exact e
    · simp at e
  | s :: l, x, k, r, e => by
    unfold dshs at e; split at e
    · have := dsh_some s _ _ r e
      exact dshs_some l _ (fun xs => k (_ :: xs)) r this
    · simp at e
end

def Good (P : Program) (B : Nat) (F : Fence) (st : St) (o : Oper) (h : H) (v : Option SV) (h' : H) : Prop :=
  ∀ (ι : Inj) (w : World) (a : Act), Sim P B ι h w → TR ι st a.tmps → OpWp F P o a w (fun x w' => ∃ ι', Ext P B ι h w ι' h' w' ∧ OR ι' v x)
theorem Good.value {F : Fence} (hF : Wide F) {st : St} {o : Oper} {v : Option SV} (hd : ∀ c, o.op ≠ .defer c)
    (H : ∀ (ι : Inj) (w : World) (a : Act), Sim P B ι h w → TR ι st a.tmps → ∃ x w' ι', (execOp a.eval o).run P w = .ok (.value x) w' ∧ Ext P B ι h w ι' h' w' ∧ OR ι' v x) : Good P B F st o h v h' := by
  intro ι w a s t
  obtain ⟨x, w', ι', e1, e2, e3⟩ := H ι w a s t
  exact OpWp.value hF hd e1 ⟨ι', e2, e3⟩
theorem Good.skip {F : Fence} (hF : Wide F) {st : St} {o : Oper} (hd : ∀ c, o.op ≠ .defer c)
    (H : ∀ (ι : Inj) (w : World) (a : Act), Sim P B ι h w → TR ι st a.tmps → ∃ w' ι', (execOp a.eval o).run P w = .ok .skip w' ∧ Ext P B ι h w ι' h' w') : Good P B F st o h (some .undef) h' := by
  intro ι w a s t
  obtain ⟨w', ι', e1, e2⟩ := H ι w a s t
  exact OpWp.skip hF hd e1 ⟨ι', e2, fun sv e => by simp at e; subst e; exact .undef⟩
theorem OR.one {v v' : Value} (hv : VR ι v v') : OR ι (some (.one v)) v' := fun sv e => by simp at e; subst e; exact .one hv
theorem OR.of {sv : SV} {v' : Value} (hv : SR ι sv v') : OR ι (some sv) v' := fun s e => by simp at e; subst e; exact hv
theorem SR.one_inv {v : Value} {v' : Value} (e : SR ι (.one v) v') : VR ι v v' := by cases e; assumption
theorem SR.agg_inv {cs : List Value} {v' : Value} (e : SR ι (.agg cs) v') : ∃ cs', v' = .agg ⟨cs'⟩ ∧ VRs ι cs cs' := by cases e; exact ⟨_, rfl, ‹_›⟩
theorem TR.v {st : St} {a : Act} (h : TR ι st a.tmps) {x : Operand} {v : Value} (e : evO st x = some (.one v)) : VR ι v (a.eval x) := (h.eval e).one_inv
theorem TR.vs {st : St} {a : Act} (h : TR ι st a.tmps) : ∀ {xs : List Operand} {l : List Value}, xs.map (evO st) = l.map (fun v => some (.one v)) → VRs ι l (xs.map a.eval) := by
  intro xs
  induction xs with
  | nil => intro l e; cases l <;> simp at e; exact .nil
  | cons x xs ih =>
    intro l e
    cases l with
    | nil => simp at e
    | cons v l => simp at e; exact .cons (h.v e.1) (ih (by simpa using e.2))
theorem TR.svs {st : St} {a : Act} (h : TR ι st a.tmps) : ∀ {xs : List Operand} {l : List SV}, xs.map (evO st) = l.map some → SRs ι l (xs.map a.eval) := by
  intro xs
  induction xs with
  | nil => intro l e; cases l <;> simp at e; exact .nil
  | cons x xs ih =>
    intro l e
    cases l with
    | nil => simp at e
    | cons v l => simp at e; exact .cons (h.eval e.1) (ih (by simpa using e.2))

theorem elemS_eq {t e : TypeId} (h : elemS P t = some e) : P.underlying t = some (.slice e) := by
  unfold elemS at h; split at h
  · simp at h; subst h; assumption
  · simp at h
theorem fldT_eq {s : TypeId} {f : Nat} {off : Nat} {ft : TypeId} (h : fldT P s f = some (off, ft)) : ∃ fs fd, P.underlying s = some (.struct fs) ∧ fs[f]? = some fd ∧ fd.offset = off ∧ fd.type = ft := by
  unfold fldT at h; split at h
  · rename_i fs hu
    rw [Option.map_eq_some_iff] at h
    obtain ⟨fd, h1, h2⟩ := h
    simp at h2
    exact ⟨fs, fd, hu, h1, h2.1, h2.2⟩
  · simp at h

theorem good_alloc {F : Fence} (hF : Wide F) {st : St} {o : Oper} {e : TypeId} {cs : List Value} (ho : o.op = .alloc e) (hz : zeroC P e = some cs) : Good P B F st o h (some (.one (ptr h.next 0))) (h.new (.cells cs e true)) := by
  refine .value hF (by simp [ho]) fun ι w a s t => ?_
  obtain ⟨z, h1, h2, h3⟩ := zeroC_len hz
  have x := s.newCells (cs := cs) (c := ⟨cs⟩) (e := e) (esz := (szT P e).getD 0) rfl (by simp) (by simpa using h3 ι)
  refine ⟨.pointer (some ⟨w.heap.size, 0, none⟩), _, _, ?_, x, OR.one ?_⟩
  · simp [execOp, ho, Instr.alloc, h1, newVar, newRow, h2]
  · simpa [ptr] using VR.ptr (ι := ι.add h.next ⟨w.heap.size, 0, (szT P e).getD 0, cs.length⟩) 0 Inj.add_same
theorem good_box {F : Fence} (hF : Wide F) {st : St} {o : Oper} {e : TypeId} {x : Operand} {cs : List Value} (ho : o.op = .box e x) (hz : evO st x = some (.agg cs) ∨ ∃ v, evO st x = some (.one v) ∧ cs = [v]) : Good P B F st o h (some (.one (ptr h.next 0))) (h.new (.cells cs e true)) := by
  refine .value hF (by simp [ho]) fun ι w a s t => ?_
  obtain ⟨cs', h2, h3⟩ : ∃ cs' : List Value, (a.eval x).cells = ⟨cs'⟩ ∧ VRs ι cs cs' := by
    rcases hz with hz | ⟨v, hz, rfl⟩
    · obtain ⟨cs', e1, e2⟩ := (t.eval hz).agg_inv; exact ⟨cs', by rw [e1]; rfl, e2⟩
    · have := t.v hz; exact ⟨[a.eval x], this.cells, .cons this .nil⟩
  have x1 := s.newCells (cs := cs) (c := ⟨cs'⟩) (e := e) (esz := (szT P e).getD 0) rfl (by simp [h3.length]) (by simpa [h3.length] using h3)
  refine ⟨.pointer (some ⟨w.heap.size, 0, none⟩), _, _, ?_, x1, OR.one ?_⟩
  · simp [execOp, ho, Instr.box, newVar, newRow, h2]
  · simpa [ptr] using VR.ptr (ι := ι.add h.next ⟨w.heap.size, 0, (szT P e).getD 0, cs'.length⟩) 0 Inj.add_same
theorem good_load {F : Fence} (hF : Wide F) {st : St} {o : Oper} {t : TypeId} {x : Operand} {p v : Value} (ho : o.op = .load t x) (hx : evO st x = some (.one p)) (ha : aggT P t = some false) (e : pld h p = some v) : Good P B F st o h (some (.one v)) h := by
  refine .value hF (by simp [ho]) fun ι w a s tr => ?_
  obtain ⟨ad, v', e1, e2, e3⟩ := pld_ok (P := P) s (tr.v hx) e
  refine ⟨v', w, ι, ?_, .refl s, .one e3⟩
  simp [execOp, ho, Instr.loadAt, e1, Instr.sureAddr, loadVar, run_ag ha, e2, -run_load]
theorem good_loadn {F : Fence} (hF : Wide F) {st : St} {o : Oper} {t : TypeId} {x : Operand} {p : Value} {n : Nat} {vs : List Value} (ho : o.op = .load t x) (hx : evO st x = some (.one p)) (ha : aggT P t = some true) (hs : szT P t = some n) (e : pldn h n p = some vs) : Good P B F st o h (some (.agg vs)) h := by
  refine .value hF (by simp [ho]) fun ι w a s tr => ?_
  obtain ⟨ad, v', e1, e2, e3, e4⟩ := pldn_ok (P := P) s (tr.v hx) e
  refine ⟨.agg ⟨v'⟩, w, ι, ?_, .refl s, .of (.agg e4)⟩
  simp [execOp, ho, Instr.loadAt, e1, Instr.sureAddr, loadVar, run_ag ha, run_sz hs, e3]
theorem good_store {F : Fence} (hF : Wide F) {st : St} {o : Oper} {t : TypeId} {x y : Operand} {p v : Value} (ho : o.op = .store t x y) (hx : evO st x = some (.one p)) (hy : evO st y = some (.one v)) (hs : szT P t = some 1) (e : pst h v p = some h') : Good P B F st o h (some .undef) h' := by
  refine .skip hF (by simp [ho]) fun ι w a s tr => ?_
  have hv := tr.v hy
  obtain ⟨ad, w', e1, e2, e3⟩ := pst_ok (P := P) s (tr.v hx) hv e
  refine ⟨w', ι, ?_, e3⟩
  simp [execOp, ho, Instr.storeAt, e1, Instr.sureAddr, storeVar, run_sz hs, hv.cells, e2]
theorem good_storen {F : Fence} (hF : Wide F) {st : St} {o : Oper} {t : TypeId} {x y : Operand} {p : Value} {cs : List Value} (ho : o.op = .store t x y) (hx : evO st x = some (.one p)) (hy : evO st y = some (.agg cs)) (hs : szT P t = some cs.length) (e : pstn h cs p = some h') : Good P B F st o h (some .undef) h' := by
  refine .skip hF (by simp [ho]) fun ι w a s tr => ?_
  obtain ⟨cs', e0, hv⟩ := (tr.eval hy).agg_inv
  obtain ⟨ad, w', e1, e2, e3⟩ := pstn_ok (P := P) s (tr.v hx) hv e
  refine ⟨w', ι, ?_, e3⟩
  simp [execOp, ho, Instr.storeAt, e1, Instr.sureAddr, storeVar, run_sz hs, e0, Value.cells, hv.length, e2]
theorem good_field {F : Fence} (hF : Wide F) {st : St} {o : Oper} {t ft : TypeId} {x : Operand} {f off : Nat} {cs : List Value} (ho : o.op = .field t x f) (hx : evO st x = some (.agg cs)) (hf : fldT P t f = some (off, ft)) {v : Value} (ha : aggT P ft = some false) (e : cs[off]? = some v) : Good P B F st o h (some (.one v)) h := by
  refine .value hF (by simp [ho]) fun ι w a s tr => ?_
  obtain ⟨cs', e0, hv⟩ := (tr.eval hx).agg_inv
  obtain ⟨fs, fd, h1, h2, h3, h4⟩ := fldT_eq hf
  subst h3 h4
  obtain ⟨v', e1, e2⟩ := hv.get _ e
  refine ⟨v', w, ι, ?_, .refl s, .one e2⟩
  simp [execOp, ho, Instr.field, run_un h1, h2, e0, asAgg, part, run_ag ha, e1]
theorem good_fieldn {F : Fence} (hF : Wide F) {st : St} {o : Oper} {t ft : TypeId} {x : Operand} {f off n : Nat} {cs : List Value} (ho : o.op = .field t x f) (hx : evO st x = some (.agg cs)) (hf : fldT P t f = some (off, ft)) (ha : aggT P ft = some true) (hs : szT P ft = some n) : Good P B F st o h (some (.agg ((cs.drop off).take n))) h := by
  refine .value hF (by simp [ho]) fun ι w a s tr => ?_
  obtain ⟨cs', e0, hv⟩ := (tr.eval hx).agg_inv
  obtain ⟨fs, fd, h1, h2, h3, h4⟩ := fldT_eq hf
  subst h3 h4
  refine ⟨.agg ⟨(cs'.drop fd.offset).take n⟩, w, ι, ?_, .refl s, .of (.agg ((hv.drop _).take _))⟩
  simp [execOp, ho, Instr.field, run_un h1, h2, e0, asAgg, part, run_ag ha, run_sz hs]
theorem good_build {F : Fence} (hF : Wide F) {st : St} {o : Oper} {t : TypeId} {parts : Array (Nat × Operand)} (ho : o.op = .build t parts) {cs : List Value}
    (H : ∀ (ι : Inj) (w : World) (a : Act), TR ι st a.tmps → ∃ cs', (Instr.build t (parts.map fun (i, x) => (i, a.eval x))).run P w = .ok (.agg ⟨cs'⟩) w ∧ VRs ι cs cs') : Good P B F st o h (some (.agg cs)) h := by
  refine .value hF (by simp [ho]) fun ι w a s tr => ?_
  obtain ⟨cs', e1, e2⟩ := H ι w a tr
  exact ⟨_, w, ι, by simp [execOp, ho, e1], .refl s, .of (.agg e2)⟩

theorem good_bin {F : Fence} (hF : Wide F) {st : St} {o : Oper} {op : BinOp} {t ty : TypeId} {x y : Operand} {a b v : Value} (ho : o.op = .binOp op t x y ty) (hx : evO st x = some (.one a)) (hy : evO st y = some (.one b)) (e : binT P op t a b = some v) : Good P B F st o h (some (.one v)) h := by
  refine .value hF (by simp [ho]) fun ι w ac s tr => ?_
  obtain ⟨v', e1, e2⟩ := binT_ok (w := w) (x := x) (y := y) (tr.v hx) (tr.v hy) e
  refine ⟨v', w, ι, ?_, .refl s, .one e2⟩
  simp only [execOp, ho]
  rw [Sem.run_bind, e1]; rfl
theorem good_binA {F : Fence} (hF : Wide F) {st : St} {o : Oper} {op : BinOp} {t ty : TypeId} {x y : Operand} {fs : List Bool} {as bs : List Value} {v : Value} (ho : o.op = .binOp op t x y ty) (hx : evO st x = some (.agg as)) (hy : evO st y = some (.agg bs)) (hn : flatT P t = some fs) (e : binA op fs as bs = some v) : Good P B F st o h (some (.one v)) h := by
  refine .value hF (by simp [ho]) fun ι w ac s tr => ?_
  have h1 := tr.eval hx
  have h2 := tr.eval hy
  obtain ⟨v', e1, e2⟩ := binA_ok (w := w) (x := x) (y := y) h1 h2 hn e
  refine ⟨v', w, ι, ?_, .refl s, .one e2⟩
  simp only [execOp, ho]
  rw [Sem.run_bind, e1]; rfl
theorem good_sem {F : Fence} (hF : Wide F) {st : St} {o : Oper} {v : Value} (hd : ∀ c, o.op ≠ .defer c)
    (H : ∀ (ι : Inj) (w : World) (a : Act), Sim P B ι h w → TR ι st a.tmps → ∃ (sem : Sem Value) (v' : Value), execOp a.eval o = (do pure (.value (← sem))) ∧ sem.run P w = .ok v' w ∧ VR ι v v') : Good P B F st o h (some (.one v)) h := by
  refine .value hF hd fun ι w a s tr => ?_
  obtain ⟨sem, v', e0, e1, e2⟩ := H ι w a s tr
  exact ⟨v', w, ι, by rw [e0, Sem.run_bind, e1]; rfl, .refl s, .one e2⟩
theorem good_semw {F : Fence} (hF : Wide F) {st : St} {o : Oper} {v : Value} (hd : ∀ c, o.op ≠ .defer c)
    (H : ∀ (ι : Inj) (w : World) (a : Act), Sim P B ι h w → TR ι st a.tmps → ∃ (sem : Sem Value) (v' : Value) (w' : World) (ι' : Inj), execOp a.eval o = (do pure (.value (← sem))) ∧ sem.run P w = .ok v' w' ∧ Ext P B ι h w ι' h' w' ∧ VR ι' v v') : Good P B F st o h (some (.one v)) h' := by
  refine .value hF hd fun ι w a s tr => ?_
  obtain ⟨sem, v', w', ι', e0, e1, e2, e3⟩ := H ι w a s tr
  exact ⟨v', w', ι', by rw [e0, Sem.run_bind, e1]; rfl, e2, .one e3⟩

theorem nilC_ok2 {a a' v : Value} (ha : VR ι a a') (e : nilC a = some v) {o : Oper} {x : Operand} {ρ : Operand → Value} (ho : o.op = .nilCheck x) (hx : ρ x = a') : v = a ∧ execOp ρ o = pure (.value a') := by
  unfold nilC at e
  split at e
  all_goals first | (simp at e; done) | skip
  all_goals
    simp at e; subst e
    refine ⟨rfl, ?_⟩
    unfold execOp
    rw [ho]
    simp only [hx]
    cases ha <;> rfl

theorem slice_run {t el : TypeId} {size : Nat} (ht : P.underlying t = some (.slice el)) (hs : szT P el = some size) (h1 : 1 ≤ size) {lo hi : Option Value} {x x' v : Value} (hx : VR ι x x') {lo' hi' : Option Value}
    (hl : ∀ l, lo = some l → ∃ l', lo' = some l' ∧ VR ι l l') (hl0 : lo = none → lo' = none) (hh : ∀ l, hi = some l → ∃ l', hi' = some l' ∧ VR ι l l') (hh0 : hi = none → hi' = none) (e : cutS size lo hi x = some v) :
    ∃ v', (Instr.sliceAt t x' lo' hi' none).run P w = .ok v' w ∧ VR ι v v' := by
  unfold cutS at e
  split at e
  · rename_i a n c
    split at e
    · rename_i l u hlv huv
      split at e
      · rename_i hcond
        obtain ⟨hlu, hun⟩ := hcond
        -- the concrete bounds
        obtain ⟨a', c', rfl, hnc⟩ := hx.slice_inv
        have huc : u ≤ c' := by omega
        have hb : (Instr.sliceBounds true n c' lo' hi' none).run P w = .ok (l, u, c') w := by
          cases hi with
          | none =>
            rw [hh0 rfl]
            simp at huv; subst huv
            cases lo with
            | none => rw [hl0 rfl]; simp at hlv; subst hlv; rfl
            | some lv =>
              obtain ⟨l', rfl, hvr⟩ := hl _ rfl
              cases lv <;> simp at hlv
              cases hvr
              rename_i k i
              obtain ⟨h0, rfl⟩ := hlv
              have : i ≤ n := by omega
              simp [Instr.sliceBounds, Instr.sliceBound, asIntOf, h0, this]
          | some hv =>
            obtain ⟨h', rfl, hvr⟩ := hh _ rfl
            cases hv <;> simp at huv
            cases hvr
            rename_i k i
            obtain ⟨h0, rfl⟩ := huv
            have hic : i ≤ c' := by omega
            cases lo with
            | none => rw [hl0 rfl]; simp at hlv; subst hlv; simp [Instr.sliceBounds, Instr.sliceBound, asIntOf, h0, hic]
            | some lv =>
              obtain ⟨l', rfl, hvr⟩ := hl _ rfl
              cases lv <;> simp at hlv
              cases hvr
              rename_i k2 i2
              obtain ⟨h02, rfl⟩ := hlv
              have : i2 ≤ i := by omega
              simp [Instr.sliceBounds, Instr.sliceBound, asIntOf, h0, hic, h02]
              intro hh; omega
        have hrun : (Instr.sliceAt t (.slice a' n c') lo' hi' none).run P w = .ok (.slice (if c' = l then a' else a'.map (·.add (l * size))) (u - l) (c' - l)) w := by
          simp only [Instr.sliceAt, Sem.run_bind, run_un ht, Result.andThen_ok, Instr.slice, hb, run_sz hs, Sem.run_pure]
        refine ⟨_, hrun, ?_⟩
        split at e
        · simp at e; subst e
          cases hx
          have hl0' : l = 0 := by omega
          have hu0 : u = 0 := by omega
          subst hl0' hu0
          simp
          exact .nilSl
        · rename_i b o
          simp at e; subst e
          cases hx with
          | sl _ _ _ hL hn hc =>
            rename_i L
            by_cases hcl : c' = l
            · have : u - l = 0 := by omega
              rw [if_pos hcl, this]
              have : u = l := by omega
              by_cases hl0 : l = 0
              · subst hl0
                have hc0 : c' - 0 = 0 := by omega
                rw [hc0]
                have := VR.sl (ι := ι) (b := b) o 0 0 hL (Nat.le_refl _) (fun hh => by have := hc hh; omega)
                simpa using this
              · have hpos : o + l * size ≠ 0 := by
                  have : 1 ≤ l * size := Nat.mul_pos (by omega) h1
                  omega
                simpa using VR.slE (ι := ι) (b := b) (o + l * size) L.cb (L.co + o) (c' - l) hpos
            · rw [if_neg hcl]
              simp only [Option.map_some, addr_add]
              by_cases hl0 : l = 0
              · subst hl0
                have := VR.sl (ι := ι) (b := b) o u c' hL (by omega) hc
                simpa using this
              · have hpos : o + l * size ≠ 0 := by
                  have : 1 ≤ l * size := Nat.mul_pos (by omega) h1
                  omega
                have := VR.sl (ι := ι) (b := b) (o + l * size) (u - l) (c' - l) hL (by omega) (fun hh => absurd hh hpos)
                simpa [Nat.add_assoc] using this
          | sl0 _ a0 =>
            have : u = 0 := by omega
            have hl0 : l = 0 := by omega
            subst hl0 this
            simp
            exact .sl0 _ _
          | slE _ cb co c ho =>
            have : u = 0 := by omega
            have hl0 : l = 0 := by omega
            subst hl0 this
            by_cases hc0 : c' = 0
            · subst hc0; simp; exact .slE _ _ _ _ ho
            · simp [addr_add]; exact .slE _ _ _ _ ho
        · simp at e
      · simp at e
    · simp at e
  · simp at e

theorem cut0_ok {t el : TypeId} {size : Nat} (ht : P.underlying t = some (.slice el)) (hs : szT P el = some size) {x x' v : Value} (hx : VR ι x x') (e : cut0 x = some v) {lo' : Option Value} (hl : lo' = none ∨ ∃ k, lo' = some (.int k 0)) {k1 k2 : IntKind} :
    ∃ v', (Instr.sliceAt t x' lo' (some (.int k1 0)) (some (.int k2 0))).run P w = .ok v' w ∧ VR ι v v' := by
  unfold cut0 at e
  split at e
  · rename_i a n c
    simp at e; subst e
    obtain ⟨a', c', rfl, hnc⟩ := hx.slice_inv
    have hb : (Instr.sliceBounds true n c' lo' (some (.int k1 0)) (some (.int k2 0))).run P w = .ok (0, 0, 0) w := by
      rcases hl with rfl | ⟨k, rfl⟩ <;> simp [Instr.sliceBounds, Instr.sliceBound, asIntOf]
    refine ⟨.slice a' 0 0, ?_, ?_⟩
    · simp only [Instr.sliceAt, Sem.run_bind, run_un ht, Result.andThen_ok, Instr.slice, hb, run_sz hs, Sem.run_pure]
      simp
    · cases hx with
      | nilSl => exact .nilSl
      | sl o n c h hn hc => exact .sl0 _ _
      | sl0 o a => exact .sl0 _ _
      | slE o cb co c ho => exact .sl0 _ _
  · simp at e

theorem good_call {F : Fence} (hF : Wide F) {call : CallT} (hc : CallOK P B call) {st : St} {o : Oper} {c : Call} {f : Operand} {fv : Value} {args : List SV} {v : SV} (ho : o.op = .call c) (hcl : c.callee = .value f)
    (hf : evO st f = some (.one fv)) (ha : c.args.toList.map (evO st) = args.map some) (e : callV call fv args h = some (v, h')) : Good P B F st o h (some v) h' := by
  intro ι w a s tr next Q hn
  have hfv := tr.v hf
  have hargs := tr.svs ha
  unfold callV at e
  split at e
  · rename_i fn first cap
    have hd : ∀ c, o.op ≠ .defer c := by simp [ho]
    have hall : ∀ (first' cap' : List Value), VRs ι first.toList first' → VRs ι cap.toList cap' → SRs ι (first.toList.map .one ++ args ++ cap.toList.map .one) (first' ++ c.args.toList.map a.eval ++ cap') :=
      fun f' c' h1 h2 => ((SRs.ones h1).append hargs).append (SRs.ones h2)
    generalize hg : a.eval f = g at hfv
    cases hfv with
    | func f0 hx hy =>
      rename_i xs ys xs' ys'
      obtain ⟨h1, h2⟩ := hc _ _ _ _ _ e F hF ι w _ s (hall _ _ hx hy)
      refine ⟨fun f _ => hF.fn f, ?_⟩
      have hrun : (execOp a.eval o).run P w = .ok (.enter f0 ⟨xs' ++ c.args.toList.map a.eval ++ ys'⟩) w := by
        have e1 : (⟨xs'⟩ : Array Value) ++ (c.args.map a.eval) ++ ⟨ys'⟩ = ⟨xs' ++ c.args.toList.map a.eval ++ ys'⟩ := by
          apply Array.ext'; simp
        rw [← h1, ← e1]
        simp [execOp, ho, resolve, hcl, hg, Deferred.ofValue, invoke]
      rw [semAt_of hd, hrun, Oper.uponIn_enter]
      refine ⟨by simp [hF.depth], h2.mono ?_⟩
      rintro e' w' ⟨x, ι', rfl, p1, p2⟩
      exact hn _ _ ⟨ι', p1, .of p2⟩
    | yield hL =>
      rename_i l L
      obtain ⟨f0, tm, asg, body, h1, h2⟩ := hc _ _ _ _ _ e F hF ι w _ s (hall [] [] .nil .nil) L hL
      refine ⟨fun f _ => hF.fn f, ?_⟩
      have hrun : (execOp a.eval o).run P w = .ok (.round L.cb f0 tm asg body) w := by
        have e1 : (c.args.map a.eval) = ⟨[] ++ c.args.toList.map a.eval ++ []⟩ := by
          apply Array.ext'; simp
        rw [← h1, ← e1]
        simp [execOp, ho, resolve, hcl, hg, Deferred.ofValue, invoke]
      rw [semAt_of hd, hrun, Oper.uponIn_round]
      refine ⟨by simp [hF.depth], h2.mono ?_⟩
      rintro e' w' ⟨x, ι', rfl, p1, p2⟩
      exact hn _ _ ⟨ι', p1, .of p2⟩
  · simp at e
end Go.Wz
end
section
namespace Go.Wz
variable {B : Nat} {ι ι' : Inj} {h h' : H} {w w' : World} {P : Program}

theorem mapM_some {α β : Type} {f : α → Option β} : ∀ {l : List α} {r : List β}, l.mapM f = some r → l.map f = r.map some := by
  intro l
  induction l with
  | nil => intro r e; simp at e; subst e; rfl
  | cons a l ih =>
    intro r e
    simp only [List.mapM_cons, Option.bind_eq_bind, Option.bind_eq_some_iff, Option.pure_def, Option.some.injEq] at e
    obtain ⟨b, hb, t, ht, rfl⟩ := e
    simp [hb, ih ht]

theorem szT_info {t : TypeId} {n : Nat} (h : szT P t = some n) : ∃ i, P.info? t = some i ∧ i.size = n := by
  simp only [szT, Option.map_eq_some_iff] at h; exact h
theorem zero_info {t : TypeId} {zs : List Value} (h : zeroC P t = some zs) : ∃ i z, P.info? t = some i ∧ i.zero = some z ∧ z.cells = ⟨zs⟩ := by
  obtain ⟨z, h1, h2, _⟩ := zeroC_len h
  unfold zeroC at h
  cases hi : P.info? t with
  | none => simp [hi] at h
  | some i =>
    have := h1 default
    unfold zeroValue at this
    simp only [Sem.run_bind, run_ti hi, Result.andThen_ok] at this
    cases hzz : i.zero with
    | none => rw [hzz] at this; simp at this
    | some zz => rw [hzz] at this; simp at this; subst this; exact ⟨i, zz, rfl, hzz, h2⟩
theorem parts_map {parts : Array (Nat × Operand)} {a : Act} : (parts.map fun (i, x) => (i, a.eval x)).toList = parts.toList.map fun p => (p.1, a.eval p.2) := by simp

theorem fillK_inv {R : Type} {k : List Value → Option R} {r : R} : ∀ (l : List (Nat × Nat × Option SV)) (zs : List Value), fillK k zs l = some r → ∃ cs, k cs = some r ∧ fillK some zs l = some cs := by
  intro l
  induction l with
  | nil => intro zs h; exact ⟨zs, h, rfl⟩
  | cons p l ih =>
    intro zs h
    obtain ⟨off, size, x⟩ := p
    unfold fillK at h ⊢
    split at h
    · rename_i hle
      rw [if_pos hle]
      split at h
      · split at h
        · rename_i h1; obtain ⟨cs, a, b⟩ := ih _ h; exact ⟨cs, a, by simp [h1, b]⟩
        · simp at h
      · split at h
        · rename_i h1; obtain ⟨cs, a, b⟩ := ih _ h; exact ⟨cs, a, by simp [h1, b]⟩
        · simp at h
      · simp at h
    · simp at h

theorem good_buildS {F : Fence} (hF : Wide F) {st : St} {o : Oper} {t : TypeId} {parts : Array (Nat × Operand)} (ho : o.op = .build t parts) {fs : Array Field} {zs cs : List Value} {places : List (Nat × Nat)}
    (hu : P.underlying t = some (.struct fs)) (hz : zeroC P t = some zs) (hp : fs.toList.mapM (fun f => (P.info? f.type).map fun i => (f.offset, i.size)) = some places) (hall : parts.toList.all (fun p => (places[p.1]?).isSome) = true)
    (hk : fillK some zs (parts.toList.map fun p => (((places[p.1]?).getD (0, 0)).1, ((places[p.1]?).getD (0, 0)).2, evO st p.2)) = some cs) : Good P B F st o h (some (.agg cs)) h := by
  refine good_build hF ho fun ι w a tr => ?_
  obtain ⟨cs2, cs', q1, q2, q3, _⟩ := fillK_ok tr (fun i => places[i]?) parts.toList _ zs zs ((zeroC_len hz).choose_spec.2.2 ι) rfl (fun p hp => List.all_eq_true.1 hall p hp) hk
  simp at q1; subst q1
  obtain ⟨i, z, hi, hz1, hz2⟩ := zero_info hz
  refine ⟨cs', run_build w t _ ⟨cs'⟩ ?_, q3⟩
  simp only [Program.built, hi, hu, hz1, hp, hz2, parts_map]
  simpa using q2
theorem good_buildA {F : Fence} (hF : Wide F) {st : St} {o : Oper} {t e : TypeId} {n s : Nat} {parts : Array (Nat × Operand)} (ho : o.op = .build t parts) {zs cs : List Value}
    (hu : P.underlying t = some (.array n e)) (hz : zeroC P t = some zs) (hs : szT P e = some s)
    (hk : fillK some zs (parts.toList.map fun p => (p.1 * s, s, evO st p.2)) = some cs) : Good P B F st o h (some (.agg cs)) h := by
  refine good_build hF ho fun ι w a tr => ?_
  obtain ⟨cs2, cs', q1, q2, q3, _⟩ := fillK_ok tr (fun i => some (i * s, s)) parts.toList _ zs zs ((zeroC_len hz).choose_spec.2.2 ι) rfl (by simp) (by simpa using hk)
  simp at q1; subst q1
  obtain ⟨i, z, hi, hz1, hz2⟩ := zero_info hz
  obtain ⟨ie, hie, hies⟩ := szT_info hs
  refine ⟨cs', run_build w t _ ⟨cs'⟩ ?_, q3⟩
  simp only [Program.built, hi, hu, hz1, hie, hz2, hies, parts_map]
  simpa using q2
theorem good_buildSl {F : Fence} (hF : Wide F) {st : St} {o : Oper} {t e : TypeId} {len s : Nat} {parts : Array (Nat × Operand)} (ho : o.op = .buildSlice t len parts) {z cs : List Value}
    (hu : P.underlying t = some (.slice e)) (hz : zeroC P e = some z) (hs : szT P e = some s) (h1 : 1 ≤ s) (hzl : z.length = s) (hlen : len * s ≤ 2 ^ 20)
    (hk : fillK some (List.replicate len z).flatten (parts.toList.map fun p => (p.1 * s, s, evO st p.2)) = some cs) :
    Good P B F st o h (some (.one (.slice (some ⟨h.next, 0, none⟩) len (if len = 0 then 0 else 1)))) (h.new (.cells cs e true)) := by
  refine good_semw hF (by simp [ho]) fun ι w a sm tr => ?_
  obtain ⟨zv, hz1, hz2, hz3⟩ := zeroC_len hz
  obtain ⟨cs2, cs', q1, q2, q3, q4⟩ := fillK_ok tr (fun i => some (i * s, s)) parts.toList _ _ _ ((hz3 ι).flat len) rfl (by simp) (by simpa using hk)
  obtain rfl : cs2 = cs := by simpa using q1
  have hcl : cs2.length = len * s := by rw [q4]; simp [hzl]
  have hcl' : cs'.length = len * s := by rw [← q3.length, hcl]
  have x1 := sm.newCells (cs := cs2) (c := ⟨cs'⟩) (e := e) (esz := s) (by rw [hs]; rfl) (by simp [q3.length]) (by simpa [q3.length] using q3)
  refine ⟨Instr.buildSlice t len (parts.map fun (i, x) => (i, a.eval x)), .slice (some ⟨w.heap.size, 0, none⟩) len len, _, _, by simp [execOp, ho], ?_, x1, ?_⟩
  · have hbig : ¬ (2 ^ 24 < len * s) := by omega
    have hfill : Instr.fill (fun i => some (i * s, s)) ((Array.range (len * s)).map ((if len * s = 0 then #[] else (⟨z⟩ : Array Value))[· % (if len * s = 0 then #[] else (⟨z⟩ : Array Value)).size]!)) (parts.map fun (i, x) => (i, a.eval x)).toList = some ⟨cs'⟩ := by
      rw [parts_map]
      have e2 : ((Array.range (len * s)).map ((if len * s = 0 then #[] else (⟨z⟩ : Array Value))[· % (if len * s = 0 then #[] else (⟨z⟩ : Array Value)).size]!)) = ⟨(List.replicate len z).flatten⟩ := by
        apply Array.ext'
        by_cases h0 : len * s = 0
        · have : len = 0 := by rcases Nat.mul_eq_zero.1 h0 with h | h <;> omega
          subst this; simp
        · simp only [if_neg h0, Array.toList_map, Array.toList_range, List.size_toArray, hzl]
          exact rep_flat z s len hzl h1
      rw [e2]; exact q2
    simp only [Instr.buildSlice, Sem.run_bind, run_un hu, Result.andThen_ok, run_sz hs]
    rw [if_neg hbig]
    by_cases h0 : len * s = 0
    · rw [if_pos h0]
      simp only [if_pos h0] at hfill
      simp only [Sem.run_bind, Sem.run_pure, Result.andThen_ok]
      rw [hfill]
      simp [newRow]
    · rw [if_neg h0]
      simp only [if_neg h0] at hfill
      simp only [Sem.run_bind, Sem.run_pure, Result.andThen_ok, hz1, hz2]
      rw [hfill]
      simp [newRow]
  · by_cases h0 : len = 0
    · subst h0
      simpa using VR.sl0 (ι := ι.add h.next ⟨w.heap.size, 0, s, cs'.length⟩) (b := h.next) 0 ⟨w.heap.size, 0, none⟩
    · have := VR.sl (ι := ι.add h.next ⟨w.heap.size, 0, s, cs'.length⟩) (b := h.next) 0 len len Inj.add_same (Nat.le_refl _) (fun _ => by simp [hcl'])
      simpa [h0] using this
end Go.Wz
end
