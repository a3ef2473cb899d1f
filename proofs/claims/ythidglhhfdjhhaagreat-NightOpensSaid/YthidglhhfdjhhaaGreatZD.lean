import Derived.Test.YthidglhhfdjhhaaGreatZC
import Derived.ProofKit
import Derived.Carry
import Derived.ChangeArms
/- The framework, part D of A to D: an evaluator of the model over an abstract heap, and its soundness. -/
set_option linter.unusedSimpArgs false
set_option linter.unusedVariables false
section
namespace Go.Wz
open Go.RowKit

def objSize : Obj → Nat
  | .cells c _ _ => c.size
  | _ => 0
def bigK (w : World) : Nat := (w.heap.toList.map objSize).sum + 1
def codeA (w : World) (b o : Nat) : Nat := b * bigK w + o
def okA (w : World) (b o : Nat) : Bool := match w.heap[b]? with | some (.cells c _ _) => decide (o ≤ c.size) | _ => false
/-- a value as the abstract heap has it -/
def absV (w : World) : Value → Option Value
  | .bool b => some (.bool b)
  | .int k n => some (.int k n)
  | .string s => some (.string s)
  | .nilFunc => some .nilFunc
  | .nilIface => some .nilIface
  | .map none => some (.map none)
  | .pointer none => some (.pointer none)
  | .pointer (some ⟨b, o, none⟩) => if okA w b o = true then some (ptr (codeA w b o) 0) else none
  | .slice none 0 0 => some (.slice none 0 0)
  | .slice (some a) 0 0 => some (slc 0 0 0 0)
  | .slice (some ⟨b, o, none⟩) n c => if okA w b o = true ∧ n ≤ c then some (slc (codeA w b o) 0 n 1) else none
  | _ => none
/-- as far as it goes -/
def absRun (w : World) : List Value → List Value
  | [] => []
  | v :: l => match absV w v with | some a => a :: absRun w l | none => []
noncomputable section
def HW (w : World) : H where
  get := fun i => match w.heap[i / bigK w]? with
    | some (.cells c e _) => if i % bigK w ≤ c.size then some (.cells (absRun w (c.toList.drop (i % bigK w))) e false) else none
    | _ => none
  next := w.heap.size * bigK w + 1
def injW (w : World) : Inj := fun i => match w.heap[i / bigK w]? with
  | some (.cells c _ _) => if i % bigK w ≤ c.size then some ⟨i / bigK w, i % bigK w, 0, c.size⟩ else none
  | _ => none
end
theorem bigK_pos (w : World) : 0 < bigK w := Nat.succ_pos _
theorem size_le_sum {l : List Obj} {b : Nat} {o : Obj} (h : l[b]? = some o) : objSize o ≤ (l.map objSize).sum := by
  induction l generalizing b with
  | nil => simp at h
  | cons x l ih =>
    simp only [List.map_cons, List.sum_cons]
    cases b with
    | zero => simp at h; subst h; omega
    | succ b => have := ih (by simpa using h); omega
theorem size_lt {w : World} {b : Nat} {c : Array Value} {e : TypeId} {fz : Nat × Nat} (h : w.heap[b]? = some (.cells c e fz)) : c.size < bigK w := by
  have := size_le_sum (l := w.heap.toList) (b := b) (o := .cells c e fz) (by simpa using h)
  show c.size < _ + 1
  have h2 : objSize (.cells c e fz) = c.size := rfl
  omega
theorem code_div {w : World} {b o : Nat} (ho : o < bigK w) : codeA w b o / bigK w = b := by
  unfold codeA; rw [Nat.add_comm, Nat.mul_comm, Nat.add_mul_div_left _ _ (bigK_pos w), Nat.div_eq_of_lt ho]; omega
theorem code_mod {w : World} {b o : Nat} (ho : o < bigK w) : codeA w b o % bigK w = o := by
  unfold codeA; rw [Nat.add_comm, Nat.mul_comm, Nat.add_mul_mod_self_left, Nat.mod_eq_of_lt ho]
theorem okA_some {w : World} {b o : Nat} (h : okA w b o = true) : ∃ c e fz, w.heap[b]? = some (.cells c e fz) ∧ o ≤ c.size := by
  unfold okA at h
  split at h
  · rename_i c e fz hh; exact ⟨c, e, fz, hh, by simpa using h⟩
  · cases h
theorem injW_code {w : World} {b o : Nat} {c : Array Value} {e : TypeId} {fz : Nat × Nat} (h : w.heap[b]? = some (.cells c e fz)) (ho : o ≤ c.size) : injW w (codeA w b o) = some ⟨b, o, 0, c.size⟩ := by
  have := size_lt h
  unfold injW
  simp only [code_div (w := w) (b := b) (o := o) (by omega), code_mod (w := w) (b := b) (o := o) (by omega), h, ho, if_true]
theorem absV_ok {w : World} {v a : Value} (h : absV w v = some a) : VR (injW w) a v := by
  unfold absV at h
  split at h
  all_goals first | (cases h; done) | skip
  · cases h; exact .bool _
  · cases h; exact .int _ _
  · cases h; exact .string _
  · cases h; exact .nilFunc
  · cases h; exact .nilIface
  · cases h; exact .nilMap
  · cases h; exact .nilPtr
  · split at h
    · rename_i hok
      cases h
      obtain ⟨c, e, fz, h1, h2⟩ := okA_some hok
      exact VR.ptr (ι := injW w) 0 (injW_code h1 h2)
    · cases h
  · cases h; exact .nilSl
  · cases h; exact .sl0 _ _
  · split at h
    · rename_i hok
      cases h
      obtain ⟨c, e, fz, h1, h2⟩ := okA_some hok.1
      exact VR.sl (ι := injW w) 0 _ _ (injW_code h1 h2) hok.2 (fun _ => by simpa using h2)
    · cases h
theorem absRun_len (w : World) : ∀ l : List Value, (absRun w l).length ≤ l.length
  | [] => Nat.le_refl _
  | v :: l => by
    unfold absRun
    split
    · simp [absRun_len w l]
    · simp
theorem absRun_ok (w : World) : ∀ l : List Value, VRs (injW w) (absRun w l) (l.take (absRun w l).length)
  | [] => .nil
  | v :: l => by
    unfold absRun
    split
    · rename_i a ha
      simp only [List.length_cons, List.take_succ_cons]
      exact .cons (absV_ok ha) (absRun_ok w l)
    · exact .nil
theorem absRun_map (w : World) : ∀ (l l' : List Value) (r : List Value), (∀ (i : Nat) (v : Value), l[i]? = some v → ∃ a, l'[i]? = some a ∧ absV w v = some a) → l.length = l'.length → absRun w (l ++ r) = l' ++ absRun w r
  | [], [], r, _, _ => rfl
  | [], _ :: _, r, _, h => by simp at h
  | _ :: _, [], r, _, h => by simp at h
  | v :: l, a :: l', r, h, hl => by
    obtain ⟨b, h1, h2⟩ := h 0 v rfl
    simp at h1; subst h1
    show absRun w (v :: (l ++ r)) = a :: (l' ++ absRun w r)
    have e : absRun w (v :: (l ++ r)) = a :: absRun w (l ++ r) := by
      rw [absRun.eq_2, h2]
    rw [e, absRun_map w l l' r (fun i v hi => by simpa using h (i + 1) v (by simpa using hi)) (by simpa using hl)]
theorem simW (P : Program) (w : World) : Sim P w.heap.size (injW w) (HW w) w where
  base := Nat.le_refl _
  dom := fun i hi => by
    unfold injW
    have : w.heap.size ≤ i / bigK w := by
      rw [Nat.le_div_iff_mul_le (bigK_pos w)]
      have : (HW w).next = w.heap.size * bigK w + 1 := rfl
      omega
    rw [Array.getElem?_eq_none this]
  lt := fun i L hi => by
    unfold injW at hi
    split at hi
    · rename_i c e fz hh
      split at hi
      · cases hi
        exact (Array.getElem?_eq_some_iff.1 hh).1
      · cases hi
    · cases hi
  live := fun i x hx => by
    change (match w.heap[i / bigK w]? with | some (.cells c e _) => if i % bigK w ≤ c.size then some (Blk.cells (absRun w (c.toList.drop (i % bigK w))) e false) else none | _ => none) = some x at hx
    split at hx
    · rename_i c e fz hh
      split at hx
      · rename_i hle
        cases hx
        refine ⟨⟨i / bigK w, i % bigK w, 0, c.size⟩, ?_, c, e, fz, hh, ?_, absRun_ok w _, fun h => by cases h⟩
        · unfold injW; rw [hh]; simp only [hle, if_true]
        · have := absRun_len w (c.toList.drop (i % bigK w))
          simp only [List.length_drop, Array.length_toList] at this
          show i % bigK w + _ ≤ c.size
          omega
      · cases hx
    · cases hx
  sep := fun b b' x x' L L' h h' _ _ _ _ => by
    have key : ∀ i y, (HW w).get i = some y → y.wr = false := fun i y hy => by
      change (match w.heap[i / bigK w]? with | some (.cells c e _) => if i % bigK w ≤ c.size then some (Blk.cells (absRun w (c.toList.drop (i % bigK w))) e false) else none | _ => none) = some y at hy
      split at hy
      · split at hy
        · cases hy; rfl
        · cases hy
      · cases hy
    exact ⟨key _ _ h, key _ _ h'⟩

/-- cells that are there, and can be had -/
theorem row_of_cells {w : World} {b o n : Nat} {cs as : List Value} (hn : 0 < n) (hl : cs.length = n) (hc : ∀ i, i < n → w.cell? ⟨b, o + i, none⟩ = cs[i]?) (ha : as.length = n) (hab : ∀ (i : Nat) (v : Value), cs[i]? = some v → ∃ a, as[i]? = some a ∧ absV w v = some a) :
    okA w b o = true ∧ ∃ vs e, Row (HW w) (codeA w b o) vs e false ∧ n ≤ vs.length ∧ vs.take n = as := by
  have h0 := hc 0 hn
  unfold World.cell? at h0
  have : ∃ c e fz, w.heap[b]? = some (.cells c e fz) ∧ o < c.size := by
    simp only [Nat.add_zero, Option.isSome_none, Bool.false_eq_true, if_false] at h0
    have hs : ∃ v, cs[0]? = some v := ⟨cs[0], List.getElem?_eq_getElem (by omega)⟩
    obtain ⟨v, hv⟩ := hs
    rw [hv] at h0
    split at h0
    · rename_i c e fz hh
      exact ⟨c, e, fz, hh, (Array.getElem?_eq_some_iff.1 h0).1⟩
    · cases h0
  obtain ⟨c, e, fz, hw, ho⟩ := this
  have hcell : ∀ i, i < n → c[o + i]? = cs[i]? := fun i hi => by
    have := hc i hi
    unfold World.cell? at this
    simpa [hw] using this
  have hfit : o + n ≤ c.size := by
    have h1 := hcell (n - 1) (by omega)
    have : (cs[n - 1]?).isSome := by rw [List.getElem?_eq_getElem (by omega)]; rfl
    rw [← h1] at this
    obtain ⟨v, hv⟩ := Option.isSome_iff_exists.1 this
    have := (Array.getElem?_eq_some_iff.1 hv).1
    omega
  have hcs : (c.toList.drop o).take n = cs := by
    apply List.ext_getElem?
    intro i
    by_cases hi : i < n
    · rw [List.getElem?_take_of_lt hi, List.getElem?_drop, ← hcell i hi]; simp
    · rw [List.getElem?_eq_none (by simp; omega), List.getElem?_eq_none (by omega)]
  have hrun : absRun w (c.toList.drop o) = as ++ absRun w ((c.toList.drop o).drop n) := by
    conv => lhs; rw [← List.take_append_drop n (c.toList.drop o), hcs]
    exact absRun_map w cs as _ hab (by omega)
  have hk := size_lt hw
  refine ⟨by unfold okA; rw [hw]; simp; omega, absRun w (c.toList.drop o), e, ⟨?_, ?_⟩, ?_, ?_⟩
  · show codeA w b o < w.heap.size * bigK w + 1
    have hb : b < w.heap.size := (Array.getElem?_eq_some_iff.1 hw).1
    unfold codeA
    have : (b + 1) * bigK w ≤ w.heap.size * bigK w := Nat.mul_le_mul_right _ hb
    rw [Nat.add_mul] at this
    omega
  · show (match w.heap[codeA w b o / bigK w]? with | some (.cells c e _) => if codeA w b o % bigK w ≤ c.size then some (Blk.cells (absRun w (c.toList.drop (codeA w b o % bigK w))) e false) else none | _ => none) = _
    rw [code_div (by omega), code_mod (by omega), hw]
    simp only [show o ≤ c.size by omega, if_true]
  · rw [hrun]; simp; omega
  · rw [hrun, List.take_append_of_le_length (by omega), List.take_of_length_le (by omega)]

/-! ### the end of a law -/
/-- of what was there nothing has changed, if the abstract heap was to be read alone -/
theorem Ext.below {P : Program} {w w' : World} {ι' : Inj} {h' : H} (x : Ext P w.heap.size (injW w) (HW w) w ι' h' w') : Below w.heap.size w w' where
  os := x.os
  tape := x.tape
  output := x.out
  size := x.size
  block := fun k hk => x.fr k hk fun b y L hy _ hwr => by
    have key : ∀ i y, (HW w).get i = some y → y.wr = false := fun i y hy => by
      change (match w.heap[i / bigK w]? with | some (.cells c e _) => if i % bigK w ≤ c.size then some (Blk.cells (absRun w (c.toList.drop (i % bigK w))) e false) else none | _ => none) = some y at hy
      split at hy
      · split at hy
        · cases hy; rfl
        · cases hy
      · cases hy
    rw [key _ _ hy] at hwr; cases hwr
theorem Wide.wide : Wide Fence.wide := ⟨fun _ => trivial, rfl⟩
/-- a law's call, in any world -/
theorem law_calls {P : Program} (hn : NamesOK P) (hmix : P.follows .mixedOrders = true) {hints : FuncId → Hint} {N : Nat} {call : CallT} (hc : ∀ B, CallOK P B call) {f : FuncId} {args : List SV} {w : World} {h' : H} {b : Bool}
    (e : execF P call hints N f args (HW w) = some (.one (.bool b), h')) {args' : List Value} (ha : SRs (injW w) args args') :
    Calls P f ⟨args'⟩ w fun e w' => e = .returned (.bool b) ∧ Below w.heap.size w w' := by
  have := (execF_ok hn hmix hints N (hc w.heap.size) e Fence.wide Wide.wide (injW w) w args' (simW P w) ha).2
  refine (callsIn_wide.1 this).mono ?_
  rintro en w' ⟨x, ι', rfl, hx, hs⟩
  cases hs with
  | one hv => cases hv; exact ⟨rfl, hx.below⟩
end Go.Wz
end
section
namespace Go.Wz
variable {P : Program} {H0 : Type} {enc : TypeId × Value → H0} {w : World}

/-- a number of a kind, or a bool -/
def okCell : Option IntKind → Value → Prop
  | some k, v => ∃ n, v = .int k n ∧ (Lit.int k n).wf = true
  | none, v => ∃ b, v = .bool b
def RowK : List (Option IntKind) → List Value → Prop
  | [], [] => True
  | k :: ks, v :: vs => okCell k v ∧ RowK ks vs
  | _, _ => False
theorem RowK.len : ∀ {ks : List (Option IntKind)} {vs : List Value}, RowK ks vs → vs.length = ks.length
  | [], [], _ => rfl
  | [], _ :: _, h => h.elim
  | _ :: _, [], h => h.elim
  | k :: ks, v :: vs, h => by simp [RowK.len h.2]
theorem RowK.append : ∀ {a : List (Option IntKind)} {x : List Value} {b : List (Option IntKind)} {y : List Value}, RowK a x → RowK b y → RowK (a ++ b) (x ++ y)
  | [], [], _, _, _, h => h
  | [], _ :: _, _, _, h, _ => h.elim
  | _ :: _, [], _, _, h, _ => h.elim
  | k :: ks, v :: vs, _, _, h, h' => ⟨h.1, RowK.append h.2 h'⟩
theorem RowK.abs : ∀ {ks : List (Option IntKind)} {vs : List Value}, RowK ks vs → ∀ (i : Nat) (v : Value), vs[i]? = some v → absV w v = some v
  | [], [], _, i, v, hi => by simp at hi
  | [], _ :: _, h, _, _, _ => h.elim
  | _ :: _, [], h, _, _, _ => h.elim
  | k :: ks, u :: vs, h, i, v, hi => by
    cases i with
    | zero =>
      simp at hi; subst hi
      cases k with
      | none => obtain ⟨b, rfl⟩ := h.1; rfl
      | some k => obtain ⟨n, rfl, _⟩ := h.1; rfl
    | succ i => exact RowK.abs h.2 i v (by simpa using hi)

def flatFs (P : Program) (g : TypeId → Option (List (Option IntKind))) : Nat → List Field → Option (List (Option IntKind))
  | _, [] => some []
  | o, f :: l => (g f.type).bind fun ks => if f.offset = o ∧ P.cellsOf f.type = ks.length then (flatFs P g (o + ks.length) l).map (ks ++ ·) else none
/-- what the cells of a type of numbers and bools are -/
def flatKinds (P : Program) : Nat → TypeId → Option (List (Option IntKind))
  | 0, _ => none
  | n + 1, t => match P.underlying t with
    | some (.int k) => some [some k]
    | some .bool => some [none]
    | some (.struct fs) => (flatFs P (flatKinds P n) 0 fs.toList).bind fun ks => if P.cellsOf t = ks.length then some ks else none
    | some (.array m e) => (flatKinds P n e).bind fun ks => if P.cellsOf e = ks.length ∧ P.cellsOf t = m * ks.length then some (List.replicate m ks).flatten else none
    | _ => none
section
variable {base : Nat} {sp : Nat → Bool} {hd : Bool}
theorem take_add_drop (cs : List Value) (o a b : Nat) : (cs.drop o).take (a + b) = (cs.drop o).take a ++ (cs.drop (o + a)).take b := by
  rw [List.take_add, List.drop_drop]
theorem flatFs_ok {g : TypeId → Option (List (Option IntKind))} {cs : List Value} : ∀ (l : List Field) (o : Nat) (ks : List (Option IntKind)), flatFs P g o l = some ks →
    (∀ f ∈ l, ∀ ks', g f.type = some ks' → RowK ks' ((cs.drop f.offset).take (P.cellsOf f.type))) → RowK ks ((cs.drop o).take ks.length)
  | [], o, ks, h, _ => by simp only [flatFs, Option.some.injEq] at h; subst h; simp [RowK]
  | f :: l, o, ks, h, hf => by
    simp only [flatFs, Option.bind_eq_some_iff] at h
    obtain ⟨k1, h1, h2⟩ := h
    split at h2
    · rename_i hc
      obtain ⟨ho, hk⟩ := hc
      simp only [Option.map_eq_some_iff] at h2
      obtain ⟨k2, h3, rfl⟩ := h2
      have a1 := hf f (by simp) k1 h1
      have a2 := flatFs_ok l (o + k1.length) k2 h3 fun f' hf' => hf f' (by simp [hf'])
      rw [List.length_append, take_add_drop]
      rw [ho, hk] at a1
      exact a1.append a2
    · cases h2
theorem flat_ok : ∀ (m : Nat) (t : TypeId) (ks : List (Option IntKind)) (fuel : Nat) (cs : List Value) (x : DataW H0 × List MemPlace), flatKinds P m t = some ks → DataW.trod enc P w base sp hd fuel t cs = some x → RowK ks cs
  | 0, _, _, _, _, _, h, _ => by simp [flatKinds] at h
  | m + 1, t, ks, fuel, cs, x, h, hx => by
    unfold flatKinds at h
    split at h
    · rename_i k hu
      cases h
      obtain ⟨n, rfl, _, hw⟩ := DataW.trod_int hu hx
      exact ⟨⟨n, rfl, hw⟩, trivial⟩
    · rename_i hu
      cases h
      obtain ⟨b, rfl, _⟩ := DataW.trod_bool hu hx
      exact ⟨⟨b, rfl⟩, trivial⟩
    · rename_i fs hu
      simp only [Option.bind_eq_some_iff] at h
      obtain ⟨k1, h1, h2⟩ := h
      split at h2
      · rename_i hc
        cases h2
        obtain ⟨xs, n, _, _, hl, hxl, hf⟩ := DataW.trod_struct hu hx
        have := flatFs_ok (cs := cs) fs.toList 0 ks h1 fun f hfm ks' hk' => by
          obtain ⟨i, hi⟩ := List.getElem?_of_mem hfm
          have e := hf i f (by simpa using hi)
          have hil : i < xs.length := by
            rw [hxl]; have := (List.getElem?_eq_some_iff.1 hi).1; simpa using this
          rw [List.getElem?_eq_getElem hil] at e
          exact flat_ok m _ ks' n _ _ hk' e
        rw [List.drop_zero, List.take_of_length_le (by omega)] at this
        exact this
      · cases h2
    · rename_i n e hu
      simp only [Option.bind_eq_some_iff] at h
      obtain ⟨k1, h1, h2⟩ := h
      split at h2
      · rename_i hc
        cases h2
        cases fuel with
        | zero => simp [DataW.trod] at hx
        | succ fuel =>
          unfold DataW.trod at hx
          rw [hu] at hx
          have hx' : ∃ xs, cs.length = P.cellsOf t ∧ ((List.range n).mapM fun i => DataW.trod enc P w base sp hd fuel e ((cs.drop (i * P.cellsOf e)).take (P.cellsOf e))) = some xs := by
            have hx2 : (if cs.length = P.cellsOf t then ((List.range n).mapM fun i => DataW.trod enc P w base sp hd fuel e ((cs.drop (i * P.cellsOf e)).take (P.cellsOf e))).map (fun xs => (DataW.agg (xs.map (·.1)), xs.flatMap (·.2))) else none) = some x := hx
            split at hx2
            · rename_i hl
              obtain ⟨xs, h3, _⟩ := Option.map_eq_some_iff.1 hx2
              exact ⟨xs, hl, h3⟩
            · cases hx2
          obtain ⟨xs, hl, hm⟩ := hx'
          have each : ∀ i, i < n → RowK k1 ((cs.drop (i * k1.length)).take k1.length) := fun i hi => by
            have e1 := mapM_some_get hm i i (by simp [hi])
            have hxl := mapM_some_length hm
            simp only [List.length_range] at hxl
            rw [List.getElem?_eq_getElem (by omega)] at e1
            rw [hc.1] at e1
            exact flat_ok m _ k1 fuel _ _ h1 e1
          have all : ∀ j, j ≤ n → RowK (List.replicate j k1).flatten (cs.take (j * k1.length)) := by
            intro j
            induction j with
            | zero => intro _; simp [RowK]
            | succ j ih =>
              intro hj
              have a := (ih (by omega)).append (each j (by omega))
              have e2 : (List.replicate (j + 1) k1).flatten = (List.replicate j k1).flatten ++ k1 := by
                rw [List.replicate_succ', List.flatten_append]; simp
              rw [e2, Nat.add_mul, Nat.one_mul]
              have := take_add_drop cs 0 (j * k1.length) k1.length
              simp only [List.drop_zero, Nat.zero_add] at this
              rw [this]; exact a
          have := all n (Nat.le_refl _)
          rw [List.take_of_length_le (by omega)] at this
          exact this
      · cases h2
    · cases h
end

theorem absV_slice_code {b o n c : Nat} (h : okA w b o = true) (hn : n ≤ c) (hc : 0 < c) : absV w (.slice (some ⟨b, o, none⟩) n c) = some (slc (codeA w b o) 0 n 1) := by
  obtain ⟨c, rfl⟩ : ∃ k, c = k + 1 := ⟨c - 1, by omega⟩
  cases n with
  | zero => show (if okA w b o = true ∧ 0 ≤ c + 1 then some (slc (codeA w b o) 0 0 1) else none) = _; rw [if_pos ⟨h, hn⟩]
  | succ n => show (if okA w b o = true ∧ n + 1 ≤ c + 1 then some (slc (codeA w b o) 0 (n + 1) 1) else none) = _; rw [if_pos ⟨h, hn⟩]

/-- a slice of rows of numbers and bools -/
theorem open_flat {t e : TypeId} {m fuel : Nat} {ks : List (Option IntKind)} {hd : Bool} {v : Value} {x : DataW H0 × List MemPlace} (ht : P.underlying t = some (.slice e)) (hf : flatKinds P m e = some ks) (hc : P.cellsOf e = ks.length) (hpos : 0 < ks.length)
    (h : DataW.trod enc P w 0 (fun _ => true) hd fuel t [v] = some x) : ∃ av rows, absV w v = some av ∧ RS (HW w) ks.length av rows ∧ ∀ r ∈ rows, RowK ks r := by
  rcases DataW.trod_slice ht h with ⟨hv, _⟩ | ⟨a, len, cap, elems, rest, n, _, hv, _, _, hl, _, hlen, hel, hsp, _⟩
  · cases hv
    exact ⟨_, [], rfl, RS.nil, by simp⟩
  · cases hv
    obtain ⟨hrl, hr⟩ := hsp rfl
    rw [hc] at hel hr
    -- one element
    have each : ∀ i, i < cap → ∃ r, r.length = ks.length ∧ RowK ks r ∧ ∀ j, j < ks.length → w.cell? ((a.add (i * ks.length)).add j) = r[j]? := by
      intro i hi
      have : ∃ y, (w.cells? 0 (a.add (i * ks.length)) ks.length).bind (DataW.trod enc P w 0 (fun _ => true) hd n e) = some y := by
        by_cases hil : i < len
        · exact ⟨_, (hel i hil).trans (List.getElem?_eq_getElem (by omega))⟩
        · have := hr (i - len) (by omega)
          rw [show len + (i - len) = i by omega] at this
          exact ⟨_, this.trans (List.getElem?_eq_getElem (by omega))⟩
      obtain ⟨y, hy⟩ := this
      rw [Option.bind_eq_some_iff] at hy
      obtain ⟨cs, h1, h2⟩ := hy
      obtain ⟨_, h3, h4⟩ := World.cells?_some h1
      exact ⟨cs, h3, flat_ok m e ks n cs y hf h2, h4⟩
    by_cases hcap : cap = 0
    · subst hcap
      obtain rfl : len = 0 := by omega
      exact ⟨slc 0 0 0 0, [], rfl, ⟨by simp, .inr (.inl ⟨rfl, 0, 0, by show 0 < _ + 1; omega, rfl⟩)⟩, by simp⟩
    · have hspot : a.spot = none := by
        obtain ⟨r, h1, _, h2⟩ := each 0 (by omega)
        have := h2 0 hpos
        rw [Nat.zero_mul] at this
        simp only [Addr.add, if_true] at this
        unfold World.cell? at this
        have hs : ∃ q, r[0]? = some q := ⟨r[0], List.getElem?_eq_getElem (by omega)⟩
        obtain ⟨q, hq⟩ := hs
        rw [hq] at this
        split at this
        · cases hsp : a.spot with
          | none => rfl
          | some s => rw [hsp] at this; simp at this
        · cases this
      obtain ⟨b, o, spot⟩ := a
      simp only at hspot
      subst hspot
      have addr : ∀ i j, ((⟨b, o, none⟩ : Addr).add (i * ks.length)).add j = ⟨b, o + (i * ks.length + j), none⟩ := fun i j => by
        simp only [Addr.add]
        split
        · rename_i h0
          split
          · rename_i h1; simp [h0, h1]
          · simp [h0]
        · split
          · rename_i h1; simp [h1]
          · simp; omega
      -- all of them
      have pick : ∃ R : Nat → List Value, ∀ i, i < cap → (R i).length = ks.length ∧ RowK ks (R i) ∧ ∀ j, j < ks.length → w.cell? ⟨b, o + (i * ks.length + j), none⟩ = (R i)[j]? := by
        have : ∀ i, ∃ r, i < cap → r.length = ks.length ∧ RowK ks r ∧ ∀ j, j < ks.length → w.cell? ⟨b, o + (i * ks.length + j), none⟩ = r[j]? := fun i => by
          by_cases hi : i < cap
          · obtain ⟨r, h1, h2, h3⟩ := each i hi
            exact ⟨r, fun _ => ⟨h1, h2, fun j hj => by rw [← addr]; exact h3 j hj⟩⟩
          · exact ⟨[], fun h => absurd h hi⟩
        exact ⟨fun i => Classical.choose (this i), fun i hi => Classical.choose_spec (this i) hi⟩
      obtain ⟨R, hR⟩ := pick
      have flen : ∀ n, n ≤ cap → (((List.range n).map R).flatten).length = n * ks.length := fun n hn => by
        have h0 : ∀ x ∈ (List.range n).map R, x.length = ks.length := fun x hx => by
          obtain ⟨i, hi, rfl⟩ := List.mem_map.1 hx
          exact (hR i (by have := List.mem_range.1 hi; omega)).1
        rw [flatten_len _ h0]; simp
      have fget : ∀ n, n ≤ cap → ∀ q, q < n * ks.length → w.cell? ⟨b, o + q, none⟩ = (((List.range n).map R).flatten)[q]? := by
        intro n
        induction n with
        | zero => intro _ q hq; omega
        | succ n ih =>
          intro hn q hq
          rw [List.range_succ, List.map_append, List.flatten_append]
          by_cases hqn : q < n * ks.length
          · rw [List.getElem?_append_left (by rw [flen n (by omega)]; exact hqn), ih (by omega) q hqn]
          · rw [List.getElem?_append_right (by rw [flen n (by omega)]; omega), flen n (by omega)]
            rw [Nat.add_mul, Nat.one_mul] at hq
            have := (hR n (by omega)).2.2 (q - n * ks.length) (by omega)
            rw [show n * ks.length + (q - n * ks.length) = q by omega] at this
            rw [this]; simp
      have fabs : ∀ (i : Nat) (v : Value), (((List.range cap).map R).flatten)[i]? = some v → ∃ a, (((List.range cap).map R).flatten)[i]? = some a ∧ absV w v = some a := fun i v hi => by
        refine ⟨v, hi, ?_⟩
        have hm := List.mem_of_getElem? hi
        obtain ⟨r, hr1, hr2⟩ := List.mem_flatten.1 hm
        obtain ⟨k, hk, rfl⟩ := List.mem_map.1 hr1
        obtain ⟨p, hp⟩ := List.getElem?_of_mem hr2
        exact RowK.abs (hR k (List.mem_range.1 hk)).2.1 p v hp
      have hpos2 : 0 < cap * ks.length := Nat.mul_pos (by omega) hpos
      obtain ⟨hok, vs, et, hrow, hvl, hvt⟩ := row_of_cells (w := w) (b := b) (o := o) hpos2 (flen cap (Nat.le_refl _)) (fget cap (Nat.le_refl _)) (flen cap (Nat.le_refl _)) fabs
      refine ⟨slc (codeA w b o) 0 len 1, (List.range len).map R, absV_slice_code hok hl (by omega), ?_, fun r hr => ?_⟩
      · have := RS.mk (h := HW w) (s := ks.length) (b := codeA w b o) (o := 0) (c := 1) (vs := vs) (e := et) (w := false) (l := (List.range len).map R) (fun x hx => by
          obtain ⟨i, hi, rfl⟩ := List.mem_map.1 hx
          exact (hR i (by have := List.mem_range.1 hi; omega)).1) hrow (by
            have : len * ks.length ≤ cap * ks.length := Nat.mul_le_mul_right _ hl
            simp; omega) (by
            have h1 : (List.range len).map R = ((List.range cap).map R).take len := by rw [← List.map_take, List.take_range, Nat.min_eq_left hl]
            have h0 : ∀ x ∈ (List.range cap).map R, x.length = ks.length := fun x hx => by
              obtain ⟨i, hi, rfl⟩ := List.mem_map.1 hx
              exact (hR i (List.mem_range.1 hi)).1
            have h2 : len * ks.length ≤ cap * ks.length := Nat.mul_le_mul_right _ hl
            rw [List.drop_zero, h1, ← flatten_take _ len h0, ← hvt, List.take_take]
            simp only [List.length_take, List.length_map, List.length_range]
            congr 1
            rw [Nat.min_eq_left hl]; omega)
        simpa using this
      · obtain ⟨i, hi, rfl⟩ := List.mem_map.1 hr
        exact (hR i (by have := List.mem_range.1 hi; omega)).2.1
end Go.Wz
end
section
namespace Go.Wz
open Go.ChangeShapes Go.WideShapes Go.ChangeAt Go.RowKit
variable {P : Program} {H0 : Type} {enc : TypeId × Value → H0}

theorem trodAll_stays (hl : laidOutB P = true) {W W' : World} {sp' : Nat → Bool} : ∀ {ts : List TypeId} {vs : List Value} {ds : List (DataW H0)} {ps : List MemPlace},
    (∀ t ∈ ts, P.readableRec t = true ∧ t < P.types.size) → DataW.TrodAll enc P W 0 (fun _ => true) true ts vs ds ps → (∀ p ∈ ps, W.sameAt W' p) → (∀ p ∈ ps, sp' p.block = true) → DataW.TrodAll enc P W' 0 sp' true ts vs ds ps
  | [], [], [], ps, _, h, _, _ => h
  | t :: ts, v :: vs, d :: ds, ps, hr, h, hs, hp => by
    obtain ⟨p, q, h1, h2, rfl⟩ := h
    have := hr t (by simp)
    exact ⟨p, q, WideElems.Trod_stays hl this.1 this.2 h1 (fun x hx => hs x (by simp [hx])) (fun x hx => hp x (by simp [hx])), trodAll_stays hl (fun t ht => hr t (by simp [ht])) h2 (fun x hx => hs x (by simp [hx])) (fun x hx => hp x (by simp [hx])), rfl⟩
  | [], _ :: _, _, _, _, h, _, _ => h.elim
  | [], [], _ :: _, _, _, h, _, _ => h.elim
  | _ :: _, [], _, _, _, h, _, _ => h.elim
  | _ :: _, _ :: _, [], _, _, h, _, _ => h.elim

theorem law_post {f : Func} {s : ChangeSpec} {tb : TypeId} (hl : laidOutB P = true) (hres : f.resultTypes = #[tb]) (hb : P.underlying tb = some .bool) (hvars : s.vars = [])
    (hr : f.params.toList.all (fun t => P.readableRec t && decide (t < P.types.size)) = true) {W W' : World} {args : Array Value} {ds gs : List (DataW H0)} {before : List MemPlace}
    (hfn : s.fn H0 (ds ++ gs) = { results := [.lit (.bool true)], args := ds }) (hW : DataW.Whole enc P f.params.toList s.vars false W args.toList ds gs before) (hB : Below W.heap.size W W') :
    s.post enc P f false true false false W args (.bool true) W' := by
  have hlt := hW.lt
  have hW' := hW
  obtain ⟨p, q, hA, hV, rfl, hfz, hnd⟩ := hW
  rw [hvars] at hV
  obtain ⟨rfl, rfl⟩ := trodVars_none hV
  refine ⟨ds, [], p ++ [], [], p, [], hW', ?_, ?_, ?_, hB.frame _, fun h => by cases h⟩
  · rw [hfn, hres]
    exact trodAll_mk1 (shut_bool hb true)
  · rw [hfn]
    refine trodAll_stays hl (fun t ht => ?_) hA (fun x hx => hB.same (hlt x (by simp [hx]))) (fun x hx => by simpa using hlt x (by simp [hx]))
    have := List.all_eq_true.1 hr t ht
    simpa using this
  · rw [hfn, hvars]; rfl

/-- what is asked of the names of a program's functions -/
theorem NamesOK.of_all (h : P.funcs.toList.all (fun fd => !(fd.name == "runtime.NumGoroutine")) = true) : NamesOK P := by
  intro f fd hf _
  have hm : fd ∈ P.funcs.toList := by
    have := Array.mem_of_getElem? hf
    simpa using this
  have := List.all_eq_true.1 h fd hm
  simpa using this
end Go.Wz
end
section
namespace Go.Wz
variable {P : Program} {H0 : Type} {enc : TypeId × Value → H0} {w : World}

/-- what a cell is -/
inductive Kd where
  | int (k : IntKind)
  | bool
  | sl (ks : List Kd)
mutual
def OkC (h : H) : Kd → Value → Prop
  | .int k, v => ∃ n, v = .int k n ∧ (Lit.int k n).wf = true
  | .bool, v => ∃ b, v = .bool b
  | .sl ks, v => ∃ rows, RS h ks.length v rows ∧ ∀ r ∈ rows, OkR h ks r
def OkR (h : H) : List Kd → List Value → Prop
  | [], r => r = []
  | k :: ks, r => ∃ v t, r = v :: t ∧ OkC h k v ∧ OkR h ks t
end
theorem OkR.len {h : H} : ∀ {ks : List Kd} {r : List Value}, OkR h ks r → r.length = ks.length
  | [], r, e => by unfold OkR at e; subst e; rfl
  | k :: ks, r, e => by unfold OkR at e; obtain ⟨v, t, rfl, _, e⟩ := e; simp [OkR.len e]
theorem OkR.append {h : H} : ∀ {a : List Kd} {x : List Value} {b : List Kd} {y : List Value}, OkR h a x → OkR h b y → OkR h (a ++ b) (x ++ y)
  | [], x, b, y, e, f => by unfold OkR at e; subst e; exact f
  | k :: ks, x, b, y, e, f => by
    unfold OkR at e; obtain ⟨v, t, rfl, e1, e2⟩ := e
    show OkR h (k :: (ks ++ b)) (v :: (t ++ y))
    unfold OkR; exact ⟨v, _, rfl, e1, e2.append f⟩
/-- cells of a world that can be had as the abstract heap has them -/
def GoodC (w : World) (ks : List Kd) (cs as : List Value) : Prop :=
  cs.length = ks.length ∧ (∀ (i : Nat) (v : Value), cs[i]? = some v → ∃ a, as[i]? = some a ∧ absV w v = some a) ∧ OkR (HW w) ks as
theorem GoodC.append {a b : List Kd} {x y p q : List Value} (e : GoodC w a x p) (f : GoodC w b y q) : GoodC w (a ++ b) (x ++ y) (p ++ q) := by
  have hp := e.2.2.len
  refine ⟨by simp [e.1, f.1], fun i v hi => ?_, e.2.2.append f.2.2⟩
  by_cases h : i < x.length
  · rw [List.getElem?_append_left h] at hi
    rw [List.getElem?_append_left (by have := e.1; omega)]
    exact e.2.1 i v hi
  · rw [List.getElem?_append_right (by omega)] at hi
    rw [List.getElem?_append_right (by have := e.1; omega), hp, ← e.1]
    exact f.2.1 _ v hi
theorem GoodC.nil : GoodC w [] [] [] := ⟨rfl, fun i v h => by simp at h, by unfold OkR; rfl⟩
theorem GoodC.one {k : Kd} {v a : Value} (h : absV w v = some a) (o : OkC (HW w) k a) : GoodC w [k] [v] [a] :=
  ⟨rfl, fun i u hi => by
    cases i with
    | zero => simp at hi; subst hi; exact ⟨a, rfl, h⟩
    | succ i => simp at hi, by unfold OkR; exact ⟨a, [], rfl, o, by unfold OkR; rfl⟩⟩
theorem GoodC.vrs {ks : List Kd} {cs as : List Value} (g : GoodC w ks cs as) : VRs (injW w) as cs := by
  have h1 := g.2.2.len
  refine VRs.of_get (by rw [h1, g.1]) fun i a ha => ?_
  have hi : i < cs.length := by have := (List.getElem?_eq_some_iff.1 ha).1; rw [g.1]; omega
  obtain ⟨a', e1, e2⟩ := g.2.1 i cs[i] (List.getElem?_eq_getElem hi)
  rw [ha] at e1; cases e1
  exact ⟨cs[i], List.getElem?_eq_getElem hi, absV_ok e2⟩

def kindFs (P : Program) (g : TypeId → Option (List Kd)) : Nat → List Field → Option (List Kd)
  | _, [] => some []
  | o, f :: l => (g f.type).bind fun ks => if f.offset = o ∧ P.cellsOf f.type = ks.length then (kindFs P g (o + ks.length) l).map (ks ++ ·) else none
def kindsN (P : Program) : Nat → TypeId → Option (List Kd)
  | 0, _ => none
  | n + 1, t => match P.underlying t with
    | some (.int k) => some [.int k]
    | some .bool => some [.bool]
    | some (.struct fs) => (kindFs P (kindsN P n) 0 fs.toList).bind fun ks => if P.cellsOf t = ks.length then some ks else none
    | some (.slice e) => (kindsN P n e).bind fun ks => if P.cellsOf e = ks.length ∧ 0 < ks.length then some [.sl ks] else none
    | _ => none
theorem kindFs_ok {g : TypeId → Option (List Kd)} {cs : List Value} : ∀ (l : List Field) (o : Nat) (ks : List Kd), kindFs P g o l = some ks →
    (∀ f ∈ l, ∀ ks', g f.type = some ks' → ∃ as, GoodC w ks' ((cs.drop f.offset).take (P.cellsOf f.type)) as) → ∃ as, GoodC w ks ((cs.drop o).take ks.length) as
  | [], o, ks, h, _ => by simp only [kindFs, Option.some.injEq] at h; subst h; exact ⟨[], by simpa using GoodC.nil⟩
  | f :: l, o, ks, h, hf => by
    simp only [kindFs, Option.bind_eq_some_iff] at h
    obtain ⟨k1, h1, h2⟩ := h
    split at h2
    · rename_i hc
      obtain ⟨ho, hk⟩ := hc
      simp only [Option.map_eq_some_iff] at h2
      obtain ⟨k2, h3, rfl⟩ := h2
      obtain ⟨as1, a1⟩ := hf f (by simp) k1 h1
      obtain ⟨as2, a2⟩ := kindFs_ok l (o + k1.length) k2 h3 fun f' hf' => hf f' (by simp [hf'])
      rw [List.length_append, take_add_drop]
      rw [ho, hk] at a1
      exact ⟨_, a1.append a2⟩
    · cases h2

theorem open_all : ∀ (m : Nat) (t : TypeId) (ks : List Kd) (fuel : Nat) (hd : Bool) (cs : List Value) (x : DataW H0 × List MemPlace), kindsN P m t = some ks → DataW.trod enc P w 0 (fun _ => true) hd fuel t cs = some x → ∃ as, GoodC w ks cs as
  | 0, _, _, _, _, _, _, h, _ => by simp [kindsN] at h
  | m + 1, t, ks, fuel, hd, cs, x, h, hx => by
    unfold kindsN at h
    split at h
    · rename_i k hu
      cases h
      obtain ⟨n, rfl, _, hw⟩ := DataW.trod_int hu hx
      exact ⟨_, GoodC.one (a := .int k n) rfl (by unfold OkC; exact ⟨n, rfl, hw⟩)⟩
    · rename_i hu
      cases h
      obtain ⟨b, rfl, _⟩ := DataW.trod_bool hu hx
      exact ⟨_, GoodC.one (a := .bool b) rfl (by unfold OkC; exact ⟨b, rfl⟩)⟩
    · rename_i fs hu
      simp only [Option.bind_eq_some_iff] at h
      obtain ⟨k1, h1, h2⟩ := h
      split at h2
      · rename_i hc
        cases h2
        obtain ⟨xs, n, _, _, hl, hxl, hf⟩ := DataW.trod_struct hu hx
        have := kindFs_ok (cs := cs) (w := w) fs.toList 0 ks h1 fun f hfm ks' hk' => by
          obtain ⟨i, hi⟩ := List.getElem?_of_mem hfm
          have e := hf i f (by simpa using hi)
          have hil : i < xs.length := by
            rw [hxl]; have := (List.getElem?_eq_some_iff.1 hi).1; simpa using this
          rw [List.getElem?_eq_getElem hil] at e
          exact open_all m _ ks' n hd _ _ hk' e
        rw [List.drop_zero, List.take_of_length_le (by omega)] at this
        exact this
      · cases h2
    · rename_i e hu
      simp only [Option.bind_eq_some_iff] at h
      obtain ⟨k1, h1, h2⟩ := h
      split at h2
      · rename_i hc
        cases h2
        obtain ⟨hc, hpos⟩ := hc
        rcases DataW.trod_slice hu hx with ⟨hv, _⟩ | ⟨a, len, cap, elems, rest, n, _, hv, _, _, hl, _, hlen, hel, hsp, _⟩
        · subst hv
          exact ⟨_, GoodC.one (a := .slice none 0 0) rfl (by unfold OkC; exact ⟨[], RS.nil, by simp⟩)⟩
        · subst hv
          obtain ⟨hrl, hr⟩ := hsp rfl
          rw [hc] at hel hr
          have each : ∀ i, i < cap → ∃ r, (∃ q, GoodC w k1 r q) ∧ ∀ j, j < k1.length → w.cell? ((a.add (i * k1.length)).add j) = r[j]? := by
            intro i hi
            have : ∃ y, (w.cells? 0 (a.add (i * k1.length)) k1.length).bind (DataW.trod enc P w 0 (fun _ => true) hd n e) = some y := by
              by_cases hil : i < len
              · exact ⟨_, (hel i hil).trans (List.getElem?_eq_getElem (by omega))⟩
              · have := hr (i - len) (by omega)
                rw [show len + (i - len) = i by omega] at this
                exact ⟨_, this.trans (List.getElem?_eq_getElem (by omega))⟩
            obtain ⟨y, hy⟩ := this
            rw [Option.bind_eq_some_iff] at hy
            obtain ⟨cs, g1, g2⟩ := hy
            obtain ⟨_, g3, g4⟩ := World.cells?_some g1
            exact ⟨cs, open_all m e k1 n hd cs y h1 g2, g4⟩
          by_cases hcap : cap = 0
          · subst hcap
            obtain rfl : len = 0 := by omega
            exact ⟨_, GoodC.one (a := slc 0 0 0 0) rfl (by unfold OkC; exact ⟨[], ⟨by simp, .inr (.inl ⟨rfl, 0, 0, by show 0 < _ + 1; omega, rfl⟩)⟩, by simp⟩)⟩
          · have hspot : a.spot = none := by
              obtain ⟨r, ⟨q, h1⟩, h2⟩ := each 0 (by omega)
              have := h2 0 hpos
              rw [Nat.zero_mul] at this
              simp only [Addr.add, if_true] at this
              unfold World.cell? at this
              have hl1 := h1.1
              have hs : ∃ q, r[0]? = some q := ⟨r[0], List.getElem?_eq_getElem (by omega)⟩
              obtain ⟨q, hq⟩ := hs
              rw [hq] at this
              split at this
              · cases hsp : a.spot with
                | none => rfl
                | some s => rw [hsp] at this; simp at this
              · cases this
            obtain ⟨b, o, spot⟩ := a
            simp only at hspot
            subst hspot
            have addr : ∀ i j, ((⟨b, o, none⟩ : Addr).add (i * k1.length)).add j = ⟨b, o + (i * k1.length + j), none⟩ := fun i j => by
              simp only [Addr.add]
              split
              · rename_i h0
                split
                · rename_i h1; simp [h0, h1]
                · simp [h0]
              · split
                · rename_i h1; simp [h1]
                · simp; omega
            have pick : ∃ R A : Nat → List Value, ∀ i, i < cap → GoodC w k1 (R i) (A i) ∧ ∀ j, j < k1.length → w.cell? ⟨b, o + (i * k1.length + j), none⟩ = (R i)[j]? := by
              have : ∀ i, ∃ r : List Value × List Value, i < cap → GoodC w k1 r.1 r.2 ∧ ∀ j, j < k1.length → w.cell? ⟨b, o + (i * k1.length + j), none⟩ = r.1[j]? := fun i => by
                by_cases hi : i < cap
                · obtain ⟨r, ⟨q, h1⟩, h3⟩ := each i hi
                  exact ⟨(r, q), fun _ => ⟨h1, fun j hj => by rw [← addr]; exact h3 j hj⟩⟩
                · exact ⟨([], []), fun h => absurd h hi⟩
              exact ⟨fun i => (Classical.choose (this i)).1, fun i => (Classical.choose (this i)).2, fun i hi => Classical.choose_spec (this i) hi⟩
            obtain ⟨R, A, hR⟩ := pick
            have rlen : ∀ i, i < cap → (R i).length = k1.length := fun i hi => (hR i hi).1.1
            have alen : ∀ i, i < cap → (A i).length = k1.length := fun i hi => (hR i hi).1.2.2.len
            have flen : ∀ (F : Nat → List Value), (∀ i, i < cap → (F i).length = k1.length) → ∀ n, n ≤ cap → (((List.range n).map F).flatten).length = n * k1.length := fun F hF n hn => by
              have h0 : ∀ x ∈ (List.range n).map F, x.length = k1.length := fun x hx => by
                obtain ⟨i, hi, rfl⟩ := List.mem_map.1 hx
                exact hF i (by have := List.mem_range.1 hi; omega)
              rw [flatten_len _ h0]; simp
            have fget : ∀ n, n ≤ cap → ∀ q, q < n * k1.length → w.cell? ⟨b, o + q, none⟩ = (((List.range n).map R).flatten)[q]? ∧
                ∀ v, (((List.range n).map R).flatten)[q]? = some v → ∃ a, (((List.range n).map A).flatten)[q]? = some a ∧ absV w v = some a := by
              intro n
              induction n with
              | zero => intro _ q hq; omega
              | succ n ih =>
                intro hn q hq
                rw [List.range_succ, List.map_append, List.flatten_append, List.map_append, List.flatten_append]
                by_cases hqn : q < n * k1.length
                · rw [List.getElem?_append_left (by rw [flen R rlen n (by omega)]; exact hqn), List.getElem?_append_left (by rw [flen A alen n (by omega)]; exact hqn)]
                  exact ih (by omega) q hqn
                · rw [List.getElem?_append_right (by rw [flen R rlen n (by omega)]; omega), flen R rlen n (by omega), List.getElem?_append_right (by rw [flen A alen n (by omega)]; omega), flen A alen n (by omega)]
                  rw [Nat.add_mul, Nat.one_mul] at hq
                  have := (hR n (by omega)).2 (q - n * k1.length) (by omega)
                  rw [show n * k1.length + (q - n * k1.length) = q by omega] at this
                  rw [this]
                  have h5 := (hR n (by omega)).1.2.1
                  simp only [List.map_cons, List.map_nil, List.flatten_cons, List.flatten_nil, List.append_nil, true_and]
                  exact h5 _
            have hpos2 : 0 < cap * k1.length := Nat.mul_pos (by omega) hpos
            have hbig : ∀ (i : Nat) (v : Value), (((List.range cap).map R).flatten)[i]? = some v → ∃ a, (((List.range cap).map A).flatten)[i]? = some a ∧ absV w v = some a := fun i v hi => by
              have hil := (List.getElem?_eq_some_iff.1 hi).1
              rw [flen R rlen cap (Nat.le_refl _)] at hil
              exact (fget cap (Nat.le_refl _) i hil).2 v hi
            obtain ⟨hok, vs, et, hrow, hvl, hvt⟩ := row_of_cells (w := w) (b := b) (o := o) hpos2 (flen R rlen cap (Nat.le_refl _)) (fun i hi => (fget cap (Nat.le_refl _) i hi).1) (flen A alen cap (Nat.le_refl _)) hbig
            have okA' : ∀ r ∈ (List.range len).map A, OkR (HW w) k1 r := fun r hr => by
              obtain ⟨i, hi, rfl⟩ := List.mem_map.1 hr
              exact (hR i (by have := List.mem_range.1 hi; omega)).1.2.2
            have rs : RS (HW w) k1.length (slc (codeA w b o) 0 len 1) ((List.range len).map A) := by
              have := RS.mk (h := HW w) (s := k1.length) (b := codeA w b o) (o := 0) (c := 1) (vs := vs) (e := et) (w := false) (l := (List.range len).map A) (fun x hx => (okA' x hx).len) hrow (by
                have : len * k1.length ≤ cap * k1.length := Nat.mul_le_mul_right _ hl
                simp; omega) (by
                have h1 : (List.range len).map A = ((List.range cap).map A).take len := by rw [← List.map_take, List.take_range, Nat.min_eq_left hl]
                have h0 : ∀ x ∈ (List.range cap).map A, x.length = k1.length := fun x hx => by
                  obtain ⟨i, hi, rfl⟩ := List.mem_map.1 hx
                  exact alen i (List.mem_range.1 hi)
                have h2 : len * k1.length ≤ cap * k1.length := Nat.mul_le_mul_right _ hl
                rw [List.drop_zero, h1, ← flatten_take _ len h0, ← hvt, List.take_take]
                simp only [List.length_take, List.length_map, List.length_range]
                congr 1
                rw [Nat.min_eq_left hl]; omega)
              simpa using this
            exact ⟨_, GoodC.one (a := slc (codeA w b o) 0 len 1) (absV_slice_code hok hl (by omega)) (by unfold OkC; exact ⟨_, rs, okA'⟩)⟩
      · cases h2
    · cases h
end Go.Wz
end
section
namespace Go.Wz
variable {P : Program} {B : Nat} {ι ι' ι0 : Inj} {h h' : H} {w w' w0 : World}

def cut (n : Nat) (ι : Inj) : Inj := fun b => if b < n then ι b else none
theorem cut_lt {n b : Nat} (ι : Inj) (hb : b < n) : cut n ι b = ι b := by simp [cut, hb]
theorem cut_some {n b : Nat} {L : Loc} (e : cut n ι b = some L) : b < n ∧ ι b = some L := by
  unfold cut at e
  split at e
  · exact ⟨‹_›, e⟩
  · cases e
def Dom (n : Nat) (ι : Inj) : Prop := ∀ b, n ≤ b → ι b = none
theorem Dom.lt {n b : Nat} {L : Loc} (d : Dom n ι) (e : ι b = some L) : b < n := by
  rcases Nat.lt_or_ge b n with h | h
  · exact h
  · rw [d b h] at e; cases e

mutual
theorem VR.cut {n : Nat} (d : Dom n ι0) {v v' v0 : Value} (k : VR ι0 v v0) (h : VR ι v v') : VR (Wz.cut n ι) v v' := by
  cases h with
  | bool b => exact .bool b
  | int _ _ => exact .int _ _
  | string s => exact .string s
  | nilFunc => exact .nilFunc
  | nilIface => exact .nilIface
  | nilMap => exact .nilMap
  | nilPtr => exact .nilPtr
  | nilSl => exact .nilSl
  | ptr o h => cases k with | ptr _ e => exact .ptr o (by rw [cut_lt _ (d.lt e)]; exact h)
  | sl o n c h hn hc =>
    cases k with
    | sl _ _ _ e => exact .sl o n c (by rw [cut_lt _ (d.lt e)]; exact h) hn hc
    | slE _ _ _ _ ho => exact .slE _ _ _ _ ho
  | sl0 o a => exact .sl0 o a
  | slE o cb co c ho => exact .slE o cb co c ho
  | func f hx hy => cases k with | func _ kx ky => exact .func f (VRs.cut d kx hx) (VRs.cut d ky hy)
  | yield h => cases k with | yield e => exact .yield (by rw [cut_lt _ (d.lt e)]; exact h)
theorem VRs.cut {n : Nat} (d : Dom n ι0) {v v' v0 : List Value} (k : VRs ι0 v v0) (h : VRs ι v v') : VRs (Wz.cut n ι) v v' := by
  cases h with
  | nil => exact .nil
  | cons h t => cases k with | cons k kt => exact .cons (VR.cut d k h) (VRs.cut d kt t)
end
mutual
theorem SR.cut {n : Nat} (d : Dom n ι0) {v : SV} {v' v0 : Value} (k : SR ι0 v v0) (h : SR ι v v') : SR (Wz.cut n ι) v v' := by
  cases h with
  | undef => exact .undef
  | one h => cases k with | one k => exact .one (VR.cut d k h)
  | agg h => cases k with | agg k => exact .agg (VRs.cut d k h)
  | tup h => cases k with | tup k => exact .tup (SRs.cut d k h)
theorem SRs.cut {n : Nat} (d : Dom n ι0) {v : List SV} {v' v0 : List Value} (k : SRs ι0 v v0) (h : SRs ι v v') : SRs (Wz.cut n ι) v v' := by
  cases h with
  | nil => exact .nil
  | cons h t => cases k with | cons k kt => exact .cons (SR.cut d k h) (SRs.cut d kt t)
end
/-- its pointers go below n -/
def LowB (P : Program) (n : Nat) (x : Blk) : Prop := ∀ (B : Nat) (ι : Inj) (L : Loc) (w : World), BR P B ι L x w → BR P B (cut n ι) L x w
def LowS (n : Nat) (v : SV) : Prop := ∀ (ι : Inj) (v' : Value), SR ι v v' → SR (cut n ι) v v'
theorem LowB.of_BR {n : Nat} (d : Dom n ι0) {L0 : Loc} {x : Blk} (k : BR P B ι0 L0 x w0) : LowB P n x := by
  intro B' ι L w h
  cases x with
  | cells vs e own =>
    obtain ⟨c, e', fz, h1, h2, h3, h4⟩ := h
    obtain ⟨c', e'', fz', k1, k2, k3, k4⟩ := k
    exact ⟨c, e', fz, h1, h2, VRs.cut d k3 h3, h4⟩
  | loop s p f tmps ps asg body ga gb =>
    obtain ⟨h0, r, h1, h2, h3, h4, h5, h6, h7⟩ := h
    obtain ⟨k0, r', k1, k2, k3, k4, k5, k6, k7⟩ := k
    exact ⟨h0, r, h1, h2, h3, h4, h5, h6, h7.size, fun i sv e => SR.cut d (k7.at_ i sv e) (h7.at_ i sv e)⟩

def lowV (n : Nat) : Value → Bool
  | .bool _ => true
  | .int _ _ => true
  | .string _ => true
  | .nilFunc => true
  | .nilIface => true
  | .map none => true
  | .pointer none => true
  | .pointer (some a) => decide (a.block < n)
  | .slice none _ _ => true
  | .slice (some a) _ _ => decide (a.block < n)
  | .func (.func _) ⟨[]⟩ ⟨[]⟩ => true
  | _ => false
theorem lowV_ok {n : Nat} {v v' : Value} (e : lowV n v = true) (h : VR ι v v') : VR (cut n ι) v v' := by
  cases h with
  | bool b => exact .bool b
  | int _ _ => exact .int _ _
  | string s => exact .string s
  | nilFunc => exact .nilFunc
  | nilIface => exact .nilIface
  | nilMap => exact .nilMap
  | nilPtr => exact .nilPtr
  | nilSl => exact .nilSl
  | ptr o h => exact .ptr o (by rw [cut_lt _ (by simpa [lowV] using e)]; exact h)
  | sl o n c h hn hc => exact .sl o n c (by rw [cut_lt _ (by simpa [lowV] using e)]; exact h) hn hc
  | sl0 o a => exact .sl0 o a
  | slE o cb co c ho => exact .slE o cb co c ho
  | func f hx hy =>
    unfold lowV at e
    split at e <;> first | (cases e; done) | skip
    all_goals try (rename_i heq; cases heq)
    cases hx; cases hy; exact .func f .nil .nil
  | yield h =>
    unfold lowV at e
    split at e <;> first | (cases e; done) | skip
    all_goals try (rename_i heq; cases heq)
theorem lowVs_ok {n : Nat} : ∀ {l l' : List Value}, l.all (lowV n) = true → VRs ι l l' → VRs (cut n ι) l l'
  | [], _, _, h => by cases h; exact .nil
  | v :: l, _, e, h => by
    simp only [List.all_cons, Bool.and_eq_true] at e
    cases h with | cons h t => exact .cons (lowV_ok e.1 h) (lowVs_ok e.2 t)
def lowB (n : Nat) : Blk → Bool
  | .cells vs _ _ => vs.all (lowV n)
  | _ => false
theorem lowB_ok {n : Nat} {x : Blk} (e : lowB n x = true) : LowB P n x := by
  intro B ι L w h
  cases x with
  | cells vs t own =>
    obtain ⟨c, e', fz, h1, h2, h3, h4⟩ := h
    exact ⟨c, e', fz, h1, h2, lowVs_ok e h3, h4⟩
  | loop => cases e
theorem LowS.one {n : Nat} {v : Value} (e : lowV n v = true) : LowS n (.one v) := by
  intro ι v' h
  cases h with | one h => exact .one (lowV_ok e h)
theorem LowS.tup0 {n : Nat} : LowS n (.tup []) := by
  intro ι v' h
  cases h with | tup h => cases h; exact .tup .nil

theorem Sim.sub {h0 : H} (s : Sim P B ι h w) (hn : h0.next = h.next) (hs : ∀ b x, h0.get b = some x → h.get b = some x) : Sim P B ι h0 w where
  base := s.base
  dom := fun b hb => s.dom b (hn ▸ hb)
  lt := s.lt
  live := fun b x e => s.live b x (hs b x e)
  sep := fun b b' x x' L L' e e' => s.sep b b' x x' L L' (hs b x e) (hs b' x' e')

theorem Ext.frame {h0 : H} (s : Sim P B ι h w) (hs : ∀ b x, h0.get b = some x → h.get b = some x) (x : Ext P B ι h0 w ι' h' w') {b : Nat} {y : Blk} (e : h.get b = some y) (e0 : h0.get b = none) :
    ∃ L, ι b = some L ∧ ι' b = some L ∧ BR P B ι L y w ∧ L.cb < w.heap.size ∧ w'.heap[L.cb]? = w.heap[L.cb]? := by
  obtain ⟨L, f, k⟩ := s.live b y e
  refine ⟨L, f, x.le _ _ f, k, s.lt _ _ f, x.fr _ (s.lt _ _ f) fun b1 y1 L1 e1 f1 hw hcb => ?_⟩
  have hne : b ≠ b1 := fun hh => by rw [← hh, e0] at e1; cases e1
  have := s.sep b b1 y y1 L L1 e (hs _ _ e1) f f1 hne hcb.symm
  rw [this.2] at hw; cases hw
theorem Ext.mix {h0 : H} (s : Sim P B ι h w) (hn : h0.next = h.next) (hs : ∀ b x, h0.get b = some x → h.get b = some x) (x : Ext P B ι h0 w ι' h' w') {b b' : Nat} {y y' : Blk} {L L' : Loc}
    (e : h.get b = some y) (e0 : h0.get b = none) (f : ι b = some L) (e' : h'.get b' = some y') (f' : ι' b' = some L') (hne : b ≠ b') (hcb : L.cb = L'.cb) : y.wr = false ∧ y'.wr = false := by
  have hlt := s.lt _ _ f
  have hy' : y'.wr = false := by
    cases hw : y'.wr with
    | false => rfl
    | true =>
      rcases x.img b' y' L' e' f' hw with h | ⟨b0, x0, L0, e1, f1, w1, c1⟩
      · omega
      · have hne0 : b ≠ b0 := fun hh => by rw [← hh, e0] at e1; cases e1
        have := s.sep b b0 y x0 L L0 e (hs _ _ e1) f f1 hne0 (hcb.trans c1.symm)
        rw [this.2] at w1; cases w1
  refine ⟨?_, hy'⟩
  have e1 := x.ro b' y' L' e' f' hy' (by omega)
  obtain ⟨L0, f0, _⟩ := (s.sub hn hs).live b' y' e1
  have : L0 = L' := by have := x.le _ _ f0; rw [f'] at this; cases this; rfl
  subst this
  exact (s.sep b b' y y' L L0 e (hs _ _ e1) f f0 hne hcb).1

theorem Ext.gc {h0 g : H} (s : Sim P B ι h w) (hn : h0.next = h.next) (hs : ∀ b x, h0.get b = some x → h.get b = some x) (x : Ext P B ι h0 w ι' h' w')
    (hg1 : h.next ≤ g.next) (hg : ∀ b x, g.get b = some x → (h'.get b = some x ∧ b < g.next ∧ LowB P g.next x) ∨ (h.get b = some x ∧ h0.get b = none)) : Ext P B ι h w (cut g.next ι') g w' where
  le := fun b L e => by
    have hb := Dom.lt (n := h.next) s.dom e
    rw [cut_lt _ (by omega)]; exact x.le b L e
  sim := {
    base := x.sim.base
    dom := fun b hb => by simp [cut]; omega
    lt := fun b L e => x.sim.lt b L (cut_some e).2
    live := fun b y e => by
      rcases hg b y e with ⟨e1, e2, e5⟩ | ⟨e1, e2⟩
      · obtain ⟨L, e3, e4⟩ := x.sim.live b y e1
        exact ⟨L, by rw [cut_lt _ e2]; exact e3, e5 _ _ _ _ e4⟩
      · obtain ⟨L, f1, f2, f3, f4, f5⟩ := Ext.frame s hs x e1 e2
        have hb := Dom.lt (n := h.next) s.dom f1
        have hd : Dom g.next ι := fun c hc => s.dom c (by omega)
        exact ⟨L, by rw [cut_lt _ (by omega)]; exact f2, LowB.of_BR hd f3 _ _ _ _ (f3.keep x.le f5)⟩
    sep := fun b b' y y' L L' e e' f f' hne hcb => by
      rcases hg b y e with ⟨e1, e2, e5⟩ | ⟨e1, e2⟩
      · rcases hg b' y' e' with ⟨e1', e2', e5'⟩ | ⟨e1', e2'⟩
        · exact x.sim.sep b b' y y' L L' e1 e1' (cut_some f).2 (cut_some f').2 hne hcb
        · obtain ⟨L0, f1, f2, f3, f4, f5⟩ := Ext.frame s hs x e1' e2'
          have : L0 = L' := by have := (cut_some f').2; rw [f2] at this; cases this; rfl
          subst this
          exact (Ext.mix s hn hs x e1' e2' f1 e1 (cut_some f).2 (Ne.symm hne) hcb.symm).symm
      · obtain ⟨L0, f1, f2, f3, f4, f5⟩ := Ext.frame s hs x e1 e2
        have : L0 = L := by have := (cut_some f).2; rw [f2] at this; cases this; rfl
        subst this
        rcases hg b' y' e' with ⟨e1', e2', e5'⟩ | ⟨e1', e2'⟩
        · exact Ext.mix s hn hs x e1 e2 f1 e1' (cut_some f').2 hne hcb
        · obtain ⟨L1, g1, g2, g3, g4, g5⟩ := Ext.frame s hs x e1' e2'
          have : L1 = L' := by have := (cut_some f').2; rw [g2] at this; cases this; rfl
          subst this
          exact s.sep b b' y y' L0 L1 e1 e1' f1 g1 hne hcb }
  nx := hg1
  size := x.size
  fr := fun cb hcb hh => x.fr cb hcb fun b y L e => hh b y L (hs b y e)
  img := fun b y L e f hw => by
    rcases hg b y e with ⟨e1, e2, e5⟩ | ⟨e1, e2⟩
    · rcases x.img b y L e1 (cut_some f).2 hw with h | ⟨b0, x0, L0, e0, h⟩
      · exact .inl h
      · exact .inr ⟨b0, x0, L0, hs _ _ e0, h⟩
    · obtain ⟨L0, f1, f2, _⟩ := Ext.frame s hs x e1 e2
      have : L0 = L := by have := (cut_some f).2; rw [f2] at this; cases this; rfl
      subst this
      exact .inr ⟨b, y, L0, e1, f1, hw, rfl⟩
  ro := fun b y L e f hw hl => by
    rcases hg b y e with ⟨e1, e2, e5⟩ | ⟨e1, e2⟩
    · exact hs _ _ (x.ro b y L e1 (cut_some f).2 hw hl)
    · exact e1
  old := fun b hb => by rw [cut_lt _ (by omega)]; exact x.old b (hn ▸ hb)
  os := x.os
  tape := x.tape
  out := x.out

/-- an answer that a call is known to give, on less of the heap, and with less of the heap after it -/
def AnsOK (P : Program) (call0 : CallT) (ans : FuncId → List SV → H → Option (SV × H)) : Prop :=
  ∀ f args h v g, ans f args h = some (v, g) → ∃ h0 h', h0.next = h.next ∧ (∀ b x, h0.get b = some x → h.get b = some x) ∧ call0 (.func f) args h0 = some (v, h') ∧
    h.next ≤ g.next ∧ LowS g.next v ∧ ∀ b x, g.get b = some x →
      (h0.get b = some x ∧ (b < h.next → h'.get b = some x)) ∨ (h'.get b = some x ∧ b < g.next ∧ LowB P g.next x) ∨ (h.get b = some x ∧ h0.get b = none)

theorem ans_ok {call0 : CallT} {ans : FuncId → List SV → H → Option (SV × H)} (hA : AnsOK P call0 ans) (hc : CallOK P B call0) {f : FuncId} {args : List SV} {v : SV} {g : H} (e : ans f args h = some (v, g))
    (F : Fence) (hF : Wide F) (ι : Inj) (w : World) (args' : List Value) (s : Sim P B ι h w) (ha : SRs ι args args') :
    (callFunc f ⟨args'⟩).run P w = .ok (.enter f ⟨args'⟩) w ∧ CallsIn F 0 P f ⟨args'⟩ w (CallPost P B ι h w v g) := by
  obtain ⟨h0, h', e1, e2, e3, e4, e6, e7⟩ := hA f args h v g e
  have s0 := s.sub e1 e2
  obtain ⟨r1, r2⟩ := hc (.func f) args h0 v h' e3 F hF ι w args' s0 ha
  refine ⟨r1, r2.mono ?_⟩
  rintro en w' ⟨x, ι', rfl, hx, hv⟩
  refine ⟨x, cut g.next ι', rfl, Ext.gc s e1 e2 hx e4 fun b y hb => ?_, e6 _ _ hv⟩
  rcases e7 b y hb with ⟨f1, f2⟩ | f2 | f2
  · obtain ⟨L, f3, f4⟩ := s0.live b y f1
    have hd : Dom g.next ι := fun c hc => s.dom c (by omega)
    have hl := Dom.lt (n := h.next) s.dom f3
    exact .inl ⟨f2 hl, by omega, .of_BR hd f4⟩
  · exact .inl f2
  · exact .inr f2

/-- the calls that 'ans' knows, by it; the others by 'call' -/
def ovr (ans : FuncId → List SV → H → Option (SV × H)) (call : CallT) : CallT := fun fn args h =>
  match fn with
  | .func f => (match ans f args h with
    | some r => some r
    | none => call (.func f) args h)
  | fn => call fn args h
theorem ovr_ok {call0 call : CallT} {ans : FuncId → List SV → H → Option (SV × H)} (hA : AnsOK P call0 ans) (hc0 : CallOK P B call0) (hc : CallOK P B call) : CallOK P B (ovr ans call) := by
  intro fn args h v h' e F hF ι w args' s ha
  cases fn with
  | func f =>
    simp only [ovr] at e
    split at e
    · rename_i r hr
      cases e
      exact ans_ok hA hc0 hr F hF ι w args' s ha
    · exact hc (.func f) args h v h' e F hF ι w args' s ha
  | yield l => exact hc (.yield l) args h v h' e F hF ι w args' s ha
  | method n => exact hc (.method n) args h v h' e F hF ι w args' s ha
  | methodOf t n => exact hc (.methodOf t n) args h v h' e F hF ι w args' s ha
  | via a b c d => exact hc (.via a b c d) args h v h' e F hF ι w args' s ha

/-- functions by their bodies over 'call', rounds of loops over functions by 'cy' -/
noncomputable def stepF (P : Program) (call cy : CallT) (hints : FuncId → Hint) (N : Nat) : CallT := fun fn args h =>
  match fn with
  | .func f => execF P call hints N f args h
  | fn => cy fn args h
theorem stepF_ok (hn : NamesOK P) (hmix : P.follows .mixedOrders = true) (hints : FuncId → Hint) (N : Nat) {call cy : CallT} (ih : CallOK P B call) (hy : CallOK P B cy) : CallOK P B (stepF P call cy hints N) := by
  intro fn args h v h' e F hF ι w args' s ha
  cases fn with
  | func f => exact execF_ok hn hmix hints N ih e F hF ι w args' s ha
  | yield l => exact hy (.yield l) args h v h' e F hF ι w args' s ha
  | method n => exact hy (.method n) args h v h' e F hF ι w args' s ha
  | methodOf t n => exact hy (.methodOf t n) args h v h' e F hF ι w args' s ha
  | via a b c d => exact hy (.via a b c d) args h v h' e F hF ι w args' s ha
/-- 'callF' with known answers (not within rounds of loops over functions) -/
noncomputable def callX (P : Program) (ans : FuncId → List SV → H → Option (SV × H)) (hints : FuncId → Hint) (N : Nat) : Nat → CallT
  | 0 => fun _ _ _ => none
  | d + 1 => ovr ans (stepF P (callX P ans hints N d) (callF P hints N (d + 1)) hints N)
theorem callX_ok (hn : NamesOK P) (hmix : P.follows .mixedOrders = true) (hints : FuncId → Hint) (N : Nat) {call0 : CallT} {ans : FuncId → List SV → H → Option (SV × H)} (hA : AnsOK P call0 ans) (hc0 : CallOK P B call0) : ∀ d, CallOK P B (callX P ans hints N d)
  | 0 => fun fn args h v h' e => by cases e
  | d + 1 => ovr_ok hA hc0 (stepF_ok hn hmix hints N (callX_ok hn hmix hints N hA hc0 d) (callF_ok hn hmix hints N (d + 1)))
end Go.Wz
end
