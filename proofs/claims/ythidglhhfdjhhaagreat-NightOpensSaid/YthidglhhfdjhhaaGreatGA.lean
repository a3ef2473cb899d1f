/- Contracts over whatever calls; rules that fold tests; loops that look for something. -/
import Derived.Test.YthidglhhfdjhhaaGreatR0
set_option linter.unusedVariables false
set_option linter.unusedSimpArgs false
namespace Go.Wz
open Go

/-- functions of which something else is known than their bodies -/
def hooked (f : FuncId) : Bool := f == 16 || f == 82 || f == 84 || f == 135 || f == 198
/-- calls by the functions' bodies, but for those -/
structure CallsOf (C : Nat → CallT) (N : Nat) : Prop where
  big : 5000 ≤ N
  func : ∀ d f args h, hooked f = false → C (d + 1) (.func f) args h = execF Proofs.Tryz.prog (C d) hints N f args h
  yield : ∀ d l args h, C (d + 1) (.yield l) args h = stepY Proofs.Tryz.prog (C d) hints N (.yield l) args h
theorem CallsOf.at {C : Nat → CallT} {N : Nat} (K : CallsOf C N) {k d : Nat} (hd : k + 1 ≤ d) : ∃ e, k ≤ e ∧ d = e + 1 ∧ ∀ f args h, hooked f = false → C d (.func f) args h = execF Proofs.Tryz.prog (C e) hints N f args h :=
  ⟨d - 1, by omega, by omega, fun f args h hf => by obtain ⟨e, rfl⟩ : ∃ e, d = e + 1 := ⟨d - 1, by omega⟩; exact K.func e f args h hf⟩
theorem CallsOf.atY {C : Nat → CallT} {N : Nat} (K : CallsOf C N) {k d : Nat} (hd : k + 1 ≤ d) : ∃ e, k ≤ e ∧ d = e + 1 ∧ ∀ {l : Nat} {x : Blk} {args : List SV} {h : H}, h.get l = some x → x.L0 → C d (.yield l) args h = yieldK Proofs.Tryz.prog (C e) N x l args h :=
  ⟨d - 1, by omega, by omega, fun hg hx => by obtain ⟨e, rfl⟩ : ∃ e, d = e + 1 := ⟨d - 1, by omega⟩; rw [K.yield]; exact stepY_yield hints N _ hg hx⟩

theorem or_merge (t x : Bool) (h : H) : (if t = true then some (Value.bool true, h) else some (Value.bool x, h)) = some (Value.bool (t || x), h) := by cases t <;> rfl
theorem and_merge (t x : Bool) (h : H) : (if t = true then some (Value.bool x, h) else some (Value.bool false, h)) = some (Value.bool (t && x), h) := by cases t <;> rfl
theorem orP_merge (p : Prop) [Decidable p] (x : Bool) (h : H) : (if p then some (Value.bool true, h) else some (Value.bool x, h)) = some (Value.bool (decide p || x), h) := by by_cases q : p <;> simp [q]
theorem andP_merge (p : Prop) [Decidable p] (x : Bool) (h : H) : (if p then some (Value.bool x, h) else some (Value.bool false, h)) = some (Value.bool (decide p && x), h) := by by_cases q : p <;> simp [q]
@[simp] theorem ld_new (h : H) (cs : List Value) (e : TypeId) (w : Bool) (o : Nat) : (h.new (.cells cs e w)).ld h.next o = cs[o]? := by rw [H.ld_of _ (H.new_get_same _ _)]
theorem ldn_new (h : H) (cs : List Value) (e : TypeId) (w : Bool) (o n : Nat) : (h.new (.cells cs e w)).ldn h.next o n = if o + n ≤ cs.length then some ((cs.drop o).take n) else none := by rw [H.ldn_of _ (H.new_get_same _ _)]
theorem Fr.ld {h h' : H} (f : Fr h h') {b : Nat} (hb : b < h.next) (o : Nat) : h'.ld b o = h.ld b o := by unfold H.ld H.row; rw [f.get b hb]
theorem Fr.ldn {h h' : H} (f : Fr h h') {b : Nat} (hb : b < h.next) (o n : Nat) : h'.ldn b o n = h.ldn b o n := by unfold H.ldn H.row; rw [f.get b hb]
/-- an element of a slice, in all heaps to come -/
theorem RS.ats {h : H} {s : Nat} {v : Value} {l : List (List Value)} (r : RS h s v l) {i : Nat} (hi : i < l.length) :
    ∃ b o, b < h.next ∧ bOf v = some b ∧ idxS s v (I (i : Int)) = some (ptr b o) ∧ ∀ h', Fr h h' → h'.ldn b o s = some l[i] ∧ ∀ j, j < s → h'.ld b (o + j) = l[i][j]? := by
  obtain ⟨b, o, h1, h2, h3, h4⟩ := r.at hi
  refine ⟨b, o, h1, ?_, h2, fun h' f => ⟨by rw [f.ldn h1, h3], fun j hj => by rw [f.ld h1, h4 j hj]⟩⟩
  rcases r.2 with ⟨_, rfl⟩ | ⟨rfl, _⟩ | ⟨b', o', c, vs, e, w, rfl, _⟩
  · simp at hi
  · simp at hi
  · rw [idxS_slcI] at h2
    split at h2
    · unfold ptr at h2; simp at h2; rw [bOf_slc, h2.1]
    · cases h2
theorem i1 {i n : Nat} (h : i + 1 ≤ n) (hn : n < 2 ^ 40) : ibin .add (I i) (I 1) = some (I (i + 1 : Nat)) := by rw [add_in (by omega) (by omega)]; rfl
theorem eqNat' (x n : Nat) : ((x : Int) == (n : Int)) = (x == n) := by rw [Bool.eq_iff_iff, beq_iff_eq, beq_iff_eq, Int.ofNat_inj]

/-- a loop, by what holds at each round -/
theorem loop_inv {LP : Nat → List SV → H → Option X} {n : Nat} (St : Nat → List SV → H → Prop) (R : Option X → Prop)
    (done : ∀ m vs h, St n vs h → R (LP (m + 1) vs h))
    (step : ∀ i m vs h, i < n → St i vs h → R (LP (m + 1) vs h) ∨ ∃ vs' h', St (i + 1) vs' h' ∧ LP (m + 1) vs h = LP m vs' h') :
    ∀ (k i m : Nat) (vs : List SV) (h : H), i + k = n → St i vs h → k < m → R (LP m vs h) := by
  intro k
  induction k with
  | zero =>
    intro i m vs h hi hS hm
    obtain ⟨m, rfl⟩ : ∃ q, m = q + 1 := ⟨m - 1, by omega⟩
    obtain rfl : i = n := by omega
    exact done m vs h hS
  | succ k ih =>
    intro i m vs h hi hS hm
    obtain ⟨m, rfl⟩ : ∃ q, m = q + 1 := ⟨m - 1, by omega⟩
    rcases step i m vs h (by omega) hS with h1 | ⟨vs', h', h1, h2⟩
    · exact h1
    · rw [h2]; exact ih (i + 1) m vs' h' (by omega) h1 (by omega)

/-- is there one of which it is so -/
def anyI {α : Type} (q : Nat → α → Bool) : Nat → List α → Bool
  | _, [] => false
  | i, x :: t => q i x || anyI q (i + 1) t
theorem anyI_any {α : Type} (q : α → Bool) : ∀ (l : List α) (i : Nat), anyI (fun _ x => q x) i l = l.any q
  | [], _ => rfl
  | x :: l, i => by simp only [anyI, List.any_cons, anyI_any q l]
/-- a loop that looks for one -/
theorem any_loop {α : Type} {LP : Nat → List SV → H → Option X} {l : List α} {vs : Nat → List SV} {q : Nat → α → Bool} {h0 : H} {r e : H → X}
    (done : ∀ m h, Fr h0 h → LP (m + 1) (vs l.length) h = some (e h))
    (step : ∀ i m h x, l[i]? = some x → i < l.length → Fr h0 h → ∃ h', Fr h h' ∧ LP (m + 1) (vs i) h = if q i x = true then some (r h') else LP m (vs (i + 1)) h') :
    ∀ (t : List α) (i m : Nat) (h : H), l.drop i = t → i ≤ l.length → Fr h0 h → t.length < m → ∃ h', Fr h h' ∧ LP m (vs i) h = some (if anyI q i t = true then r h' else e h') := by
  intro t
  induction t with
  | nil =>
    intro i m h hi hle f hm
    obtain ⟨m, rfl⟩ : ∃ q, m = q + 1 := ⟨m - 1, by omega⟩
    obtain rfl := drop_nil hi hle
    exact ⟨h, .refl h, by rw [done m h f]; rfl⟩
  | cons x t ih =>
    intro i m h hd hle f hm
    obtain ⟨m, rfl⟩ : ∃ q, m = q + 1 := ⟨m - 1, by omega⟩
    simp only [List.length_cons] at hm
    obtain ⟨hlt, hx, hd', hlen⟩ := drop_cons hd
    obtain ⟨h1, k1, k2⟩ := step i m h x (by rw [List.getElem?_eq_getElem hlt, hx]) hlt f
    unfold anyI
    cases hq : q i x with
    | true => exact ⟨h1, k1, by rw [k2, hq]; rfl⟩
    | false =>
      obtain ⟨h2, k3, k4⟩ := ih (i + 1) m h1 hd' (by omega) (f.trans k1) (by omega)
      exact ⟨h2, k1.trans k3, by rw [k2, hq, if_neg (by simp), k4]; rfl⟩
theorem any_loop0 {α : Type} {LP : Nat → List SV → H → Option X} {l : List α} (vs : Nat → List SV) {vs0 : List SV} (q : Nat → α → Bool) {h0 : H} (r e : H → X) (hv : vs 0 = vs0) {m : Nat} (hm : l.length < m)
    (done : ∀ m h, Fr h0 h → LP (m + 1) (vs l.length) h = some (e h))
    (step : ∀ i m h x, l[i]? = some x → i < l.length → Fr h0 h → ∃ h', Fr h h' ∧ LP (m + 1) (vs i) h = if q i x = true then some (r h') else LP m (vs (i + 1)) h') :
    ∃ h', Fr h0 h' ∧ LP m vs0 h0 = some (if anyI q 0 l = true then r h' else e h') := by
  rw [← hv]
  exact any_loop done step l 0 m h0 rfl (Nat.zero_le _) (.refl _) hm
/-- the first one of which it is so -/
def findI {α : Type} (q : Nat → α → Bool) : Nat → List α → Option Nat
  | _, [] => none
  | i, x :: t => if q i x = true then some i else findI q (i + 1) t
theorem findI_some {α : Type} {q : Nat → α → Bool} : ∀ {l : List α} {i j : Nat}, findI q i l = some j → i ≤ j ∧ j < i + l.length ∧ (∃ x, l[j - i]? = some x ∧ q j x = true) ∧ ∀ k x, i ≤ k → k < j → l[k - i]? = some x → q k x = false
  | [], i, j, h => by simp [findI] at h
  | x :: t, i, j, h => by
    unfold findI at h
    split at h
    · rename_i hq
      cases h
      exact ⟨Nat.le_refl _, by simp, ⟨x, by simp, hq⟩, fun k y h1 h2 => by omega⟩
    · rename_i hq
      obtain ⟨h1, h2, ⟨y, h3, h4⟩, h5⟩ := findI_some h
      refine ⟨by omega, by simp; omega, ⟨y, ?_, h4⟩, fun k z hk1 hk2 hk3 => ?_⟩
      · rw [show j - i = (j - (i + 1)) + 1 by omega]; simpa using h3
      · by_cases hki : k = i
        · subst hki; simp at hk3; subst hk3; simpa using hq
        · rw [show k - i = (k - (i + 1)) + 1 by omega] at hk3
          exact h5 k z (by omega) hk2 (by simpa using hk3)
theorem findI_none {α : Type} {q : Nat → α → Bool} : ∀ {l : List α} {i : Nat}, findI q i l = none → ∀ (k : Nat) x, l[k]? = some x → q (i + k) x = false
  | [], i, h, k, x, hx => by simp at hx
  | y :: t, i, h, k, x, hx => by
    unfold findI at h
    split at h
    · cases h
    · rename_i hq
      cases k with
      | zero => simp at hx; subst hx; simpa using hq
      | succ k => have := findI_none h k x (by simpa using hx); rwa [show i + 1 + k = i + (k + 1) by omega] at this
theorem find_loop {α : Type} {LP : Nat → List SV → H → Option X} {l : List α} {vs : Nat → List SV} {q : Nat → α → Bool} {h0 : H} {r : Nat → H → X} {e : H → X}
    (done : ∀ m h, Fr h0 h → LP (m + 1) (vs l.length) h = some (e h))
    (step : ∀ i m h x, l[i]? = some x → i < l.length → Fr h0 h → ∃ h', Fr h h' ∧ LP (m + 1) (vs i) h = if q i x = true then some (r i h') else LP m (vs (i + 1)) h') :
    ∀ (t : List α) (i m : Nat) (h : H), l.drop i = t → i ≤ l.length → Fr h0 h → t.length < m → ∃ h', Fr h h' ∧ LP m (vs i) h = some (match findI q i t with | some j => r j h' | none => e h') := by
  intro t
  induction t with
  | nil =>
    intro i m h hi hle f hm
    obtain ⟨m, rfl⟩ : ∃ q, m = q + 1 := ⟨m - 1, by omega⟩
    obtain rfl := drop_nil hi hle
    exact ⟨h, .refl h, by rw [done m h f]; rfl⟩
  | cons x t ih =>
    intro i m h hd hle f hm
    obtain ⟨m, rfl⟩ : ∃ q, m = q + 1 := ⟨m - 1, by omega⟩
    simp only [List.length_cons] at hm
    obtain ⟨hlt, hx, hd', hlen⟩ := drop_cons hd
    obtain ⟨h1, k1, k2⟩ := step i m h x (by rw [List.getElem?_eq_getElem hlt, hx]) hlt f
    unfold findI
    cases hq : q i x with
    | true => exact ⟨h1, k1, by rw [k2, hq]; rfl⟩
    | false =>
      obtain ⟨h2, k3, k4⟩ := ih (i + 1) m h1 hd' (by omega) (f.trans k1) (by omega)
      exact ⟨h2, k1.trans k3, by rw [k2, hq, if_neg (by simp), k4]; rfl⟩
theorem find_loop0 {α : Type} {LP : Nat → List SV → H → Option X} {l : List α} (vs : Nat → List SV) {vs0 : List SV} (q : Nat → α → Bool) {h0 : H} (r : Nat → H → X) (e : H → X) (hv : vs 0 = vs0) {m : Nat} (hm : l.length < m)
    (done : ∀ m h, Fr h0 h → LP (m + 1) (vs l.length) h = some (e h))
    (step : ∀ i m h x, l[i]? = some x → i < l.length → Fr h0 h → ∃ h', Fr h h' ∧ LP (m + 1) (vs i) h = if q i x = true then some (r i h') else LP m (vs (i + 1)) h') :
    ∃ h', Fr h0 h' ∧ LP m vs0 h0 = some (match findI q 0 l with | some j => r j h' | none => e h') := by
  rw [← hv]
  exact find_loop done step l 0 m h0 rfl (Nat.zero_le _) (.refl _) hm
theorem mkS_nat (h : H) (z : List Value) (e : TypeId) (n : Nat) (hn : n ≤ 2 ^ 30) : h.mkS z e (I n) (I n) = some (slc h.next 0 n (if n = 0 then 0 else 1), h.new (.cells (List.replicate n z).flatten e true)) := by
  show (if (0 : Int) ≤ (n : Int) ∧ (n : Int) ≤ (n : Int) ∧ (n : Int) ≤ 2 ^ 30 then some (Value.slice (some ⟨h.next, 0, none⟩) (n : Int).toNat (if (n : Int) = 0 then 0 else 1), h.new (.cells (List.replicate (n : Int).toNat z).flatten e true)) else none) = _
  rw [if_pos (by omega)]
  have e10 : (if (n : Int) = 0 then 0 else 1) = (if n = 0 then 0 else 1 : Nat) := by
    by_cases h : n = 0
    · rw [if_pos (by omega), if_pos h]
    · rw [if_neg (by omega), if_neg h]
  rw [e10, Int.toNat_natCast]; rfl
theorem frz_thaw_new {h : H} {i : Nat} (x : Blk) (hi : i < h.next) : thawL [i] h ((frzL [i] h).new x) = h.new x := by
  rw [thawL_one, frzL_one]
  cases h with
  | mk g n =>
  unfold H.new H.put
  simp only
  congr 1
  funext j
  simp only at hi
  by_cases h1 : j = i
  · subst h1; rw [if_pos rfl, if_neg (by omega)]
  · rw [if_neg h1]
    by_cases h2 : j = n
    · rw [if_pos h2, if_pos h2]
    · rw [if_neg h2, if_neg h2, if_neg h1]
theorem frz_next (h : H) (i : Nat) : (frzL [i] h).next = h.next := rfl
theorem frz_get {h : H} {i b : Nat} {cs : List Value} {e : TypeId} {w : Bool} (hg : h.get b = some (.cells cs e w)) : ∃ w', (frzL [i] h).get b = some (.cells cs e w') := by
  rw [frzL_one, H.put_gt]
  split
  · rename_i hb; subst hb; exact ⟨false, by rw [hg]; rfl⟩
  · exact ⟨w, hg⟩
theorem RS.frz {h : H} {s : Nat} {v : Value} {l : List (List Value)} (r : RS h s v l) (i : Nat) : RS (frzL [i] h) s v l := by
  obtain ⟨h1, h2⟩ := r
  refine ⟨h1, ?_⟩
  rcases h2 with h2 | ⟨h2, b, o, h3, h4⟩ | ⟨b, o, c, vs, e, w, h3, h4, h5⟩
  · exact .inl h2
  · exact .inr (.inl ⟨h2, b, o, h3, h4⟩)
  · obtain ⟨w', hw⟩ := frz_get (i := i) h4.get
    exact .inr (.inr ⟨b, o, c, vs, e, w', h3, ⟨h4.lt, hw⟩, h5⟩)
theorem Fr.thaw {h h' : H} {i : Nat} (f : Fr (frzL [i] h) h') : Fr h (thawL [i] h h') := by
  refine ⟨f.nx, fun b hb => ?_⟩
  rw [thawL_one, H.put_gt]
  split
  · rename_i hbi; rw [hbi]
  · rename_i hbi
    rw [f.get b hb, frzL_one, H.put_get_ne _ _ hbi]

theorem RS.atx {h : H} {s : Nat} {v : Value} {α : Type} {enc : α → List Value} {l : List α} (r : RS h s v (l.map enc)) {i : Nat} {x : α} (hx : l[i]? = some x) :
    ∃ b o, b < h.next ∧ bOf v = some b ∧ idxS s v (I (i : Int)) = some (ptr b o) ∧ ∀ h', Fr h h' → h'.ldn b o s = some (enc x) ∧ ∀ j, j < s → h'.ld b (o + j) = (enc x)[j]? := by
  obtain ⟨hi, he⟩ := List.getElem?_eq_some_iff.1 hx
  obtain ⟨b, o, h1, h2, h3, h4⟩ := r.ats (i := i) (by simpa using hi)
  refine ⟨b, o, h1, h2, h3, fun h' f => ?_⟩
  have := h4 h' f
  rw [List.getElem_map, he] at this
  exact this
theorem i0 {i n : Nat} (h : i < n) : ((i : Int) < (n : Int)) = True := by simp [h]
theorem in0 (n : Nat) : ((n : Int) < (n : Int)) = False := by simp

/-! ### IndexFunc and ContainsFunc -/
section
variable {α : Type} {enc : α → List Value}
/-- the round of IndexFunc over structs of s cells -/
def BIdx (s : Nat) (call : CallT) (go : List SV → H → Option X) (a6 a7 a8 a9 : Value) (h : H) : Option X :=
  ((ibin BinOp.lss a9 a8).bind (fun v10 => (condV v10 ((idxS s a6 a9).bind (fun v11 => ((pldn h s v11).bind (fun l12 => ((callV call a7 [(SV.agg l12)] h).bind (fun r13 => (un1 r13.1 (fun v14 =>
    (condV v14 (some ((Out.ret (SV.one a9)), ([], r13.2))) ((ibin BinOp.add a9 (I 1)).bind (fun v15 => (go [(SV.one a6), (SV.one a7), (SV.one a8), (SV.one v15)] r13.2)))))))))))) (some ((Out.exit 0), ([], h))))))
def BIdx1 (call : CallT) (go : List SV → H → Option X) (a6 a7 a8 a9 : Value) (h : H) : Option X :=
  ((ibin BinOp.lss a9 a8).bind (fun v10 => (condV v10 ((idxS 1 a6 a9).bind (fun v11 => ((pld h v11).bind (fun v12 => ((callV call a7 [(SV.one v12)] h).bind (fun r13 => (un1 r13.1 (fun v14 =>
    (condV v14 (some ((Out.ret (SV.one a9)), ([], r13.2))) ((ibin BinOp.add a9 (I 1)).bind (fun v15 => (go [(SV.one a6), (SV.one a7), (SV.one a8), (SV.one v15)] r13.2)))))))))))) (some ((Out.exit 0), ([], h))))))
def FIdx (LP : List SV → H → Option X) (a0 a1 : Value) (h : H) : Option (SV × H) :=
  ((lenS a0).bind (fun v2 => ((LP [(SV.one a0), (SV.one a1), (SV.one v2), (SV.one (I 0))] h).bind (fun r3 =>
    (outc r3.1 (unNil r3.2.1 (some ((SV.one (I (-1))), r3.2.2))) (fun i4 => (ifN i4 0 (unNil r3.2.1 (some ((SV.one (I (-1))), r3.2.2))) none)) (fun x5 => (some (x5, r3.2.2))))))))
def FCont (fi : FuncId) (call : CallT) (a0 a1 : Value) (h : H) : Option (SV × H) :=
  ((call (Fn.func fi) [(SV.one a0), (SV.one a1)] h).bind (fun r2 => (un1 r2.1 (fun v3 => ((ibin BinOp.geq v3 (I 0)).bind (fun v4 => (some ((SV.one v4), r2.2))))))))

theorem idx_loop {s : Nat} {call : CallT} {LP : Nat → List SV → H → Option X} {l : List α} {p : α → Bool} {v vf : Value} {h0 : H}
    (hs : ∀ m a6 a7 a8 a9 h, LP (m + 1) [.one a6, .one a7, .one a8, .one a9] h = BIdx s call (LP m) a6 a7 a8 a9 h)
    (r : RS h0 s v (l.map enc)) (hl : l.length < 2 ^ 40)
    (hf : ∀ x ∈ l, ∀ h, Fr h0 h → ∃ h', callV call vf [.agg (enc x)] h = some (.one (.bool (p x)), h') ∧ Fr h h') :
    ∀ (t : List α) (i m : Nat) (h : H), Fr h0 h → l.drop i = t → i ≤ l.length → t.length < m →
      ∃ h', LP m [.one v, .one vf, .one (I l.length), .one (I i)] h = some (match t.findIdx? p with | some j => (.ret (.one (I (i + j : Nat))), [], h') | none => (.exit 0, [], h')) ∧ Fr h h' := by
  intro t
  induction t with
  | nil =>
    intro i m h f hi hle hm
    obtain ⟨m, rfl⟩ : ∃ q, m = q + 1 := ⟨m - 1, by omega⟩
    rw [hs]; unfold BIdx
    obtain rfl := drop_nil hi hle
    exact ⟨h, by simp, .refl h⟩
  | cons x t ih =>
    intro i m h f hd hle hm
    obtain ⟨m, rfl⟩ : ∃ q, m = q + 1 := ⟨m - 1, by omega⟩
    simp only [List.length_cons] at hm
    obtain ⟨hlt, hx, hd', hlen⟩ := drop_cons hd
    rw [hs]; unfold BIdx
    obtain ⟨b, o, _, _, e1, e2⟩ := r.ats (i := i) (by simpa using hlt)
    have e3 := (e2 h f).1
    rw [List.getElem_map, hx] at e3
    have h1 : (i : Int) < l.length := by omega
    obtain ⟨h2, k1, k2⟩ := hf x (hx ▸ List.getElem_mem hlt) h f
    simp only [ibin_lssI, Option.bind_some, condV_bool, h1, decide_true, if_true, e1, pldn_ptr, e3, k1, un1_one]
    cases hp : p x with
    | true => exact ⟨h2, by simp [List.findIdx?_cons, hp], k2⟩
    | false =>
      simp only [Bool.false_eq_true, if_false, i1 (show i + 1 ≤ l.length by omega) hl, Option.bind_some]
      obtain ⟨h3, m1, m2⟩ := ih (i + 1) m h2 (f.trans k2) hd' (by omega) (by omega)
      refine ⟨h3, ?_, k2.trans m2⟩
      rw [m1, List.findIdx?_cons, hp]
      cases t.findIdx? p with
      | none => simp
      | some j => simp only [Bool.false_eq_true, if_false, Option.map_some]; rw [show i + 1 + j = i + (j + 1) by omega]
theorem idx1_loop {enc1 : α → Value} {call : CallT} {LP : Nat → List SV → H → Option X} {l : List α} {p : α → Bool} {v vf : Value} {h0 : H}
    (hs : ∀ m a6 a7 a8 a9 h, LP (m + 1) [.one a6, .one a7, .one a8, .one a9] h = BIdx1 call (LP m) a6 a7 a8 a9 h)
    (r : RS h0 1 v (l.map fun x => [enc1 x])) (hl : l.length < 2 ^ 40)
    (hf : ∀ x ∈ l, ∀ h, Fr h0 h → ∃ h', callV call vf [.one (enc1 x)] h = some (.one (.bool (p x)), h') ∧ Fr h h') :
    ∀ (t : List α) (i m : Nat) (h : H), Fr h0 h → l.drop i = t → i ≤ l.length → t.length < m →
      ∃ h', LP m [.one v, .one vf, .one (I l.length), .one (I i)] h = some (match t.findIdx? p with | some j => (.ret (.one (I (i + j : Nat))), [], h') | none => (.exit 0, [], h')) ∧ Fr h h' := by
  intro t
  induction t with
  | nil =>
    intro i m h f hi hle hm
    obtain ⟨m, rfl⟩ : ∃ q, m = q + 1 := ⟨m - 1, by omega⟩
    rw [hs]; unfold BIdx1
    obtain rfl := drop_nil hi hle
    exact ⟨h, by simp, .refl h⟩
  | cons x t ih =>
    intro i m h f hd hle hm
    obtain ⟨m, rfl⟩ : ∃ q, m = q + 1 := ⟨m - 1, by omega⟩
    simp only [List.length_cons] at hm
    obtain ⟨hlt, hx, hd', hlen⟩ := drop_cons hd
    rw [hs]; unfold BIdx1
    obtain ⟨b, o, _, _, e1, e2⟩ := r.ats (i := i) (by simpa using hlt)
    have e3 := (e2 h f).2 0 (by omega)
    rw [List.getElem_map, hx] at e3
    simp only [Nat.add_zero, List.getElem?_cons_zero] at e3
    have h1 : (i : Int) < l.length := by omega
    obtain ⟨h2, k1, k2⟩ := hf x (hx ▸ List.getElem_mem hlt) h f
    simp only [ibin_lssI, Option.bind_some, condV_bool, h1, decide_true, if_true, e1, pld_ptr, e3, k1, un1_one]
    cases hp : p x with
    | true => exact ⟨h2, by simp [List.findIdx?_cons, hp], k2⟩
    | false =>
      simp only [Bool.false_eq_true, if_false, i1 (show i + 1 ≤ l.length by omega) hl, Option.bind_some]
      obtain ⟨h3, m1, m2⟩ := ih (i + 1) m h2 (f.trans k2) hd' (by omega) (by omega)
      refine ⟨h3, ?_, k2.trans m2⟩
      rw [m1, List.findIdx?_cons, hp]
      cases t.findIdx? p with
      | none => simp
      | some j => simp only [Bool.false_eq_true, if_false, Option.map_some]; rw [show i + 1 + j = i + (j + 1) by omega]
def idxInt (o : Option Nat) : Int := match o with | some j => j | none => -1
theorem idxInt_ge (l : List α) (p : α → Bool) : decide (idxInt (l.findIdx? p) ≥ 0) = l.any p := by
  cases h : l.findIdx? p with
  | none =>
    rw [List.findIdx?_eq_none_iff] at h
    have : l.any p = false := by rw [List.any_eq_false]; intro x hx; simp [h x hx]
    rw [this]; rfl
  | some j =>
    have : l.any p = true := by
      obtain ⟨hj, h1, _⟩ := List.findIdx?_eq_some_iff_getElem.1 h
      exact List.any_eq_true.2 ⟨_, List.getElem_mem hj, h1⟩
    rw [this]
    show decide ((j : Int) ≥ 0) = true
    simp
/-- IndexFunc's answer out of its loop's -/
theorem fidx_of {LP : List SV → H → Option X} {l : List α} {p : α → Bool} {v vf : Value} {h h' : H} (hl : lenS v = some (I l.length))
    (e : LP [.one v, .one vf, .one (I l.length), .one (I 0)] h = some (match l.findIdx? p with | some j => (.ret (.one (I (0 + j : Nat))), [], h') | none => (.exit 0, [], h'))) :
    FIdx LP v vf h = some (.one (I (idxInt (l.findIdx? p))), h') := by
  unfold FIdx
  rw [hl]
  simp only [Option.bind_some, e]
  cases l.findIdx? p with
  | none => simp [idxInt]
  | some j => simp [idxInt]

theorem indexF {C : Nat → CallT} {N : Nat} (K : CallsOf C N) {fi : FuncId} {s : Nat} {LP : CallT → Nat → Nat → List SV → H → Option X} (hh : hooked fi = false)
    (hfi : ∀ call N a0 a1 h, execF Proofs.Tryz.prog call hints N fi [.one a0, .one a1] h = FIdx (LP call N N) a0 a1 h)
    (hs : ∀ call N m a6 a7 a8 a9 h, LP call N (m + 1) [.one a6, .one a7, .one a8, .one a9] h = BIdx s call (LP call N m) a6 a7 a8 a9 h)
    {d : Nat} {l : List α} {p : α → Bool} {v vf : Value} {h : H} (r : RS h s v (l.map enc)) (hl : l.length < 5000)
    (hf : ∀ x ∈ l, ∀ h1, Fr h h1 → ∃ h', callV (C d) vf [.agg (enc x)] h1 = some (.one (.bool (p x)), h') ∧ Fr h1 h') :
    ∃ h', C (d + 1) (.func fi) [.one v, .one vf] h = some (.one (I (idxInt (l.findIdx? p))), h') ∧ Fr h h' := by
  have hb := K.big
  obtain ⟨h', e, f⟩ := idx_loop (hs (C d) N) r (by omega) hf l 0 N h (.refl h) rfl (by omega) (by omega)
  refine ⟨h', ?_, f⟩
  rw [K.func _ _ _ _ hh, hfi]
  exact fidx_of (by have := r.len; rwa [List.length_map] at this) e
theorem indexF1 {enc1 : α → Value} {C : Nat → CallT} {N : Nat} (K : CallsOf C N) {fi : FuncId} {LP : CallT → Nat → Nat → List SV → H → Option X} (hh : hooked fi = false)
    (hfi : ∀ call N a0 a1 h, execF Proofs.Tryz.prog call hints N fi [.one a0, .one a1] h = FIdx (LP call N N) a0 a1 h)
    (hs : ∀ call N m a6 a7 a8 a9 h, LP call N (m + 1) [.one a6, .one a7, .one a8, .one a9] h = BIdx1 call (LP call N m) a6 a7 a8 a9 h)
    {d : Nat} {l : List α} {p : α → Bool} {v vf : Value} {h : H} (r : RS h 1 v (l.map fun x => [enc1 x])) (hl : l.length < 5000)
    (hf : ∀ x ∈ l, ∀ h1, Fr h h1 → ∃ h', callV (C d) vf [.one (enc1 x)] h1 = some (.one (.bool (p x)), h') ∧ Fr h1 h') :
    ∃ h', C (d + 1) (.func fi) [.one v, .one vf] h = some (.one (I (idxInt (l.findIdx? p))), h') ∧ Fr h h' := by
  have hb := K.big
  obtain ⟨h', e, f⟩ := idx1_loop (hs (C d) N) r (by omega) hf l 0 N h (.refl h) rfl (by omega) (by omega)
  refine ⟨h', ?_, f⟩
  rw [K.func _ _ _ _ hh, hfi]
  exact fidx_of (by have := r.len; rwa [List.length_map] at this) e
theorem containsF {C : Nat → CallT} {N : Nat} (K : CallsOf C N) {fc fi : FuncId} {d : Nat} {l : List α} {p : α → Bool} {v vf : Value} {h h' : H} (hh : hooked fc = false)
    (hfc : ∀ call N a0 a1 h, execF Proofs.Tryz.prog call hints N fc [.one a0, .one a1] h = FCont fi call a0 a1 h)
    (e : C (d + 1) (.func fi) [.one v, .one vf] h = some (.one (I (idxInt (l.findIdx? p))), h')) : C (d + 2) (.func fc) [.one v, .one vf] h = some (.one (.bool (l.any p)), h') := by
  rw [K.func _ _ _ _ hh, hfc]; unfold FCont
  rw [e]
  simp only [Option.bind_some, un1_one, ibin_geqI, idxInt_ge]
end
/-- the rules of most walks, in one -/
theorem S0 : type_of% @Option.bind_some.{0,0} ∧ type_of% @un1_one ∧ type_of% @unA_agg ∧ type_of% @unT_tup ∧ type_of% @unCons_cons ∧ type_of% @unConD_cons ∧ type_of% @unNil_nil ∧ type_of% @outc_normal ∧ type_of% @outc_exit ∧ type_of% @outc_ret ∧ type_of% @ifN_same ∧ type_of% @condV_bool ∧ type_of% @gsel_true ∧ type_of% @gsel_false ∧ type_of% @gateS_true ∧ type_of% @gateS_false ∧ type_of% @gateS_undef ∧ type_of% @ovS_some ∧ type_of% @ovS_none ∧ type_of% @pickV_true ∧ type_of% @pickV_false ∧ type_of% @padd_ptr ∧ type_of% @pld_ptr ∧ type_of% @pldn_ptr ∧ type_of% @nilC_ptr ∧ type_of% @hideL_nil ∧ type_of% @frzL_nil ∧ type_of% @thawL_nil ∧ type_of% @lenS_nil ∧ type_of% @lenS_slc ∧ type_of% @ibin_eqlI ∧ type_of% @ibin_neqI ∧ type_of% @ibin_lssI ∧ type_of% @ibin_leqI ∧ type_of% @ibin_gtrI ∧ type_of% @ibin_geqI ∧ type_of% @un_not ∧ type_of% @mx2I ∧ type_of% @mn2I ∧ type_of% @or_merge ∧ type_of% @and_merge ∧ type_of% @ld_new ∧ type_of% @ldn_new ∧ type_of% @List.getElem?_cons_succ.{0} ∧ type_of% @List.getElem?_cons_zero.{0} ∧ type_of% @Nat.zero_add ∧ type_of% @Nat.add_zero ∧ type_of% @List.length_cons.{0} ∧ type_of% @List.length_nil.{0} ∧ type_of% @Nat.le_refl ∧ type_of% @List.drop_zero.{0} ∧ type_of% @List.take_succ_cons.{0} ∧ type_of% @List.take_zero.{0} ∧ type_of% @callV_func ∧ type_of% @List.map_nil.{0,0} ∧ type_of% @List.map_cons.{0,0} ∧ type_of% @List.nil_append.{0} ∧ type_of% @List.append_nil.{0} ∧ type_of% @List.cons_append.{0} ∧ type_of% @H.new_next ∧ type_of% @Bool.false_eq_true ∧ type_of% @ite_true.{1} ∧ type_of% @ite_false.{1} ∧ type_of% @decide_true ∧ type_of% @decide_false ∧ type_of% @Bool.not_true ∧ type_of% @Bool.not_false ∧ type_of% @Bool.true_eq_false ∧ type_of% @fillK_nil ∧ type_of% @fillK_one ∧ type_of% @List.set_cons_zero.{0} ∧ type_of% @List.set_cons_succ.{0} ∧ type_of% @bne_self_eq_false.{0} ∧ type_of% @Bool.or_true ∧ type_of% @Bool.or_false ∧ type_of% @Bool.true_or ∧ type_of% @Bool.false_or ∧ type_of% @Bool.and_true ∧ type_of% @Bool.and_false ∧ type_of% @Bool.true_and ∧ type_of% @Bool.false_and :=
  ⟨@Option.bind_some.{0,0}, @un1_one, @unA_agg, @unT_tup, @unCons_cons, @unConD_cons, @unNil_nil, @outc_normal, @outc_exit, @outc_ret, @ifN_same, @condV_bool, @gsel_true, @gsel_false, @gateS_true, @gateS_false, @gateS_undef, @ovS_some, @ovS_none, @pickV_true, @pickV_false, @padd_ptr, @pld_ptr, @pldn_ptr, @nilC_ptr, @hideL_nil, @frzL_nil, @thawL_nil, @lenS_nil, @lenS_slc, @ibin_eqlI, @ibin_neqI, @ibin_lssI, @ibin_leqI, @ibin_gtrI, @ibin_geqI, @un_not, @mx2I, @mn2I, @or_merge, @and_merge, @ld_new, @ldn_new, @List.getElem?_cons_succ.{0}, @List.getElem?_cons_zero.{0}, @Nat.zero_add, @Nat.add_zero, @List.length_cons.{0}, @List.length_nil.{0}, @Nat.le_refl, @List.drop_zero.{0}, @List.take_succ_cons.{0}, @List.take_zero.{0}, @callV_func, @List.map_nil.{0,0}, @List.map_cons.{0,0}, @List.nil_append.{0}, @List.append_nil.{0}, @List.cons_append.{0}, @H.new_next, @Bool.false_eq_true, @ite_true.{1}, @ite_false.{1}, @decide_true, @decide_false, @Bool.not_true, @Bool.not_false, @Bool.true_eq_false, @fillK_nil, @fillK_one, @List.set_cons_zero.{0}, @List.set_cons_succ.{0}, @bne_self_eq_false.{0}, @Bool.or_true, @Bool.or_false, @Bool.true_or, @Bool.false_or, @Bool.and_true, @Bool.and_false, @Bool.true_and, @Bool.false_and⟩
end Go.Wz
