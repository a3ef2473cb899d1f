import Derived.Test.YthidglhhfdjhhaaGreatR9
/- Contracts: small functions of night.Match and of its reference. -/
set_option linter.unusedVariables false
set_option linter.unusedSimpArgs false
namespace Go.Wz
open Go

noncomputable abbrev CF (N d : Nat) : CallT := callF Proofs.Tryz.prog hints N d
theorem CF_succ (N d : Nat) (f : FuncId) (args : List SV) (h : H) : CF N (d + 1) (.func f) args h = execF Proofs.Tryz.prog (CF N d) hints N f args h := callF_succ _ _ _ _ _ _ _

structure Rep where
  at_ : Int
  kind : Int
  marks : Int
def Rep.enc (r : Rep) : List Value := [I r.at_, I r.kind, I r.marks]

def wb (n lo hi : Int) : Bool := decide (lo ≤ n) && decide (n ≤ hi)
theorem within_c (N d : Nat) (n lo hi : Int) (h : H) : CF N (d + 1) (.func 56) [.one (I n), .one (I lo), .one (I hi)] h = some (.one (.bool (wb n lo hi)), h) := by
  rw [CF_succ, F56_eq]; unfold F56 wb
  by_cases h1 : lo ≤ n <;> simp [h1]
theorem from_c (N d : Nat) (n lo hi : Int) (h : H) : CF N (d + 1) (.func 61) [.one (I n), .one (I lo), .one (I hi)] h = some (.one (.bool (wb n lo hi)), h) := by
  rw [CF_succ, F61_eq]; unfold F61 wb
  by_cases h1 : lo ≤ n <;> simp [h1]

/-! ### bits -/
def u64and (a b : Int) : Int := IntKind.u64.wrap (BitVec.ofInt 64 a &&& BitVec.ofInt 64 b).toNat
def u64shr (a : Int) (k : Nat) : Int := a.fdiv (2 ^ k)
def u64add (a b : Int) : Int := IntKind.u64.wrap (a + b)
def oc1 (x : Int) : Int := u64add (u64and (u64shr x 1) 6148914691236517205) (u64and x 6148914691236517205)
def oc2 (x : Int) : Int := u64add (u64and (u64shr x 2) 3689348814741910323) (u64and x 3689348814741910323)
def oc3 (x : Int) : Int := u64and (u64add (u64shr x 4) x) 1085102592571150095
def oc4 (x : Int) : Int := u64add x (u64shr x 8)
def oc5 (x : Int) : Int := u64add x (u64shr x 16)
def oc6 (x : Int) : Int := u64add x (u64shr x 32)
def i64and (a b : Int) : Int := IntKind.i64.wrap (BitVec.ofInt 64 a &&& BitVec.ofInt 64 b).toNat
def oc (x : Int) : Int := i64and (IntKind.i64.wrap (oc6 (oc5 (oc4 (oc3 (oc2 (oc1 x))))))) 127
theorem ones64_c (N d : Nat) (x : Int) (h : H) : CF N (d + 1) (.func 258) [.one (.int .u64 x)] h = some (.one (I (oc x)), h) := by
  rw [CF_succ, F258_eq]; rfl
theorem ones_c (N d : Nat) (x : Int) (h : H) : CF N (d + 2) (.func 203) [.one (.int .u64 x)] h = some (.one (I (oc x)), h) := by
  rw [CF_succ, F203_eq]; unfold F203
  simp [ones64_c]
/-- how many marks -/
def popc (m : Nat) : Nat := m % 2 + m / 2 % 2 + m / 4 % 2 + m / 8 % 2 + m / 16 % 2 + m / 32 % 2 + m / 64 % 2 + m / 128 % 2 + m / 256 % 2 + m / 512 % 2 + m / 1024 % 2 + m / 2048 % 2
def allB (f : Nat → Bool) : Nat → Bool
  | 0 => true
  | n + 1 => f n && allB f n
theorem allB_at {f : Nat → Bool} : ∀ {n : Nat}, allB f n = true → ∀ i, i < n → f i = true
  | 0, _, i, h => by omega
  | n + 1, h, i, hi => by
    simp only [allB, Bool.and_eq_true] at h
    by_cases e : i = n
    · subst e; exact h.1
    · exact allB_at h.2 i (by omega)
theorem oc_all : allB (fun m => oc m == (popc m : Int)) 4096 = true := by kernel_rfl
theorem oc_popc (m : Nat) (h : m < 4096) : oc m = popc m := by simpa using allB_at oc_all m h
end Go.Wz
/- Contracts: what fits. -/
set_option linter.unusedVariables false
set_option linter.unusedSimpArgs false
namespace Go.Wz
open Go

theorem i64and_nat (a b : Nat) (ha : a < 2 ^ 63) (hb : b < 2 ^ 63) : i64and a b = ((a &&& b : Nat) : Int) := by
  unfold i64and
  have h1 : (BitVec.ofInt 64 (a : Int)) = BitVec.ofNat 64 a := by simp
  have h2 : (BitVec.ofInt 64 (b : Int)) = BitVec.ofNat 64 b := by simp
  rw [h1, h2, BitVec.toNat_and, BitVec.toNat_ofNat, BitVec.toNat_ofNat, Nat.mod_eq_of_lt (by omega), Nat.mod_eq_of_lt (by omega)]
  have h3 : a &&& b ≤ a := Nat.and_le_left
  exact IntWalk.i64_in _ ⟨by omega, by omega⟩
theorem ibin_andI (a b : Int) : ibin .and (I a) (I b) = some (I (i64and a b)) := rfl
theorem ibin_shrI (a : Int) (b : Nat) (hb : b < 64) : ibin .shr (I a) (.int .u64 b) = some (I (a.fdiv (2 ^ b))) := by
  show (if (b : Int) < 0 then none else some (Value.int .i64 (a.fdiv (2 ^ (min (b : Int).toNat 64))))) = _
  rw [if_neg (by omega), show min (b : Int).toNat 64 = b by simp; omega]; rfl
theorem cvt_u64 (n : Nat) (hn : n < 2 ^ 63) : cvt .u64 (I n) = some (.int .u64 n) := by
  show some (Value.int .u64 (IntKind.u64.wrap n)) = _
  rw [IntWalk.u64_in _ (by omega)]
theorem bit_of (m b : Nat) (hm : m < 4096) (hb : b < 64) : ibin .and (I ((m : Int).fdiv (2 ^ b))) (I 1) = some (I ((m / 2 ^ b % 2 : Nat) : Int)) := by
  rw [ibin_andI]
  have h1 : ((m : Int).fdiv (2 ^ b)) = ((m / 2 ^ b : Nat) : Int) := by
    rw [Int.fdiv_eq_ediv_of_nonneg _ (by exact Int.le_of_lt (Int.pow_pos (by omega)))]; simp
  rw [h1, show (1 : Int) = ((1 : Nat) : Int) from rfl, i64and_nat _ _ (Nat.lt_of_le_of_lt (Nat.div_le_self _ _) (by omega)) (by omega), Nat.and_one_is_mod]

/-- a row with marks that can be -/
def Rep.mok (r : Rep) : Prop := 0 ≤ r.marks ∧ r.marks < 4096
def Rep.m (r : Rep) : Nat := r.marks.toNat
theorem Rep.mok.eq {r : Rep} (h : r.mok) : r.marks = (r.m : Int) ∧ r.m < 4096 := by unfold Rep.mok at h; unfold Rep.m; omega
def fitB (c a : Rep) : Bool := decide (3 ≤ popc a.m) && (a.m &&& c.m == a.m)

/-- the sum of the bits from b on, k of them -/
def bsum (m : Nat) : Nat → Nat → Nat
  | _, 0 => 0
  | b, k + 1 => m / 2 ^ b % 2 + bsum m (b + 1) k
theorem bsum_le (m : Nat) : ∀ k b, bsum m b k ≤ k
  | 0, _ => Nat.le_refl _
  | k + 1, b => by unfold bsum; have := bsum_le m k (b + 1); omega
theorem bsum_popc (m : Nat) : bsum m 0 12 = popc m := by
  simp only [bsum, popc]; simp; omega

theorem fit_loop (N d : Nat) {child : Value} {bo : Nat} {a : Rep} {h : H} {e : TypeId} {w : Bool} (ha : a.mok) (hg : h.get bo = some (.cells a.enc e w)) :
    ∀ (k b s m : Nat), b + k = 12 → s ≤ b → k < m → LP40_0 (CF N d) N m [.one child, .one (ptr bo 0), .one (I s), .one (I b)] h = some (.exit 0, [.one child, .one (ptr bo 0), .one (I (s + bsum a.m b k : Nat))], h) := by
  intro k
  induction k with
  | zero =>
    intro b s m hb hs hm
    obtain ⟨m, rfl⟩ : ∃ q, m = q + 1 := ⟨m - 1, by omega⟩
    rw [LP40_0_succ]; unfold B40_0
    obtain rfl : b = 12 := by omega
    simp [bsum]
  | succ k ih =>
    intro b s m hb hs hm
    obtain ⟨m, rfl⟩ : ∃ q, m = q + 1 := ⟨m - 1, by omega⟩
    rw [LP40_0_succ]; unfold B40_0
    have h1 : (b : Int) < 12 := by omega
    obtain ⟨e1, e2⟩ := ha.eq
    have e3 := bit_of a.m b e2 (by omega)
    have e4 := Nat.mod_lt (a.m / 2 ^ b) (show 0 < 2 by omega)
    have e5 := ih (b + 1) (s + a.m / 2 ^ b % 2) m (by omega) (by omega) (by omega)
    have e6 : ibin .add (I s) (I (a.m / 2 ^ b % 2 : Nat)) = some (I (s + a.m / 2 ^ b % 2 : Nat)) := by rw [add_in (by omega) (by omega)]; rfl
    have e7 : ibin .add (I b) (I 1) = some (I (b + 1 : Nat)) := by rw [add_in (by omega) (by omega)]; rfl
    simp only [ibin_lssI, Option.bind_some, condV_bool, h1, decide_true, if_true, padd_ptr, pld_ptr, H.ld_of _ hg, Rep.enc, List.getElem?_cons_succ, List.getElem?_cons_zero, cvt_u64 b (by omega), e1, ibin_shrI _ b (by omega), e3, e6, e7, Nat.zero_add]
    rw [e5]
    simp only [bsum, Nat.add_assoc]
theorem fit_c (N d : Nat) (hN : 20 ≤ N) {c a : Rep} (hc : c.mok) (ha : a.mok) (h : H) :
    ∃ h', CF N (d + 1) (.func 40) [.agg c.enc, .agg a.enc] h = some (.one (.bool (fitB c a)), h') ∧ Fr h h' := by
  refine ⟨_, ?_, ((Fr.refl h).new (.cells c.enc 81 true)).new (.cells a.enc 81 true)⟩
  rw [CF_succ, F40_eq]; unfold F40
  obtain ⟨c1, c2⟩ := hc.eq
  obtain ⟨a1, a2⟩ := ha.eq
  have g1 : ((h.new (.cells c.enc 81 true)).new (.cells a.enc 81 true)).get (h.next + 1) = some (.cells a.enc 81 true) := by simp [H.new_get]
  have g2 : ((h.new (.cells c.enc 81 true)).new (.cells a.enc 81 true)).get h.next = some (.cells c.enc 81 true) := by simp [H.new_get]
  have := fit_loop N d (child := ptr h.next 0) ha g1 12 0 0 N (by omega) (by omega) (by omega)
  simp only [Nat.zero_add, Int.ofNat_zero, Int.natCast_zero] at this
  have e1 : ibin .and (I c.marks) (I a.marks) = some (I ((c.m &&& a.m : Nat) : Int)) := by rw [ibin_andI, c1, a1, i64and_nat _ _ (by omega) (by omega)]
  have e1' : ibin .and (I a.marks) (I c.marks) = some (I ((a.m &&& c.m : Nat) : Int)) := by rw [ibin_andI, c1, a1, i64and_nat _ _ (by omega) (by omega)]
  rw [a1] at e1'
  rw [this]
  rw [bsum_popc]
  simp only [Option.bind_some, outc_exit, ifN_same, unConD_cons, un1_one, unNil_nil, ibin_geqI, gsel_true, padd_ptr, pld_ptr, H.ld_of _ g1, H.ld_of _ g2, Nat.zero_add]
  simp only [Rep.enc, List.getElem?_cons_succ, List.getElem?_cons_zero, Option.bind_some, e1', ibin_eqlI, a1]
  unfold fitB
  have e4 : ((((a.m &&& c.m : Nat) : Int)) == (a.m : Int)) = (a.m &&& c.m == a.m) := by
    rw [Bool.eq_iff_iff, beq_iff_eq, beq_iff_eq, Int.ofNat_inj]
  rw [e4]
  by_cases h3 : 3 ≤ popc a.m
  · have : ((popc a.m : Nat) : Int) ≥ 3 := by omega
    simp [h3, this]
  · have : ¬ ((popc a.m : Nat) : Int) ≥ 3 := by omega
    simp [h3, this]
end Go.Wz
/- Contracts: who fits, who is alone. -/
set_option linter.unusedVariables false
set_option linter.unusedSimpArgs false
namespace Go.Wz
open Go

/-- the reports that an office looks at -/
structure Off (h : H) (bo : Nat) (vl : Value) (reps : List Rep) : Prop where
  cell : ∃ cs e w, h.get bo = some (.cells (vl :: cs) e w)
  rows : RS h 3 vl (reps.map Rep.enc)
  ok : ∀ r ∈ reps, r.mok

theorem fits_c (N d : Nat) {h : H} {bo : Nat} {vl : Value} {reps : List Rep} (O : Off h bo vl reps) {c a : Nat} (hc : c < reps.length) (ha : a < reps.length) :
    CF N (d + 3) (.func 141) [.one (ptr bo 0), .one (I c), .one (I a)] h = some (.one (.bool (fitB reps[c] reps[a])), h) := by
  rw [CF_succ, F141_eq]; unfold F141
  obtain ⟨cs, e, w, hg⟩ := O.cell
  obtain ⟨b1, o1, _, i1, _, l1⟩ := O.rows.at (i := a) (by simpa using ha)
  obtain ⟨b2, o2, _, i2, _, l2⟩ := O.rows.at (i := c) (by simpa using hc)
  have k1 := l1 2 (by omega)
  have k2 := l2 2 (by omega)
  simp only [List.getElem_map, Rep.enc, List.getElem?_cons_succ, List.getElem?_cons_zero] at k1 k2
  obtain ⟨a1, a2⟩ := (O.ok _ (List.getElem_mem ha)).eq
  obtain ⟨c1, c2⟩ := (O.ok _ (List.getElem_mem hc)).eq
  rw [a1] at k1
  rw [c1] at k2
  have e1 : ibin .and (I (reps[c].m : Int)) (I (reps[a].m : Int)) = some (I ((reps[a].m &&& reps[c].m : Nat) : Int)) := by rw [ibin_andI, i64and_nat _ _ (by omega) (by omega), Nat.and_comm]
  have e4 : (((reps[a].m &&& reps[c].m : Nat) : Int) == (reps[a].m : Int)) = (reps[a].m &&& reps[c].m == reps[a].m) := by
    rw [Bool.eq_iff_iff, beq_iff_eq, beq_iff_eq, Int.ofNat_inj]
  simp only [nilC_ptr, Option.bind_some, padd_ptr, Nat.add_zero, Nat.zero_add, pld_ptr, H.ld_of _ hg, List.getElem?_cons_zero, i1, i2, k1, k2, cvt_u64 _ (show reps[a].m < 2 ^ 63 by omega), ones_c, un1_one, oc_popc _ a2, ibin_geqI, gsel_true, e1, ibin_eqlI, e4]
  unfold fitB
  by_cases h3 : 3 ≤ popc reps[a].m
  · have : ((popc reps[a].m : Nat) : Int) ≥ 3 := by omega
    simp [h3, this]
  · have : ¬ ((popc reps[a].m : Nat) : Int) ≥ 3 := by omega
    simp [h3, this]

theorem fitsA_c (N d : Nat) {h : H} {bo bp bc : Nat} {vl : Value} {reps : List Rep} (O : Off h bo vl reps) {c a : Nat} (hc : c < reps.length) (ha : a < reps.length)
    {ep ec : TypeId} {wp wc : Bool} (hp : h.get bp = some (.cells [ptr bo 0] ep wp)) (hcc : h.get bc = some (.cells [I c] ec wc)) :
    CF N (d + 4) (.func 140) [.one (I a), .one (ptr bp 0), .one (ptr bc 0)] h = some (.one (.bool (fitB reps[c] reps[a])), h) := by
  rw [CF_succ, F140_eq]; unfold F140
  simp only [pld_ptr, H.ld_of _ hp, H.ld_of _ hcc, List.getElem?_cons_zero, Option.bind_some, fits_c N d O hc ha, un1_one]
theorem fitsC_c (N d : Nat) {h : H} {bo bp bc : Nat} {vl : Value} {reps : List Rep} (O : Off h bo vl reps) {c a : Nat} (hc : c < reps.length) (ha : a < reps.length)
    {ep ec : TypeId} {wp wc : Bool} (hp : h.get bp = some (.cells [ptr bo 0] ep wp)) (hcc : h.get bc = some (.cells [I a] ec wc)) :
    CF N (d + 4) (.func 142) [.one (I c), .one (ptr bp 0), .one (ptr bc 0)] h = some (.one (.bool (fitB reps[c] reps[a])), h) := by
  rw [CF_succ, F142_eq]; unfold F142
  simp only [pld_ptr, H.ld_of _ hp, H.ld_of _ hcc, List.getElem?_cons_zero, Option.bind_some, fits_c N d O hc ha, un1_one]

/-- a list of numbers in memory, to be read -/
def RI (h : H) (v : Value) (l : List Nat) : Prop := RS h 1 v (l.map fun (x : Nat) => [I x])
theorem RI.at {h : H} {v : Value} {l : List Nat} (r : RI h v l) {i : Nat} (hi : i < l.length) : ∃ b o, b < h.next ∧ idxS 1 v (I (i : Int)) = some (ptr b o) ∧ h.ld b o = some (I (l[i] : Nat)) := by
  obtain ⟨b, o, h1, h2, _, h4⟩ := RS.at r (i := i) (by simpa using hi)
  refine ⟨b, o, h1, h2, ?_⟩
  have := h4 0 (by omega)
  simpa using this
theorem RI.len {h : H} {v : Value} {l : List Nat} (r : RI h v l) : lenS v = some (I l.length) := by
  have := RS.len r; simpa using this

/-- the one of which it is so, if there is just one; (0, false): none or several -/
def aloneG (p : Nat → Bool) : Nat → Bool → List Nat → Nat × Bool
  | one, is, [] => (one, is)
  | one, is, x :: l => if p x = true then (if is = true then (0, false) else aloneG p x true l) else aloneG p one is l

theorem RI.atd {h : H} {v : Value} {l t : List Nat} {x : Nat} (r : RI h v l) {i : Nat} (hd : l.drop i = x :: t) : ∃ b o, b < h.next ∧ idxS 1 v (I (i : Int)) = some (ptr b o) ∧ h.ld b o = some (I (x : Nat)) := by
  obtain ⟨hi, rfl, _⟩ := drop_cons hd
  exact r.at hi
theorem alone_loop (N d : Nat) {h : H} {v vf : Value} {l : List Nat} {p : Nat → Bool} (r : RI h v l) (hl : l.length < 2 ^ 40)
    (hf : ∀ x ∈ l, callV (CF N d) vf [.one (I (x : Nat))] h = some (.one (.bool (p x)), h)) :
    ∀ (t : List Nat) (i m one : Nat) (is : Bool), l.drop i = t → i ≤ l.length → t.length < m →
      LP139_0 (CF N d) N m [.one vf, .one (I one), .one (.bool is), .one v, .one (I l.length), .one (I i)] h =
        some (if (is && t.any p) = true ∨ 2 ≤ (t.filter p).length then (.ret (.tup [.one (I 0), .one (.bool false)]), [], h)
          else (.exit 0, [.one (I (aloneG p one is t).1), .one (.bool (aloneG p one is t).2)], h)) := by
  intro t
  induction t with
  | nil =>
    intro i m one is hi hle hm
    obtain ⟨m, rfl⟩ : ∃ q, m = q + 1 := ⟨m - 1, by omega⟩
    rw [LP139_0_succ]; unfold B139_0
    obtain rfl := drop_nil hi hle
    simp [aloneG]
  | cons x t ih =>
    intro i m one is hd hle hm
    obtain ⟨m, rfl⟩ : ∃ q, m = q + 1 := ⟨m - 1, by omega⟩
    simp only [List.length_cons] at hm
    obtain ⟨hlt, hx, hd', hlen⟩ := drop_cons hd
    rw [LP139_0_succ]; unfold B139_0
    obtain ⟨b, o, _, e1, e2⟩ := r.atd hd
    have h1 : (i : Int) < l.length := by omega
    have e7 : ibin .add (I i) (I 1) = some (I (i + 1 : Nat)) := by rw [add_in (by omega) (by omega)]; rfl
    have e3 := hf x (hx ▸ List.getElem_mem hlt)
    simp only [ibin_lssI, Option.bind_some, condV_bool, h1, decide_true, if_true, e1, pld_ptr, e2, e3, un1_one, un_not]
    cases hp : p x with
    | false =>
      simp only [Bool.not_false, if_true, Option.bind_some, outc_normal, unConD_cons, un1_one, unNil_nil, e7]
      rw [ih (i + 1) m one is hd' (by omega) (by omega)]
      simp [hp, aloneG]
    | true =>
      cases is with
      | true => simp [hp]
      | false =>
        simp only [Bool.not_true, Bool.false_eq_true, if_false, Option.bind_some, outc_normal, unConD_cons, un1_one, unNil_nil, e7]
        rw [ih (i + 1) m x true hd' (by omega) (by omega)]
        simp only [hp, aloneG, if_true, Bool.true_and, Bool.false_and, Bool.false_eq_true, if_false, false_or, List.filter_cons, List.length_cons]
        congr 2
        simp only [eq_iff_iff]
        constructor
        · rintro (h | h)
          · obtain ⟨y, h1, h2⟩ := List.any_eq_true.1 h
            have : y ∈ t.filter p := List.mem_filter.2 ⟨h1, h2⟩
            have := List.length_pos_of_mem this
            omega
          · omega
        · intro h
          obtain ⟨y, hy⟩ := List.exists_mem_of_length_pos (show 0 < (t.filter p).length by omega)
          have hy := List.mem_filter.1 hy
          exact .inl (List.any_eq_true.2 ⟨y, hy.1, hy.2⟩)
def aloneB (p : Nat → Bool) (l : List Nat) : Nat × Bool := match l.filter p with | [x] => (x, true) | _ => (0, false)
theorem aloneG_none (p : Nat → Bool) : ∀ (l : List Nat) (one : Nat) (is : Bool), l.filter p = [] → aloneG p one is l = (one, is)
  | [], _, _, _ => rfl
  | x :: l, one, is, h => by
    simp only [List.filter_cons] at h
    split at h
    · simp at h
    · rename_i hp
      unfold aloneG
      rw [if_neg hp, aloneG_none p l one is h]
theorem aloneG_one (p : Nat → Bool) : ∀ (l : List Nat) (one y : Nat), l.filter p = [y] → aloneG p one false l = (y, true)
  | [], _, _, h => by simp at h
  | x :: l, one, y, h => by
    simp only [List.filter_cons] at h
    unfold aloneG
    split at h
    · rename_i hp
      simp only [List.cons.injEq] at h
      rw [if_pos hp, if_neg (by simp), aloneG_none p l x true h.2, h.1]
    · rename_i hp
      rw [if_neg hp, aloneG_one p l one y h]
theorem alone_c (N d : Nat) (hN : 1000 ≤ N) {h : H} {v vf : Value} {l : List Nat} {p : Nat → Bool} (r : RI h v l) (hl : l.length < 900)
    (hf : ∀ x ∈ l, callV (CF N d) vf [.one (I (x : Nat))] h = some (.one (.bool (p x)), h)) :
    CF N (d + 1) (.func 139) [.one v, .one vf] h = some (.tup [.one (I (aloneB p l).1), .one (.bool (aloneB p l).2)], h) := by
  rw [CF_succ, F139_eq]; unfold F139
  rw [r.len]
  have := alone_loop N d r (by omega) (p := p) hf l 0 N 0 false rfl (by omega) (by omega)
  simp only [Option.bind_some]
  rw [show LP139_0 (CF N d) N N [SV.one vf, SV.one (I 0), SV.one (Value.bool false), SV.one v, SV.one (I ↑l.length), SV.one (I 0)] h = _ from this]
  unfold aloneB
  cases hfl : l.filter p with
  | nil =>
    rw [aloneG_none p l 0 false hfl]
    simp
  | cons y t =>
    cases t with
    | nil => rw [aloneG_one p l 0 y hfl]; simp
    | cons z t => simp
end Go.Wz
/- Contracts: IndexFunc and DeleteFunc over numbers. -/
set_option linter.unusedVariables false
set_option linter.unusedSimpArgs false
namespace Go.Wz
open Go

theorem H.ext' {a b : H} (h1 : a.get = b.get) (h2 : a.next = b.next) : a = b := by cases a; cases b; cases h1; cases h2; rfl
theorem H.put_self {h : H} {b : Nat} {x : Option Blk} (hg : h.get b = x) : h.put b x = h := by
  refine H.ext' (funext fun i => ?_) rfl
  rw [H.put_gt]; split
  · subst hg; subst_vars; rfl
  · rfl
theorem cutS_lo (s b o n l : Nat) (hl : l ≤ n) : cutS s (some (I (l : Nat))) none (slc b o n 1) = some (slc b (o + l * s) (n - l) 1) := by
  unfold cutS slc I
  have : (0 : Int) ≤ l := by omega
  simp [this, hl]
theorem cutS_hi (s b o n u : Nat) (hu : u ≤ n) : cutS s none (some (I (u : Nat))) (slc b o n 1) = some (slc b o u 1) := by
  unfold cutS slc I
  have : (0 : Int) ≤ u := by omega
  simp [this, hu]

/-- the numbers of an own slice -/
structure OI (h : H) (b : Nat) (v : Value) (l : List Nat) : Prop where
  lt : b < h.next
  eq : v = slc b 0 l.length 1
  row : ∃ vs, h.get b = some (.cells vs 3 true) ∧ l.length ≤ vs.length ∧ vs.take l.length = l.map fun (x : Nat) => I x
theorem flatten_one (l : List Nat) : (l.map fun (x : Nat) => [I x]).flatten = l.map fun (x : Nat) => I x := by
  induction l with
  | nil => rfl
  | cons a l ih => simp [ih]
theorem OI.ri {h : H} {b : Nat} {v : Value} {l : List Nat} (o : OI h b v l) : RI h v l := by
  obtain ⟨vs, h1, h2, h3⟩ := o.row
  refine ⟨by simp, .inr (.inr ⟨b, 0, 1, vs, 3, true, by simpa using o.eq, ⟨o.lt, h1⟩, by simpa using h2, ?_⟩)⟩
  rw [flatten_one]; simpa using h3

theorem index_loop (N d : Nat) {h : H} {v vf : Value} {l : List Nat} {p : Nat → Bool} (r : RI h v l) (hl : l.length < 2 ^ 40)
    (hf : ∀ x ∈ l, callV (CF N d) vf [.one (I (x : Nat))] h = some (.one (.bool (p x)), h)) :
    ∀ (t : List Nat) (i m : Nat), l.drop i = t → i ≤ l.length → t.length < m →
      LP105_0 (CF N d) N m [.one v, .one vf, .one (I l.length), .one (I i)] h =
        some (match t.findIdx? p with | some j => (.ret (.one (I (i + j : Nat))), [], h) | none => (.exit 0, [], h)) := by
  intro t
  induction t with
  | nil =>
    intro i m hi hle hm
    obtain ⟨m, rfl⟩ : ∃ q, m = q + 1 := ⟨m - 1, by omega⟩
    rw [LP105_0_succ]; unfold B105_0
    obtain rfl := drop_nil hi hle
    simp
  | cons x t ih =>
    intro i m hd hle hm
    obtain ⟨m, rfl⟩ : ∃ q, m = q + 1 := ⟨m - 1, by omega⟩
    simp only [List.length_cons] at hm
    obtain ⟨hlt, hx, hd', hlen⟩ := drop_cons hd
    rw [LP105_0_succ]; unfold B105_0
    obtain ⟨b, o, _, e1, e2⟩ := r.atd hd
    have h1 : (i : Int) < l.length := by omega
    have e7 : ibin .add (I i) (I 1) = some (I (i + 1 : Nat)) := by rw [add_in (by omega) (by omega)]; rfl
    have e3 := hf x (hx ▸ List.getElem_mem hlt)
    simp only [ibin_lssI, Option.bind_some, condV_bool, h1, decide_true, if_true, e1, pld_ptr, e2, e3, un1_one, e7]
    cases hp : p x with
    | true => simp [List.findIdx?_cons, hp]
    | false =>
      simp only [Bool.false_eq_true, if_false]
      rw [ih (i + 1) m hd' (by omega) (by omega)]
      rw [List.findIdx?_cons, hp]
      cases t.findIdx? p with
      | none => simp
      | some j => simp only [Bool.false_eq_true, if_false, Option.map_some]; rw [show i + 1 + j = i + (j + 1) by omega]
theorem index_c (N d : Nat) (hN : 1000 ≤ N) {h : H} {v vf : Value} {l : List Nat} {p : Nat → Bool} (r : RI h v l) (hl : l.length < 900)
    (hf : ∀ x ∈ l, callV (CF N d) vf [.one (I (x : Nat))] h = some (.one (.bool (p x)), h)) :
    CF N (d + 1) (.func 105) [.one v, .one vf] h = some (.one (I (match l.findIdx? p with | some j => (j : Int) | none => -1)), h) := by
  rw [CF_succ, F105_eq]; unfold F105
  rw [r.len]
  have := index_loop N d r (by omega) (p := p) hf l 0 N rfl (by omega) (by omega)
  simp only [Option.bind_some]
  rw [show LP105_0 (CF N d) N N [SV.one v, SV.one vf, SV.one (I ↑l.length), SV.one (I 0)] h = _ from this]
  cases l.findIdx? p <;> simp

theorem del_loop (N d : Nat) {h : H} {b : Nat} {vf : Value} {l : List Nat} {vs0 : List Value} {p : Nat → Bool} (hlt0 : b < h.next) (hl : l.length < 2 ^ 40)
    (hf : ∀ vs, vs.length = vs0.length → ∀ x ∈ l, callV (CF N d) vf [.one (I (x : Nat))] (h.put b (some (.cells vs 3 true))) = some (.one (.bool (p x)), h.put b (some (.cells vs 3 true)))) :
    ∀ (t : List Nat) (i j m : Nat) (vs : List Value) (acc : List Nat), l.drop j = t → j ≤ l.length → t.length < m → vs.length = vs0.length → l.length ≤ vs.length → acc.length = i → i ≤ j →
      vs.take i = (acc.map fun (x : Nat) => I x) → (vs.drop j).take t.length = (t.map fun (x : Nat) => I x) →
      ∃ vs', LP143_0 (CF N d) N m [.one (slc b 0 l.length 1), .one vf, .one (I i), .one (I j)] (h.put b (some (.cells vs 3 true))) =
        some (.exit 0, [.one (slc b 0 l.length 1), .one (I ((acc ++ t.filter fun x => !p x).length : Nat))], h.put b (some (.cells vs' 3 true))) ∧ vs'.length = vs0.length ∧
        vs'.take (acc ++ t.filter fun x => !p x).length = ((acc ++ t.filter fun x => !p x).map fun (x : Nat) => I x) := by
  intro t
  induction t with
  | nil =>
    intro i j m vs acc hd hle hm hv1 hv2 hacc hij ht1 ht2
    obtain ⟨m, rfl⟩ : ∃ q, m = q + 1 := ⟨m - 1, by omega⟩
    rw [LP143_0_succ]; unfold B143_0
    obtain rfl := drop_nil hd hle
    refine ⟨vs, ?_, hv1, by simpa [hacc] using ht1⟩
    simp [hacc]
  | cons x t ih =>
    intro i j m vs acc hd hle hm hv1 hv2 hacc hij ht1 ht2
    obtain ⟨m, rfl⟩ : ∃ q, m = q + 1 := ⟨m - 1, by omega⟩
    simp only [List.length_cons] at hm
    obtain ⟨hlt, hx, hd', hlen⟩ := drop_cons hd
    rw [LP143_0_succ]; unfold B143_0
    have h1 : (j : Int) < l.length := by omega
    have e7 : ibin .add (I j) (I 1) = some (I (j + 1 : Nat)) := by rw [add_in (by omega) (by omega)]; rfl
    have e8 : ibin .add (I i) (I 1) = some (I (i + 1 : Nat)) := by rw [add_in (by omega) (by omega)]; rfl
    have e3 := hf vs hv1 x (hx ▸ List.getElem_mem hlt)
    have i1 : idxS 1 (slc b 0 l.length 1) (I j) = some (ptr b j) := by rw [idxS_slcI, if_pos (by omega)]; simp
    have i2 : idxS 1 (slc b 0 l.length 1) (I i) = some (ptr b i) := by rw [idxS_slcI, if_pos (by omega)]; simp
    have hj : vs[j]? = some (I x) := by
      have := congrArg (·[0]?) ht2
      simpa [List.getElem?_take, List.getElem?_drop] using this
    have l1 : pld (h.put b (some (.cells vs 3 true))) (ptr b j) = some (I x) := by
      rw [pld_ptr, H.ld_of _ (H.put_get_same _ _ _), hj]
    have l2 : pst (h.put b (some (.cells vs 3 true))) (I x) (ptr b i) = some (h.put b (some (.cells (vs.set i (I x)) 3 true))) := by
      rw [pst_ptr, H.st_of _ (H.put_get_same _ _ _), if_pos (by omega), H.put_put]
    have hdrop : (vs.drop (j + 1)).take t.length = (t.map fun (x : Nat) => I x) := by
      have := congrArg (List.drop 1) ht2
      rw [List.drop_take, List.drop_drop] at this
      simpa using this
    simp only [lenS_slc, ibin_lssI, Option.bind_some, condV_bool, h1, decide_true, if_true, i1, l1, e3, un1_one, un_not]
    cases hp : p x with
    | true =>
      simp only [Bool.not_true, Bool.false_eq_true, if_false, Option.bind_some, outc_normal, unConD_cons, un1_one, unNil_nil, e7]
      obtain ⟨vs', q1, q2, q3⟩ := ih i (j + 1) m vs acc hd' (by omega) (by omega) hv1 hv2 hacc (by omega) ht1 hdrop
      refine ⟨vs', ?_, q2, ?_⟩
      · rw [q1]; simp [hp]
      · simpa [hp] using q3
    | false =>
      simp only [Bool.not_false, if_true, i2, l2, e8, Option.bind_some, outc_normal, unConD_cons, un1_one, unNil_nil, e7]
      obtain ⟨vs', q1, q2, q3⟩ := ih (i + 1) (j + 1) m (vs.set i (I x)) (acc ++ [x]) hd' (by omega) (by omega) (by simpa using hv1) (by simpa using hv2) (by simp [hacc]) (by omega)
        (by rw [List.take_add_one, List.take_set_of_le (by omega), ht1, List.getElem?_set_self (by omega)]; simp)
        (by rw [List.drop_set_of_lt (by omega)]; exact hdrop)
      refine ⟨vs', ?_, q2, ?_⟩
      · rw [q1]; simp [hp]
      · simpa [hp] using q3
theorem clearS_at {h : H} {b : Nat} {vs : List Value} {o n : Nat} (hg : h.get b = some (.cells vs 3 true)) (hn : n ≠ 0) (ho : o + n ≤ vs.length) :
    h.clearS [I 0] (slc b o n 1) = some (h.put b (some (.cells (splice vs o (List.replicate n (I 0))) 3 true))) := by
  obtain ⟨n, rfl⟩ : ∃ q, n = q + 1 := ⟨n - 1, by omega⟩
  show h.stn b o (List.replicate (n + 1) [I 0]).flatten = _
  have : (List.replicate (n + 1) [I 0]).flatten = List.replicate (n + 1) (I 0) := by
    generalize n + 1 = k
    induction k with
    | zero => rfl
    | succ k ih => rw [List.replicate_succ, List.flatten_cons, ih]; rfl
  rw [this, H.stn_of _ hg, if_pos (by simpa using ho)]
theorem filter_find {p : Nat → Bool} : ∀ {l : List Nat} {j : Nat}, l.findIdx? p = some j → ∃ hj : j < l.length, l.filter (fun x => !p x) = l.take j ++ (l.drop (j + 1)).filter fun x => !p x
  | [], j, h => by simp at h
  | x :: l, j, h => by
    rw [List.findIdx?_cons] at h
    cases hp : p x with
    | true =>
      rw [hp] at h
      simp at h; subst h
      exact ⟨by simp, by simp [hp]⟩
    | false =>
      rw [hp] at h
      simp only [Bool.false_eq_true, if_false, Option.map_eq_some_iff] at h
      obtain ⟨k, hk, rfl⟩ := h
      obtain ⟨h1, h2⟩ := filter_find hk
      exact ⟨by simp; omega, by simp [hp, h2]⟩
theorem filter_find_none {p : Nat → Bool} {l : List Nat} (h : l.findIdx? p = none) : l.filter (fun x => !p x) = l := by
  rw [List.findIdx?_eq_none_iff] at h
  exact List.filter_eq_self.2 fun a ha => by simp [h a ha]
theorem delete_c (N d : Nat) (hN : 1000 ≤ N) {h : H} {b : Nat} {v vf : Value} {l : List Nat} {p : Nat → Bool} (o : OI h b v l) (hl : l.length < 900)
    (hf : ∀ vs, ∀ x ∈ l, callV (CF N (d + 1)) vf [.one (I (x : Nat))] (h.put b (some (.cells vs 3 true))) = some (.one (.bool (p x)), h.put b (some (.cells vs 3 true)))) 
    (hf0 : ∀ x ∈ l, callV (CF N d) vf [.one (I (x : Nat))] h = some (.one (.bool (p x)), h)) :
    ∃ v' vs', CF N (d + 2) (.func 143) [.one v, .one vf] h = some (.one v', h.put b (some (.cells vs' 3 true))) ∧ OI (h.put b (some (.cells vs' 3 true))) b v' (l.filter fun x => !p x) := by
  obtain ⟨vs, g1, g2, g3⟩ := o.row
  have hv := o.eq
  rw [CF_succ, F143_eq]; unfold F143
  rw [index_c N d hN o.ri hl hf0]
  simp only [Option.bind_some, un1_one, ibin_eqlI, condV_bool]
  cases hfi : l.findIdx? p with
  | none =>
    refine ⟨v, vs, ?_, ?_⟩
    · rw [H.put_self g1]; simp
    · rw [H.put_self g1, filter_find_none hfi]; exact o
  | some j =>
    obtain ⟨hj, hfl⟩ := filter_find hfi
    have e0 : (((j : Int)) == (-1 : Int)) = false := by
      have : (j : Int) ≠ -1 := by omega
      simp
    simp only [e0, Bool.false_eq_true, if_false]
    have e7 : ibin .add (I j) (I 1) = some (I (j + 1 : Nat)) := by rw [add_in (by omega) (by omega)]; rfl
    have hdt : (vs.drop (j + 1)).take (l.drop (j + 1)).length = ((l.drop (j + 1)).map fun (x : Nat) => I x) := by
      rw [List.map_drop, ← g3, List.drop_take]; simp
    obtain ⟨vs', q1, q2, q3⟩ := del_loop N (d + 1) (vs0 := vs) o.lt (by omega) (p := p) (fun vs _ => hf vs) (l.drop (j + 1)) j (j + 1) N vs (l.take j) rfl (by omega) (by simp; omega) rfl (by omega) (by simp; omega) (by omega)
      (by rw [List.map_take, ← g3, List.take_take]; congr 1; omega) hdt
    rw [H.put_self g1, ← hv, ← hfl] at q1
    rw [← hfl] at q3
    have hflt : (l.filter fun x => !p x).length ≤ l.length - 1 := by
      rw [hfl]; simp only [List.length_append, List.length_take]
      have := List.length_filter_le (fun x => !p x) (l.drop (j + 1))
      simp only [List.length_drop] at this
      omega
    rw [e7]
    simp only [Option.bind_some, q1, outc_exit, ifN_same, unConD_cons, un1_one, unNil_nil]
    rw [hv, cutS_lo _ _ _ _ _ (by omega), cutS_hi _ _ _ _ _ (by omega)]
    simp only [Option.bind_some]
    rw [clearS_at (H.put_get_same _ _ _) (by omega) (by omega), H.put_put]
    refine ⟨_, _, rfl, by simpa using o.lt, rfl, ⟨_, H.put_get_same _ _ _, ?_, ?_⟩⟩
    · rw [splice_length _ _ _ (by simp; omega)]; omega
    · unfold splice
      rw [List.append_assoc, List.take_append_of_le_length (by simp; omega), List.take_take, Nat.zero_add, Nat.mul_one, Nat.min_self]
      exact q3
end Go.Wz
