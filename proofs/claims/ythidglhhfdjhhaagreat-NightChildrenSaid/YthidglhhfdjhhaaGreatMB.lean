import Derived.Test.YthidglhhfdjhhaaGreatMA
/- Contracts: a number is taken out of a waiting list. -/
set_option linter.unusedVariables false
set_option linter.unusedSimpArgs false
namespace Go.Wz
open Go

/-- numbers in a slice that is nil or own -/
def OL (h : H) (v : Value) (l : List Nat) : Prop := (v = .slice none 0 0 ∧ l = []) ∨ ∃ b, OI h b v l
theorem OL.ri {h : H} {v : Value} {l : List Nat} (o : OL h v l) : RI h v l := by
  rcases o with ⟨rfl, rfl⟩ | ⟨b, o⟩
  · exact ⟨by simp, .inl ⟨rfl, rfl⟩⟩
  · exact o.ri
theorem OI.keep {h h' : H} {b : Nat} {v : Value} {l : List Nat} (o : OI h b v l) (hn : h.next ≤ h'.next) (hg : h'.get b = h.get b) : OI h' b v l :=
  ⟨Nat.lt_of_lt_of_le o.lt hn, o.eq, by rw [hg]; exact o.row⟩
theorem OL.keep {h h' : H} {v : Value} {l : List Nat} (o : OL h v l) (hn : h.next ≤ h'.next) (hg : ∀ b, bOf v = some b → b < h.next → h'.get b = h.get b) : OL h' v l := by
  rcases o with o | ⟨b, o⟩
  · exact .inl o
  · exact .inr ⟨b, o.keep hn (hg b (by rw [o.eq]; rfl) o.lt)⟩
theorem OL.lt {h : H} {v : Value} {l : List Nat} (o : OL h v l) {b : Nat} (hb : bOf v = some b) : b < h.next := by
  rcases o with ⟨rfl, _⟩ | ⟨b', o⟩
  · simp [bOf] at hb
  · rw [o.eq] at hb; cases hb; exact o.lt
theorem H.new_put (h : H) (x y : Blk) : (h.new x).put h.next (some y) = h.new y := by
  refine H.ext' (funext fun i => ?_) rfl
  rw [H.put_gt, H.new_get, H.new_get]; split <;> rfl
theorem thaw_put2 {h : H} {bp b : Nat} (x y : Option Blk) (hb : b ≠ bp) : ((h.put bp x).put b y).put bp (h.get bp) = h.put b y := by
  refine H.ext' (funext fun i => ?_) rfl
  simp only [H.put_gt]
  by_cases h1 : i = bp
  · subst h1; rw [if_pos rfl, if_neg (by omega)]
  · rw [if_neg h1, if_neg h1]
theorem thaw_id {h : H} {bp : Nat} (x : Option Blk) : (h.put bp x).put bp (h.get bp) = h := by
  refine H.ext' (funext fun i => ?_) rfl
  simp only [H.put_gt]
  by_cases h1 : i = bp
  · subst h1; rw [if_pos rfl]
  · rw [if_neg h1, if_neg h1]
theorem eqNat (x n : Nat) : ((x : Int) == (n : Int)) = (x == n) := by rw [Bool.eq_iff_iff, beq_iff_eq, beq_iff_eq, Int.ofNat_inj]
theorem isN_c (N d : Nat) {h : H} {bn n x : Nat} {e : TypeId} {w : Bool} (hg : h.get bn = some (.cells [I n] e w)) :
    callV (CF N (d + 1)) (.func (.func 144) (Array.mk []) (Array.mk [ptr bn 0])) [.one (I (x : Nat))] h = some (.one (.bool (x == n)), h) := by
  rw [callV_func]
  show CF N (d + 1) (.func 144) [.one (I x), .one (ptr bn 0)] h = _
  rw [CF_succ, F144_eq]; unfold F144
  simp only [pld_ptr, H.ld_of _ hg, List.getElem?_cons_zero, Option.bind_some, ibin_eqlI, eqNat]
theorem deleteN_c (N d : Nat) (hN : 1000 ≤ N) {h : H} {v : Value} {l : List Nat} {bn n : Nat} {e : TypeId} {w : Bool} (o : OL h v l) (hl : l.length < 900) (hg : h.get bn = some (.cells [I n] e w)) (hne : bOf v ≠ some bn) :
    ∃ v' h', CF N (d + 3) (.func 143) [.one v, .one (.func (.func 144) (Array.mk []) (Array.mk [ptr bn 0]))] h = some (.one v', h') ∧ OL h' v' (l.filter fun x => !(x == n)) ∧
      bOf v' = bOf v ∧ ((h' = h) ∨ ∃ b vs, bOf v = some b ∧ h' = h.put b (some (.cells vs 3 true))) := by
  rcases o with ⟨rfl, rfl⟩ | ⟨b, o⟩
  · refine ⟨.slice none 0 0, h, ?_, .inl ⟨rfl, rfl⟩, rfl, .inl rfl⟩
    rw [CF_succ, F143_eq]; unfold F143
    rw [index_c N (d + 1) hN (l := []) (p := fun x => x == n) ⟨by simp, .inl ⟨rfl, rfl⟩⟩ (by simp) (by simp)]
    simp
  · have hb : bOf v = some b := by rw [o.eq]; rfl
    have hbn : bn ≠ b := fun hh => hne (by rw [hb, hh])
    obtain ⟨v', vs', h1, h2⟩ := delete_c N (d + 1) hN (p := fun x => x == n) o hl (fun vs x hx => isN_c N (d + 1) (by rw [H.put_get_ne _ _ hbn]; exact hg)) (fun x hx => isN_c N d hg)
    exact ⟨v', _, h1, .inr ⟨b, h2⟩, by rw [hb, h2.eq]; rfl, .inr ⟨b, vs', hb, rfl⟩⟩

/-- one round: n is taken out of the list that waits at k -/
theorem del_round (N d : Nat) (hN : 1000 ≤ N) {h : H} {bo bp k n m : Nat} {x1 x2 x3 ve : Value} {cs : List Value} {vk : Value} {l ns : List Nat} (hk : k < 3) (hp : h.get bp = some (.cells [ptr bo 0] 144 true)) (ho : h.get bo = some (.cells cs 147 true))
    (hcs : cs.length = 5) (hvk : cs[k + 1]? = some vk) (o : OL h vk l) (hl : l.length < 900) (hpo : bp ≠ bo) (hpl : bp < h.next) (hol : bo < h.next) (hkp : bOf vk ≠ some bp) (hko : bOf vk ≠ some bo)
    (hns : RI h ve ns) (hn3 : ns.length = 3) (hnk : ns[k]? = some n) :
    ∃ v' h', LP80_1 (CF N (d + 3)) N (m + 1) [.one x1, .one (ptr bp 0), .one x2, .one x3, .one ve, .one (I 3), .one (I k)] h = 
        LP80_1 (CF N (d + 3)) N m [.one x1, .one (ptr bp 0), .one x2, .one x3, .one ve, .one (I 3), .one (I (k + 1 : Nat))] h' ∧
      h.next ≤ h'.next ∧ h'.get bo = some (.cells (cs.set (k + 1) v') 147 true) ∧ OL h' v' (l.filter fun x => !(x == n)) ∧ bOf v' = bOf vk ∧
      ∀ b, b < h.next → b ≠ bo → bOf vk ≠ some b → h'.get b = h.get b := by
  rw [LP80_1_succ]; unfold B80_1
  have h1 : (k : Int) < 3 := by omega
  obtain ⟨hk', hn'⟩ := List.getElem?_eq_some_iff.1 hnk
  obtain ⟨be, oe, _, i1, i2⟩ := hns.at hk'
  rw [hn'] at i2
  have e7 : ibin .add (I k) (I 1) = some (I (k + 1 : Nat)) := by rw [add_in (by omega) (by omega)]; rfl
  -- the heap in which the call is made
  have ge : (h.new (.cells [I n] 3 true)).get bp = some (.cells [ptr bo 0] 144 true) := by rw [H.new_get_lt _ _ hpl]; exact hp
  have geo : (h.new (.cells [I n] 3 true)).get bo = some (.cells cs 147 true) := by rw [H.new_get_lt _ _ hol]; exact ho
  have st1 : pst (h.new (.cells [I 0] 3 true)) (I n) (ptr h.next 0) = some (h.new (.cells [I n] 3 true)) := by
    rw [pst_ptr, H.st_of _ (H.new_get_same _ _)]; simp [H.new_put]
  have ix : idxP 1 3 (ptr bo 1) (I k) = some (ptr bo (k + 1)) := by rw [idxP_ptrI, if_pos (by omega), show 1 + (k : Int).toNat * 1 = k + 1 by omega]
  have hol' : OL ((h.new (.cells [I n] 3 true)).put bp (some (.cells [ptr bo 0] 144 false))) vk l :=
    o.keep (by simp) fun b hb hlt => by
      rw [H.put_get_ne _ _ (fun hh => hkp (by rw [hb, hh])), H.new_get_lt _ _ hlt]
  have hgn : ((h.new (.cells [I n] 3 true)).put bp (some (.cells [ptr bo 0] 144 false))).get h.next = some (.cells [I n] 3 true) := by
    rw [H.put_get_ne _ _ (by omega)]; simp
  obtain ⟨v', h', c1, c2, c3, c4⟩ := deleteN_c N d hN hol' hl hgn (fun hh => by have := o.lt hh; omega)
  have hfrz : frzL [bp] (h.new (.cells [I n] 3 true)) = (h.new (.cells [I n] 3 true)).put bp (some (.cells [ptr bo 0] 144 false)) := by
    rw [frzL_one, ge]; rfl
  -- behind the call
  have hth : ∃ h2, thawL [bp] (h.new (.cells [I n] 3 true)) h' = h2 ∧ h2.get bo = some (.cells cs 147 true) ∧ h2.next = h.next + 1 ∧ OL h2 v' (l.filter fun x => !(x == n)) ∧
      ∀ b, b < h.next → b ≠ bo → bOf vk ≠ some b → h2.get b = h.get b := by
    rw [thawL_one]
    rcases c4 with rfl | ⟨b, vs, hb, rfl⟩
    · rw [thaw_id]
      exact ⟨_, rfl, geo, rfl, c2.keep (by simp) fun b hb hlt => by rw [c3] at hb; rw [H.put_get_ne _ _ (fun hh => hkp (by rw [hb, hh]))], fun b hb _ _ => H.new_get_lt _ _ hb⟩
    · have hbp : b ≠ bp := fun hh => hkp (by rw [hb, hh])
      have hbo : bo ≠ b := fun hh => hko (by rw [hb, hh])
      rw [thaw_put2 _ _ hbp]
      refine ⟨_, rfl, by rw [H.put_get_ne _ _ hbo]; exact geo, rfl, c2.keep (by simp) fun b' hb' hlt => ?_, fun b' hb' _ hn' => ?_⟩
      · rw [c3, hb] at hb'
        cases hb'
        rw [H.put_get_same, H.put_get_same]
      · rw [H.put_get_ne _ _ (fun hh => hn' (by rw [hh, hb])), H.new_get_lt _ _ hb']
  obtain ⟨h2, t1, t2, t3, t4, t5⟩ := hth
  have st2 : pst h2 v' (ptr bo (k + 1)) = some (h2.put bo (some (.cells (cs.set (k + 1) v') 147 true))) := by
    rw [pst_ptr, H.st_of _ t2, if_pos (by omega)]
  refine ⟨v', h2.put bo (some (.cells (cs.set (k + 1) v') 147 true)), ?_, by simp [t3], by simp, t4.keep (by simp) fun b hb _ => ?_, c3, fun b hb hbo hbv => ?_⟩
  · simp only [ibin_lssI, Option.bind_some, condV_bool, h1, decide_true, if_true, i1, pld_ptr, i2, st1, sameB_ptr, hideL_nil, H.ld_of _ ge, List.getElem?_cons_zero, nilC_ptr, padd_ptr, Nat.zero_add, ix, H.ld_of _ geo, hvk, bOf_ptr, hfrz, c1, un1_one, t1, frzL_nil, thawL_nil, st2, e7]
  · rw [H.put_get_ne _ _ (fun hh => hko (by rw [← c3, hb, hh]))]
  · rw [H.put_get_ne _ _ hbo]; exact t5 b hb hbo hbv
end Go.Wz
/- Own slices of rows, appending; what changes and what stays. -/
set_option linter.unusedVariables false
set_option linter.unusedSimpArgs false
namespace Go.Wz
open Go

/-- blocks that are no part of f stay as they are; f' is new or part of f -/
structure Step (f f' : Nat → Prop) (h h' : H) : Prop where
  nx : h.next ≤ h'.next
  get : ∀ b, b < h.next → ¬ f b → h'.get b = h.get b
  foot : ∀ b, b < h.next → f' b → f b
theorem Step.trans {f f' f'' : Nat → Prop} {h h' h'' : H} (p : Step f f' h h') (q : Step f' f'' h' h'') : Step f f'' h h'' where
  nx := Nat.le_trans p.nx q.nx
  get := fun b hb hf => (q.get b (Nat.lt_of_lt_of_le hb p.nx) fun hh => hf (p.foot b hb hh)).trans (p.get b hb hf)
  foot := fun b hb hf => p.foot b hb (q.foot b (Nat.lt_of_lt_of_le hb p.nx) hf)
theorem Step.of_fr {f : Nat → Prop} {h h' : H} (p : Fr h h') : Step f f h h' := ⟨p.nx, fun b hb _ => p.get b hb, fun _ _ hf => hf⟩

/-- rows of s cells each, in a slice that is nil or own -/
structure OG1 (h : H) (b : Nat) (v : Value) (e : TypeId) (s : Nat) (l : List (List Value)) : Prop where
  lt : b < h.next
  eq : v = slc b 0 l.length 1
  row : ∃ vs, h.get b = some (.cells vs e true) ∧ l.length * s ≤ vs.length ∧ vs.take (l.length * s) = l.flatten
def OG (h : H) (v : Value) (e : TypeId) (s : Nat) (l : List (List Value)) : Prop := (∀ x ∈ l, x.length = s) ∧ ((v = .slice none 0 0 ∧ l = []) ∨ ∃ b, OG1 h b v e s l)
theorem OG.rs {h : H} {v : Value} {e : TypeId} {s : Nat} {l : List (List Value)} (o : OG h v e s l) : RS h s v l := by
  refine ⟨o.1, ?_⟩
  rcases o.2 with o | ⟨b, o⟩
  · exact .inl o
  · obtain ⟨vs, h1, h2, h3⟩ := o.row
    exact .inr (.inr ⟨b, 0, 1, vs, e, true, o.eq, ⟨o.lt, h1⟩, by simpa using h2, by simpa using h3⟩)
theorem OG.keep {h h' : H} {v : Value} {e : TypeId} {s : Nat} {l : List (List Value)} (o : OG h v e s l) (hn : h.next ≤ h'.next) (hg : ∀ b, bOf v = some b → b < h.next → h'.get b = h.get b) : OG h' v e s l := by
  refine ⟨o.1, ?_⟩
  rcases o.2 with o | ⟨b, o⟩
  · exact .inl o
  · exact .inr ⟨b, Nat.lt_of_lt_of_le o.lt hn, o.eq, by rw [hg b (by rw [o.eq]; rfl) o.lt]; exact o.row⟩
theorem OG.lt {h : H} {v : Value} {e : TypeId} {s : Nat} {l : List (List Value)} (o : OG h v e s l) {b : Nat} (hb : bOf v = some b) : b < h.next := by
  rcases o.2 with ⟨rfl, _⟩ | ⟨b', o⟩
  · simp [bOf] at hb
  · rw [o.eq] at hb; cases hb; exact o.lt
theorem OL.og {h : H} {v : Value} {l : List Nat} (o : OL h v l) : OG h v 3 1 (l.map fun (x : Nat) => [I x]) := by
  refine ⟨by simp, ?_⟩
  rcases o with ⟨rfl, rfl⟩ | ⟨b, o⟩
  · exact .inl ⟨rfl, rfl⟩
  · obtain ⟨vs, h1, h2, h3⟩ := o.row
    refine .inr ⟨b, o.lt, by simpa using o.eq, vs, h1, by simpa using h2, ?_⟩
    rw [flatten_one]; simpa using h3
theorem OG.ol {h : H} {v : Value} {l : List Nat} (o : OG h v 3 1 (l.map fun (x : Nat) => [I x])) : OL h v l := by
  rcases o.2 with ⟨rfl, h⟩ | ⟨b, o⟩
  · exact .inl ⟨rfl, by simpa using h⟩
  · obtain ⟨vs, h1, h2, h3⟩ := o.row
    rw [flatten_one] at h3
    exact .inr ⟨b, o.lt, by simpa using o.eq, vs, h1, by simpa using h2, by simpa using h3⟩
/-- append(s, xs..) -/
theorem append_c {h : H} {v : Value} {e : TypeId} {s : Nat} {l xs : List (List Value)} {sx : Value} (o : OG h v e s l) (rx : RS h s sx xs) (hx : xs ≠ []) (hlen : l.length + xs.length ≤ 2 ^ 30) :
    ∃ h', h.appS s e sx v = some (slc h.next 0 (l.length + xs.length) 1, h') ∧ h'.next = h.next + 1 ∧ OG h' (slc h.next 0 (l.length + xs.length) 1) e s (l ++ xs) ∧
      ∀ b, b < h.next → bOf v ≠ some b → h'.get b = h.get b := by
  have hm : xs.length ≠ 0 := by simpa using hx
  have hs := rx.els
  have hall : ∀ x ∈ l ++ xs, x.length = s := fun x hx => by
    rcases List.mem_append.1 hx with hx | hx
    · exact o.1 x hx
    · exact rx.1 x hx
  have key : ∀ h0 : H, h0.next = h.next → OG (h0.new (.cells (l ++ xs).flatten e true)) (slc h.next 0 (l.length + xs.length) 1) e s (l ++ xs) := fun h0 hn => by
    refine ⟨hall, .inr ⟨h.next, by simp [hn], by simp, (l ++ xs).flatten, by rw [← hn]; exact H.new_get_same _ _, ?_, ?_⟩⟩
    · rw [flatten_len _ hall]; exact Nat.le_refl _
    · rw [List.take_of_length_le (by rw [flatten_len _ hall]; exact Nat.le_refl _)]
  simp only [H.appS, hs.1, hs.2, Option.bind_some]
  rcases o.2 with ⟨rfl, rfl⟩ | ⟨b, o1⟩
  · refine ⟨h.new (.cells xs.flatten e true), ?_, rfl, key h rfl, fun b hb _ => H.new_get_lt _ _ hb⟩
    show (if xs.length = 0 then _ else if 2 ^ 30 < 0 + xs.length then _ else _) = _
    rw [if_neg hm, if_neg (by omega)]
    simp [slc]
  · obtain ⟨vs, h1, h2, h3⟩ := o1.row
    rw [o1.eq]
    refine ⟨(h.put b none).new (.cells (l ++ xs).flatten e true), ?_, rfl, key (h.put b none) rfl, fun b' hb' hne => ?_⟩
    · show (if xs.length = 0 then _ else if 2 ^ 30 < l.length + xs.length then _ else if l.length = 0 ∧ 1 = 0 then _ else _) = _
      rw [if_neg hm, if_neg (by omega), if_neg (by omega), h1]
      simp only [h2, and_self, if_true, true_and, h3, List.flatten_append]
      rfl
    · rw [H.new_get_lt _ _ (by simpa using hb'), H.put_get_ne _ _ (fun hh => hne (by rw [hh]; rfl))]
end Go.Wz
/- Contracts: a child is handed over. -/
set_option linter.unusedVariables false
set_option linter.unusedSimpArgs false
namespace Go.Wz
open Go

abbrev nilS : Value := .slice none 0 0
/-- an office in memory -/
structure OState (h : H) (bo : Nat) (vl : Value) (reps : List Rep) (v1 v2 vh : Value) (W1 W2 : List Nat) (hd : List (List Value)) : Prop where
  lt : bo < h.next
  cell : h.get bo = some (.cells [vl, nilS, v1, v2, vh] 147 true)
  o1 : OL h v1 W1
  o2 : OL h v2 W2
  oh : OG h vh 77 3 hd
  rows : RS h 3 vl (reps.map Rep.enc)
  n1 : bOf v1 ≠ some bo
  n2 : bOf v2 ≠ some bo
  nh : bOf vh ≠ some bo
  n12 : ∀ b, bOf v1 = some b → bOf v2 ≠ some b
  n1h : ∀ b, bOf v1 = some b → bOf vh ≠ some b
  n2h : ∀ b, bOf v2 = some b → bOf vh ≠ some b
  nl : bOf vl ≠ some bo
  nl1 : ∀ b, bOf vl = some b → bOf v1 ≠ some b
  nl2 : ∀ b, bOf vl = some b → bOf v2 ≠ some b
  nlh : ∀ b, bOf vl = some b → bOf vh ≠ some b
  ok : ∀ r ∈ reps, r.mok
  w1 : ∀ x ∈ W1, x < reps.length
  w2 : ∀ x ∈ W2, x < reps.length
def OFoot (bo : Nat) (v1 v2 vh : Value) (b : Nat) : Prop := b = bo ∨ bOf v1 = some b ∨ bOf v2 = some b ∨ bOf vh = some b
theorem OState.footlt {h : H} {bo : Nat} {vl : Value} {reps : List Rep} {v1 v2 vh : Value} {W1 W2 : List Nat} {hd : List (List Value)} (S : OState h bo vl reps v1 v2 vh W1 W2 hd) {b : Nat} (hb : OFoot bo v1 v2 vh b) : b < h.next := by
  rcases hb with rfl | hb | hb | hb
  · exact S.lt
  · exact S.o1.lt hb
  · exact S.o2.lt hb
  · exact S.oh.lt hb
theorem OState.fr {h h' : H} {bo : Nat} {vl : Value} {reps : List Rep} {v1 v2 vh : Value} {W1 W2 : List Nat} {hd : List (List Value)} (S : OState h bo vl reps v1 v2 vh W1 W2 hd) (f : Fr h h') : OState h' bo vl reps v1 v2 vh W1 W2 hd :=
  { S with
    lt := Nat.lt_of_lt_of_le S.lt f.nx
    cell := (f.get _ S.lt).trans S.cell
    o1 := S.o1.keep f.nx fun b _ hb => f.get b hb
    o2 := S.o2.keep f.nx fun b _ hb => f.get b hb
    oh := S.oh.keep f.nx fun b _ hb => f.get b hb
    rows := S.rows.fr f }
theorem OState.off {h : H} {bo : Nat} {vl : Value} {reps : List Rep} {v1 v2 vh : Value} {W1 W2 : List Nat} {hd : List (List Value)} (S : OState h bo vl reps v1 v2 vh W1 W2 hd) : Off h bo vl reps :=
  ⟨⟨_, _, _, S.cell⟩, S.rows, S.ok⟩

def RR (reps : List Rep) (i : Nat) : Rep := (reps[i]?).getD ⟨0, 0, 0⟩
theorem RR_lt {reps : List Rep} {i : Nat} (h : i < reps.length) : RR reps i = reps[i] := by simp [RR, h]
def fB (reps : List Rep) (c a : Nat) : Bool := fitB (RR reps c) (RR reps a)
/-- whom a child can be handed over to -/
def handC (reps : List Rep) (W1 W2 : List Nat) (c : Nat) : Option Nat :=
  if (aloneB (fB reps c) W2).2 = true then (if (aloneB (fun x => fB reps x (aloneB (fB reps c) W2).1) W1).2 = true then some (aloneB (fB reps c) W2).1 else none) else none
theorem aloneB_mem {p : Nat → Bool} {l : List Nat} (h : (aloneB p l).2 = true) : (aloneB p l).1 ∈ l ∧ p (aloneB p l).1 = true := by
  unfold aloneB at h ⊢
  split at h
  · rename_i x hx
    have : x ∈ l.filter p := by rw [hx]; simp
    exact List.mem_filter.1 this
  · simp at h
def without (n : Nat) (l : List Nat) : List Nat := l.filter fun x => !(x == n)

/-- what is behind the three rounds: the row is appended -/
theorem hand_end (N d : Nat) (hN : 1000 ≤ N) {h : H} {bo bp c a : Nat} {vl : Value} {reps : List Rep} {v1 v2 vh : Value} {W1 W2 : List Nat} {hd : List (List Value)} {at_ : Value} {k1 k2 : Value}
    (S : OState h bo vl reps v1 v2 vh W1 W2 hd) (hp : h.get bp = some (.cells [ptr bo 0] 144 true)) (hpl : bp < h.next) (hpf : ¬ OFoot bo v1 v2 vh bp) (hlen : hd.length < 10000) :
    ∃ v' h1 h2 h3, H.appS (frzL [bp] (hideL [] (H.put (H.skip h 14) (h.next + 9) (some (.cells [k1, k2, at_] 77 true))))) 3 77 (slc (h.next + 9) 0 1 1) vh = some (v', h1) ∧
      pst (frzL [] (hideL [] (thawL [bp] (H.put (H.skip h 14) (h.next + 9) (some (.cells [k1, k2, at_] 77 true))) h1))) v' (ptr bo 4) = some h2 ∧
      thawL [] (thawL [bp] (H.put (H.skip h 14) (h.next + 9) (some (.cells [k1, k2, at_] 77 true))) h1) h2 = h3 ∧
      OState h3 bo vl reps v1 v2 v' W1 W2 (hd ++ [[k1, k2, at_]]) ∧ Step (OFoot bo v1 v2 vh) (OFoot bo v1 v2 v') h h3 := by
  have hpo : bp ≠ bo := fun hh => hpf (.inl hh)
  generalize hq : H.put (H.skip h 14) (h.next + 9) (some (.cells [k1, k2, at_] 77 true)) = q
  have qn : q.next = h.next + 14 := by subst hq; rfl
  have qg : ∀ b, b < h.next → q.get b = h.get b := fun b hb => by subst hq; rw [H.put_get_ne _ _ (by omega)]; rfl
  have qx : q.get (h.next + 9) = some (.cells [k1, k2, at_] 77 true) := by subst hq; exact H.put_get_same _ _ _
  have qp : frzL [bp] (hideL [] q) = q.put bp (some (.cells [ptr bo 0] 144 false)) := by
    rw [hideL_nil, frzL_one, qg _ hpl, hp]; rfl
  have hqf : ∀ b, b < h.next → b ≠ bp → (q.put bp (some (.cells [ptr bo 0] 144 false))).get b = h.get b := fun b hb hne => by
    rw [H.put_get_ne _ _ hne, qg b hb]
  have oh' : OG (q.put bp (some (.cells [ptr bo 0] 144 false))) vh 77 3 hd :=
    S.oh.keep (by simp [qn]) fun b hb hlt => hqf b hlt fun hh => hpf (.inr (.inr (.inr (hh ▸ hb))))
  have rx : RS (q.put bp (some (.cells [ptr bo 0] 144 false))) 3 (slc (h.next + 9) 0 1 1) [[k1, k2, at_]] :=
    RS.mk (l := [[k1, k2, at_]]) (by simp) ⟨by simp [qn], by rw [H.put_get_ne _ _ (by omega)]; exact qx⟩ (by simp) (by simp)
  obtain ⟨h1, e1, n1, o1, f1⟩ := append_c oh' rx (by simp) (by simp; omega)
  rw [show (q.put bp (some (.cells [ptr bo 0] 144 false))).next = h.next + 14 from qn] at e1 n1 o1 f1
  simp only [List.length_cons, List.length_nil, Nat.zero_add] at e1 o1
  have g2 : ∀ b, b < h.next → bOf vh ≠ some b → (h1.put bp (q.get bp)).get b = h.get b := fun b hb hne => by
    rw [H.put_gt]; split
    · rename_i hh; subst hh; exact qg _ hb
    · rename_i hh; rw [f1 b (by omega) hne, hqf b hb hh]
  have gb : (h1.put bp (q.get bp)).get bo = some (.cells [vl, nilS, v1, v2, vh] 147 true) := by rw [g2 bo S.lt S.nh, S.cell]
  refine ⟨slc (h.next + 14) 0 (hd.length + 1) 1, h1, (h1.put bp (q.get bp)).put bo (some (.cells [vl, nilS, v1, v2, slc (h.next + 14) 0 (hd.length + 1) 1] 147 true)), _, by rw [qp]; exact e1, ?_, rfl, ?_, ?_⟩
  · rw [frzL_nil, hideL_nil, thawL_one, pst_ptr, H.st_of _ gb]; simp
  · rw [thawL_nil]
    have keep : ∀ b, b < h.next → b ≠ bo → bOf vh ≠ some b → ((h1.put bp (q.get bp)).put bo (some (.cells [vl, nilS, v1, v2, slc (h.next + 14) 0 (hd.length + 1) 1] 147 true))).get b = h.get b := fun b hb hbo hbh => by
      rw [H.put_get_ne _ _ hbo, g2 b hb hbh]
    have hnx : h.next ≤ ((h1.put bp (q.get bp)).put bo (some (.cells [vl, nilS, v1, v2, slc (h.next + 14) 0 (hd.length + 1) 1] 147 true))).next := by simp [n1]; omega
    exact {
      lt := by have := S.lt; simp [n1]; omega
      cell := H.put_get_same _ _ _
      o1 := S.o1.keep hnx fun b hb hlt => keep b hlt (fun hh => S.n1 (hh ▸ hb)) (S.n1h b hb)
      o2 := S.o2.keep hnx fun b hb hlt => keep b hlt (fun hh => S.n2 (hh ▸ hb)) (S.n2h b hb)
      oh := o1.keep (by simp) fun b hb hlt => by
        rw [bOf_slc] at hb; cases hb
        rw [H.put_get_ne _ _ (by have := S.lt; omega), H.put_get_ne _ _ (by omega)]
      rows := S.rows.keep hnx fun b hb => by
        have hlt : b < h.next := S.rows.lt hb
        exact keep b hlt (fun hh => S.nl (hh ▸ hb)) (S.nlh b hb)
      n1 := S.n1
      n2 := S.n2
      nh := by rw [bOf_slc]; intro hh; cases hh; have := S.lt; omega
      n12 := S.n12
      n1h := fun b hb => by rw [bOf_slc]; intro hh; cases hh; have := S.o1.lt hb; omega
      n2h := fun b hb => by rw [bOf_slc]; intro hh; cases hh; have := S.o2.lt hb; omega
      nl := S.nl
      nl1 := S.nl1
      nl2 := S.nl2
      nlh := fun b hb => by
        rw [bOf_slc]; intro hh; cases hh
        have hlt : h.next + 14 < h.next := S.rows.lt hb
        omega
      ok := S.ok
      w1 := S.w1
      w2 := S.w2 }
  · rw [thawL_nil]
    exact {
      nx := by simp [n1]; omega
      get := fun b hb hf => by
        rw [H.put_get_ne _ _ (fun hh => hf (.inl hh)), g2 b hb (fun hh => hf (.inr (.inr (.inr hh))))]
      foot := fun b hb hf => by
        rcases hf with hf | hf | hf | hf
        · exact .inl hf
        · exact .inr (.inl hf)
        · exact .inr (.inr (.inl hf))
        · rw [bOf_slc] at hf; cases hf; omega }
end Go.Wz
