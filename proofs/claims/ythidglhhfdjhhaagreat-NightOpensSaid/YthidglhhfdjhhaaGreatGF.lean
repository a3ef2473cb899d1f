/- Contracts: the currents of power. -/
import Derived.Test.YthidglhhfdjhhaaGreatGE
import Derived.Test.YthidglhhfdjhhaaGreatLA
set_option linter.unusedVariables false
set_option linter.unusedSimpArgs false
namespace Go.Wz
open Go

/-- the parent of a board -/
def par (s : Supply) (b : Int) : Int := ((s.boards[b.toNat]?).map Board.parent).getD (-1)
/-- a board, all that it is below, and the generator -/
def chainF (s : Supply) : Nat → Int → List Int
  | 0, _ => [-1]
  | k + 1, b => if b ≥ 0 then b :: chainF s k (par s b) else [-1]
def chain (s : Supply) (b : Int) : List Int := chainF s (b.toNat + 1) b
def slot (s : Supply) (b : Int) : Nat := if b = -1 then s.boards.length else b.toNat
def addAt (T : List Int) (j : Nat) (a : Int) : List Int := T.set j ((T[j]?).getD 0 + a)
def bit (set : Int) (i : Nat) : Bool := !(i64and (set.fdiv (2 ^ i)) 1 == 0)
def addLoad (s : Supply) (T : List Int) (l : Load) : List Int := (chain s l.board).foldl (fun T b => addAt T (slot s b * 3 + l.phase.toNat) l.amps) T
def tabF (s : Supply) (set : Int) : Nat → List Load → List Int → List Int
  | _, [], T => T
  | i, l :: t, T => tabF s set (i + 1) t (if bit set i = true then addLoad s T l else T)
def tab (s : Supply) (set : Int) : List Int := tabF s set 0 s.loads (List.replicate ((s.boards.length + 1) * 3) 0)
def Bd (M : Int) (T : List Int) : Prop := ∀ x ∈ T, 0 ≤ x ∧ x ≤ M
/-- a supply that is right -/
structure SupOk (s : Supply) : Prop where
  nb : s.boards.length ≤ 10
  nl : s.loads.length ≤ 16
  pw : 1 ≤ s.power ∧ s.power ≤ 1000
  par : ∀ (i : Nat) b, s.boards[i]? = some b → -1 ≤ b.parent ∧ b.parent < i ∧ 1 ≤ b.rating ∧ b.rating ≤ 1000
  load : ∀ l ∈ s.loads, 0 ≤ l.board ∧ l.board < s.boards.length ∧ 0 ≤ l.phase ∧ l.phase ≤ 2 ∧ 1 ≤ l.amps ∧ l.amps ≤ 1000
theorem wi_iff {n lo hi : Int} : wi n lo hi = true ↔ lo ≤ n ∧ n ≤ hi := by unfold wi; simp
theorem anyI_false {α : Type} {q : Nat → α → Bool} : ∀ {l : List α} {i : Nat}, anyI q i l = false → ∀ (j : Nat) x, l[j]? = some x → q (i + j) x = false
  | [], _, _, j, x, h => by simp at h
  | y :: l, i, e, j, x, h => by
    simp only [anyI, Bool.or_eq_false_iff] at e
    cases j with
    | zero => simp at h; subst h; exact e.1
    | succ j => have := anyI_false e.2 j x (by simpa using h); rwa [show i + 1 + j = i + (j + 1) by omega] at this
theorem SupOk.of_err {s : Supply} (h : supErr s = 0) : SupOk s := by
  unfold supErr at h
  split at h
  · cases h
  rename_i h1
  split at h
  · cases h
  rename_i h2
  split at h
  · cases h
  rename_i h3
  simp only [supBad0, Bool.or_eq_true, decide_eq_true_eq, Bool.not_eq_true', not_or, Int.not_lt, Bool.not_eq_false, wi_iff, gt_iff_lt] at h1
  obtain ⟨⟨⟨⟨a1, a2⟩, a3⟩, a4⟩, a5⟩ := h1
  refine ⟨by omega, by omega, a3, fun i b hb => ?_, fun l hl => ?_⟩
  · have := anyI_false (by simpa using h2) i b hb
    simp only [badBoard, Bool.or_eq_false_iff, Bool.not_eq_false', wi_iff, Nat.zero_add] at this
    omega
  · have := List.any_eq_false.1 (by simpa using h3) l hl
    simp only [badLoad, Bool.or_eq_true, Bool.not_eq_true', not_or, Bool.not_eq_false, wi_iff] at this
    omega
theorem SupOk.parlt {s : Supply} (o : SupOk s) {b : Int} (h0 : 0 ≤ b) (h1 : b < s.boards.length) : -1 ≤ Wz.par s b ∧ Wz.par s b < b := by
  have hlt : b.toNat < s.boards.length := by omega
  have e : s.boards[b.toNat]? = some s.boards[b.toNat] := List.getElem?_eq_getElem hlt
  have := o.par b.toNat _ e
  unfold Wz.par
  rw [e]
  simp only [Option.map_some, Option.getD_some]
  omega

theorem addAt_len (T : List Int) (j : Nat) (a : Int) : (addAt T j a).length = T.length := by simp [addAt]
theorem addAt_bd {T : List Int} {M : Int} (h : Bd M T) {j : Nat} {a : Int} (ha : 0 ≤ a ∧ a ≤ 1000) (hj : j < T.length) : Bd (M + 1000) (addAt T j a) := by
  intro x hx
  unfold addAt at hx
  have := List.mem_or_eq_of_mem_set hx
  rcases this with h1 | rfl
  · have := h x h1; omega
  · have := h T[j] (List.getElem_mem hj)
    rw [List.getElem?_eq_getElem hj, Option.getD_some]; omega
theorem Bd.mono {T : List Int} {M M' : Int} (h : Bd M T) (hm : M ≤ M') : Bd M' T := fun x hx => by have := h x hx; omega

/-- the state of 'currents' at a load -/
structure CurS (h : H) (s : Supply) (bs bt bo bl : Nat) (v1 v2 : Value) (l : Load) (T : List Int) : Prop where
  o1 : bs < bt
  o2 : bt < bo
  o3 : bo < bl
  o4 : bl < h.next
  rv : ∀ b, bOf v1 = some b → b < bs
  sc : ∃ w, h.get bs = some (.cells [v1, v2, I s.power, I s.hold, I s.volts] 33 w)
  tc : h.get bt = some (.cells (T.map fun x => I x) 184 true)
  oc : ∃ w, h.get bo = some (.cells [slc bt 0 (s.boards.length + 1) 1] 181 w)
  lc : ∃ w, h.get bl = some (.cells l.enc 166 w)
  rows : RS h 4 v1 (s.boards.map Board.enc)
  tl : T.length = (s.boards.length + 1) * 3
theorem CurS.keep {h h' : H} {s : Supply} {bs bt bo bl : Nat} {v1 v2 : Value} {l : Load} {T : List Int} (c : CurS h s bs bt bo bl v1 v2 l T) (hn : h.next ≤ h'.next) (hg : ∀ b, b ≤ bl → h'.get b = h.get b) : CurS h' s bs bt bo bl v1 v2 l T := by
  have := c.o1; have := c.o2; have := c.o3; have := c.o4
  exact { c with
    o4 := by omega
    sc := by rw [hg _ (by omega)]; exact c.sc
    tc := by rw [hg _ (by omega)]; exact c.tc
    oc := by rw [hg _ (by omega)]; exact c.oc
    lc := by rw [hg _ (by omega)]; exact c.lc
    rows := c.rows.keep hn fun b hb => hg b (by have := c.rv b hb; omega) }
theorem CurS.upd {h : H} {s : Supply} {bs bt bo bl : Nat} {v1 v2 : Value} {l : Load} {T : List Int} (c : CurS h s bs bt bo bl v1 v2 l T) (T' : List Int) (ht : T'.length = T.length) :
    CurS (h.put bt (some (.cells (T'.map fun x => I x) 184 true))) s bs bt bo bl v1 v2 l T' := by
  have := c.o1; have := c.o2; have := c.o3; have := c.o4
  exact { c with
    o4 := c.o4
    sc := by rw [H.put_get_ne _ _ (by omega)]; exact c.sc
    tc := H.put_get_same _ _ _
    oc := by rw [H.put_get_ne _ _ (by omega)]; exact c.oc
    lc := by rw [H.put_get_ne _ _ (by omega)]; exact c.lc
    rows := c.rows.keep (by simp) fun b hb => by have := c.rv b hb; rw [H.put_get_ne _ _ (by omega)]
    tl := by rw [ht]; exact c.tl }
theorem i64add {a b : Int} (h : 0 ≤ a ∧ a ≤ 10000000) (h' : 0 ≤ b ∧ b ≤ 1000) : ibin .add (I a) (I b) = some (I (a + b)) := add_in (by omega) (by omega)

/-- a round of the loop over 'up' -/
theorem y120 (call : CallT) (N : Nat) {s : Supply} (so : SupOk s) {bs bt bo bl lp : Nat} {v1 v2 : Value} {l : Load} {T : List Int} {h : H} {M : Int} (c : CurS h s bs bt bo bl v1 v2 l T) (hlp : bl < lp) (hM : M ≤ 10000000 ∧ Bd M T) (hl : l ∈ s.loads)
    {p0 p2 p3 p4 p7 p8 p10 p12 p13 p14 p15 p16 p17 p18 p19 p20 p21 : Value} {p5 p9 : List Value}
    (hg : h.get lp = some (LB120_0 p0 (ptr bl 0) p2 p3 p4 p5 (ptr bo 0) p7 p8 p9 p10 (ptr bs 0) p12 p13 p14 p15 p16 p17 p18 p19 p20 p21)) {b : Int} (hb : b = -1 ∨ 0 ≤ b ∧ b < s.boards.length) :
    ∃ h', Y120_0 call N lp p0 (ptr bl 0) p2 p3 p4 p5 (ptr bo 0) p7 p8 p9 p10 (ptr bs 0) p12 p13 p14 p15 p16 p17 p18 p19 p20 p21 (I b) h = some (.one (.bool true), h') ∧
      CurS h' s bs bt bo bl v1 v2 l (addAt T (slot s b * 3 + l.phase.toNat) l.amps) ∧ h'.next = h.next ∧ ∀ x, x ≠ bt → h'.get x = h.get x := by
  have hL : (LB120_0 p0 (ptr bl 0) p2 p3 p4 p5 (ptr bo 0) p7 p8 p9 p10 (ptr bs 0) p12 p13 p14 p15 p16 p17 p18 p19 p20 p21).L0 := ⟨_, _, _, _, _, _, _, rfl⟩
  generalize LB120_0 p0 (ptr bl 0) p2 p3 p4 p5 (ptr bo 0) p7 p8 p9 p10 (ptr bs 0) p12 p13 p14 p15 p16 p17 p18 p19 p20 p21 = LB at hg hL
  have q1 := c.o1; have q2 := c.o2; have q3 := c.o3; have q4 := c.o4
  have hlo := so.load l hl
  have hs1 : slot s b < s.boards.length + 1 := by unfold slot; split <;> omega
  have c1 : CurS (h.put lp (some (LB.mv .busy none))) s bs bt bo bl v1 v2 l T := c.keep (by simp) fun x hx => H.put_get_ne _ _ (by omega)
  obtain ⟨hq, eq⟩ : ∃ q, q = h.put lp (some (LB.mv .busy none)) := ⟨_, rfl⟩
  rw [← eq] at c1
  have hj : slot s b * 3 + l.phase.toNat < T.length := by rw [c.tl]; omega
  have hTj : 0 ≤ T[slot s b * 3 + l.phase.toNat] ∧ T[slot s b * 3 + l.phase.toNat] ≤ M := hM.2 _ (List.getElem_mem hj)
  have c2 := c1.upd (addAt T (slot s b * 3 + l.phase.toNat) l.amps) (addAt_len _ _ _)
  obtain ⟨hr, er⟩ : ∃ q, q = hq.put bt (some (.cells ((addAt T (slot s b * 3 + l.phase.toNat) l.amps).map fun x => I x) 184 true)) := ⟨_, rfl⟩
  rw [← er] at c2
  have grl : hr.get lp = some (LB.mv .busy none) := by rw [er, H.put_get_ne _ _ (by omega), eq, H.put_get_same]
  refine ⟨hr.put lp (some LB), ?_, c2.keep (by simp) fun x hx => H.put_get_ne _ _ (by omega), by rw [H.put_nx, er, H.put_nx, eq, H.put_nx], fun x hx => ?_⟩
  · unfold Y120_0
    rw [begR_of _ hg hL, ← eq]
    obtain ⟨ws, hsc⟩ := c1.sc
    obtain ⟨wo, hoc⟩ := c1.oc
    obtain ⟨wl, hlc⟩ := c1.lc
    have e0 : hq.ld bs 0 = some v1 := by rw [H.ld_of _ hsc]; rfl
    have e1 : hq.ld bo 0 = some (slc bt 0 (s.boards.length + 1) 1) := by rw [H.ld_of _ hoc]; rfl
    have e2 : hq.ld bl 1 = some (I l.phase) := by rw [H.ld_of _ hlc]; rfl
    have e3 : hq.ld bl 2 = some (I l.amps) := by rw [H.ld_of _ hlc]; rfl
    have hl1 := c.rows.len
    rw [List.length_map] at hl1
    have e5 : idxP 1 3 (ptr bt (slot s b * 3)) (I l.phase) = some (ptr bt (slot s b * 3 + l.phase.toNat)) := by rw [idxP_ptrI, if_pos (by omega)]; simp
    have e6 : hq.ld bt (slot s b * 3 + l.phase.toNat) = some (I T[slot s b * 3 + l.phase.toNat]) := by rw [H.ld_of _ c1.tc, List.getElem?_map, List.getElem?_eq_getElem hj]; rfl
    have e7 : hq.st bt (slot s b * 3 + l.phase.toNat) (I (T[slot s b * 3 + l.phase.toNat] + l.amps)) = some hr := by
      rw [H.st_of _ c1.tc, if_pos (by simpa using hj), er]
      congr 3
      unfold addAt
      rw [List.map_set, List.getElem?_eq_getElem hj]; rfl
    have e8 := endR_none grl hL
    by_cases hb1 : b = -1
    · subst hb1
      have hsl : slot s (-1) = s.boards.length := rfl
      have e4 : idxS 3 (slc bt 0 (s.boards.length + 1) 1) (I s.boards.length) = some (ptr bt (slot s (-1) * 3)) := by
        rw [idxS_slcI, if_pos (by omega), hsl]; simp
      simp only [S0, Nat.reduceAdd, Nat.reduceLeDiff, ↓reduceIte, beq_self_eq_true, e0, hl1, e1, e4, e5, e6, e2, e3, i64add (a := T[slot s (-1) * 3 + l.phase.toNat]) (b := l.amps) (by omega) (by omega), pst_ptr, e7, e8]
    · have hb2 : (b == (-1 : Int)) = false := by simp [hb1]
      have hsl : slot s b = b.toNat := by unfold slot; rw [if_neg hb1]
      have e4 : idxS 3 (slc bt 0 (s.boards.length + 1) 1) (I b) = some (ptr bt (slot s b * 3)) := by
        rw [idxS_slcI, if_pos (by omega), hsl]; simp
      simp only [S0, Nat.reduceAdd, Nat.reduceLeDiff, ↓reduceIte, hb2, e0, hl1, e1, e4, e5, e6, e2, e3, i64add (a := T[slot s b * 3 + l.phase.toNat]) (b := l.amps) (by omega) (by omega), pst_ptr, e7, e8]
  · rw [H.put_gt]; split
    · rename_i hx2; rw [hx2, hg]
    · rename_i hx2; rw [er, H.put_get_ne _ _ hx, eq, H.put_get_ne _ _ hx2]
end Go.Wz
