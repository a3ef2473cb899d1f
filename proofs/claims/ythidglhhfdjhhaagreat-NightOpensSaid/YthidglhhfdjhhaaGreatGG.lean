/- Contracts: power.Fits. -/
import Derived.Test.YthidglhhfdjhhaaGreatGF
set_option linter.unusedVariables false
set_option linter.unusedSimpArgs false
namespace Go.Wz
open Go

/-- the state of 'currents' between loads -/
structure TabS (h : H) (s : Supply) (bs bt bo : Nat) (v1 v2 : Value) (T : List Int) : Prop where
  o1 : bs < bt
  o2 : bt < bo
  o3 : bo < h.next
  rv : ∀ b, bOf v1 = some b → b < bs
  sc : ∃ w, h.get bs = some (.cells [v1, v2, I s.power, I s.hold, I s.volts] 33 w)
  tc : h.get bt = some (.cells (T.map fun x => I x) 184 true)
  oc : ∃ w, h.get bo = some (.cells [slc bt 0 (s.boards.length + 1) 1] 181 w)
  rows : RS h 4 v1 (s.boards.map Board.enc)
  tl : T.length = (s.boards.length + 1) * 3
theorem CurS.tab {h : H} {s : Supply} {bs bt bo bl : Nat} {v1 v2 : Value} {l : Load} {T : List Int} (c : CurS h s bs bt bo bl v1 v2 l T) : TabS h s bs bt bo v1 v2 T :=
  { c with o3 := by have := c.o3; have := c.o4; omega }
theorem TabS.cur {h : H} {s : Supply} {bs bt bo bl : Nat} {v1 v2 : Value} {l : Load} {T : List Int} (c : TabS h s bs bt bo v1 v2 T) (h1 : bo < bl) (h2 : bl < h.next) (h3 : ∃ w, h.get bl = some (.cells l.enc 166 w)) : CurS h s bs bt bo bl v1 v2 l T :=
  { c with o3 := h1, o4 := h2, lc := h3 }
theorem TabS.keep {h h' : H} {s : Supply} {bs bt bo : Nat} {v1 v2 : Value} {T : List Int} (c : TabS h s bs bt bo v1 v2 T) (hn : h.next ≤ h'.next) (hg : ∀ b, b ≤ bo → h'.get b = h.get b) : TabS h' s bs bt bo v1 v2 T := by
  have := c.o1; have := c.o2; have := c.o3
  exact { c with
    o3 := by omega
    sc := by rw [hg _ (by omega)]; exact c.sc
    tc := by rw [hg _ (by omega)]; exact c.tc
    oc := by rw [hg _ (by omega)]; exact c.oc
    rows := c.rows.keep hn fun b hb => hg b (by have := c.rv b hb; omega) }
/-- the chain without the generator -/
def chF (s : Supply) : Nat → Int → List Int
  | 0, _ => []
  | k + 1, b => if b ≥ 0 then b :: chF s k (par s b) else []
theorem chain_chF (s : Supply) : ∀ (k : Nat) (b : Int), chainF s k b = chF s k b ++ [-1]
  | 0, _ => rfl
  | k + 1, b => by
    unfold chainF chF
    split
    · rw [chain_chF s k]; rfl
    · rfl
abbrev addB (s : Supply) (l : Load) (T : List Int) (b : Int) : List Int := addAt T (slot s b * 3 + l.phase.toNat) l.amps
theorem ibin_shrII (a : Int) (i : Nat) (hi : i < 64) : ibin .shr (I a) (I i) = some (I (a.fdiv (2 ^ i))) := by
  show (if (i : Int) < 0 then none else some (Value.int .i64 (a.fdiv (2 ^ (min (i : Int).toNat 64))))) = _
  rw [if_neg (by omega), show min (i : Int).toNat 64 = i by simp; omega]; rfl
section
variable {C : Nat → CallT} {N : Nat} (K : CallsOf C N)
include K
theorem up_loop {e : Nat} (he : 1 ≤ e) {s : Supply} (so : SupOk s) {bs bt bo bl bq bb lp : Nat} {v1 v2 : Value} {l : Load} (hl : l ∈ s.loads) (oq : bl < bq) (ob : bq < bb) (ol : bb < lp)
    {p0 p2 p3 p4 p7 p8 p10 p12 p13 p14 p15 p16 p17 p18 p19 p20 p21 : Value} {p5 p9 : List Value} :
    ∀ (k m : Nat) (b M : Int) (T : List Int) (h : H), (b + 1).toNat ≤ k → k < m → -1 ≤ b → b < s.boards.length → M + 1000 * (b + 1) ≤ 10000000 → Bd M T → 0 ≤ M → CurS h s bs bt bo bl v1 v2 l T → lp < h.next →
      h.get lp = some (LB120_0 p0 (ptr bl 0) p2 p3 p4 p5 (ptr bo 0) p7 p8 p9 p10 (ptr bs 0) p12 p13 p14 p15 p16 p17 p18 p19 p20 p21) → h.get bq = some (.cells [v1, v2, I s.power, I s.hold, I s.volts] 33 true) → h.get bb = some (.cells [I b] 3 true) →
      ∃ h', LP242_0 (C e) N m [.one (.func (.yield lp) #[] #[]), .one (ptr bb 0), .one (ptr bq 0)] h = some (.exit 0, [.one (.func (.yield lp) #[] #[])], h') ∧
        CurS h' s bs bt bo bl v1 v2 l ((chF s k b).foldl (addB s l) T) ∧ Bd (M + 1000 * (b + 1)) ((chF s k b).foldl (addB s l) T) ∧ h'.next = h.next ∧ ∀ x, x ≠ bt → x ≠ bb → h'.get x = h.get x := by
  obtain ⟨e, _, rfl, hY⟩ := K.atY (k := 0) he
  intro k
  induction k with
  | zero =>
    intro m b M T h hk hm h1 h2 hM hB hM0 c hlp g1 g2 g3
    obtain ⟨m, rfl⟩ : ∃ q, m = q + 1 := ⟨m - 1, by omega⟩
    obtain rfl : b = -1 := by omega
    rw [LP242_0_succ]; unfold B242_0
    have e1 : h.ld bb 0 = some (I (-1)) := by rw [H.ld_of _ g3]; rfl
    exact ⟨h, by simp only [S0, Nat.reduceAdd, Nat.reduceLeDiff, ↓reduceIte, e1, show decide ((-1 : Int) ≥ 0) = false from rfl], c, by simpa [chF] using hB, rfl, fun _ _ _ => rfl⟩
  | succ k ih =>
    intro m b M T h hk hm h1 h2 hM hB hM0 c hlp g1 g2 g3
    obtain ⟨m, rfl⟩ : ∃ q, m = q + 1 := ⟨m - 1, by omega⟩
    rw [LP242_0_succ]; unfold B242_0
    have e1 : h.ld bb 0 = some (I b) := by rw [H.ld_of _ g3]; rfl
    by_cases hb : b ≥ 0
    · have hb' : decide (b ≥ 0) = true := by simpa using hb
      obtain ⟨h3, y1, y2, y3, y4⟩ := y120 (C e) N so c (by omega) ⟨by omega, hB⟩ hl g1 (b := b) (.inr ⟨hb, h2⟩)
      have y0 := hY (args := [.one (I b)]) g1 ⟨_, _, _, _, _, _, _, rfl⟩
      rw [Y120_0_eq, y1] at y0
      have q1 := c.o1; have q2 := c.o2; have q3 := c.o3; have q4 := c.o4
      have hlt : b.toNat < s.boards.length := by omega
      obtain ⟨br, or_, _, _, r1, r2⟩ := y2.rows.atx (i := b.toNat) (x := s.boards[b.toNat]) (List.getElem?_eq_getElem hlt)
      have r3 := (r2 h3 (.refl _)).2 0 (by omega)
      rw [show ((b.toNat : Nat) : Int) = b by omega] at r1
      have hpar : par s b = (s.boards[b.toNat]).parent := by unfold par; rw [List.getElem?_eq_getElem hlt]; rfl
      have r4 : h3.ld br or_ = some (I (par s b)) := by rw [hpar]; simpa [Board.enc] using r3
      have e2 : h3.ld bq 0 = some v1 := by rw [H.ld_of _ (by rw [y4 _ (by omega)]; exact g2)]; rfl
      have g3' : h3.get bb = some (.cells [I b] 3 true) := by rw [y4 _ (by omega)]; exact g3
      have e3 : h3.ld bb 0 = some (I b) := by rw [H.ld_of _ g3']; rfl
      have e4 : h3.st bb 0 (I (par s b)) = some (h3.put bb (some (.cells [I (par s b)] 3 true))) := by rw [H.st_of _ g3', if_pos (by simp)]; rfl
      have hpl := so.parlt hb h2
      have hlo := so.load l hl
      have hs1 : slot s b < s.boards.length + 1 := by unfold slot; split <;> omega
      obtain ⟨h5, z1, z2, z3, z4, z5⟩ := ih m (par s b) (M + 1000) (addB s l T b) (h3.put bb (some (.cells [I (par s b)] 3 true))) (by omega) (by omega) (by omega) (by omega) (by omega)
        (addAt_bd hB (by omega) (by rw [c.tl]; omega)) (by omega) (y2.keep (by simp) fun x hx => H.put_get_ne _ _ (by omega)) (by rw [H.put_nx, y3]; exact hlp)
        (by rw [H.put_get_ne _ _ (by omega), y4 _ (by omega)]; exact g1) (by rw [H.put_get_ne _ _ (by omega), y4 _ (by omega)]; exact g2) (H.put_get_same _ _ _)
      have hch : chF s (k + 1) b = b :: chF s k (par s b) := by conv => lhs; unfold chF; rw [if_pos hb]
      rw [hch]
      refine ⟨h5, ?_, z2, z3.mono (by omega), by rw [z4, H.put_nx, y3], fun x hx1 hx2 => by rw [z5 x hx1 hx2, H.put_get_ne _ _ hx2, y4 x hx1]⟩
      simp only [S0, Nat.reduceAdd, Nat.reduceLeDiff, ↓reduceIte, e1, hb', y0, e2, e3, r1, r4, pst_ptr, e4, z1]
    · have hb' : decide (b ≥ 0) = false := by simpa using hb
      have hch : chF s (k + 1) b = [] := by unfold chF; rw [if_neg hb]
      rw [hch]
      exact ⟨h, by simp only [S0, Nat.reduceAdd, Nat.reduceLeDiff, ↓reduceIte, e1, hb'], c, hB.mono (by omega), rfl, fun _ _ _ => rfl⟩

theorem f242_c {e : Nat} (he : 2 ≤ e) {s : Supply} (so : SupOk s) {bs bt bo bl bq bb lp : Nat} {v1 v2 : Value} {l : Load} (hl : l ∈ s.loads) (oq : bl < bq) (ob : bq < bb) (ol : bb < lp)
    {p0 p2 p3 p4 p7 p8 p10 p12 p13 p14 p15 p16 p17 p18 p19 p20 p21 : Value} {p5 p9 : List Value} {M : Int} {T : List Int} {h : H} (hM : 0 ≤ M ∧ M ≤ 1000000) (hB : Bd M T) (c : CurS h s bs bt bo bl v1 v2 l T) (hlp : lp < h.next)
    (g1 : h.get lp = some (LB120_0 p0 (ptr bl 0) p2 p3 p4 p5 (ptr bo 0) p7 p8 p9 p10 (ptr bs 0) p12 p13 p14 p15 p16 p17 p18 p19 p20 p21)) (g2 : h.get bq = some (.cells [v1, v2, I s.power, I s.hold, I s.volts] 33 true)) (g3 : h.get bb = some (.cells [I l.board] 3 true)) :
    ∃ h', C e (.func 242) [.one (.func (.yield lp) #[] #[]), .one (ptr bb 0), .one (ptr bq 0)] h = some (.tup [], h') ∧ CurS h' s bs bt bo bl v1 v2 l (addLoad s T l) ∧ Bd (M + 11000) (addLoad s T l) ∧
      h'.next = h.next ∧ ∀ x, x ≠ bt → x ≠ bb → h'.get x = h.get x := by
  obtain ⟨e, he', rfl, hC⟩ := K.at (k := 1) he
  have hN := K.big
  have hlo := so.load l hl
  have hnb := so.nb
  obtain ⟨h1, z1, z2, z3, z4, z5⟩ := up_loop K (e := e) (by omega) so hl oq ob ol (l.board.toNat + 1) N l.board M T h (by omega) (by omega) (by omega) hlo.2.1 (by omega) hB hM.1 c hlp g1 g2 g3
  have q1 := c.o1; have q2 := c.o2; have q3 := c.o3; have q4 := c.o4
  have g1' : h1.get lp = some (LB120_0 p0 (ptr bl 0) p2 p3 p4 p5 (ptr bo 0) p7 p8 p9 p10 (ptr bs 0) p12 p13 p14 p15 p16 p17 p18 p19 p20 p21) := by rw [z5 _ (by omega) (by omega)]; exact g1
  obtain ⟨e2, _, rfl, hY⟩ := K.atY (k := 0) (show 1 ≤ e by omega)
  obtain ⟨h3, y1, y2, y3, y4⟩ := y120 (C e2) N so z2 (by omega) ⟨by omega, z3⟩ hl g1' (b := -1) (.inl rfl)
  have y0 := hY (args := [.one (I (-1))]) g1' ⟨_, _, _, _, _, _, _, rfl⟩
  rw [Y120_0_eq, y1] at y0
  have hfold : addLoad s T l = addB s l ((chF s (l.board.toNat + 1) l.board).foldl (addB s l) T) (-1) := by
    unfold addLoad chain
    rw [chain_chF, List.foldl_append]; rfl
  rw [hfold]
  refine ⟨h3, ?_, y2, ?_, by rw [y3, z4], fun x hx1 hx2 => by rw [y4 x hx1, z5 x hx1 hx2]⟩
  · rw [hC _ _ _ rfl, F242_eq]; unfold F242
    rw [z1]
    simp only [S0, Nat.reduceAdd, Nat.reduceLeDiff, ↓reduceIte, y0]
  · exact (addAt_bd z3 (by omega) (by rw [z2.tl]; have : slot s (-1) = s.boards.length := rfl; rw [this]; omega)).mono (by omega)

theorem cur_loop {e : Nat} (he : 2 ≤ e) {s : Supply} (so : SupOk s) {bs bt bo : Nat} {v1 v2 : Value} {set : Int} :
    ∀ (t : List Load) (i m : Nat) (T : List Int) (h : H), s.loads.drop i = t → i ≤ s.loads.length → t.length < m → TabS h s bs bt bo v1 v2 T → (∀ b, bOf v2 = some b → b < bs) → RS h 4 v2 (s.loads.map Load.enc) → Bd (11000 * i) T →
      ∃ h', LP120_0 (C e) N m [.one (I set), .one (ptr bs 0), .one (.slice none 0 0), .one (ptr bo 0), .one v2, .one (I s.loads.length), .one (I i)] h = some (.exit 0, [.one (ptr bo 0)], h') ∧
        TabS h' s bs bt bo v1 v2 (tabF s set i t T) ∧ h.next ≤ h'.next ∧ ∀ x, x < h.next → x ≠ bt → h'.get x = h.get x := by
  obtain ⟨e, he', rfl, hC⟩ := K.at (k := 1) he
  have hN := K.big
  have hnl := so.nl
  intro t
  induction t with
  | nil =>
    intro i m T h hd hle hm c hv2 r2 hB
    obtain ⟨m, rfl⟩ : ∃ q, m = q + 1 := ⟨m - 1, by omega⟩
    obtain rfl := drop_nil hd hle
    rw [LP120_0_succ]; unfold B120_0
    exact ⟨h, by simp only [S0, Nat.reduceAdd, Nat.reduceLeDiff, ↓reduceIte, in0], c, Nat.le_refl _, fun _ _ _ => rfl⟩
  | cons l t ih =>
    intro i m T h hd hle hm c hv2 r2 hB
    obtain ⟨m, rfl⟩ : ∃ q, m = q + 1 := ⟨m - 1, by omega⟩
    simp only [List.length_cons] at hm
    obtain ⟨hlt, hx, hd', hlen⟩ := drop_cons hd
    rw [LP120_0_succ]; unfold B120_0
    have q1 := c.o1; have q2 := c.o2; have q3 := c.o3
    obtain ⟨b, o, _, _, e1, e2⟩ := r2.atx (i := i) (x := l) (by rw [List.getElem?_eq_getElem hlt, hx])
    have e3 := (e2 h (.refl _)).1
    have hl : l ∈ s.loads := hx ▸ List.getElem_mem hlt
    have p1 := pstn_new h (zs := [I 0, I 0, I 0, I 0]) (xs := l.enc) 166 rfl
    have hx5 : l.enc.length = 4 := rfl
    obtain ⟨hA, eA⟩ : ∃ q, q = h.new (.cells l.enc 166 true) := ⟨_, rfl⟩
    rw [← eA] at p1
    have nA : hA.next = h.next + 1 := by rw [eA]; rfl
    have fA : Fr h hA := by rw [eA]; exact (Fr.refl h).new _
    have cA : TabS hA s bs bt bo v1 v2 T := c.keep (by omega) fun x hx => fA.get x (by omega)
    have sh := ibin_shrII set i (by omega)
    have an := ibin_andI (set.fdiv (2 ^ i)) 1
    have ia := i1 (show i + 1 ≤ s.loads.length from hlt) (show s.loads.length < 2 ^ 40 by omega)
    unfold tabF
    cases hbt : bit set i with
    | false =>
      have hb0 : (i64and (set.fdiv (2 ^ i)) 1 == 0) = true := by unfold bit at hbt; simpa using hbt
      obtain ⟨h', z1, z2, z3, z4⟩ := ih (i + 1) m T hA hd' (by omega) (by omega) cA hv2 (r2.fr fA) (hB.mono (by push_cast; omega))
      refine ⟨h', ?_, z2, by omega, fun x h1 h2 => by rw [z4 x (by omega) h2, fA.get x h1]⟩
      simp only [S0, Nat.reduceAdd, Nat.reduceLeDiff, ↓reduceIte, i0 hlt, e1, e3, ifLen_eq, hx5, p1, sh, an, hb0, ia, z1]
    | true =>
      have hb0 : (i64and (set.fdiv (2 ^ i)) 1 == 0) = false := by unfold bit at hbt; simpa using hbt
      obtain ⟨ws, hsc⟩ := cA.sc
      have l5 : hA.ldn bs 0 5 = some [v1, v2, I s.power, I s.hold, I s.volts] := by rw [H.ldn_of _ hsc]; rfl
      have l0 : hA.ld h.next 0 = some (I l.board) := by rw [eA]; simp only [S0, Nat.reduceAdd, Nat.reduceLeDiff, ↓reduceIte, Load.enc]
      have k191 : C (e + 1) (.func 191) [.agg [v1, v2, I s.power, I s.hold, I s.volts], .one (I l.board)] hA = some (.one (.func (.func 242) #[] #[ptr (hA.next + 1) 0, ptr hA.next 0]), (hA.new (.cells [v1, v2, I s.power, I s.hold, I s.volts] 33 true)).new (.cells [I l.board] 3 true)) := by
        rw [hC _ _ _ rfl, F191_eq]; rfl
      obtain ⟨hB1, eB⟩ : ∃ q, q = (hA.new (.cells [v1, v2, I s.power, I s.hold, I s.volts] 33 true)).new (.cells [I l.board] 3 true) := ⟨_, rfl⟩
      rw [← eB] at k191
      have nB : hB1.next = hA.next + 2 := by rw [eB]; rfl
      have fB : Fr hA hB1 := by rw [eB]; exact ((Fr.refl hA).new _).new _
      have gq : hB1.get hA.next = some (.cells [v1, v2, I s.power, I s.hold, I s.volts] 33 true) := by rw [eB, H.new_get_lt _ _ (by simp)]; simp
      have gb : hB1.get (hA.next + 1) = some (.cells [I l.board] 3 true) := by rw [eB]; exact H.new_get_same _ _
      -- the loop over 'up'
      obtain ⟨LB, eL⟩ : ∃ q, q = LB120_0 (I set) (ptr h.next 0) v2 (I i) (I i) [v1, v2, I s.power, I s.hold, I s.volts] (ptr bo 0) (I i) (I (i64and (set.fdiv (2 ^ i)) 1)) l.enc (I l.board) (ptr bs 0) (.slice none 0 0) (I s.loads.length) (I (set.fdiv (2 ^ i))) (ptr b o) (ptr h.next 0) (I i) (.bool true) (.bool false) (I set) (.func (.func 242) #[] #[ptr (hA.next + 1) 0, ptr hA.next 0]) := ⟨_, rfl⟩
      have fL : Fr hB1 (hB1.new LB) := (Fr.refl hB1).new _
      have cL : CurS (hB1.new LB) s bs bt bo h.next v1 v2 l T := TabS.cur (cA.keep (by have := fL.nx; have := fB.nx; omega) fun x hx => ((fB.trans fL).get x (by omega))) q3 (by have := fL.nx; omega) ⟨true, by rw [(fB.trans fL).get _ (by omega), eA]; simp⟩
      obtain ⟨h4, u1, u2, u3, u4, u5⟩ := f242_c K (e := e + 1) (by omega) so (bq := hA.next) (bb := hA.next + 1) (lp := hB1.next) (h := hB1.new LB) hl (by omega) (by omega) (by omega) (M := 11000 * i) ⟨by omega, by omega⟩ hB cL (by simp)
        (by rw [H.new_get_same, eL]) (by rw [fL.get _ (by omega)]; exact gq) (by rw [fL.get _ (by omega)]; exact gb)
      have hLB : h4.get hB1.next = some LB := by rw [u5 _ (by omega) (by omega), H.new_get_same]
      have hend := endL_none (R := Out × List SV × H) (fun h38 => some (Out.normal, ([(.one (I set)), (.one (ptr bs 0)), (.one (.slice none 0 0)), (.one (ptr bo 0)), (.one v2), (.one (I s.loads.length)), (.one (I i))], h38)))
        (fun i39 h40 => (ifN i39 2 (some (Out.normal, ([(.one (I set)), (.one (ptr bs 0)), (.one (.slice none 0 0)), (.one (ptr bo 0)), (.one v2), (.one (I s.loads.length)), (.one (I i))], h40))) (ifN i39 1 (some (Out.normal, ([(.one (I set)), (.one (ptr bs 0)), (.one (.slice none 0 0)), (.one (ptr bo 0)), (.one v2), (.one (I s.loads.length)), (.one (I i))], h40))) (some ((Out.exit i39), ([], h40))))))
        (fun h41 => some ((Out.ret (.one (.slice none 0 0))), ([], h41))) hLB (by rw [eL]; exact ⟨_, _, _, _, _, _, _, rfl⟩)
      have n4 : h4.next = hB1.next + 1 := by rw [u4]; simp
      have c5 : TabS (h4.put hB1.next none) s bs bt bo v1 v2 (addLoad s T l) := u2.tab.keep (by simp) fun x hx => H.put_get_ne _ _ (by omega)
      have g5 : ∀ x, x < h.next → x ≠ bt → (h4.put hB1.next none).get x = h.get x := fun x h1 h2 => by
        rw [H.put_get_ne _ _ (by omega), u5 x h2 (by omega), (fB.trans fL).get x (by omega), fA.get x h1]
      obtain ⟨h', z1, z2, z3, z4⟩ := ih (i + 1) m (addLoad s T l) (h4.put hB1.next none) hd' (by omega) (by omega) c5 hv2
        (r2.keep (by rw [H.put_nx, n4]; omega) fun x hx => g5 x (by have := hv2 x hx; omega) (by have := hv2 x hx; omega)) (u3.mono (by push_cast; omega))
      refine ⟨h', ?_, z2, by rw [H.put_nx] at z3; omega, fun x h1 h2 => by rw [z4 x (by rw [H.put_nx]; omega) h2, g5 x h1 h2]⟩
      have u1' : callG (C (e + 1)) (.func (.func 242) #[] #[ptr (hA.next + 1) 0, ptr hA.next 0]) [.one (.func (.yield hB1.next) #[] #[])] (hB1.new LB) = some (.tup [], h4) := u1
      simp only [S0, Nat.reduceAdd, Nat.reduceLeDiff, ↓reduceIte, i0 hlt, e1, e3, ifLen_eq, hx5, p1, sh, an, hb0, l5, l0, k191, ia]
      rw [← eL]
      simp only [S0, Nat.reduceAdd, Nat.reduceLeDiff, ↓reduceIte, u1']
      rw [hend]
      simp only [S0, Nat.reduceAdd, Nat.reduceLeDiff, ↓reduceIte, ia, z1]
end
end Go.Wz
