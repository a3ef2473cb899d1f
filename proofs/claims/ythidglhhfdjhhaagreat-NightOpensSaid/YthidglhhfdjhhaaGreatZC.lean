import Derived.Test.YthidglhhfdjhhaaGreatZB
import Derived.LoopNIn
import Derived.RangeFuncLeaves
import Derived.RangeFuncIn
import Derived.RangeFuncCalls
import Derived.IntWalk
/- The framework, part C of A to D: an evaluator of the model over an abstract heap, and its soundness. -/
set_option linter.unusedSimpArgs false
set_option linter.unusedVariables false
section
namespace Go.Wz
variable {B : Nat} {ι ι' : Inj} {h h' : H} {w w' : World} {P : Program}

/-- a block that no abstract block is told of changes, behind the beginning -/
theorem Ext.other (x : Ext P B ι h w ι' h' w') {r : Nat} (hr : w.heap.size ≤ r) {ds ds' : Option (List Deferred)} (hd : w'.heap[r]? = some (.deferred ds)) {w'' : World}
    (e1 : w''.heap = w'.heap.setIfInBounds r (.deferred ds')) (e2 : w''.tape = w'.tape) (e3 : w''.os = w'.os) (e4 : w''.output = w'.output) : Ext P B ι h w ι' h' w'' := by
  have hsz : w''.heap.size = w'.heap.size := by rw [e1]; simp
  have hne : ∀ k, k ≠ r → w''.heap[k]? = w'.heap[k]? := by intro k hk; rw [e1]; simp [Ne.symm hk]
  refine ⟨x.le, ⟨by rw [hsz]; exact x.sim.base, x.sim.dom, fun b L e => by rw [hsz]; exact x.sim.lt b L e, fun b y e => ?_, x.sim.sep⟩, x.nx, by rw [hsz]; exact x.size, fun cb hcb hn => ?_, x.img, x.ro, x.old, e3.trans x.os, e2.trans x.tape, e4.trans x.out⟩
  · obtain ⟨L, a, c⟩ := x.sim.live b y e
    refine ⟨L, a, c.keep (Inj.le_refl _) (hne _ fun hL => ?_)⟩
    cases y with
    | cells vs e own => obtain ⟨cc, e', fz, q, _⟩ := c; rw [hL, hd] at q; cases q
    | loop s p f tm ps asg body ga gb => obtain ⟨_, rr, q, _⟩ := c; rw [hL, hd] at q; cases q
  · rw [hne cb (by omega)]; exact x.fr cb hcb hn

def mk (r : Nat) : Deferred := { target := .collected r, args := #[] }
/-- the marks of loops over functions -/
structure MK (base : Nat) (ms : List Nat) (ι : Inj) (h : H) (w : World) (a : Act) : Prop where
  defers : a.defers = ms.map mk
  nodup : ms.Nodup
  at_ : ∀ r ∈ ms, base ≤ r ∧ r < w.heap.size ∧ w.heap[r]? = some (.deferred (some []))
theorem MK.not_img {base : Nat} {ms : List Nat} {a : Act} (m : MK base ms ι h w a) (s : Sim P B ι h w) {r : Nat} (hr : r ∈ ms) : ∀ b x L, h.get b = some x → ι b = some L → x.wr = true → L.cb ≠ r := by
  intro b x L hg hi _ e
  obtain ⟨L', e', c⟩ := s.live b x hg
  rw [hi] at e'; cases e'
  have hd := (m.at_ r hr).2.2
  cases x with
  | cells vs e' own => obtain ⟨cc, e', fz, q, _⟩ := c; rw [e, hd] at q; cases q
  | loop s p f tm ps asg body ga gb => obtain ⟨_, rr, q, _⟩ := c; rw [e, hd] at q; cases q
theorem MK.ext {base : Nat} {ms : List Nat} {a a' : Act} (m : MK base ms ι h w a) (s : Sim P B ι h w) (x : Ext P B ι h w ι' h' w') (hd : a'.defers = a.defers) : MK base ms ι' h' w' a' :=
  ⟨by rw [hd, m.defers], m.nodup, fun r hr => by
    obtain ⟨h1, h2, h3⟩ := m.at_ r hr
    exact ⟨h1, Nat.lt_of_lt_of_le h2 x.size, by rw [x.fr r h2 (m.not_img s hr)]; exact h3⟩⟩

def exitOf : Out → Exit
  | .normal => .normal
  | .exit id => .exit id
  | .ret _ => .ret
/-- what is known where code is left -/
def OutOK (P : Program) (B : Nat) (res : Option (Array ResultVar)) (ι : Inj) (h : H) (a : Act) (st : St) : Out → Prop
  | .ret v => ∀ fd : Func, res = some fd.results → ∀ w2, Sim P B ι h w2 → ∃ v', (results fd a.tmps).run P w2 = .ok v' w2 ∧ SR ι v v'
  | _ => TR ι st a.tmps

def GoodCode (P : Program) (B : Nat) (res : Option (Array ResultVar)) (c : Code) (st : St) (h : H) (o : Out) (st' : St) (h' : H) : Prop :=
  ∀ (F : Fence), Wide F → (res.isSome = true → F.round = none) → ∀ (base : Nat) (ι : Inj) (w : World) (a : Act) (ms : List Nat) (Q : Exit → Act → World → Prop), base ≤ w.heap.size → Sim P B ι h w → TR ι st a.tmps → MK base ms ι h w a →
    (∀ ι' w' a' ms', Ext P B ι h w ι' h' w' → MK base ms' ι' h' w' a' → OutOK P B res ι' h' a' st' o → Q (exitOf o) a' w') → c.wpIn F 0 P Q a w

theorem destr_some {R : Type} : ∀ (ks : Keep) (vs : List SV) (st : St) (k : St → Option R) (r : R), destr ks vs st k = some r →
    ∃ st', k st' = some r ∧ st'.len = st.len ∧ ks.length = vs.length ∧ ∀ (i : Nat) sv, st'.get i = some sv → st.get i = some sv ∨ ∃ (j : Nat) (s : Sh), (ks : List (Nat × Sh))[j]? = some (i, s) ∧ vs[j]? = some sv
  | [], vs, st, k, r, e => by
    unfold destr at e; split at e
    · exact ⟨st, e, rfl, rfl, fun i sv h => .inl h⟩
    · simp at e
  | (i0, s0) :: ks, vs, st, k, r, e => by
    unfold destr at e; split at e
    · rename_i v vs'
      have e2 := dsh_some _ _ _ _ e
      obtain ⟨st', h1, h2, h3, h4⟩ := destr_some ks vs' _ k r e2
      refine ⟨st', h1, by rw [h2, St.set_len], by simpa using h3, fun i sv hi => ?_⟩
      rcases h4 i sv hi with h | ⟨j, s, hj, hv⟩
      · rw [St.get_set] at h
        split at h
        · rename_i hc
          obtain ⟨rfl, _⟩ := hc
          cases h; exact .inr ⟨0, s0, rfl, rfl⟩
        · exact .inl h
      · exact .inr ⟨j + 1, s, by simpa using hj, by simpa using hv⟩
    · simp at e
theorem coll_get (st : St) : ∀ (ks : List (Nat × Sh)) (j : Nat) (i : Nat) (s : Sh) (sv : SV), ks[j]? = some (i, s) → (coll st ks)[j]? = some sv → st.get i = some sv ∨ sv = .undef
  | [], j, i, s, sv, h, _ => by simp at h
  | (i0, s0) :: ks, 0, i, s, sv, h, hv => by
    simp at h; obtain ⟨rfl, rfl⟩ := h
    simp only [coll, List.getElem?_cons_zero, Option.some.injEq] at hv
    split at hv
    · rename_i v he; subst hv; left; exact he
    · exact .inr hv.symm
  | (i0, s0) :: ks, j + 1, i, s, sv, h, hv => coll_get st ks j i s sv (by simpa using h) (by simpa [coll] using hv)
/-- no shape is told of what is not there -/
theorem dsh_undef {R : Type} (s : Sh) (k : SV → Option R) (r : R) (h : dsh s .undef k = some r) : False := by
  cases s <;> simp [dsh, un1, unA] at h
theorem destr_no_undef {R : Type} : ∀ (ks : Keep) (vs : List SV) (st : St) (k : St → Option R) (r : R), destr ks vs st k = some r → ∀ v ∈ vs, v ≠ .undef
  | [], vs, st, k, r, e => by
    unfold destr at e; split at e
    · simp
    · simp at e
  | (i0, s0) :: ks, vs, st, k, r, e => by
    unfold destr at e; split at e
    · rename_i v vs'
      have e2 := dsh_some _ _ _ _ e
      intro u hu
      rcases List.mem_cons.1 hu with rfl | hu
      · intro hh; subst hh; exact dsh_undef _ _ _ e
      · exact destr_no_undef ks vs' _ k r e2 u hu
    · simp at e
/-- what is kept of the temporaries is less than what was known -/
theorem destr_coll {R : Type} {ks : Keep} {st : St} {n : Nat} {k : St → Option R} {r : R} (hn : n = st.len) (e : destr ks (coll st ks) (St.all n none) k = some r) : ∃ st', k st' = some r ∧ St.le st' st := by
  obtain ⟨st', h1, h2, h3, h4⟩ := destr_some _ _ _ _ _ e
  refine ⟨st', h1, by rw [h2, hn]; rfl, fun i sv hi => ?_⟩
  rcases h4 i sv hi with h | ⟨j, s, hj, hv⟩
  · rw [St.all_get] at h; cases h
  · rcases coll_get st ks j i s sv hj hv with h | h
    · exact h
    · exact absurd h (destr_no_undef _ _ _ _ _ e sv (List.mem_of_getElem? hv))

theorem exits_some {R : Type} {vs : List SV} {id : Nat} {k : Nat → List SV → Option R} {r : R} : ∀ (l : List (Nat × Keep)), exits vs id k l = some r → k id vs = some r
  | [], e => by simp [exits] at e
  | (i, _) :: l, e => by
    unfold exits at e; split at e
    · subst_vars; exact e
    · exact exits_some l e
def NoRet (o : Out) : Prop := ∀ v, o ≠ .ret v
/-- behind ways that have met -/
theorem fin_aft {R : Type} {j : Join} {o : Out} {st : St} {h' : H} {x : X} {n : Nat} {k : Out → St → H → Option R} {r : R} (hx : fin j o st h' = some x) (e : aft j n k x = some r) (hn : NoRet o → n = st.len) :
    ∃ st'', k o st'' h' = some r ∧ (NoRet o → St.le st'' st) := by
  cases o with
  | normal =>
    simp [fin] at hx; subst hx
    simp only [aft, outc] at e
    obtain ⟨st', h1, h2⟩ := destr_coll (hn (by intro v h; cases h)) e
    exact ⟨st', h1, fun _ => h2⟩
  | exit id =>
    simp [fin] at hx; subst hx
    simp only [aft, outc] at e
    have e2 := exits_some _ e
    obtain ⟨st', h1, h2⟩ := destr_coll (hn (by intro v h; cases h)) e2
    exact ⟨st', h1, fun _ => h2⟩
  | ret v =>
    simp [fin] at hx; subst hx
    exact ⟨St.all 0 none, e, fun hh => absurd rfl (hh v)⟩

theorem OutOK.le {res : Option (Array ResultVar)} {a : Act} {st st' : St} {o : Out} (hk : OutOK P B res ι h a st o) (hl : NoRet o → St.le st' st) : OutOK P B res ι h a st' o := by
  cases o with
  | normal => exact TR.le hk (hl (by intro v h; cases h))
  | exit id => exact TR.le hk (hl (by intro v h; cases h))
  | ret v => exact hk
theorem GoodCode.le {res : Option (Array ResultVar)} {c : Code} {st st' st'' : St} {o : Out} (hg : GoodCode P B res c st h o st' h') (hl : NoRet o → St.le st'' st') : GoodCode P B res c st h o st'' h' := by
  intro F hF hr base ι w a ms Q hb s tr m hq
  exact hg F hF hr base ι w a ms Q hb s tr m fun ι' w' a' ms' x m' ok => hq ι' w' a' ms' x m' (ok.le hl)

theorem region_list (ops : Array Oper) : ((ops.toList.zipIdx.map fun x => (x.2, x.1)).map (·.1) = List.range ops.size) ∧ ∀ x ∈ (ops.toList.zipIdx.map fun x => (x.2, x.1)), ops[x.1]? = some x.2 := by
  constructor
  · simp [List.map_map, Function.comp_def, List.zipIdx_map_snd, List.range_eq_range']
  · intro x hx
    simp only [List.mem_map] at hx
    obtain ⟨⟨o, i⟩, hy, rfl⟩ := hx
    have := List.mem_zipIdx' hy
    simp [this.2]

def resOne (tmps : Array Value) : ResultVar → Sem Value
  | .tmp t => pure (tmps.getD t Go.undef)
  | .cell a t => do loadVar t (← asAddr (tmps.getD a Go.undef))
theorem resL_ok {R : Type} {st : St} : ∀ (rs : List ResultVar) (k : List SV → Option R) (r : R), resL P st h rs k = some r →
    ∃ vs, k vs = some r ∧ ∀ (ι : Inj) (tmps : Array Value), TR ι st tmps → ∀ w, Sim P B ι h w → ∃ vs' : List Value, (rs.mapM (resOne tmps)).run P w = .ok vs' w ∧ SRs ι vs vs' := by
  intro rs
  induction rs with
  | nil => intro k r e; exact ⟨[], e, fun ι tmps tr w s => ⟨[], rfl, .nil⟩⟩
  | cons x rs ih =>
    intro k r e
    cases x with
    | tmp t =>
      simp only [resL] at e
      split at e
      · rename_i v hv
        obtain ⟨vs, h1, h2⟩ := ih _ r e
        refine ⟨v :: vs, h1, fun ι tmps tr w s => ?_⟩
        obtain ⟨vs', h3, h4⟩ := h2 ι tmps tr w s
        have := TR.eval (a := ⟨tmps, []⟩) tr hv
        exact ⟨tmps.getD t Go.undef :: vs', by simp [List.mapM_cons, resOne, h3], .cons this h4⟩
      · simp at e
    | cell a t =>
      simp only [resL] at e
      obtain ⟨p, hp, e⟩ := v1_some e
      split at e
      · rename_i n ha hs
        obtain ⟨cs, hcs, e⟩ := bind_some' e
        obtain ⟨vs, h1, h2⟩ := ih _ r e
        refine ⟨_, h1, fun ι tmps tr w s => ?_⟩
        obtain ⟨vs', h3, h4⟩ := h2 ι tmps tr w s
        have hpv := TR.v (a := ⟨tmps, []⟩) tr hp
        obtain ⟨ad, cs', e1, e2, e3, e4⟩ := pldn_ok (P := P) s hpv hcs
        have e1' : tmps.getD a Go.undef = .pointer (some ad) := e1
        exact ⟨_ :: vs', by simp [List.mapM_cons, resOne, h3, e1', asAddr, loadVar, run_ag ha, run_sz hs, e3], .cons (.agg e4) h4⟩
      · rename_i n ha hs
        obtain ⟨v, hv, e⟩ := bind_some' e
        obtain ⟨vs, h1, h2⟩ := ih _ r e
        refine ⟨_, h1, fun ι tmps tr w s => ?_⟩
        obtain ⟨vs', h3, h4⟩ := h2 ι tmps tr w s
        have hpv := TR.v (a := ⟨tmps, []⟩) tr hp
        obtain ⟨ad, v', e1, e2, e3⟩ := pld_ok (P := P) s hpv hv
        have e1' : tmps.getD a Go.undef = .pointer (some ad) := e1
        exact ⟨_ :: vs', by simp [List.mapM_cons, resOne, h3, e1', asAddr, loadVar, run_ag ha, e2, -run_load], .cons (.one e3) h4⟩
      · simp at e
theorem resK_ok {R : Type} {st : St} {fd : Func} {k : SV → Option R} {r : R} (e : resK P st h fd.results.toList k = some r) :
    ∃ v, k v = some r ∧ ∀ (ι : Inj) (tmps : Array Value), TR ι st tmps → ∀ w, Sim P B ι h w → ∃ v', (results fd tmps).run P w = .ok v' w ∧ SR ι v v' := by
  unfold resK at e
  obtain ⟨vs, h1, h2⟩ := resL_ok (B := B) _ _ _ e
  have hres : ∀ (tmps : Array Value) (w : World) (vs' : List Value), (fd.results.toList.mapM (resOne tmps)).run P w = .ok vs' w → (results fd tmps).run P w = .ok (if hh : vs'.length = 1 then vs'[0] else .tuple ⟨vs'⟩) w := by
    intro tmps w vs' hv
    have : results fd tmps = (do let vs ← fd.results.mapM (resOne tmps); pure (if h : vs.size = 1 then vs[0] else .tuple vs)) := rfl
    rw [this, Array.mapM_eq_mapM_toList]
    simp only [Sem.run_bind, Sem.run_map, hv, Result.andThen_ok, Sem.run_pure]
    congr 1
  split at h1
  · rename_i v
    refine ⟨v, h1, fun ι tmps tr w s => ?_⟩
    obtain ⟨vs', h3, h4⟩ := h2 ι tmps tr w s
    cases h4 with
    | cons hv ht =>
      cases ht
      exact ⟨_, hres tmps w _ h3, hv⟩
  · rename_i hne
    refine ⟨_, h1, fun ι tmps tr w s => ?_⟩
    obtain ⟨vs', h3, h4⟩ := h2 ι tmps tr w s
    refine ⟨_, hres tmps w _ h3, ?_⟩
    rw [dif_neg]
    · exact .tup h4
    · intro hl
      have := h4.length
      rw [hl] at this
      obtain ⟨v, hv⟩ := List.length_eq_one_iff.1 this
      exact hne v hv
end Go.Wz
end
section
namespace Go.Wz
variable {B : Nat} {ι ι' : Inj} {h h' : H} {w w' : World} {P : Program}

theorem Sim.loopAt (s : Sim P B ι h w) {l : Nat} {L : Loc} (hL : ι l = some L) {st : LoopState} {p : Option Code} {f : FuncId} {tm : St} {ps : Array Tmp} {asg body : Code} {ga gb : Hint} (hg : h.get l = some (.loop st p f tm ps asg body ga gb)) :
    B ≤ L.cb ∧ ∃ r : Loop, w.heap[L.cb]? = some (.loop r) ∧ r.state = st ∧ r.pending = p ∧ r.params = ps ∧ r.assign = asg ∧ r.body = body ∧ TR ι tm r.tmps := by
  obtain ⟨L', e, hb⟩ := s.live l _ hg
  rw [hL] at e; cases e
  exact hb
/-- the record of a loop is written -/
theorem Sim.loopSet (s : Sim P B ι h w) {l : Nat} {L : Loc} (hL : ι l = some L) {st st' : LoopState} {p p' : Option Code} {f : FuncId} {tm : St} {ps : Array Tmp} {asg body : Code} {ga gb : Hint} (hg : h.get l = some (.loop st p f tm ps asg body ga gb)) :
    ∃ r : Loop, w.heap[L.cb]? = some (.loop r) ∧ r.state = st ∧ r.pending = p ∧ ∃ w', (setObj L.cb (.loop { r with state := st', pending := p' })).run P w = .ok () w' ∧ Ext P B ι h w ι (h.put l (some (.loop st' p' f tm ps asg body ga gb))) w' := by
  obtain ⟨hB, r, hr, h1, h2, h3, h4, h5, h6⟩ := s.loopAt hL hg
  refine ⟨r, hr, h1, h2, { w with heap := w.heap.setIfInBounds L.cb (.loop { r with state := st', pending := p' }) }, ?_, ?_⟩
  · simp only [setObj, Sem.run, hr]
  · have hlt := s.lt _ _ hL
    refine s.upd hg hL rfl rfl (.loop { r with state := st', pending := p' }) rfl rfl rfl rfl ⟨hB, { r with state := st', pending := p' }, ?_, rfl, rfl, h3, h4, h5, h6⟩
    simp [hlt]

theorem endL_some {R : Type} {l : Nat} {h : H} {kn : H → Option R} {ke : Nat → H → Option R} {kr : H → Option R} {r : R} (e : endL l h kn ke kr = some r) :
    ∃ st p f tm ps asg body ga gb, h.get l = some (.loop st p f tm ps asg body ga gb) ∧ st ≠ .busy ∧ ((p = none ∧ kn (h.put l none) = some r) ∨ (∃ id, p = some (.exit id) ∧ ke id (h.put l none) = some r) ∨ (p = some .ret ∧ kr (h.put l none) = some r)) := by
  unfold endL at e
  split at e
  · simp at e
  · rename_i hst hg
    exact ⟨_, _, _, _, _, _, _, _, _, hg, fun hh => by subst hh; simp_all, .inl ⟨rfl, e⟩⟩
  · rename_i hst hg
    exact ⟨_, _, _, _, _, _, _, _, _, hg, fun hh => by subst hh; simp_all, .inr (.inl ⟨_, rfl, e⟩)⟩
  · rename_i hst hg
    exact ⟨_, _, _, _, _, _, _, _, _, hg, fun hh => by subst hh; simp_all, .inr (.inr ⟨rfl, e⟩)⟩
  · simp at e

/-- a block that no abstract block is told of is made -/
theorem Sim.allocOther (s : Sim P B ι h w) (o : Obj) : Ext P B ι h w ι h (w.alloc o) := by
  refine ⟨Inj.le_refl _, ⟨by have := s.base; simp; omega, s.dom, fun b L e => by have := s.lt b L e; simp; omega, fun b y e => ?_, s.sep⟩, Nat.le_refl _, by simp, fun cb hcb _ => heap_alloc_lt hcb, fun b y L e i hw => .inr ⟨b, y, L, e, i, hw, rfl⟩, fun b y L e _ _ _ => e, fun _ _ => rfl, rfl, rfl, rfl⟩
  obtain ⟨L, a, c⟩ := s.live b y e
  exact ⟨L, a, c.keep (Inj.le_refl _) (heap_alloc_lt (s.lt b L a))⟩
theorem H.put_put (h : H) (l : Nat) (x y : Option Blk) : (h.put l x).put l y = h.put l y := by
  unfold H.put
  congr 1
  funext i
  by_cases hi : i = l <;> simp [hi]

theorem NoRet.normal : NoRet .normal := by intro v h; cases h
theorem NoRet.exit (id : Nat) : NoRet (.exit id) := by intro v h; cases h

set_option maxHeartbeats 1000000 in
theorem exec_ok (hmix : P.follows .mixedOrders = true) {call : CallT} (hc : CallOK P B call) (N : Nat) (res : Option (Array ResultVar)) : ∀ (c : Code) (g : Hint) (st : St) (h : H) {R : Type} (k : Out → St → H → Option R) (r : R), exec P call N res c g st h k = some r →
    ∃ o st' h', k o st' h' = some r ∧ (NoRet o → st'.len = st.len) ∧ GoodCode P B res c st h o st' h' := by
  intro c
  induction c with
  | skip =>
    intro g st h R k r e
    exact ⟨.normal, st, h, e, fun _ => rfl, fun F hF _ base ι w a ms Q hb s tr m hq => wpIn_skip (hq ι w a ms (.refl s) m tr)⟩
  | region id ops draw =>
    intro g st h R k r e
    unfold exec at e
    split at e
    · rename_i hd
      subst hd
      obtain ⟨st', h', e1, hl, g2⟩ := drawK_ok hmix hc e
      refine ⟨.normal, st', h', e1, fun _ => hl, fun F hF _ base ι w a ms Q hb s tr m hq => ?_⟩
      exact g2 F hF ι w a Q id s tr fun ι' w' a' x tr' hd' => hq ι' w' a' ms x (m.ext s x hd') tr'
    · rename_i hd
      have hdf : draw = false := by simpa using hd
      subst hdf
      obtain ⟨hidx, hall⟩ := region_list ops
      obtain ⟨st', h', e1, hl, g2⟩ := opsK_ok hc ops _ none _ st h _ r hall (fun j w hh => by cases hh) e
      refine ⟨.normal, st', h', e1, fun _ => hl, fun F hF _ base ι w a ms Q hb s tr m hq => ?_⟩
      refine wpIn_region ?_
      have := g2 F hF ι w a [] Q s tr (fun j w hh => by cases hh) fun ι' w' a' x tr' sm => hq ι' w' a' ms x (m.ext s x sm.2.1) tr'
      rw [hidx, List.append_nil] at this
      exact this
  | seq x y ihx ihy =>
    intro g st h R k r e
    unfold exec at e
    obtain ⟨o, st1, h1, e1, hl1, g1⟩ := ihx _ _ _ _ _ e
    cases o with
    | normal =>
      obtain ⟨o2, st2, h2, e2, hl2, g2⟩ := ihy _ _ _ _ _ e1
      refine ⟨o2, st2, h2, e2, fun hn => (hl2 hn).trans (hl1 .normal), fun F hF hr base ι w a ms Q hb s tr m hq => ?_⟩
      refine wpIn_seq (g1 F hF hr base ι w a ms _ hb s tr m fun ι' w' a' ms' x m' ok => ?_)
      exact g2 F hF hr base ι' w' a' ms' Q (Nat.le_trans hb x.size) x.sim ok m' fun ι2 w2 a2 ms2 x2 m2 ok2 => hq ι2 w2 a2 ms2 (x.trans x2) m2 ok2
    | exit id =>
      exact ⟨.exit id, st1, h1, e1, hl1, fun F hF hr base ι w a ms Q hb s tr m hq => wpIn_seq (g1 F hF hr base ι w a ms _ hb s tr m hq)⟩
    | ret v =>
      exact ⟨.ret v, st1, h1, e1, hl1, fun F hF hr base ι w a ms Q hb s tr m hq => wpIn_seq (g1 F hF hr base ι w a ms _ hb s tr m hq)⟩
  | cond c x y ihx ihy =>
    intro g st h R k r e
    unfold exec at e
    -- one branch
    have key : ∀ {R : Type} (k : Out → St → H → Option R) (r : R) (cv : Value), evO st c = some (.one cv) → condV cv (exec P call N res x (hl1 g) st h k) (exec P call N res y (hl2 g) st h k) = some r →
        ∃ o st' h', k o st' h' = some r ∧ (NoRet o → st'.len = st.len) ∧ GoodCode P B res (.cond c x y) st h o st' h' := by
      intro R k r cv hcv e
      unfold condV at e
      split at e
      · rename_i t
        have hev : ∀ {ι : Inj} {a : Act}, TR ι st a.tmps → a.eval c = .bool t := by
          intro ι a tr; have := tr.v hcv; generalize a.eval c = q at this; cases this; rfl
        split at e
        · rename_i ht
          obtain ⟨o, st', h', e1, hl, g1⟩ := ihx _ _ _ _ _ e
          refine ⟨o, st', h', e1, hl, fun F hF hr base ι w a ms Q hb s tr m hq => wpIn_cond (hev tr) ?_⟩
          rw [if_pos ht]; exact g1 F hF hr base ι w a ms Q hb s tr m hq
        · rename_i ht
          obtain ⟨o, st', h', e1, hl, g1⟩ := ihy _ _ _ _ _ e
          refine ⟨o, st', h', e1, hl, fun F hF hr base ι w a ms Q hb s tr m hq => wpIn_cond (hev tr) ?_⟩
          rw [if_neg ht]; exact g1 F hF hr base ι w a ms Q hb s tr m hq
      · simp at e
    split at e
    · obtain ⟨cv, hcv, e⟩ := v1_some e
      exact key k r cv hcv e
    · rename_i j _
      obtain ⟨cv, hcv, e⟩ := v1_some e
      obtain ⟨x1, e1, e2⟩ := bind_some' e
      obtain ⟨o, st', h', e3, hl, g1⟩ := key (fin j) x1 cv hcv e1
      obtain ⟨st'', e4, hle⟩ := fin_aft e3 e2 (fun hn => (hl hn).symm)
      exact ⟨o, st'', h', e4, fun hn => (hle hn).1.trans (hl hn), g1.le hle⟩
  | block id c ih =>
    intro g st h R k r e
    unfold exec at e
    have key : ∀ {R : Type} (k : Out → St → H → Option R) (r : R), (exec P call N res c (hl1 g) st h fun o st h => (match o with
        | .normal => k .normal st h
        | .exit i => if i = id then k .normal st h else k (.exit i) st h
        | .ret v => k (.ret v) st h)) = some r → ∃ o st' h', k o st' h' = some r ∧ (NoRet o → st'.len = st.len) ∧ GoodCode P B res (.block id c) st h o st' h' := by
      intro R k r e
      obtain ⟨o, st', h', e1, hl, g1⟩ := ih _ _ _ _ _ e
      cases o with
      | normal => exact ⟨.normal, st', h', e1, fun _ => hl .normal, fun F hF hr base ι w a ms Q hb s tr m hq => wpIn_block (g1 F hF hr base ι w a ms _ hb s tr m hq)⟩
      | exit i =>
        simp only at e1
        split at e1
        · rename_i hi; subst hi
          refine ⟨.normal, st', h', e1, fun _ => hl (.exit _), fun F hF hr base ι w a ms Q hb s tr m hq => wpIn_block (g1 F hF hr base ι w a ms _ hb s tr m fun ι' w' a' ms' x m' ok => ?_)⟩
          simp only [exitOf, Exit.inBlock, if_true]
          exact hq ι' w' a' ms' x m' ok
        · rename_i hi
          refine ⟨.exit i, st', h', e1, fun _ => hl (.exit _), fun F hF hr base ι w a ms Q hb s tr m hq => wpIn_block (g1 F hF hr base ι w a ms _ hb s tr m fun ι' w' a' ms' x m' ok => ?_)⟩
          simp only [exitOf, Exit.inBlock, if_neg hi]
          exact hq ι' w' a' ms' x m' ok
      | ret v => exact ⟨.ret v, st', h', e1, fun hn => absurd rfl (hn v), fun F hF hr base ι w a ms Q hb s tr m hq => wpIn_block (g1 F hF hr base ι w a ms _ hb s tr m hq)⟩
    split at e
    · exact key k r e
    · rename_i j _
      obtain ⟨x1, e1, e2⟩ := bind_some' e
      obtain ⟨o, st', h', e3, hl, g1⟩ := key (fin j) x1 e1
      obtain ⟨st'', e4, hle⟩ := fin_aft e3 e2 (fun hn => (hl hn).symm)
      exact ⟨o, st'', h', e4, fun hn => (hle hn).1.trans (hl hn), g1.le hle⟩
  | loop c ih =>
    intro g st h R k r e
    unfold exec at e
    split at e
    · rename_i ki j ga
      obtain ⟨x1, e1, e2⟩ := bind_some' e
      -- the rounds
      have key : ∀ (n m : Nat) (st : St) (h : H) (x : X), n = st.len → loopIt (fun st h k => exec P call N res c ga st h k) ki j n m (coll st ki) h = some x →
          ∃ o st' h', fin j o st' h' = some x ∧ (NoRet o → st'.len = st.len) ∧ o ≠ .normal ∧
            ∀ (F : Fence), Wide F → (res.isSome = true → F.round = none) → ∀ (base : Nat) (ι : Inj) (w : World) (a : Act) (ms : List Nat) (Q : Exit → Act → World → Prop), base ≤ w.heap.size → Sim P B ι h w → TR ι st a.tmps → MK base ms ι h w a →
              (∀ ι' w' a' ms', Ext P B ι h w ι' h' w' → MK base ms' ι' h' w' a' → OutOK P B res ι' h' a' st' o → Q (exitOf o) a' w') → Code.roundsIn F 0 P c Q m a w := by
        intro n m
        induction m with
        | zero => intro st h x _ e; simp [loopIt] at e
        | succ m ihm =>
          intro st h x hn e
          unfold loopIt at e
          obtain ⟨st0, e3, hle0⟩ := destr_coll hn e
          obtain ⟨o, st1, h1, e4, hl1, g1⟩ := ih _ _ _ _ _ e3
          cases o with
          | normal =>
            simp only at e4
            obtain ⟨o2, st2, h2, e5, hl2, hnn, g2⟩ := ihm st1 h1 x (by rw [hl1 .normal, hle0.1, hn]) e4
            refine ⟨o2, st2, h2, e5, fun hh => by rw [hl2 hh, hl1 .normal, hle0.1], hnn, fun F hF hr base ι w a ms Q hb s tr mm hq => ?_⟩
            rw [roundsIn_succ]
            refine g1 F hF hr base ι w a ms _ hb s (tr.le hle0) mm fun ι' w' a' ms' x' m' ok => ?_
            exact g2 F hF hr base ι' w' a' ms' Q (Nat.le_trans hb x'.size) x'.sim ok m' fun ι2 w2 a2 ms2 x2 m2 ok2 => hq ι2 w2 a2 ms2 (x'.trans x2) m2 ok2
          | exit id =>
            refine ⟨.exit id, st1, h1, e4, fun hh => by rw [hl1 hh, hle0.1], by simp, fun F hF hr base ι w a ms Q hb s tr mm hq => ?_⟩
            rw [roundsIn_succ]
            exact g1 F hF hr base ι w a ms _ hb s (tr.le hle0) mm hq
          | ret v =>
            refine ⟨.ret v, st1, h1, e4, fun hh => absurd rfl (hh v), by simp, fun F hF hr base ι w a ms Q hb s tr mm hq => ?_⟩
            rw [roundsIn_succ]
            exact g1 F hF hr base ι w a ms _ hb s (tr.le hle0) mm hq
      obtain ⟨o, st', h', e3, hl, _, g1⟩ := key st.len N st h x1 rfl e1
      obtain ⟨st'', e4, hle⟩ := fin_aft e3 e2 (fun hn => (hl hn).symm)
      refine ⟨o, st'', h', e4, fun hn => (hle hn).1.trans (hl hn), fun F hF hr base ι w a ms Q hb s tr m hq => wpIn_loop_rounds N (g1 F hF hr base ι w a ms Q hb s tr m fun ι' w' a' ms' x m' ok => hq ι' w' a' ms' x m' (ok.le hle))⟩
    · simp at e
  | rangeFunc f ps asg body iha ihb =>
    intro g st h R k r e
    unfold exec at e
    split at e
    · simp at e
    · rename_i rs
      obtain ⟨fv, hfv, e⟩ := v1_some e
      obtain ⟨⟨v0, h2⟩, hcall, e⟩ := bind_some' e
      obtain ⟨sx, p, f0, tm, ps', asg', body', ga, gb, hg, hnb, hcase⟩ := endL_some e
      simp only at hg hcase
      unfold callG at hcall
      split at hcall
      · rename_i g0 first cap
        -- the walk, up to the way it goes on
        have walk : ∀ (F : Fence), Wide F → F.round = none → ∀ (base : Nat) (ι : Inj) (w : World) (a : Act) (ms : List Nat) (Q : Exit → Act → World → Prop), base ≤ w.heap.size → Sim P B ι h w → TR ι st a.tmps → MK base ms ι h w a →
            (∀ ι' w' a' ms', Ext P B ι h w ι' (h2.put h.next none) w' → MK base ms' ι' (h2.put h.next none) w' a' → TR ι' st a'.tmps →
              (match p with | none => Q .normal a' w' | some c => c.wpIn F 0 P Q a' w')) → (Code.rangeFunc f ps asg body).wpIn F 0 P Q a w := by
          intro F hF hro base ι w a ms Q hb s tr m hq
          refine wpIn_rangeFunc fun fn _ => ?_
          -- the two new blocks
          have xa := s.allocOther (.deferred (some []))
          let lp : Loop := { state := .ready, pending := none, fn := fn, tmps := a.tmps, params := ps, assign := asg, body := body, defers := w.heap.size }
          have hle := Inj.le_add (L := ⟨w.heap.size + 1, 0, 0, 0⟩) (s.dom h.next (Nat.le_refl _))
          have xb := xa.sim.new (.loop .ready none 0 st ps asg body (hl1 g) (hl2 g)) (.loop lp) ⟨w.heap.size + 1, 0, 0, 0⟩ (by simp)
            ⟨by have := s.base; simp; omega, lp, by
              have := heap_alloc_at (w := w.alloc (.deferred (some []))) (o := .loop lp)
              simpa using this, rfl, rfl, rfl, rfl, rfl, tr.mono hle⟩
          have hfv' := tr.v hfv
          generalize hgf : a.eval f = gf at hfv'
          cases hfv' with
          | func _ hx hy =>
            rename_i xs ys xs' ys'
            have hargs : SRs (ι.add h.next ⟨w.heap.size + 1, 0, 0, 0⟩) (xs.map .one ++ [.one (.func (.yield h.next) #[] #[])] ++ ys.map .one) (xs' ++ [.func (.yield (w.heap.size + 1)) #[] #[]] ++ ys') :=
              ((SRs.ones (hx.mono hle)).append (.cons (.one (.yield (L := ⟨w.heap.size + 1, 0, 0, 0⟩) Inj.add_same)) .nil)).append (SRs.ones (hy.mono hle))
            obtain ⟨q1, q2⟩ := hc _ _ _ _ _ hcall F hF _ _ _ xb.sim hargs
            refine ⟨w.heap.size + 1, [mk w.heap.size], (w.alloc (.deferred (some []))).alloc (.loop lp), { target := .fn (.func g0) ⟨ys'⟩, args := (⟨xs'⟩ : Array Value) ++ #[.func (.yield (w.heap.size + 1)) #[] #[]] }, (w.alloc (.deferred (some []))).alloc (.loop lp), g0, _, _, ?_, ?_, fun f' _ => hF.fn f', ?_, by simp [hF.depth], q2.mono ?_⟩
            · rw [hro]
              simp only [Instr.enterLoop, Sem.run_bind, run_newObj, Result.andThen_ok, Sem.run_pure, mk]
              have hs : (w.heap.push (Obj.deferred (some []))).size = w.heap.size + 1 := by simp
              rw [hs]; rfl
            · simp only [resolve, hgf, Deferred.ofValue]
              simp [Act.eval]
            · have e1 : (⟨xs'⟩ : Array Value) ++ #[.func (.yield (w.heap.size + 1)) #[] #[]] ++ ⟨ys'⟩ = ⟨xs' ++ [.func (.yield (w.heap.size + 1)) #[] #[]] ++ ys'⟩ := by
                apply Array.ext'; simp
              rw [← q1, ← e1]
              simp [invoke, Act.eval]
            · rintro e' w3 ⟨x3, ι3, rfl, p1, p2⟩
              have hL3 : ι3 h.next = some ⟨w.heap.size + 1, 0, 0, 0⟩ := p1.le _ _ Inj.add_same
              obtain ⟨lr, hr1, hr2, hr3, w4, hr4, x4⟩ := p1.sim.loopSet (P := P) (st' := .exhausted) (p' := p) hL3 hg
              have x5 := x4.sim.kill h.next
              rw [H.put_put] at x5
              have xall := ((xa.trans xb).trans p1).trans (x4.trans x5)
              -- the marks
              have m1 : MK base (w.heap.size :: ms) (ι.add h.next ⟨w.heap.size + 1, 0, 0, 0⟩) (h.new (.loop .ready none 0 st ps asg body (hl1 g) (hl2 g))) ((w.alloc (.deferred (some []))).alloc (.loop lp)) { a with defers := [mk w.heap.size] ++ a.defers } := by
                refine ⟨by simp [m.defers], List.nodup_cons.2 ⟨fun hm => by have := (m.at_ _ hm).2.1; omega, m.nodup⟩, fun r hr => ?_⟩
                rcases List.mem_cons.1 hr with rfl | hr
                · refine ⟨hb, by simp; omega, ?_⟩
                  rw [heap_alloc_lt (by simp)]
                  exact heap_alloc_at
                · obtain ⟨u1, u2, u3⟩ := m.at_ r hr
                  refine ⟨u1, by simp; omega, ?_⟩
                  rw [heap_alloc_lt (by simp; omega), heap_alloc_lt u2]; exact u3
              have m2 := m1.ext xb.sim (p1.trans (x4.trans x5)) (a' := { a with defers := [mk w.heap.size] ++ a.defers }) rfl
              refine ⟨p, w4, ?_, ?_⟩
              · have hset : ({ lr with state := .exhausted } : Loop) = { lr with state := .exhausted, pending := p } := by rw [← hr3]
                have hget : (getObj (w.heap.size + 1)).run P w3 = .ok (.loop lr) w3 := by simp [getObj, Sem.run, hr1]
                have hnb' : (lr.state == .busy) = false := by rw [hr2]; simpa using hnb
                simp only [Instr.endLoop, Instr.getLoop, Sem.run_bind, hget, Result.andThen_ok, Sem.run_pure, hnb']
                rw [hset, hr3]
                simp only [Bool.false_eq_true, if_false, Sem.run_bind, Sem.run_pure, Result.andThen_ok]
                first
                  | (rw [hr4]; rfl)
                  | simp [hr4]
              · have hqq := hq _ _ _ _ xall m2 (tr.mono xall.le)
                cases p <;> exact hqq
        rcases hcase with ⟨rfl, hk⟩ | ⟨id, rfl, hk⟩ | ⟨rfl, hk⟩
        · exact ⟨.normal, st, _, hk, fun _ => rfl, fun F hF hr base ι w a ms Q hb s tr m hq => walk F hF (hr rfl) base ι w a ms Q hb s tr m fun ι' w' a' ms' x m' t' => hq ι' w' a' ms' x m' t'⟩
        · exact ⟨.exit id, st, _, hk, fun _ => rfl, fun F hF hr base ι w a ms Q hb s tr m hq => walk F hF (hr rfl) base ι w a ms Q hb s tr m fun ι' w' a' ms' x m' t' => wpIn_exit (hq ι' w' a' ms' x m' t')⟩
        · obtain ⟨v, e1, h3⟩ := resK_ok (P := P) (B := B) (fd := { (default : Func) with results := rs }) hk
          refine ⟨.ret v, st, _, e1, fun hh => absurd rfl (hh _), fun F hF hr base ι w a ms Q hb s tr m hq => walk F hF (hr rfl) base ι w a ms Q hb s tr m fun ι' w' a' ms' x m' t' => wpIn_ret (hq ι' w' a' ms' x m' (fun fd hh w2 s2 => ?_))⟩
          cases hh
          exact h3 ι' a'.tmps t' w2 s2
      · simp at hcall
  | exit id =>
    intro g st h R k r e
    exact ⟨.exit id, st, h, e, fun _ => rfl, fun F hF _ base ι w a ms Q hb s tr m hq => wpIn_exit (hq ι w a ms (.refl s) m tr)⟩
  | scope c ih => intro g st h R k r e; simp [exec] at e
  | label l => intro g st h R k r e; simp [exec] at e
  | goto l => intro g st h R k r e; simp [exec] at e
  | ret =>
    intro g st h R k r e
    unfold exec at e
    cases hres : res with
    | none =>
      rw [hres] at e
      exact ⟨.ret .undef, st, h, e, fun hh => absurd rfl (hh _), fun F hF _ base ι w a ms Q hb s tr m hq => wpIn_ret (hq ι w a ms (.refl s) m (fun fd hh => by cases hh))⟩
    | some rs =>
      rw [hres] at e
      obtain ⟨v, e1, h2⟩ := resK_ok (P := P) (B := B) (fd := { (default : Func) with results := rs }) e
      refine ⟨.ret v, st, h, e1, fun hh => absurd rfl (hh _), fun F hF _ base ι w a ms Q hb s tr m hq => wpIn_ret (hq ι w a ms (.refl s) m (fun fd hh w2 s2 => ?_))⟩
      cases hh
      exact h2 ι a.tmps tr w2 s2
  | refuse w => intro g st h R k r e; simp [exec] at e
end Go.Wz
end
section
namespace Go.Wz
variable {B : Nat} {ι ι' : Inj} {h h' : H} {w w' : World} {P : Program}

def NamesOK (P : Program) : Prop := ∀ (f : FuncId) (fd : Func), P.funcs[f]? = some fd → fd.body.isSome = true → (fd.name == "runtime.NumGoroutine") = false

theorem leaves {F : Fence} {fd : Func} {tmps : Array Value} {ι0 : Inj} {h0 : H} {w0 : World} {v : SV} (hres : ∀ w2, Sim P B ι' h' w2 → ∃ v', (results fd tmps).run P w2 = .ok v' w2 ∧ SR ι' v v') :
    ∀ (ms : List Nat) (w' : World), Ext P B ι0 h0 w0 ι' h' w' → ms.Nodup → (∀ r ∈ ms, w0.heap.size ≤ r ∧ r < w'.heap.size ∧ w'.heap[r]? = some (.deferred (some []))) →
      LeavesInM F 0 P fd tmps (CallPost P B ι0 h0 w0 v h') (ms.map mk) .returning w' := by
  intro ms
  induction ms with
  | nil =>
    intro w' x _ _
    obtain ⟨v', h1, h2⟩ := hres w' x.sim
    exact ⟨v', h1, v', ι', rfl, x, h2⟩
  | cons r ms ih =>
    intro w' x hnd hat
    obtain ⟨h1, h2, h3⟩ := hat r (by simp)
    have hnd' := List.nodup_cons.1 hnd
    refine ⟨by simp, .inl ⟨r, { w' with heap := w'.heap.setIfInBounds r (.deferred none) }, rfl, ?_, ?_⟩⟩
    · simp only [Instr.takeDeferred, Sem.run_bind, getObj, setObj, Sem.run, h3, Result.andThen_ok]
      rfl
    · refine ih _ (x.other h1 h3 (ds' := none) rfl rfl rfl rfl) hnd'.2 fun r2 hr2 => ?_
      obtain ⟨u1, u2, u3⟩ := hat r2 (by simp [hr2])
      have hne : r ≠ r2 := fun hh => hnd'.1 (hh ▸ hr2)
      exact ⟨u1, by simpa using u2, by simpa [hne] using u3⟩

theorem setA_len : ∀ (l : List SV) (st : St) (i : Nat), (setA st i l).len = st.len
  | [], _, _ => rfl
  | x :: l, st, i => by rw [setA, setA_len l, St.set_len]
theorem setA_get : ∀ (l : List SV) (st : St) (i t : Nat), i + l.length ≤ st.len → (setA st i l).get t = if i ≤ t ∧ t < i + l.length then l[t - i]? else st.get t
  | [], st, i, t, _ => by simp only [setA, List.length_nil]; rw [if_neg (by omega)]
  | x :: l, st, i, t, h => by
    simp only [List.length_cons] at h ⊢
    rw [setA, setA_get l _ _ _ (by rw [St.set_len]; omega), St.get_set]
    by_cases h1 : t = i
    · subst h1
      rw [if_neg (by omega), if_pos ⟨rfl, by omega⟩, if_pos (by omega)]; simp
    · by_cases h2 : i + 1 ≤ t ∧ t < i + 1 + l.length
      · rw [if_pos h2, if_pos (by omega), show t - i = (t - (i + 1)) + 1 by omega]; simp
      · rw [if_neg h2, if_neg (by omega), if_neg (by omega)]
theorem TR.init {args : List SV} {args' : List Value} (ha : SRs ι args args') (n : Nat) : TR ι (setA (St.all (max args.length n) (some .undef)) 0 args) ((⟨args'⟩ : Array Value) ++ Array.replicate (n - (⟨args'⟩ : Array Value).size) Go.undef) := by
  have hl := ha.length
  refine ⟨?_, fun i sv e => ?_⟩
  · rw [setA_len, St.all_len]; simp; omega
  rw [setA_get _ _ _ _ (by rw [St.all_len]; omega)] at e
  split at e
  · rename_i hc
    obtain ⟨v', h1, h2⟩ := ha.get i (by simpa using e)
    rw [Array.getD_eq_getD_getElem?, Array.getElem?_append_left (by simp; omega)]
    rw [show (⟨args'⟩ : Array Value)[i]? = some v' by simpa using h1]
    exact h2
  · rename_i hc
    rw [St.all_get] at e
    cases e
    rw [Array.getD_eq_getD_getElem?, Array.getElem?_append_right (by simp; omega), Array.getElem?_replicate]
    split <;> exact .undef

theorem setPs_ok : ∀ (l : List (Tmp × SV)) (l' : List (Tmp × Value)) (st : St) (tmps : Array Value), TR ι st tmps → l.map (·.1) = l'.map (·.1) → SRs ι (l.map (·.2)) (l'.map (·.2)) →
    TR ι (setPs st l) (l'.foldl (fun tmps (p : Tmp × Value) => tmps.setIfInBounds p.1 p.2) tmps)
  | [], l', st, tmps, tr, h1, _ => by
    cases l' with
    | nil => exact tr
    | cons => simp at h1
  | (t, v) :: l, l', st, tmps, tr, h1, h2 => by
    cases l' with
    | nil => simp at h1
    | cons p l' =>
      obtain ⟨t', v'⟩ := p
      simp at h1
      obtain ⟨rfl, h1⟩ := h1
      simp only [List.map_cons] at h2
      cases h2 with
      | cons hv ht => exact setPs_ok l l' _ _ (tr.set t hv) (by simpa using h1) ht

theorem endR_some {l : Nat} {jump : Option Code} {h h' : H} {v : SV} (e : endR l jump h = some (v, h')) :
    ∃ st p f tm ps asg body ga gb, h.get l = some (.loop st p f tm ps asg body ga gb) ∧ v = .one (.bool jump.isNone) ∧ h' = h.put l (some (.loop (if jump.isNone = true then .ready else .done) jump f tm ps asg body ga gb)) := by
  unfold endR at e
  split at e
  · rename_i hg
    simp only [Option.some.injEq, Prod.mk.injEq] at e
    exact ⟨_, _, _, _, _, _, _, _, _, hg, e.1.symm, e.2.symm⟩
  · simp at e
theorem begR_some {R : Type} {l : Nat} {h : H} {k : H → Option R} {r : R} (e : begR l h k = some r) :
    ∃ p f tm ps asg body ga gb, h.get l = some (.loop .ready p f tm ps asg body ga gb) ∧ k (h.put l (some (.loop .busy p f tm ps asg body ga gb))) = some r := by
  unfold begR at e
  split at e
  · rename_i hg; exact ⟨_, _, _, _, _, _, _, _, hg, e⟩
  · simp at e

theorem round_end {l : Nat} {L : Loc} {jump : Option Code} {v : SV} (s : Sim P B ι h w) (hL : ι l = some L) (e : endR l jump h = some (v, h')) :
    ∃ w', (Instr.endRound L.cb jump).run P w = .ok (.bool jump.isNone) w' ∧ Ext P B ι h w ι h' w' ∧ v = .one (.bool jump.isNone) := by
  obtain ⟨st, p, f, tm, ps, asg, body, ga, gb, hg, rfl, rfl⟩ := endR_some e
  obtain ⟨r, h1, h2, h3, w', h4, h5⟩ := s.loopSet (P := P) (st' := if jump.isNone = true then .ready else .done) (p' := jump) hL hg
  refine ⟨w', ?_, h5, rfl⟩
  have hget : (getObj L.cb).run P w = .ok (.loop r) w := by simp [getObj, Sem.run, h1]
  simp only [Instr.endRound, Instr.getLoop, Sem.run_bind, hget, Result.andThen_ok, Sem.run_pure]
  rw [h4]
  rfl

theorem Fence.eta {F : Fence} {l : Nat} (h : F.round = some l) : F = ({ F with round := none } : Fence).inRound l := by
  cases F; simp at h; subst h; rfl

/-- a function's body, its calls by 'call' -/
noncomputable def execF (P : Program) (call : CallT) (hints : FuncId → Hint) (N : Nat) (f : FuncId) (args : List SV) (h : H) : Option (SV × H) :=
  match P.funcs[f]? with
      | some fd => (match fd.body with
        | some c => exec P call N (some fd.results) c (hints f) (setA (St.all (max args.length fd.ntmps) (some .undef)) 0 args) h fun o st h => (match o with
          | .ret v => some (v, h)
          | .normal => resK P st h fd.results.toList fun v => some (v, h)
          | .exit _ => none)
        | none => none)
      | none => none
theorem execF_ok (hn : NamesOK P) (hmix : P.follows .mixedOrders = true) (hints : FuncId → Hint) (N : Nat) {call : CallT} (ih : CallOK P B call) {f : FuncId} {args : List SV} {h : H} {v : SV} {h' : H}
    (e : execF P call hints N f args h = some (v, h')) (F : Fence) (hF : Wide F) (ι : Inj) (w : World) (args' : List Value) (s : Sim P B ι h w) (ha : SRs ι args args') :
    (callFunc f ⟨args'⟩).run P w = .ok (.enter f ⟨args'⟩) w ∧ CallsIn F 0 P f ⟨args'⟩ w (CallPost P B ι h w v h') := by
  unfold execF at e
  split at e
  · rename_i fd hfd
    split at e
    · rename_i c hc
      obtain ⟨o, st', h1, e1, _, g1⟩ := exec_ok hmix ih N _ c _ _ _ _ _ e
      have hrun : (callFunc f ⟨args'⟩).run P w = .ok (.enter f ⟨args'⟩) w := by
        have hnm := hn f fd hfd (by simp [hc])
        have hnm' : ¬ (fd.name = "runtime.NumGoroutine") := by simpa using hnm
        simp [callFunc, hfd, hnm', hc]
      refine ⟨hrun, ?_⟩
      -- with no round around
      have main : ∀ F0 : Fence, Wide F0 → F0.round = none → CallsIn F0 0 P f ⟨args'⟩ w (CallPost P B ι h w v h') := by
        intro F0 hF0 hro
        refine callsIn_of_wp_marks hfd hc (hF0.fn f) ?_ hro
        refine g1 F0 hF0 (fun _ => hro) w.heap.size ι w _ [] _ (Nat.le_refl _) s (TR.init ha fd.ntmps) ⟨rfl, List.nodup_nil, by simp⟩ fun ι' w' a' ms' x m ok => ?_
        have hres : ∃ hr : (∀ w2, Sim P B ι' h' w2 → ∃ v', (results fd a'.tmps).run P w2 = .ok v' w2 ∧ SR ι' v v'), h1 = h' ∧ (o = .normal ∨ ∃ v, o = .ret v) := by
          cases o with
          | normal =>
            obtain ⟨v2, e2, h3⟩ := resK_ok (P := P) (B := B) e1
            simp at e2
            obtain ⟨rfl, rfl⟩ := e2
            exact ⟨fun w2 s2 => h3 ι' a'.tmps ok w2 s2, rfl, .inl rfl⟩
          | exit id => simp at e1
          | ret v2 =>
            simp at e1
            obtain ⟨rfl, rfl⟩ := e1
            exact ⟨fun w2 s2 => ok fd rfl w2 s2, rfl, .inr ⟨_, rfl⟩⟩
        obtain ⟨hr, rfl, ho⟩ := hres
        have hl := leaves (F := F0) hr ms' w' x m.nodup m.at_
        rw [← m.defers] at hl
        rcases ho with rfl | ⟨v2, rfl⟩ <;> exact hl
      cases hro : F.round with
      | none => exact main F hF hro
      | some l =>
        rw [Fence.eta hro]
        exact (main { F with round := none } ⟨hF.fn, hF.depth⟩ rfl).inRound l
    · simp at e
  · simp at e

/-- functions by their bodies, and rounds of loops over functions, over 'call' -/
noncomputable def stepY (P : Program) (call : CallT) (hints : FuncId → Hint) (N : Nat) : CallT := fun fn args h =>
  match fn with
  | .func f => execF P call hints N f args h
  | .yield l => (match h.get l with
      | some (.loop .ready pend f st ps asg body ga gb) => if args.length = ps.size then
          exec P call N none asg ga (setPs st (ps.toList.zip args)) h fun o st1 h => (match o with
          | .normal => begR l h fun h => exec P call N none body gb st1 h fun o _ h => (match o with
            | .normal => endR l none h
            | .exit id => endR l (some (.exit id)) h
            | .ret _ => endR l (some .ret) h)
          | _ => none)
        else none
      | _ => none)
  | _ => none
set_option maxHeartbeats 1000000 in
theorem stepY_ok (hn : NamesOK P) (hmix : P.follows .mixedOrders = true) (hints : FuncId → Hint) (N : Nat) {call : CallT} (ih : CallOK P B call) : CallOK P B (stepY P call hints N) := by
    intro fn args h v h' e F hF ι w args' s ha
    unfold stepY at e
    cases fn with
    | func f =>
      simp only at e
      exact execF_ok hn hmix hints N ih e F hF ι w args' s ha
    | yield l =>
      simp only at e
      split at e
      · rename_i pend f st ps asg body ga gb hg
        split at e
        · rename_i hlen
          intro L hL
          obtain ⟨hB, r, hr, h1, h2, h3, h4, h5, h6⟩ := s.loopAt hL hg
          obtain ⟨o, st1, h7, e1, _, g1⟩ := exec_ok hmix ih N _ asg _ _ _ _ _ e
          have hal := ha.length
          refine ⟨r.fn, (r.params.zip ⟨args'⟩).foldl (fun tmps (p : Tmp × Value) => tmps.setIfInBounds p.1 p.2) r.tmps, r.assign, r.body, ?_, ?_⟩
          · have hget : (getObj L.cb).run P w = .ok (.loop r) w := by simp [getObj, Sem.run, hr]
            have hsz : ¬ ((⟨args'⟩ : Array Value).size ≠ r.params.size) := by rw [h3]; simp; omega
            simp only [Instr.yield, Instr.getLoop, Sem.run_bind, hget, Result.andThen_ok, Sem.run_pure]
            rw [if_neg hsz]
            rfl
          · cases o with
            | normal =>
              simp only at e1
              obtain ⟨p2, f2, tm2, ps2, asg2, body2, ga2, gb2, hg2, e2⟩ := begR_some e1
              obtain ⟨o2, st2, h8, e3, _, g2⟩ := exec_ok hmix ih N _ body _ _ _ _ _ e2
              refine roundIn_of_wpIn (hF.fn _) ?_
              have hFr : Wide (F.inRound L.cb) := ⟨hF.fn, hF.depth⟩
              rw [h4]
              have htr : TR ι (setPs st (ps.toList.zip args)) ((r.params.zip ⟨args'⟩).foldl (fun tmps (p : Tmp × Value) => tmps.setIfInBounds p.1 p.2) r.tmps) := by
                have := setPs_ok (ι := ι) (ps.toList.zip args) (ps.toList.zip args') st r.tmps h6
                  (by rw [List.map_fst_zip (by simp; omega), List.map_fst_zip (by simp; omega)])
                  (by rw [List.map_snd_zip (by simp; omega), List.map_snd_zip (by simp; omega)]; exact ha)
                rw [h3]
                have e9 : (ps.zip (⟨args'⟩ : Array Value)).toList = ps.toList.zip args' := by simp
                rw [← Array.foldl_toList, e9]
                exact this
              refine g1 _ hFr (by simp) w.heap.size ι w _ [] _ (Nat.le_refl _) s htr ⟨rfl, List.nodup_nil, by simp⟩ fun ι' w' a' ms' x m ok => ?_
              have hL' := x.le _ _ hL
              obtain ⟨r2, q1, q2, q3, w2, q4, q5⟩ := x.sim.loopSet (P := P) (st' := .busy) (p' := p2) hL' hg2
              refine ⟨w2, ?_, ?_⟩
              · have hget : (getObj L.cb).run P w' = .ok (.loop r2) w' := by simp [getObj, Sem.run, q1]
                have hset : ({ r2 with state := .busy } : Loop) = { r2 with state := .busy, pending := p2 } := by rw [← q3]
                simp only [Instr.beginRound, Instr.getLoop, Sem.run_bind, hget, Result.andThen_ok, Sem.run_pure]
                rw [hset, q4]
                simp only [Result.andThen_ok, q2]
                rfl
              · have hm2 : MK w.heap.size ms' ι' _ w2 a' := m.ext x.sim q5 rfl
                rw [h5]
                refine g2 _ hFr (by simp) w.heap.size ι' w2 a' ms' _ (Nat.le_trans x.size q5.size) q5.sim ok hm2 fun ι3 w3 a3 ms3 x3 m3 ok3 => ?_
                have hL3 := x3.le _ _ hL'
                cases o2 with
                | normal =>
                  obtain ⟨w4, u1, u2, rfl⟩ := round_end x3.sim hL3 e3
                  exact ⟨_, w4, u1, _, ι3, rfl, (x.trans q5).trans (x3.trans u2), .one (.bool _)⟩
                | exit id =>
                  obtain ⟨w4, u1, u2, rfl⟩ := round_end x3.sim hL3 e3
                  exact ⟨_, w4, u1, _, ι3, rfl, (x.trans q5).trans (x3.trans u2), .one (.bool _)⟩
                | ret v3 =>
                  obtain ⟨w4, u1, u2, rfl⟩ := round_end x3.sim hL3 e3
                  exact ⟨_, w4, u1, _, ι3, rfl, (x.trans q5).trans (x3.trans u2), .one (.bool _)⟩
            | exit id => simp at e1
            | ret v2 => simp at e1
        · simp at e
      · simp at e
    | method n => simp at e
    | methodOf t n => simp at e
    | via a b c d => simp at e
theorem callF_ok (hn : NamesOK P) (hmix : P.follows .mixedOrders = true) (hints : FuncId → Hint) (N : Nat) : ∀ d, CallOK P B (callF P hints N d)
  | 0 => fun fn args h v h' e => by simp [callF] at e
  | d + 1 => stepY_ok hn hmix hints N (callF_ok hn hmix hints N d)
/-- calls, some of which are taken by what is known of them: 'hk' -/
noncomputable def callY (P : Program) (hk : CallT → CallT) (hints : FuncId → Hint) (N : Nat) : Nat → CallT
  | 0 => fun _ _ _ => none
  | d + 1 => hk (stepY P (callY P hk hints N d) hints N)
theorem callY_ok (hn : NamesOK P) (hmix : P.follows .mixedOrders = true) {hk : CallT → CallT} (hkok : ∀ call, (∀ B, CallOK P B call) → ∀ B, CallOK P B (hk call)) (hints : FuncId → Hint) (N : Nat) : ∀ d B, CallOK P B (callY P hk hints N d)
  | 0, _ => fun fn args h v h' e => by simp [callY] at e
  | d + 1, B => hkok _ (fun B => stepY_ok hn hmix hints N (callY_ok hn hmix hkok hints N d B)) B
end Go.Wz
end
section
namespace Go.Wz

noncomputable section
def bbin (op : BinOp) (a b : Value) : Option Value := (match a, b with | .bool x, .bool y => (match op with | .eql => some (.bool (x == y)) | .neq => some (.bool !(x == y)) | _ => none) | _, _ => none)
def pbin (op : BinOp) (a b : Value) : Option Value := (match a, b with | .pointer none, .pointer y => ebin op (.pointer none) (.pointer y) | .pointer (some x), .pointer none => ebin op (.pointer (some x)) (.pointer none) | _, _ => none)
def sbin (op : BinOp) (a b : Value) : Option Value := (match a, b with | .slice x n c, .slice y m d => ebin op (.slice x n c) (.slice y m d) | _, _ => none)
def fbin (op : BinOp) (a b : Value) : Option Value := (match a, b with | .nilFunc, .nilFunc => ebin op .nilFunc .nilFunc | .nilFunc, .func x y z => ebin op .nilFunc (.func x y z) | .func x y z, .nilFunc => ebin op (.func x y z) .nilFunc | _, _ => none)
def getL (cs : List Value) (i : Nat) : Option Value := cs[i]?
def cutL (cs : List Value) (o n : Nat) : List Value := (cs.drop o).take n
def H.skip (h : H) (n : Nat) : H := { get := h.get, next := h.next + n }
section
variable {R : Type}
def ifN (i j : Nat) (A B : Option R) : Option R := if i = j then A else B
def ifLen (cs : List Value) (n : Nat) (X : Option R) : Option R := if cs.length = n then X else none
def unT (x : SV) (k : List SV → Option R) : Option R := match x with | .tup vs => k vs | _ => none
def unNil (vs : List SV) (A : Option R) : Option R := match vs with | [] => A | _ => none
def unConD (vs : List SV) (k : SV → List SV → Option R) : Option R := match vs with | v :: r => k v r | [] => none
def unCons (vs : List SV) (k : SV → List SV → Option R) : Option R := match vs with | v :: r => k v r | _ => none
end
end
theorem callF_succ (P : Program) (hints : FuncId → Hint) (N d : Nat) (f : FuncId) (args : List SV) (h : H) :
    callF P hints N (d + 1) (.func f) args h = execF P (callF P hints N d) hints N f args h := rfl
end Go.Wz
namespace Go
def Code.l1 : Code → Code
  | .seq a _ => a | .cond _ a _ => a | .block _ c => c | .loop c => c | .rangeFunc _ _ a _ => a | c => c
def Code.l2 : Code → Code
  | .seq _ b => b | .cond _ _ b => b | .rangeFunc _ _ _ b => b | c => c
end Go
namespace Go.Wz
section rules
variable {R : Type}
@[simp] theorem un1_one (v : Value) (k : Value → Option R) : un1 (.one v) k = k v := rfl
@[simp] theorem unA_agg (v : List Value) (k : List Value → Option R) : unA (.agg v) k = k v := rfl
@[simp] theorem unT_tup (v : List SV) (k : List SV → Option R) : unT (.tup v) k = k v := rfl
@[simp] theorem unNil_nil (A : Option R) : unNil [] A = A := rfl
@[simp] theorem unCons_cons (v : SV) (r : List SV) (k : SV → List SV → Option R) : unCons (v :: r) k = k v r := rfl
@[simp] theorem unConD_cons (v : SV) (r : List SV) (k : SV → List SV → Option R) : unConD (v :: r) k = k v r := rfl
@[simp] theorem outc_normal (A : Option R) (B : Nat → Option R) (C : SV → Option R) : outc .normal A B C = A := rfl
@[simp] theorem outc_exit (i : Nat) (A : Option R) (B : Nat → Option R) (C : SV → Option R) : outc (.exit i) A B C = B i := rfl
@[simp] theorem outc_ret (v : SV) (A : Option R) (B : Nat → Option R) (C : SV → Option R) : outc (.ret v) A B C = C v := rfl
@[simp] theorem ifN_same (i : Nat) (A B : Option R) : ifN i i A B = A := by simp [ifN]
theorem ifN_ne {i j : Nat} (h : i ≠ j) (A B : Option R) : ifN i j A B = B := by simp [ifN, h]
@[simp] theorem ifN_eq (i j : Nat) (A B : Option R) : ifN i j A B = if i = j then A else B := rfl
@[simp] theorem ifLen_eq (cs : List Value) (n : Nat) (A : Option R) : ifLen cs n A = if cs.length = n then A else none := rfl
@[simp] theorem condV_bool (t : Bool) (A B : Option R) : condV (.bool t) A B = if t = true then A else B := by cases t <;> rfl
@[simp] theorem gsel_true (t : Bool) (A B : Option R) : gsel (.bool t) true A B = if t = true then A else B := by cases t <;> rfl
@[simp] theorem gsel_false (t : Bool) (A B : Option R) : gsel (.bool t) false A B = if t = true then B else A := by cases t <;> rfl
@[simp] theorem getL_eq (cs : List Value) (i : Nat) : getL cs i = cs[i]? := rfl
@[simp] theorem cutL_eq (cs : List Value) (o n : Nat) : cutL cs o n = (cs.drop o).take n := rfl
@[simp] theorem fillK_nil (k : List Value → Option R) (zs : List Value) : fillK k zs [] = k zs := rfl
@[simp] theorem fillK_one (k : List Value → Option R) (zs : List Value) (off : Nat) (v : Value) (l : List (Nat × Nat × Option SV)) :
    fillK k zs ((off, 1, some (.one v)) :: l) = if off + 1 ≤ zs.length then fillK k (zs.set off v) l else none := rfl
@[simp] theorem fillK_agg (k : List Value → Option R) (zs : List Value) (off n : Nat) (cs : List Value) (l : List (Nat × Nat × Option SV)) :
    fillK k zs ((off, n, some (.agg cs)) :: l) = if off + n ≤ zs.length then (if cs.length = n then fillK k (splice zs off cs) l else none) else none := rfl
@[simp] theorem gateS_true (t : Bool) (A B : Option R) : gateS (.one (.bool t)) true A B = if t = true then A else B := by cases t <;> rfl
@[simp] theorem gateS_false (t : Bool) (A B : Option R) : gateS (.one (.bool t)) false A B = if t = true then B else A := by cases t <;> rfl
@[simp] theorem gateS_undef (w : Bool) (A B : Option R) : gateS .undef w A B = B := rfl
@[simp] theorem ovS_some (v : SV) : ovS (some v) = v := rfl
@[simp] theorem ovS_none : ovS none = .undef := rfl
@[simp] theorem pickV_true (v : Value) (b : Option SV) : pickV (.bool true) (some (.one v)) b = some v := rfl
@[simp] theorem pickV_false (v : Value) (a : Option SV) : pickV (.bool false) a (some (.one v)) = some v := rfl
@[simp] theorem hideL_nil (h : H) : hideL [] h = h := rfl
@[simp] theorem frzL_nil (h : H) : frzL [] h = h := rfl
@[simp] theorem thawL_nil (h h' : H) : thawL [] h h' = h' := rfl
theorem hideL_one (b : Nat) (h : H) : hideL [b] h = h.put b none := rfl
theorem frzL_one (b : Nat) (h : H) : frzL [b] h = h.put b ((h.get b).bind Blk.ro) := rfl
theorem thawL_one (b : Nat) (h h' : H) : thawL [b] h h' = h'.put b (h.get b) := rfl
@[simp] theorem callV_func (call : CallT) (fn : Fn) (xs ys : List Value) (args : List SV) (h : H) : callV call (.func fn (Array.mk xs) (Array.mk ys)) args h = call fn (xs.map .one ++ args ++ ys.map .one) h := rfl
end rules

section heap
variable (h : H)
@[simp] theorem H.new_next (x : Blk) : (h.new x).next = h.next + 1 := rfl
@[simp] theorem H.put_nx (b : Nat) (x : Option Blk) : (h.put b x).next = h.next := rfl
@[simp] theorem H.skip_next (n : Nat) : (h.skip n).next = h.next + n := rfl
theorem H.new_get (x : Blk) (b : Nat) : (h.new x).get b = if b = h.next then some x else h.get b := rfl
theorem H.put_gt (b : Nat) (x : Option Blk) (i : Nat) : (h.put b x).get i = if i = b then x else h.get i := rfl
@[simp] theorem H.skip_get (n i : Nat) : (h.skip n).get i = h.get i := rfl
@[simp] theorem H.new_get_same (x : Blk) : (h.new x).get h.next = some x := by simp [H.new_get]
theorem H.new_get_lt (x : Blk) {b : Nat} (hb : b < h.next) : (h.new x).get b = h.get b := by rw [H.new_get, if_neg (by omega)]
@[simp] theorem H.put_get_same (b : Nat) (x : Option Blk) : (h.put b x).get b = x := by simp [H.put_gt]
theorem H.put_get_ne {b i : Nat} (x : Option Blk) (hb : i ≠ b) : (h.put b x).get i = h.get i := by rw [H.put_gt, if_neg hb]
theorem H.row_of {b : Nat} {vs : List Value} {e : TypeId} {w : Bool} (hg : h.get b = some (.cells vs e w)) : h.row b = some vs := by simp [H.row, hg]
theorem pld_ptr (b o : Nat) : pld h (ptr b o) = h.ld b o := rfl
theorem pldn_ptr (n b o : Nat) : pldn h n (ptr b o) = h.ldn b o n := rfl
theorem pst_ptr (x : Value) (b o : Nat) : pst h x (ptr b o) = h.st b o x := rfl
theorem pstn_ptr (xs : List Value) (b o : Nat) : pstn h xs (ptr b o) = h.stn b o xs := rfl
@[simp] theorem padd_ptr (n b o : Nat) : padd n (ptr b o) = some (ptr b (o + n)) := rfl
@[simp] theorem nilC_ptr (b o : Nat) : nilC (ptr b o) = some (ptr b o) := rfl
@[simp] theorem nilC_slc (b o n c : Nat) : nilC (slc b o n c) = some (slc b o n c) := rfl
@[simp] theorem nilC_func (f : FuncId) (x y : Array Value) : nilC (.func (.func f) x y) = some (.func (.func f) x y) := rfl
@[simp] theorem lenS_slc (b o n c : Nat) : lenS (slc b o n c) = some (I n) := rfl
@[simp] theorem lenS_nil (n c : Nat) : lenS (.slice none n c) = some (I n) := rfl
@[simp] theorem bOf_ptr (b o : Nat) : bOf (ptr b o) = some b := rfl
@[simp] theorem bOf_slc (b o n c : Nat) : bOf (slc b o n c) = some b := rfl
theorem sameB_ptr {R : Type} (b o b' o' : Nat) (X : Option R) : sameB (ptr b o) (ptr b' o') X = if b = b' then X else none := rfl
theorem H.ld_of {b o : Nat} {vs : List Value} {e : TypeId} {w : Bool} (hg : h.get b = some (.cells vs e w)) : h.ld b o = vs[o]? := by simp [H.ld, H.row, hg]
theorem H.ldn_of {b o n : Nat} {vs : List Value} {e : TypeId} {w : Bool} (hg : h.get b = some (.cells vs e w)) : h.ldn b o n = if o + n ≤ vs.length then some ((vs.drop o).take n) else none := by simp [H.ldn, H.row, hg]
theorem H.st_of {b o : Nat} {v : Value} {vs : List Value} {e : TypeId} (hg : h.get b = some (.cells vs e true)) : h.st b o v = if o < vs.length then some (h.put b (some (.cells (vs.set o v) e true))) else none := by simp [H.st, hg]
theorem H.stn_of {b o : Nat} {xs vs : List Value} {e : TypeId} (hg : h.get b = some (.cells vs e true)) : h.stn b o xs = if o + xs.length ≤ vs.length then some (h.put b (some (.cells (splice vs o xs) e true))) else none := by simp [H.stn, hg]
theorem idxS_slc (s b o n c : Nat) (k : IntKind) (i : Int) : idxS s (slc b o n c) (.int k i) = if 0 ≤ i ∧ i < n then some (ptr b (o + i.toNat * s)) else none := rfl
theorem idxS_slcI (s b o n c : Nat) (i : Int) : idxS s (slc b o n c) (I i) = if 0 ≤ i ∧ i < n then some (ptr b (o + i.toNat * s)) else none := rfl
theorem idxP_ptr (s len b o : Nat) (k : IntKind) (i : Int) : idxP s len (ptr b o) (.int k i) = if 0 ≤ i ∧ i < len then some (ptr b (o + i.toNat * s)) else none := rfl
theorem idxP_ptrI (s len b o : Nat) (i : Int) : idxP s len (ptr b o) (I i) = if 0 ≤ i ∧ i < len then some (ptr b (o + i.toNat * s)) else none := rfl
end heap

section ints
@[simp] theorem wrap_bits64 : IntKind.i64.bits = 64 := rfl
variable (a b : Int)
theorem ibin_addI : ibin .add (I a) (I b) = some (I (IntKind.i64.wrap (a + b))) := rfl
theorem ibin_subI : ibin .sub (I a) (I b) = some (I (IntKind.i64.wrap (a - b))) := rfl
theorem ibin_mulI : ibin .mul (I a) (I b) = some (I (IntKind.i64.wrap (a * b))) := rfl
theorem ibin_quoI : ibin .quo (I a) (I b) = if b = 0 then none else some (I (IntKind.i64.wrap (a.tdiv b))) := rfl
theorem ibin_remI : ibin .rem (I a) (I b) = if b = 0 then none else some (I (a.tmod b)) := rfl
@[simp] theorem ibin_eqlI : ibin .eql (I a) (I b) = some (.bool (a == b)) := rfl
@[simp] theorem ibin_neqI : ibin .neq (I a) (I b) = some (.bool (a != b)) := rfl
@[simp] theorem ibin_lssI : ibin .lss (I a) (I b) = some (.bool (decide (a < b))) := rfl
@[simp] theorem ibin_leqI : ibin .leq (I a) (I b) = some (.bool (decide (a ≤ b))) := rfl
@[simp] theorem ibin_gtrI : ibin .gtr (I a) (I b) = some (.bool (decide (a > b))) := rfl
@[simp] theorem ibin_geqI : ibin .geq (I a) (I b) = some (.bool (decide (a ≥ b))) := rfl
theorem add_in {a b : Int} (h1 : -9223372036854775808 ≤ a + b) (h2 : a + b ≤ 9223372036854775807) : ibin .add (I a) (I b) = some (I (a + b)) := by rw [ibin_addI, IntWalk.i64_in _ ⟨h1, h2⟩]
theorem sub_in {a b : Int} (h1 : -9223372036854775808 ≤ a - b) (h2 : a - b ≤ 9223372036854775807) : ibin .sub (I a) (I b) = some (I (a - b)) := by rw [ibin_subI, IntWalk.i64_in _ ⟨h1, h2⟩]
theorem mul_in {a b : Int} (h1 : -9223372036854775808 ≤ a * b) (h2 : a * b ≤ 9223372036854775807) : ibin .mul (I a) (I b) = some (I (a * b)) := by rw [ibin_mulI, IntWalk.i64_in _ ⟨h1, h2⟩]
@[simp] theorem bbin_eql (x y : Bool) : bbin .eql (.bool x) (.bool y) = some (.bool (x == y)) := rfl
@[simp] theorem bbin_neq (x y : Bool) : bbin .neq (.bool x) (.bool y) = some (.bool !(x == y)) := rfl
@[simp] theorem un_not (x : Bool) : un .not (.bool x) = some (.bool !x) := rfl
theorem un_negI : un .neg (I a) = some (I (IntKind.i64.wrap (0 - a))) := rfl
@[simp] theorem mx2I : mx2 (I a) (I b) = some (I (if b > a then b else a)) := rfl
@[simp] theorem mn2I : mn2 (I a) (I b) = some (I (if b < a then b else a)) := rfl
end ints

/-- blocks that were there are as they were -/
structure Fr (h h' : H) : Prop where
  nx : h.next ≤ h'.next
  get : ∀ b, b < h.next → h'.get b = h.get b
theorem Fr.refl (h : H) : Fr h h := ⟨Nat.le_refl _, fun _ _ => rfl⟩
theorem Fr.trans {a b c : H} (p : Fr a b) (q : Fr b c) : Fr a c := ⟨Nat.le_trans p.nx q.nx, fun x hx => (q.get x (Nat.lt_of_lt_of_le hx p.nx)).trans (p.get x hx)⟩
theorem Fr.new {a b : H} (p : Fr a b) (x : Blk) : Fr a (b.new x) := ⟨Nat.le_succ_of_le p.nx, fun i hi => by rw [H.new_get_lt _ _ (Nat.lt_of_lt_of_le hi p.nx)]; exact p.get i hi⟩
theorem Fr.put {a b : H} (p : Fr a b) {i : Nat} (hi : a.next ≤ i) (x : Option Blk) : Fr a (b.put i x) := ⟨p.nx, fun j hj => by rw [H.put_get_ne _ _ (by omega)]; exact p.get j hj⟩
theorem Fr.skip {a b : H} (p : Fr a b) (n : Nat) : Fr a (b.skip n) := ⟨Nat.le_trans p.nx (Nat.le_add_right _ _), fun i hi => p.get i hi⟩

/-- a row that can be read -/
structure Row (h : H) (b : Nat) (vs : List Value) (e : TypeId) (w : Bool) : Prop where
  lt : b < h.next
  get : h.get b = some (.cells vs e w)
theorem Row.fr {h h' : H} {b : Nat} {vs : List Value} {e : TypeId} {w : Bool} (r : Row h b vs e w) (f : Fr h h') : Row h' b vs e w := ⟨Nat.lt_of_lt_of_le r.lt f.nx, (f.get b r.lt).trans r.get⟩

/-- a slice whose elements are rows of s cells each -/
def RS (h : H) (s : Nat) (v : Value) (l : List (List Value)) : Prop :=
  (∀ x ∈ l, x.length = s) ∧
  ((v = .slice none 0 0 ∧ l = []) ∨ (l = [] ∧ ∃ b o, b < h.next ∧ v = slc b o 0 0) ∨ ∃ b o c vs e w, v = slc b o l.length c ∧ Row h b vs e w ∧ o + l.length * s ≤ vs.length ∧ (vs.drop o).take (l.length * s) = l.flatten)
theorem RS.keep {h h' : H} {s : Nat} {v : Value} {l : List (List Value)} (r : RS h s v l) (hn : h.next ≤ h'.next) (f : ∀ b, bOf v = some b → h'.get b = h.get b) : RS h' s v l := by
  obtain ⟨h1, h2⟩ := r
  refine ⟨h1, ?_⟩
  rcases h2 with h2 | ⟨h2, b, o, h3, h4⟩ | ⟨b, o, c, vs, e, w, rfl, h4, h5⟩
  · exact .inl h2
  · exact .inr (.inl ⟨h2, b, o, Nat.lt_of_lt_of_le h3 hn, h4⟩)
  · exact .inr (.inr ⟨b, o, c, vs, e, w, rfl, ⟨Nat.lt_of_lt_of_le h4.lt hn, (f b rfl).trans h4.get⟩, h5⟩)
theorem RS.lt {h : H} {s : Nat} {v : Value} {l : List (List Value)} (r : RS h s v l) {b : Nat} (hb : bOf v = some b) : b < h.next := by
  rcases r.2 with ⟨rfl, _⟩ | ⟨_, b', o, h3, rfl⟩ | ⟨b', o, c, vs, e, w, rfl, hr, _⟩
  · simp [bOf] at hb
  · cases hb; exact h3
  · cases hb; exact hr.lt
theorem RS.fr {h h' : H} {s : Nat} {v : Value} {l : List (List Value)} (r : RS h s v l) (f : Fr h h') : RS h' s v l := r.keep f.nx fun b hb => f.get b (r.lt hb)
theorem RS.len {h : H} {s : Nat} {v : Value} {l : List (List Value)} (r : RS h s v l) : lenS v = some (I l.length) := by
  rcases r.2 with ⟨rfl, rfl⟩ | ⟨rfl, b', o, h3, rfl⟩ | ⟨b, o, c, vs, e, w, rfl, _⟩ <;> rfl
/-- a slice of a row -/
theorem RS.mk {h : H} {s b o c : Nat} {vs : List Value} {e : TypeId} {w : Bool} {l : List (List Value)} (h1 : ∀ x ∈ l, x.length = s) (hr : Row h b vs e w) (hl : o + l.length * s ≤ vs.length) (hf : (vs.drop o).take (l.length * s) = l.flatten) : RS h s (slc b o l.length c) l :=
  ⟨h1, .inr (.inr ⟨b, o, c, vs, e, w, rfl, hr, hl, hf⟩)⟩
theorem RS.nil {h : H} {s : Nat} : RS h s (.slice none 0 0) [] := ⟨by simp, .inl ⟨rfl, rfl⟩⟩
/-- what append and copy look at -/
theorem RS.els {h : H} {s : Nat} {v : Value} {l : List (List Value)} (r : RS h s v l) : slen v = some l.length ∧ h.els s v = some l.flatten := by
  rcases r.2 with ⟨rfl, rfl⟩ | ⟨rfl, b', o, h3, rfl⟩ | ⟨b, o, c, vs, e, w, rfl, hr, h1, h2⟩
  · exact ⟨rfl, rfl⟩
  · exact ⟨rfl, rfl⟩
  · refine ⟨rfl, ?_⟩
    show (if l.length = 0 then some [] else h.ldn b o (l.length * s)) = _
    split
    · rename_i h0
      have : l = [] := List.length_eq_zero_iff.1 h0
      subst this; rfl
    · rw [H.ldn, H.row_of _ hr.get]
      simp only [Option.bind_some]
      rw [if_pos h1, h2]
theorem flatten_drop {s : Nat} : ∀ (l : List (List Value)) (i : Nat), (∀ x ∈ l, x.length = s) → l.flatten.drop (i * s) = (l.drop i).flatten
  | [], i, _ => by simp
  | x :: l, 0, _ => by simp
  | x :: l, i + 1, h => by
    have hx : x.length = s := h x (by simp)
    rw [List.flatten_cons, List.drop_append, show (i + 1) * s = x.length + i * s by rw [hx, Nat.add_mul]; omega]
    rw [List.drop_of_length_le (by omega), List.nil_append, show x.length + i * s - x.length = i * s by omega, flatten_drop l i fun y hy => h y (by simp [hy])]
    rfl
theorem flatten_take {s : Nat} : ∀ (l : List (List Value)) (i : Nat), (∀ x ∈ l, x.length = s) → l.flatten.take (i * s) = (l.take i).flatten
  | [], i, _ => by simp
  | x :: l, 0, _ => by simp
  | x :: l, i + 1, h => by
    have hx : x.length = s := h x (by simp)
    rw [List.flatten_cons, List.take_append, show (i + 1) * s = x.length + i * s by rw [hx, Nat.add_mul]; omega]
    rw [List.take_of_length_le (by omega), show x.length + i * s - x.length = i * s by omega, flatten_take l i fun y hy => h y (by simp [hy])]
    rfl
theorem flatten_len {s : Nat} : ∀ (l : List (List Value)), (∀ x ∈ l, x.length = s) → l.flatten.length = l.length * s
  | [], _ => by simp
  | x :: l, h => by rw [List.flatten_cons, List.length_append, flatten_len l fun y hy => h y (by simp [hy]), h x (by simp), List.length_cons, Nat.add_mul]; omega
/-- an element of a slice: its address, and what lies there -/
theorem RS.at {h : H} {s : Nat} {v : Value} {l : List (List Value)} (r : RS h s v l) {i : Nat} (hi : i < l.length) :
    ∃ b o, b < h.next ∧ idxS s v (I (i : Int)) = some (ptr b o) ∧ h.ldn b o s = some l[i] ∧ ∀ j, j < s → h.ld b (o + j) = l[i][j]? := by
  obtain ⟨h1, ⟨_, rfl⟩ | ⟨rfl, _⟩ | ⟨b, o, c, vs, e, w, rfl, hr, hl, hf⟩⟩ := r
  · simp at hi
  · simp at hi
  have hs : l[i].length = s := h1 _ (List.getElem_mem hi)
  have hsub : (vs.drop (o + i * s)).take s = l[i] := by
    have e1 : (l.flatten.drop (i * s)).take s = l[i] := by
      rw [flatten_drop l i h1]
      have := flatten_take (l.drop i) 1 (fun x hx => h1 x (List.mem_of_mem_drop hx))
      rw [Nat.one_mul] at this
      rw [this, List.drop_eq_getElem_cons hi]
      simp only [List.take_succ_cons, List.take_zero, List.flatten_cons, List.flatten_nil, List.append_nil]
    rw [← e1, ← hf, List.drop_take, List.drop_drop, List.take_take]
    congr 1
    have : (i + 1) * s ≤ l.length * s := Nat.mul_le_mul_right _ hi
    rw [Nat.add_mul] at this
    omega
  have hle : o + i * s + s ≤ vs.length := by
    have : (i + 1) * s ≤ l.length * s := Nat.mul_le_mul_right _ hi
    rw [Nat.add_mul] at this
    omega
  refine ⟨b, o + i * s, hr.lt, ?_, ?_, ?_⟩
  · rw [idxS_slcI, if_pos (by omega)]
    simp
  · rw [H.ldn_of _ hr.get, if_pos hle, hsub]
  · intro j hj
    rw [H.ld_of _ hr.get, ← hsub]
    rw [List.getElem?_take_of_lt hj, List.getElem?_drop]
theorem drop_cons {α : Type} {l t : List α} {i : Nat} {x : α} (h : l.drop i = x :: t) : ∃ hi : i < l.length, l[i] = x ∧ l.drop (i + 1) = t ∧ t.length + i + 1 = l.length := by
  have hi : i < l.length := by
    have := congrArg List.length h
    simp at this; omega
  rw [List.drop_eq_getElem_cons hi] at h
  simp only [List.cons.injEq] at h
  refine ⟨hi, h.1, h.2, ?_⟩
  have := congrArg List.length h.2
  simp at this; omega
theorem drop_nil {α : Type} {l : List α} {i : Nat} (h : l.drop i = []) (hi : i ≤ l.length) : i = l.length := by
  have := congrArg List.length h
  simp at this; omega
/-- an element of a slice, by what is behind it -/
theorem RS.atd {h : H} {s : Nat} {v : Value} {l t : List (List Value)} {x : List Value} (r : RS h s v l) {i : Nat} (hd : l.drop i = x :: t) :
    ∃ b o, b < h.next ∧ idxS s v (I (i : Int)) = some (ptr b o) ∧ h.ldn b o s = some x ∧ ∀ j, j < s → h.ld b (o + j) = x[j]? := by
  obtain ⟨hi, rfl, _⟩ := drop_cons hd
  exact r.at hi
end Go.Wz
end
section
namespace Go.Wz
variable {P : Program}

noncomputable section
def H.empty : H := { get := fun _ => none, next := 0 }
/-- the call of f0 answers true, and leaves all as it is -/
def hookT (f0 : FuncId) (call : CallT) : CallT := fun fn args h =>
  match fn with
  | .func f => if f = f0 then (match args with | [] => some (.one (.bool true), h) | _ => none) else call (.func f) args h
  | fn => call fn args h
end
theorem hookT_self (f0 : FuncId) (call : CallT) (h : H) : hookT f0 call (.func f0) [] h = some (.one (.bool true), h) := by simp [hookT]
theorem hookT_ne {f0 f : FuncId} (hf : f ≠ f0) (call : CallT) (args : List SV) (h : H) : hookT f0 call (.func f) args h = call (.func f) args h := by simp [hookT, hf]

theorem Sim.nothing (w : World) : Sim P w.heap.size (fun _ => none) H.empty w where
  base := Nat.le_refl _
  dom := fun _ _ => rfl
  lt := fun _ _ e => by cases e
  live := fun _ _ e => by cases e
  sep := fun _ _ _ _ _ _ e => by cases e

theorem Ext.of_nothing {B : Nat} {ι ι' : Inj} {h h1 : H} {w w' : World} (s : Sim P B ι h w) (x : Ext P w.heap.size (fun _ => none) H.empty w ι' h1 w') : Ext P B ι h w ι h w' := by
  have same : ∀ cb, cb < w.heap.size → w'.heap[cb]? = w.heap[cb]? := fun cb hcb => x.fr cb hcb fun b y L e => by cases e
  exact {
    le := Inj.le_refl _
    sim := {
      base := Nat.le_trans s.base x.size
      dom := s.dom
      lt := fun b L e => Nat.lt_of_lt_of_le (s.lt b L e) x.size
      live := fun b y e => by
        obtain ⟨L, e1, e2⟩ := s.live b y e
        exact ⟨L, e1, e2.keep (Inj.le_refl _) (same _ (s.lt b L e1))⟩
      sep := s.sep }
    nx := Nat.le_refl _
    size := x.size
    fr := fun cb hcb _ => same cb hcb
    img := fun b y L a b' c => .inr ⟨b, y, L, a, b', c, rfl⟩
    ro := fun _ _ _ a _ _ _ => a
    old := fun _ _ => rfl
    os := x.os
    tape := x.tape
    out := x.out }

theorem hookT_ok {call callw : CallT} (hc : ∀ B, CallOK P B call) (hw : ∀ B, CallOK P B callw) {f0 : FuncId} {h1 : H} (e0 : callw (.func f0) [] H.empty = some (.one (.bool true), h1)) (B : Nat) : CallOK P B (hookT f0 call) := by
  intro fn args h v h' e F hF ι w args' s ha
  cases fn with
  | func f =>
    by_cases hf : f = f0
    · subst hf
      cases args with
      | cons a l => simp [hookT] at e
      | nil =>
        rw [hookT_self] at e
        simp only [Option.some.injEq, Prod.mk.injEq] at e
        obtain ⟨rfl, rfl⟩ := e
        have := hw w.heap.size (.func f) [] H.empty _ _ e0 F hF (fun _ => none) w args' (Sim.nothing w) (by cases ha; exact .nil)
        refine ⟨this.1, this.2.mono ?_⟩
        rintro en w' ⟨x, ι', rfl, hx, hs⟩
        refine ⟨x, ι, rfl, Ext.of_nothing s hx, ?_⟩
        cases hs with
        | one hv => cases hv; exact .one (.bool _)
    · rw [hookT_ne hf] at e
      exact hc B (.func f) args h v h' e F hF ι w args' s ha
  | yield l => exact hc B (.yield l) args h v h' (by simpa [hookT] using e) F hF ι w args' s ha
  | method n => exact hc B (.method n) args h v h' (by simpa [hookT] using e) F hF ι w args' s ha
  | methodOf t n => exact hc B (.methodOf t n) args h v h' (by simpa [hookT] using e) F hF ι w args' s ha
  | via a b c d => exact hc B (.via a b c d) args h v h' (by simpa [hookT] using e) F hF ι w args' s ha
end Go.Wz
end
section
namespace Go.Wz
variable {P : Program}

/-- a round of the loop that a block records -/
noncomputable def yieldK (P : Program) (call : CallT) (N : Nat) (x : Blk) (l : Nat) (args : List SV) (h : H) : Option (SV × H) :=
  match x with
  | .loop _ _ _ st ps asg body ga gb => if args.length = ps.size then
      exec P call N none asg ga (setPs st (ps.toList.zip args)) h fun o st1 h => (match o with
        | .normal => begR l h fun h => exec P call N none body gb st1 h fun o _ h => (match o with
          | .normal => endR l none h
          | .exit id => endR l (some (.exit id)) h
          | .ret _ => endR l (some .ret) h)
        | _ => none)
    else none
  | _ => none
/-- the record of a loop that is ready -/
def Blk.L0 (x : Blk) : Prop := ∃ f st ps asg body ga gb, x = .loop .ready none f st ps asg body ga gb
/-- the record with another state -/
def Blk.mv (x : Blk) (s : LoopState) (p : Option Code) : Blk :=
  match x with
  | .loop _ _ f st ps asg body ga gb => .loop s p f st ps asg body ga gb
  | x => x
theorem Blk.L0.mv {x : Blk} (h : x.L0) : x.mv .ready none = x := by
  obtain ⟨f, st, ps, asg, body, ga, gb, rfl⟩ := h; rfl
theorem stepY_yield (hints : FuncId → Hint) (N : Nat) (call : CallT) {l : Nat} {x : Blk} {args : List SV} {h : H} (hg : h.get l = some x) (hx : x.L0) :
    stepY P call hints N (.yield l) args h = yieldK P call N x l args h := by
  obtain ⟨f, st, ps, asg, body, ga, gb, rfl⟩ := hx
  show (match h.get l with | some (.loop .ready pend f st ps asg body ga gb) => _ | _ => none) = _
  rw [hg]
  rfl
theorem callF_yield (hints : FuncId → Hint) (N d : Nat) {l : Nat} {x : Blk} {args : List SV} {h : H} (hg : h.get l = some x) (hx : x.L0) :
    callF P hints N (d + 1) (.yield l) args h = yieldK P (callF P hints N d) N x l args h := stepY_yield hints N _ hg hx
theorem begR_of {R : Type} {l : Nat} {h : H} {x : Blk} (k : H → Option R) (hg : h.get l = some x) (hx : x.L0) : begR l h k = k (h.put l (some (x.mv .busy none))) := by
  obtain ⟨f, st, ps, asg, body, ga, gb, rfl⟩ := hx
  unfold begR
  rw [hg]; rfl
theorem endR_none {l : Nat} {h : H} {x : Blk} (hg : h.get l = some (x.mv .busy none)) (hx : x.L0) : endR l none h = some (.one (.bool true), h.put l (some x)) := by
  obtain ⟨f, st, ps, asg, body, ga, gb, rfl⟩ := hx
  unfold endR
  rw [hg]; rfl
theorem endR_jmp {l : Nat} {h : H} {x : Blk} (c : Code) (hg : h.get l = some (x.mv .busy none)) (hx : x.L0) : endR l (some c) h = some (.one (.bool false), h.put l (some (x.mv .done (some c)))) := by
  obtain ⟨f, st, ps, asg, body, ga, gb, rfl⟩ := hx
  unfold endR
  rw [hg]; rfl
theorem endL_none {R : Type} {l : Nat} {h : H} {x : Blk} (kn : H → Option R) (ke : Nat → H → Option R) (kr : H → Option R) (hg : h.get l = some x) (hx : x.L0) : endL l h kn ke kr = kn (h.put l none) := by
  obtain ⟨f, st, ps, asg, body, ga, gb, rfl⟩ := hx
  unfold endL
  rw [hg]
theorem endL_exit {R : Type} {l id : Nat} {h : H} {x : Blk} (kn : H → Option R) (ke : Nat → H → Option R) (kr : H → Option R) (hg : h.get l = some (x.mv .done (some (.exit id)))) (hx : x.L0) : endL l h kn ke kr = ke id (h.put l none) := by
  obtain ⟨f, st, ps, asg, body, ga, gb, rfl⟩ := hx
  unfold endL
  rw [hg]; rfl
theorem endL_ret {R : Type} {l : Nat} {h : H} {x : Blk} (kn : H → Option R) (ke : Nat → H → Option R) (kr : H → Option R) (hg : h.get l = some (x.mv .done (some .ret))) (hx : x.L0) : endL l h kn ke kr = kr (h.put l none) := by
  obtain ⟨f, st, ps, asg, body, ga, gb, rfl⟩ := hx
  unfold endL
  rw [hg]; rfl
end Go.Wz
end
