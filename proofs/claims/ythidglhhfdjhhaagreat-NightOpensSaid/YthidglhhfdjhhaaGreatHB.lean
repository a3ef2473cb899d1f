/- Contracts: a gala in new memory; lists that are the same; galas that are too large. -/
import Derived.Test.YthidglhhfdjhhaaGreatHA
import Derived.Test.YthidglhhfdjhhaaGreatLA
set_option linter.unusedVariables false
set_option linter.unusedSimpArgs false
namespace Go.Wz
open Go
theorem frz_nx (l : List Nat) (h : H) : (frzL l h).next = h.next := by
  induction l with
  | nil => rfl
  | cons b l ih => exact ih
theorem hide_nx (l : List Nat) (h : H) : (hideL l h).next = h.next := by
  induction l with
  | nil => rfl
  | cons b l ih => exact ih
theorem thaw_nx (l : List Nat) (q h : H) : (thawL l q h).next = h.next := by
  induction l with
  | nil => rfl
  | cons b l ih => exact ih
theorem frz_ne {l : List Nat} {h : H} {b : Nat} (hb : b ∉ l) : (frzL l h).get b = h.get b := by
  induction l with
  | nil => rfl
  | cons c l ih =>
    simp only [List.mem_cons, not_or] at hb
    show ((frzL l h).put c _).get b = _
    rw [H.put_get_ne _ _ hb.1, ih hb.2]
theorem hide_ne {l : List Nat} {h : H} {b : Nat} (hb : b ∉ l) : (hideL l h).get b = h.get b := by
  induction l with
  | nil => rfl
  | cons c l ih =>
    simp only [List.mem_cons, not_or] at hb
    show ((hideL l h).put c _).get b = _
    rw [H.put_get_ne _ _ hb.1, ih hb.2]
theorem frz_cells {l : List Nat} {h : H} {b : Nat} {cs : List Value} {e : TypeId} {w : Bool} (hg : h.get b = some (.cells cs e w)) : ∃ w', (frzL l h).get b = some (.cells cs e w') := by
  induction l with
  | nil => exact ⟨w, hg⟩
  | cons c l ih =>
    show ∃ w', ((frzL l h).put c ((h.get c).bind Blk.ro)).get b = _
    rw [H.put_gt]
    split
    · rename_i hbc; subst hbc; exact ⟨false, by rw [hg]; rfl⟩
    · exact ih
theorem thaw_gt (l : List Nat) (q h : H) (b : Nat) : (thawL l q h).get b = if b ∈ l then q.get b else h.get b := by
  induction l with
  | nil => rfl
  | cons c l ih =>
    show ((thawL l q h).put c (q.get c)).get b = _
    rw [H.put_gt]
    by_cases hbc : b = c
    · subst hbc; simp
    · rw [if_neg hbc, ih]; simp [hbc]
theorem Fr.thaws {fs hs : List Nat} {q h' : H} (f : Fr (frzL fs (hideL hs q)) h') : Fr q (thawL (fs ++ hs) q h') := by
  refine ⟨by rw [thaw_nx]; have := f.nx; rwa [frz_nx, hide_nx] at this, fun b hb => ?_⟩
  rw [thaw_gt]
  split
  · rfl
  · rename_i hn
    rw [List.mem_append, not_or] at hn
    rw [f.get b (by rw [frz_nx, hide_nx]; exact hb), frz_ne hn.1, hide_ne hn.2]
theorem RS.hidden {h : H} {s : Nat} {v : Value} {l : List (List Value)} (r : RS h s v l) (fs : List Nat) {hs : List Nat} (hb : ∀ b, bOf v = some b → b ∉ hs) : RS (frzL fs (hideL hs h)) s v l := by
  obtain ⟨h1, h2⟩ := r
  refine ⟨h1, ?_⟩
  rcases h2 with h2 | ⟨h2, b, o, h3, h4⟩ | ⟨b, o, c, vs, e, w, rfl, h4, h5⟩
  · exact .inl h2
  · exact .inr (.inl ⟨h2, b, o, by rw [frz_nx, hide_nx]; exact h3, h4⟩)
  · obtain ⟨w', hw⟩ := frz_cells (l := fs) (show (hideL hs h).get b = some (.cells vs e w) by rw [hide_ne (hb b rfl)]; exact h4.get)
    exact .inr (.inr ⟨b, o, c, vs, e, w', rfl, ⟨by rw [frz_nx, hide_nx]; exact h4.lt, hw⟩, h5⟩)
/-- append([]T{}, l..) while blocks are frozen and hidden -/
theorem copyF {q : H} {b : Nat} {e : TypeId} {s : Nat} {xs : List (List Value)} {sx : Value} {fs hs : List Nat} (hb : b < q.next) (hg : q.get b = some (.cells [] e true)) (hf : b ∉ fs) (hh : b ∉ hs) (hfs : ∀ c ∈ fs ++ hs, c < q.next) (rx : RS q s sx xs) (hx : ∀ c, bOf sx = some c → c ∉ hs) (hlen : xs.length ≤ 2 ^ 30) :
    ∃ w r, (frzL fs (hideL hs q)).appS s e sx (slc b 0 0 0) = some (w, r) ∧ Fr q (thawL (fs ++ hs) q r) ∧ RS (thawL (fs ++ hs) q r) s w xs ∧ (∀ c, bOf w = some c → c = b ∨ q.next ≤ c) := by
  obtain ⟨w, r, h1, h2, h3, h4⟩ := append0_c (h := frzL fs (hideL hs q)) (e := e) (by rw [frz_nx, hide_nx]; exact hb) (by rw [frz_ne hf, hide_ne hh]; exact hg) (rx.hidden fs hx) hlen
  rw [frz_nx, hide_nx] at h4
  refine ⟨w, r, h1, h2.thaws, ?_, h4⟩
  refine h3.keep (by rw [thaw_nx]; exact Nat.le_refl _) fun c hc => ?_
  rw [thaw_gt, if_neg]
  intro hm
  rcases h4 c hc with rfl | hge
  · rcases List.mem_append.1 hm with hm | hm
    · exact hf hm
    · exact hh hm
  · have := hfs c hm; omega
/-- a block changes, others stay -/
structure Stp (o : Nat) (h h' : H) : Prop where
  nx : h.next ≤ h'.next
  get : ∀ b, b < h.next → b ≠ o → h'.get b = h.get b
theorem Stp.of {o : Nat} {h h' : H} (f : Fr h h') : Stp o h h' := ⟨f.nx, fun b hb _ => f.get b hb⟩
theorem Stp.trans {o : Nat} {a b c : H} (p : Stp o a b) (q : Stp o b c) : Stp o a c := ⟨Nat.le_trans p.nx q.nx, fun x hx ho => (q.get x (Nat.lt_of_lt_of_le hx p.nx) ho).trans (p.get x hx ho)⟩
theorem Stp.put {o : Nat} {a b : H} (p : Stp o a b) (x : Option Blk) : Stp o a (b.put o x) := ⟨p.nx, fun y hy ho => by rw [H.put_get_ne _ _ ho]; exact p.get y hy ho⟩
def RSo (o : Nat) (h : H) (s : Nat) (v : Value) (l : List (List Value)) : Prop := RS h s v l ∧ ∀ b, bOf v = some b → b ≠ o ∧ b + 1 ≠ o
theorem RSo.step {o : Nat} {h h' : H} {s : Nat} {v : Value} {l : List (List Value)} (r : RSo o h s v l) (p : Stp o h h') : RSo o h' s v l := ⟨r.1.keep p.nx fun b hb => p.get b (r.1.lt hb) (r.2 b hb).1, r.2⟩
/-- o.x = append([]T{}, g.x..) -/
theorem copyStep {hq : H} {o i : Nat} {xs : List Value} {t to : TypeId} {s : Nat} {v : Value} {l : List (List Value)} (ho : o < hq.next) (hc : hq.get o = some (.cells xs to true)) (hi : i < xs.length) (r : RSo o hq s v l) (hl : l.length ≤ 2 ^ 30) :
    ∃ w r' h', (hq.new (.cells [] t true)).appS s t v (slc hq.next 0 0 0) = some (w, r') ∧ pst r' w (ptr o i) = some h' ∧ Stp o hq h' ∧ h'.get o = some (.cells (xs.set i w) to true) ∧ RSo o h' s w l := by
  have fn : Fr hq (hq.new (.cells [] t true)) := (Fr.refl hq).new _
  obtain ⟨w, r', h1, h2, h3, h4⟩ := append0_c (h := hq.new (.cells [] t true)) (b := hq.next) (e := t) (by simp) (H.new_get_same _ _) (r.1.fr fn) hl
  have go : r'.get o = some (.cells xs to true) := by rw [h2.get o (by simp; omega), fn.get o ho]; exact hc
  have hw : ∀ b, bOf w = some b → b ≠ o ∧ b + 1 ≠ o := fun b hb => by rcases h4 b hb with rfl | h5 <;> simp at * <;> omega
  refine ⟨w, r', r'.put o (some (.cells (xs.set i w) to true)), h1, by rw [pst_ptr, H.st_of _ go, if_pos hi], (Stp.of (fn.trans h2)).put _, H.put_get_same _ _ _, h3.keep (by rw [H.put_nx]; exact Nat.le_refl _) fun b hb => H.put_get_ne _ _ (hw b hb).1, hw⟩
section
variable {C : Nat → CallT} {N : Nat} (K : CallsOf C N)
include K
theorem f22_c {d : Nat} (hd : 1 ≤ d) {v w : Value} {l : List Int} {h : H} (r1 : RInt h v l) (r2 : RInt h w l) (hl : l.length < 5000) : C d (.func 22) [.one v, .one w] h = some (.one (.bool true), h) := by
  obtain ⟨e, he, rfl, hC⟩ := K.at (k := 0) hd
  have hN := K.big
  have main := loop_inv (LP := LP22_0 (C e) N) (n := l.length)
    (fun i vs h1 => h1 = h ∧ vs = [.one v, .one w, .one (I i)])
    (fun o => o = some (.exit 0, [], h))
    (fun m vs h1 ⟨f, hv⟩ => by subst hv; subst f; rw [LP22_0_succ]; unfold B22_0; simp only [S0, Nat.reduceAdd, Nat.reduceLeDiff, ↓reduceIte, r1.len, in0])
    (fun i m vs h1 hi ⟨f, hv⟩ => by
      subst hv; subst f
      refine .inr ⟨_, h1, ⟨rfl, rfl⟩, ?_⟩
      rw [LP22_0_succ]; unfold B22_0
      obtain ⟨_, _, _, a1, a2⟩ := r1.atI (n := (i : Int)) (by omega) (by omega)
      obtain ⟨_, _, _, b1, b2⟩ := r2.atI (n := (i : Int)) (by omega) (by omega)
      have a3 := a2 h1 (.refl _)
      have b3 := b2 h1 (.refl _)
      simp only [S0, Nat.reduceAdd, Nat.reduceLeDiff, ↓reduceIte, r1.len, i0 hi, a1, a3, b1, b3, i1 (show i + 1 ≤ l.length from hi) (by omega)])
    l.length 0 N _ h (by omega) ⟨rfl, rfl⟩ (by omega)
  have main' : LP22_0 (C e) N N [.one v, .one w, .one (I 0)] h = _ := main
  rw [hC _ _ _ rfl, F22_eq]; unfold F22
  simp only [S0, Nat.reduceAdd, Nat.reduceLeDiff, ↓reduceIte, r1.len, r2.len, main']
end
/-- a gala of whatever size -/
structure GalaT (h : H) (g : Gala) (vr v1 v2 v3 ve vb vl vm vy : Value) : Prop where
  q0 : RS h 5 vr (g.ev.rides.map Booth.enc)
  q1 : RS h 4 v1 (g.book.rules.map Rule.enc)
  q2 : RInt h v2 g.book.ranks
  q3 : RInt h v3 g.book.insured
  q4 : RS h 5 ve (g.es.map Entry.enc)
  q5 : RS h 4 vb (g.sup.boards.map Board.enc)
  q6 : RS h 4 vl (g.sup.loads.map Load.enc)
  q7 : RInt h vm g.limits
  q8 : RInt h vy g.empty
def farP (g : Gala) : Bool :=
  decide ((g.ev.rides.length : Int) > 10) || decide ((g.book.rules.length : Int) > 25) || decide ((g.book.ranks.length : Int) > 12) || decide ((g.book.insured.length : Int) > 15) || decide ((g.es.length : Int) > 60) || decide ((g.sup.boards.length : Int) > 15) || decide ((g.sup.loads.length : Int) > 20) || decide ((g.limits.length : Int) > 15) || decide ((g.empty.length : Int) > 15)
structure Near (g : Gala) : Prop where
  n0 : g.ev.rides.length ≤ 10
  n1 : g.book.rules.length ≤ 25
  n2 : g.book.ranks.length ≤ 12
  n3 : g.book.insured.length ≤ 15
  n4 : g.es.length ≤ 60
  n5 : g.sup.boards.length ≤ 15
  n6 : g.sup.loads.length ≤ 20
  n7 : g.limits.length ≤ 15
  n8 : g.empty.length ≤ 15
theorem Near.of {g : Gala} (h : farP g = false) : Near g := by
  unfold farP at h
  simp only [Bool.or_eq_false_iff, decide_eq_false_iff_not] at h
  constructor <;> omega
theorem GalaT.S {h : H} {g : Gala} {vr v1 v2 v3 ve vb vl vm vy : Value} (r : GalaT h g vr v1 v2 v3 ve vb vl vm vy) (n : Near g) : GalaS h g vr v1 v2 v3 ve vb vl vm vy := by
  obtain ⟨n0, n1, n2, n3, n4, n5, n6, n7, n8⟩ := n
  exact ⟨⟨⟨vr, rfl, r.q0⟩, by omega⟩, ⟨⟨v1, v2, v3, rfl, r.q1, r.q2, r.q3⟩, by omega, by omega, by omega⟩, r.q4, ⟨⟨vb, vl, rfl, r.q5, r.q6⟩, by omega, by omega⟩, r.q7, r.q8, by omega, by omega, by omega⟩
theorem GalaT.fr {h h' : H} {g : Gala} {vr v1 v2 v3 ve vb vl vm vy : Value} (r : GalaT h g vr v1 v2 v3 ve vb vl vm vy) (f : Fr h h') : GalaT h' g vr v1 v2 v3 ve vb vl vm vy :=
  ⟨r.q0.fr f, r.q1.fr f, r.q2.fr f, r.q3.fr f, r.q4.fr f, r.q5.fr f, r.q6.fr f, r.q7.fr f, r.q8.fr f⟩
theorem RS.lenm {α : Type} {enc : α → List Value} {h : H} {s : Nat} {v : Value} {l : List α} (r : RS h s v (l.map enc)) : lenS v = some (I l.length) := by have := r.len; rwa [List.length_map] at this
section
variable {C : Nat → CallT} {N : Nat} (K : CallsOf C N)
include K
theorem f15_c {d : Nat} (hd : 1 ≤ d) {g : Gala} {vr v1 v2 v3 ve vb vl vm vy : Value} {h : H} (r : GalaT h g vr v1 v2 v3 ve vb vl vm vy) :
    C d (.func 15) [.agg (gcs g vr v1 v2 v3 ve vb vl vm vy)] h = some (.one (.bool (farP g)), h.new (.cells (gcs g vr v1 v2 v3 ve vb vl vm vy) 35 true)) := by
  obtain ⟨e, he, rfl, hC⟩ := K.at (k := 0) hd
  rw [hC _ _ _ rfl, F15_eq]; unfold F15 farP
  simp only [S0, Nat.reduceAdd, Nat.reduceLeDiff, ↓reduceIte, r.q0.lenm, r.q1.lenm, r.q2.len, r.q3.len, r.q4.lenm, r.q5.lenm, r.q6.lenm, r.q7.len, r.q8.len]
end
end Go.Wz
