/- Contracts: queue.Check and its reference, with groups. -/
import Derived.Test.YthidglhhfdjhhaaGreatGB
set_option linter.unusedVariables false
set_option linter.unusedSimpArgs false
namespace Go.Wz
open Go

structure Group where
  at_ : Int
  size : Int
  tokens : Int
  wants : List Int
  patience : Int
def GroupR (h : H) (r : List Value) (g : Group) : Prop := ∃ vw, r = [I g.at_, I g.size, I g.tokens, vw, I g.patience] ∧ RInt h vw g.wants
theorem GroupR.fr {h h' : H} {r : List Value} {g : Group} (a : GroupR h r g) (f : Fr h h') : GroupR h' r g := by obtain ⟨vw, h1, h2⟩ := a; exact ⟨vw, h1, RS.fr h2 f⟩
structure GroupsR (h : H) (v : Value) (gs : List Group) : Prop where
  ex : ∃ l : List (List Value × Group), RS h 5 v (l.map (·.1)) ∧ (∀ x ∈ l, GroupR h x.1 x.2) ∧ gs = l.map (·.2)
  small : gs.length < 5000
  wsmall : ∀ g ∈ gs, g.wants.length < 5000
theorem GroupsR.fr {h h' : H} {v : Value} {gs : List Group} (a : GroupsR h v gs) (f : Fr h h') : GroupsR h' v gs := by
  obtain ⟨⟨l, h1, h2, h3⟩, h4, h5⟩ := a; exact ⟨⟨l, h1.fr f, fun x hx => (h2 x hx).fr f, h3⟩, h4, h5⟩
theorem GroupsR.len {h : H} {v : Value} {gs : List Group} (a : GroupsR h v gs) : lenS v = some (I gs.length) := by
  obtain ⟨⟨l, h1, h2, h3⟩, h4, h5⟩ := a
  have := h1.len
  rw [this, h3]; simp
theorem GroupsR.nil {h : H} : GroupsR h (.slice none 0 0) [] := ⟨⟨[], RS.nil, by simp, rfl⟩, by simp, by simp⟩
theorem RInt.len {h : H} {v : Value} {l : List Int} (r : RInt h v l) : lenS v = some (I l.length) := by have := RS.len r; rwa [List.length_map] at this
theorem RInt.atx {h : H} {v : Value} {l : List Int} (r : RInt h v l) {i : Nat} {x : Int} (hx : l[i]? = some x) :
    ∃ b o, b < h.next ∧ bOf v = some b ∧ idxS 1 v (I (i : Int)) = some (ptr b o) ∧ ∀ h', Fr h h' → h'.ld b o = some (I x) := by
  obtain ⟨b, o, h1, h2, h3, h4⟩ := RS.atx r hx
  exact ⟨b, o, h1, h2, h3, fun h' f => by have := (h4 h' f).2 0 (by omega); simpa using this⟩
theorem sub1 {n : Nat} (hn : n < 2 ^ 40) : ibin .sub (I n) (I 1) = some (I ((n : Int) - 1)) := sub_in (by omega) (by omega)
def badGroup (n : Nat) (g : Group) : Bool :=
  !wi g.at_ 0 2000 || !wi g.size 1 40 || !wi g.tokens 0 10000 || !wi g.patience 0 2000 || decide ((g.wants.length : Int) > 10) || g.wants.any fun w => !wi w 0 ((n : Int) - 1)
def queueErr (ev : Evening) (gs : List Group) : Int := if evBad ev = true then 70 else if (decide ((gs.length : Int) > 60) || gs.any (badGroup ev.rides.length)) = true then 71 else 0
section
variable {C : Nat → CallT} {N : Nat} (K : CallsOf C N)
include K
theorem f100_c {d : Nat} (hd : 2 ≤ d) (w : Int) {h : H} {b n : Nat} {v : Value} (hb : h.ld b 0 = some v) (hl : lenS v = some (I n)) (hn : n < 5000) :
    C d (.func 100) [.one (I w), .one (ptr b 0)] h = some (.one (.bool (!wi w 0 ((n : Int) - 1))), h) := by
  obtain ⟨e, he, rfl, hC⟩ := K.at (k := 1) hd
  rw [hC _ _ _ rfl, F100_eq]; unfold F100
  simp only [S0, Nat.reduceAdd, Nat.reduceLeDiff, ↓reduceIte, hb, hl, sub1 (show n < 2 ^ 40 by omega), w101 K he]
theorem f57_c {d : Nat} {α : Type} {enc1 : α → Value} {l : List α} {p : α → Bool} {v vf : Value} {h : H} (r : RS h 1 v (l.map fun x => [enc1 x])) (hl : l.length < 5000)
    (hf : ∀ x ∈ l, ∀ h1, Fr h h1 → ∃ h', callV (C d) vf [.one (enc1 x)] h1 = some (.one (.bool (p x)), h') ∧ Fr h1 h') :
    ∃ h', C (d + 2) (.func 57) [.one v, .one vf] h = some (.one (.bool (l.any p)), h') ∧ Fr h h' := by
  obtain ⟨h2, k1, k2⟩ := indexF1 K (fi := 105) (LP := LP105_0) rfl (fun _ _ _ _ _ => F105_eq _ _ _ _ _) (fun _ _ _ _ _ _ _ _ => LP105_0_succ _ _ _ _ _ _ _ _) (d := d) (p := p) (vf := vf) r hl hf
  exact ⟨h2, containsF K (fc := 57) rfl (fun _ _ _ _ _ => F57_eq _ _ _ _ _) k1, k2⟩
theorem f99_c {d : Nat} (hd : 5 ≤ d) {r : List Value} {g : Group} {h : H} {b n : Nat} {v : Value} (hr : GroupR h r g) (hw : g.wants.length < 5000) (hbl : b < h.next) (hb : h.ld b 0 = some v) (hl : lenS v = some (I n)) (hn : n < 5000) :
    ∃ h', C d (.func 99) [.agg r, .one (ptr b 0)] h = some (.one (.bool (badGroup n g)), h') ∧ Fr h h' := by
  obtain ⟨e, he, rfl, hC⟩ := K.at (k := 4) hd
  obtain ⟨vw, rfl, hrw⟩ := hr
  have f1 := (Fr.refl h).new (.cells [I g.at_, I g.size, I g.tokens, vw, I g.patience] 61 true)
  obtain ⟨q, rfl⟩ : ∃ q, e = q + 2 := ⟨e - 2, by omega⟩
  obtain ⟨h2, k1, k2⟩ := f57_c K (d := q) (enc1 := fun x : Int => I x) (vf := .func (.func 100) #[] #[ptr b 0]) (p := fun w => !wi w 0 ((n : Int) - 1)) (RS.fr hrw f1) hw
    (fun x hx h1 f => ⟨h1, by rw [callV_func]; exact f100_c K (by omega) x (by rw [(f1.trans f).ld hbl]; exact hb) hl hn, .refl h1⟩)
  have hlw := hrw.len
  rw [hC _ _ _ rfl, F99_eq]; unfold F99 badGroup
  simp only [S0, Nat.reduceAdd, Nat.reduceLeDiff, ↓reduceIte, w101 K (show 1 ≤ q + 2 by omega), hlw]
  generalize hA : (!wi g.at_ 0 2000 || (!wi g.size 1 40)) = A
  generalize hB : (!wi g.tokens 0 10000) = B
  generalize hD : (!wi g.patience 0 2000) = D
  generalize hE : decide ((g.wants.length : Int) > 10) = E
  cases A <;> cases B <;> cases D <;> cases E <;> simp only [S0, Nat.reduceAdd, Nat.reduceLeDiff, ↓reduceIte]
  all_goals first
    | exact ⟨_, rfl, f1⟩
    | exact ⟨h2, by rw [k1]; simp only [S0, Nat.reduceAdd, Nat.reduceLeDiff, ↓reduceIte], f1.trans k2⟩
theorem f51_c {d : Nat} (hd : 10 ≤ d) {cs : List Value} {ev : Evening} {v : Value} {gs : List Group} {h : H} (r : EvR h cs ev) (rg : GroupsR h v gs) :
    ∃ h', C d (.func 51) [.agg cs, .one v] h = some (.one (I (queueErr ev gs)), h') ∧ Fr h h' := by
  obtain ⟨e, he, rfl, hC⟩ := K.at (k := 9) hd
  have hlg := rg.len
  have f1 := (Fr.refl h).new (.cells cs 24 true)
  obtain ⟨h2, k1, k2⟩ := f98_c K (show 5 ≤ e by omega) (r.fr f1)
  obtain ⟨⟨vr, rfl, r1⟩, hs⟩ := r
  have hlr := r1.len
  rw [List.length_map] at hlr
  obtain ⟨q, rfl⟩ : ∃ q, e = q + 2 := ⟨e - 2, by omega⟩
  obtain ⟨l, l1, l2, l3⟩ := (rg.fr (f1.trans k2)).ex
  have hsm := rg.small
  have g0 : h2.ld h.next 0 = some vr := by rw [k2.ld (by simp)]; simp only [S0, Nat.reduceAdd, Nat.reduceLeDiff, ↓reduceIte]
  obtain ⟨h3, m1, m2⟩ := indexF K (fi := 180) (LP := LP180_0) rfl (fun _ _ _ _ _ => F180_eq _ _ _ _ _) (fun _ _ _ _ _ _ _ _ => LP180_0_succ _ _ _ _ _ _ _ _) (d := q) (enc := fun x : List Value × Group => x.1) (l := l)
    (p := fun x => badGroup ev.rides.length x.2) (vf := .func (.func 99) #[] #[ptr h.next 0]) l1 (by rw [l3] at hsm; simpa using hsm)
    (fun x hx h1 f => by
      rw [callV_func]
      exact f99_c K (by omega) ((l2 x hx).fr f) (rg.wsmall x.2 (by rw [l3]; exact List.mem_map_of_mem hx)) (by have := k2.nx; have := f.nx; simp at *; omega) (by rw [f.ld (by have := k2.nx; simp at this; omega)]; exact g0) hlr hs)
  have m3 := containsF K (fc := 102) rfl (fun _ _ _ _ _ => F102_eq _ _ _ _ _) m1
  have m4 : (l.any fun x => badGroup ev.rides.length x.2) = gs.any (badGroup ev.rides.length) := by rw [l3, List.any_map]; rfl
  rw [m4] at m3
  rw [hC _ _ _ rfl, F51_eq]; unfold F51 queueErr
  cases hE : evBad ev <;> rw [hE] at k1
  · simp only [S0, Nat.reduceAdd, Nat.reduceLeDiff, ↓reduceIte] at k1
    simp only [S0, Nat.reduceAdd, Nat.reduceLeDiff, ↓reduceIte, k1, hlg]
    cases hG : decide ((gs.length : Int) > 60)
    · simp only [S0, Nat.reduceAdd, Nat.reduceLeDiff, ↓reduceIte, m3]
      refine ⟨h3, ?_, f1.trans (k2.trans m2)⟩
      cases gs.any (badGroup ev.rides.length) <;> simp only [S0, Nat.reduceAdd, Nat.reduceLeDiff, ↓reduceIte]
    · exact ⟨h2, by simp only [S0, Nat.reduceAdd, Nat.reduceLeDiff, ↓reduceIte], f1.trans k2⟩
  · simp only [S0, Nat.reduceAdd, Nat.reduceLeDiff, ↓reduceIte] at k1
    exact ⟨h2, by simp only [S0, Nat.reduceAdd, Nat.reduceLeDiff, ↓reduceIte, k1]; rfl, f1.trans k2⟩
end
end Go.Wz
