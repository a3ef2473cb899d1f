/- The law NightOpens, over calls. -/
import Derived.Test.YthidglhhfdjhhaaGreatHD
set_option linter.unusedVariables false
set_option linter.unusedSimpArgs false
namespace Go.Wz
open Go
theorem RInt.hid {h : H} {v : Value} {l : List Int} (r : RInt h v l) (i : Nat) : RInt (frzL [i] h) v l := RS.frz r i
theorem GalaS.frz {h : H} {g : Gala} {vr v1 v2 v3 ve vb vl vm vy : Value} (s : GalaS h g vr v1 v2 v3 ve vb vl vm vy) (i : Nat) : GalaS (frzL [i] h) g vr v1 v2 v3 ve vb vl vm vy := by
  obtain ⟨⟨⟨w, e1, a1⟩, a2⟩, ⟨⟨w1, w2, w3, e2, b1, b2, b3⟩, b4, b5, b6⟩, c, ⟨⟨u1, u2, e3, d1, d2⟩, d3, d4⟩, p1, p2, q1, q2, q3⟩ := s
  exact ⟨⟨⟨w, e1, a1.frz i⟩, a2⟩, ⟨⟨w1, w2, w3, e2, b1.frz i, RS.frz b2 i, RS.frz b3 i⟩, b4, b5, b6⟩, c.frz i, ⟨⟨u1, u2, e3, d1.frz i, d2.frz i⟩, d3, d4⟩, RS.frz p1 i, RS.frz p2 i, q1, q2, q3⟩
section
variable {C : Nat → CallT} {N : Nat} (K : CallsOf C N)
include K
set_option maxHeartbeats 1600000 in
theorem opens_law {e : Nat} (he : 14 ≤ e) (hW : ∀ h, C e (.func 16) [] h = some (.one (.bool true), h)) {g : Gala} {vr v1 v2 v3 ve vb vl vm vy : Value} {h : H} (r : GalaT h g vr v1 v2 v3 ve vb vl vm vy) :
    ∃ h', execF Proofs.Tryz.prog (C e) hints N 3 [.agg (gcs g vr v1 v2 v3 ve vb vl vm vy)] h = some (.one (.bool true), h') := by
  obtain ⟨hA, eA⟩ : ∃ q, q = h.new (.cells (gcs g vr v1 v2 v3 ve vb vl vm vy) 35 true) := ⟨_, rfl⟩
  have fA : Fr h hA := by rw [eA]; exact (Fr.refl h).new _
  have nA : hA.next = h.next + 1 := by rw [eA]; rfl
  have gA : hA.get h.next = some (.cells (gcs g vr v1 v2 v3 ve vb vl vm vy) 35 true) := by rw [eA]; simp
  have gF : ∀ h', Fr hA h' → h'.get h.next = some (.cells (gcs g vr v1 v2 v3 ve vb vl vm vy) 35 true) := fun h' f => by rw [f.get _ (by omega)]; exact gA
  have lF : ∀ h', Fr hA h' → h'.ldn h.next 0 14 = some (gcs g vr v1 v2 v3 ve vb vl vm vy) := fun h' f => by rw [H.ldn_of _ (gF h' f)]; rfl
  have k15 := f15_c K (d := e) (by omega) (r.fr fA)
  obtain ⟨h1, e1⟩ : ∃ q, q = hA.new (.cells (gcs g vr v1 v2 v3 ve vb vl vm vy) 35 true) := ⟨_, rfl⟩
  rw [← e1] at k15
  have f1 : Fr hA h1 := by rw [e1]; exact (Fr.refl hA).new _
  rw [F3_eq]; unfold F3
  rw [← eA]
  cases hfar : farP g with
  | true =>
    rw [hfar] at k15
    exact ⟨h1, by simp only [S0, Nat.reduceAdd, Nat.reduceLeDiff, ↓reduceIte, lF hA (.refl _), k15, hW]⟩
  | false =>
  rw [hfar] at k15
  have near := Near.of hfar
  have S := r.S near
  obtain ⟨cq, h2, k17, f2, rq⟩ := f17_c K (d := e) (by omega) near (r.fr (fA.trans f1))
  have hcq : cq.length = 14 := by obtain ⟨_, _, _, _, _, _, _, _, _, rfl, _⟩ := rq; rfl
  have p1 := pstn_new h2 (zs := [.slice none 0 0, I 0, .slice none 0 0, .slice none 0 0, .slice none 0 0, .slice none 0 0, I 0, .slice none 0 0, .slice none 0 0, I 0, I 0, I 0, .slice none 0 0, .slice none 0 0]) (xs := cq) 35 hcq
  obtain ⟨h9, e9⟩ : ∃ q, q = h2.new (.cells cq 35 true) := ⟨_, rfl⟩
  rw [← e9] at p1
  have f9 : Fr h2 h9 := by rw [e9]; exact (Fr.refl h2).new _
  have n9 : h9.next = h2.next + 1 := by rw [e9]; rfl
  have gq : ∀ h', Fr h9 h' → h'.get h2.next = some (.cells cq 35 true) := fun h' f => by rw [f.get _ (by omega), e9]; simp
  have lq : ∀ h', Fr h9 h' → h'.ldn h2.next 0 14 = some cq := fun h' f => by rw [H.ldn_of _ (gq h' f), if_pos (by omega), List.drop_zero, List.take_of_length_le (by omega)]
  have F9 := f1.trans (f2.trans f9)
  obtain ⟨v15, h11, k18, o18⟩ := f18_c K (d := e) (by omega) (rq.fr f9)
  have F11 := F9.trans o18.fr
  obtain ⟨v24, h20, k19, o19⟩ := f19_c K (d := e) (by omega) (g := g) (h := h11) (cs := gcs g vr v1 v2 v3 ve vb vl vm vy) ⟨_, _, _, _, _, _, _, _, _, rfl, S.fr (fA.trans F11)⟩
  have F20 := F11.trans o19.fr
  have n20 := F20.nx
  obtain ⟨ur, u1, u2, u3, ue, ub, ul, um, uy, hcq', Q⟩ := rq
  have Q20 := Q.fr (f9.trans (o18.fr.trans o19.fr))
  obtain ⟨h30, k20, f30⟩ := f20_c K (d := e) (by omega) (g := g) (cs := cq) ⟨_, _, _, _, _, _, _, _, _, hcq', Q20.frz h.next⟩
  obtain ⟨T, eT⟩ : ∃ T, T = thawL [h.next] h20 h30 := ⟨_, rfl⟩
  have fT : Fr h20 T := by rw [eT]; exact f30.thaw
  have FT := F20.trans fT
  obtain ⟨h33, k21, f33⟩ := f21_c K (d := e) (by omega) (g := g) (h := T) (cs := gcs g vr v1 v2 v3 ve vb vl vm vy) ⟨_, _, _, _, _, _, _, _, _, rfl, S.fr (fA.trans FT)⟩
  have F33 := FT.trans f33
  have fq33 : Fr h9 h33 := (o18.fr.trans o19.fr).trans (fT.trans f33)
  have hlen : (if galaErr g = 0 then opensP g else []).length < 5000 := by
    split
    · rename_i hg
      have := opFold_len g.sup (relP g)
      have := relP_len g
      have := near.n3
      unfold opensP; omega
    · simp
  have I15 : RInt h33 v15 (if galaErr g = 0 then opensP g else []) := o18.int.fr (o19.fr.trans (fT.trans f33))
  have I24 : RInt h33 v24 (if galaErr g = 0 then opensP g else []) := o19.int.fr (fT.trans f33)
  have k22 := f22_c K (d := e) (by omega) I15 I24 hlen
  by_cases hg : galaErr g = 0
  case neg =>
    have hne : (galaErr g != 0) = true := by simpa using hg
    refine ⟨h33, ?_⟩
    simp only [S0, Nat.reduceAdd, Nat.reduceLeDiff, ↓reduceIte, lF hA (.refl _), k15, lF h1 f1, k17, ifLen_eq, hcq, p1, lq h9 (.refl _), k18, lF h11 F11, k19, lq h20 (o18.fr.trans o19.fr), bOf_ptr, k20, sameB_ptr, ← eT, lF T FT, k21, k22, hne, hW]
  have ok := GOk.of hg
  have hne : (galaErr g != 0) = false := by simpa using hg
  rw [if_pos hg] at I15
  rw [hcq'] at gq
  have g33 := gq h33 fq33
  have t2 : h33.ldn h2.next 2 3 = some [u1, u2, u3] := by rw [H.ldn_of _ g33]; rfl
  have t5 : h33.ld h2.next 5 = some ue := by rw [H.ld_of _ g33]; rfl
  have t6 : h33.ld h2.next 6 = some (I g.day) := by rw [H.ld_of _ g33]; rfl
  have Q33 := Q20.fr (fT.trans f33)
  obtain ⟨v65, h61, k23, o23⟩ := f23_c K (d := e) (by omega) Q33.book Q33.es g.day
  rw [ok.day] at k23
  rw [ok.day, if_pos rfl] at o23
  have o23 : Own h33 h61 v65 (relP g) := o23
  have n33 := F33.nx
  have m33 := fq33.nx
  have n61 := o23.fr.nx
  obtain ⟨h70, kL, fL⟩ := loop3 K (e := e) (by omega) ok (bg := h.next) (bq := h2.next) (h0 := h61) (v15 := v15) (v65 := v65) (cs := cq) (by omega) (by omega) (gF h61 (F33.trans o23.fr)) (S.fr (fA.trans (F33.trans o23.fr))) (gq h61 (fq33.trans o23.fr)) (Q33.fr o23.fr) (I15.fr o23.fr) o23.int
  have n0 : ((0 : Int) != 0) = false := rfl
  have l15 := I15.len
  refine ⟨h70, ?_⟩
  simp only [S0, Nat.reduceAdd, Nat.reduceLeDiff, ↓reduceIte, lF hA (.refl _), k15, lF h1 f1, k17, ifLen_eq, hcq, p1, lq h9 (.refl _), k18, lF h11 F11, k19, lq h20 (o18.fr.trans o19.fr), bOf_ptr, k20, sameB_ptr, ← eT, lF T FT, k21, k22, hne, t2, t5, t6, k23, n0, kL, l15, beq_self_eq_true, hW]
end
end Go.Wz
