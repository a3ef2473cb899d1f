/- Contracts: a gala in new memory. -/
import Derived.Test.YthidglhhfdjhhaaGreatHB
set_option linter.unusedVariables false
set_option linter.unusedSimpArgs false
namespace Go.Wz
open Go
section
variable {C : Nat → CallT} {N : Nat} (K : CallsOf C N)
include K
theorem f34_c {d : Nat} (hd : 1 ≤ d) {vr : Value} {n : Int} {l : List (List Value)} {h : H} (r : RS h 5 vr l) (hl : l.length ≤ 2 ^ 30) :
    ∃ w h', C d (.func 34) [.agg [vr, I n]] h = some (.agg [w, I n], h') ∧ Fr h h' ∧ RS h' 5 w l ∧ ∀ b, bOf w = some b → h.next ≤ b := by
  obtain ⟨e, he, rfl, hC⟩ := K.at (k := 0) hd
  obtain ⟨P0, eP⟩ : ∃ q, q = H.put (H.skip (H.new (H.new h (Blk.cells [vr, I n] 24 true)) (Blk.cells [(Value.slice none 0 0), (I 0)] 24 true)) 8) (h.next + 2) (some (Blk.cells [] 89 true)) := ⟨_, rfl⟩
  have nP : P0.next = h.next + 10 := by rw [eP, H.put_nx]; rfl
  have gP : ∀ b, b ≠ h.next + 2 → P0.get b = (H.new (H.new h (Blk.cells [vr, I n] 24 true)) (Blk.cells [(Value.slice none 0 0), (I 0)] 24 true)).get b := fun b hb => by rw [eP, H.put_get_ne _ _ hb, H.skip_get]
  have fP : Fr h P0 := ⟨by omega, fun b hb => by rw [gP b (by omega), H.new_get_lt _ _ (by simp; omega), H.new_get_lt _ _ hb]⟩
  have g0 : P0.get h.next = some (.cells [vr, I n] 24 true) := by rw [gP _ (by omega), H.new_get_lt _ _ (by simp)]; simp
  have g1 : P0.get (h.next + 1) = some (.cells [.slice none 0 0, I 0] 24 true) := by rw [gP _ (by omega)]; exact H.new_get_same (H.new h (Blk.cells [vr, I n] 24 true)) _
  have g2 : P0.get (h.next + 2) = some (.cells [] 89 true) := by rw [eP]; exact H.put_get_same _ _ _
  obtain ⟨w, q, z1, z2, z3, z4⟩ := copyF (q := P0) (b := h.next + 2) (fs := [h.next]) (hs := []) (by omega) g2 (by simp) (by simp) (by simp; omega) (r.fr fP) (by simp) hl
  obtain ⟨T, eT⟩ : ∃ T, T = thawL [h.next] P0 q := ⟨_, rfl⟩
  have z2 : Fr P0 T := by rw [eT]; exact z2
  have z3 : RS T 5 w l := by rw [eT]; exact z3
  have nT := z2.nx
  have x0 : (hideL [h.next + 2] P0).ld h.next 0 = some vr := by rw [H.ld_of _ (by rw [hide_ne (by simp)]; exact g0)]; rfl
  have x1 : (hideL [h.next + 2] T).ld h.next 1 = some (I n) := by rw [H.ld_of _ (by rw [hide_ne (by simp), z2.get _ (by omega)]; exact g0)]; rfl
  have gT : T.get (h.next + 1) = some (.cells [.slice none 0 0, I 0] 24 true) := by rw [z2.get _ (by omega)]; exact g1
  have st : T.stn (h.next + 1) 0 [w, I n] = some (T.put (h.next + 1) (some (.cells [w, I n] 24 true))) := by rw [H.stn_of _ gT, if_pos (by simp)]; rfl
  have hw : ∀ b, bOf w = some b → h.next + 2 ≤ b := fun b hb => by rcases z4 b hb with rfl | h5 <;> omega
  refine ⟨w, T.put (h.next + 1) (some (.cells [w, I n] 24 true)), ?_, (fP.trans z2).put (by omega) _, z3.keep (by rw [H.put_nx]; exact Nat.le_refl _) fun b hb => H.put_get_ne _ _ (by have := hw b hb; omega), fun b hb => by have := hw b hb; omega⟩
  have l2 : (T.put (h.next + 1) (some (.cells [w, I n] 24 true))).ldn (h.next + 1) 0 2 = some [w, I n] := by rw [H.ldn_of _ (H.put_get_same _ _ _)]; rfl
  rw [hC _ _ _ rfl, F34_eq]; unfold F34
  rw [← eP]
  simp only [S0, Nat.reduceAdd, Nat.reduceLeDiff, ↓reduceIte] at z1
  simp only [S0, Nat.reduceAdd, Nat.reduceLeDiff, ↓reduceIte, x0, bOf_ptr, z1, sameB_ptr, ← eT, x1, ifLen_eq, pstn_ptr, st, l2]
set_option maxHeartbeats 1600000 in
theorem f17_c {d : Nat} (hd : 2 ≤ d) {g : Gala} (ng : Near g) {vr v1 v2 v3 ve vb vl vm vy : Value} {h : H} (r : GalaT h g vr v1 v2 v3 ve vb vl vm vy) :
    ∃ cs h', C d (.func 17) [.agg (gcs g vr v1 v2 v3 ve vb vl vm vy)] h = some (.agg cs, h') ∧ Fr h h' ∧ GalaR h' cs g := by
  obtain ⟨e, he, rfl, hC⟩ := K.at (k := 1) hd
  obtain ⟨n0, n1, n2, n3, n4, n5, n6, n7, n8⟩ := ng
  obtain ⟨hB, eB⟩ : ∃ q, q = (h.new (.cells (gcs g vr v1 v2 v3 ve vb vl vm vy) 35 true)).new (.cells [.slice none 0 0, I 0, .slice none 0 0, .slice none 0 0, .slice none 0 0, .slice none 0 0, I 0, .slice none 0 0, .slice none 0 0, I 0, I 0, I 0, .slice none 0 0, .slice none 0 0] 35 true) := ⟨_, rfl⟩
  have fB : Fr h hB := by rw [eB]; exact ((Fr.refl h).new _).new _
  have nB : hB.next = h.next + 2 := by rw [eB]; rfl
  have gB : hB.get h.next = some (.cells (gcs g vr v1 v2 v3 ve vb vl vm vy) 35 true) := by rw [eB, H.new_get_lt _ _ (by simp)]; simp
  have gB1 : hB.get (h.next + 1) = some (.cells [.slice none 0 0, I 0, .slice none 0 0, .slice none 0 0, .slice none 0 0, .slice none 0 0, I 0, .slice none 0 0, .slice none 0 0, I 0, I 0, I 0, .slice none 0 0, .slice none 0 0] 35 true) := by rw [eB]; exact H.new_get_same (h.new (.cells (gcs g vr v1 v2 v3 ve vb vl vm vy) 35 true)) _
  have l14 : hB.ldn h.next 0 14 = some (gcs g vr v1 v2 v3 ve vb vl vm vy) := by rw [H.ldn_of _ gB]; rfl
  have p1 := pstn_new hB (zs := [.slice none 0 0, I 0, .slice none 0 0, .slice none 0 0, .slice none 0 0, .slice none 0 0, I 0, .slice none 0 0, .slice none 0 0, I 0, I 0, I 0, .slice none 0 0, .slice none 0 0]) (xs := gcs g vr v1 v2 v3 ve vb vl vm vy) 35 rfl
  rw [nB, pstn_ptr] at p1
  obtain ⟨h2, e2⟩ : ∃ q, q = hB.new (.cells (gcs g vr v1 v2 v3 ve vb vl vm vy) 35 true) := ⟨_, rfl⟩
  rw [← e2] at p1
  have f2 : Fr hB h2 := by rw [e2]; exact (Fr.refl hB).new _
  have m2 : h2.next = h.next + 3 := by rw [e2, H.new_next, nB]
  have g2 : h2.get h.next = some (.cells (gcs g vr v1 v2 v3 ve vb vl vm vy) 35 true) := by rw [f2.get _ (by omega)]; exact gB
  have g21 : h2.get (h.next + 1) = _ := (f2.get _ (by omega)).trans gB1
  have go2 : h2.get (h.next + 2) = some (.cells (gcs g vr v1 v2 v3 ve vb vl vm vy) 35 true) := by rw [e2, ← nB]; exact H.new_get_same _ _
  have r2 := r.fr (fB.trans f2)
  have src : ∀ {v : Value} {s : Nat} {l : List (List Value)}, RS h s v l → RSo (h.next + 2) h2 s v l := fun r => ⟨r.fr (fB.trans f2), fun b hb => by have := r.lt hb; omega⟩
  have t0 : h2.ldn h.next 0 2 = some [vr, I g.ev.walk] := by rw [H.ldn_of _ g2]; rfl
  obtain ⟨w0, h3, k1, k2, k3, k4⟩ := f34_c K (d := e) he (n := g.ev.walk) r2.q0 (by simp; omega)
  have go3 : h3.get (h.next + 2) = some (.cells (gcs g vr v1 v2 v3 ve vb vl vm vy) 35 true) := by rw [k2.get _ (by omega)]; exact go2
  have st3 : h3.stn (h.next + 2) 0 [w0, I g.ev.walk] = some (h3.put (h.next + 2) (some (.cells (gcs g w0 v1 v2 v3 ve vb vl vm vy) 35 true))) := by rw [H.stn_of _ go3, if_pos (by simp)]; rfl
  obtain ⟨h8, e8⟩ : ∃ q, q = h3.put (h.next + 2) (some (.cells (gcs g w0 v1 v2 v3 ve vb vl vm vy) 35 true)) := ⟨_, rfl⟩
  rw [← e8] at st3
  have s8 : Stp (h.next + 2) h2 h8 := by rw [e8]; exact (Stp.of k2).put _
  have go8 : h8.get (h.next + 2) = some (.cells (gcs g w0 v1 v2 v3 ve vb vl vm vy) 35 true) := by rw [e8]; exact H.put_get_same _ _ _
  have W0 : RSo (h.next + 2) h8 5 w0 (g.ev.rides.map Booth.enc) := by
    have hw : ∀ b, bOf w0 = some b → b ≠ h.next + 2 ∧ b + 1 ≠ h.next + 2 := fun b hb => by have := k4 b hb; omega
    exact ⟨by rw [e8]; exact k3.keep (by rw [H.put_nx]; exact Nat.le_refl _) fun b hb => H.put_get_ne _ _ (hw b hb).1, hw⟩
  have nk := s8.nx
  obtain ⟨P0, eP⟩ : ∃ q, q = H.put (H.skip h8 18) h8.next (some (Blk.cells [] 249 true)) := ⟨_, rfl⟩
  have nP : P0.next = h8.next + 18 := by rw [eP, H.put_nx]; rfl
  have sP : Stp (h.next + 2) h8 P0 := ⟨by omega, fun b hb _ => by rw [eP, H.put_get_ne _ _ (by omega), H.skip_get]⟩
  have gP : P0.get h8.next = some (.cells [] 249 true) := by rw [eP]; exact H.put_get_same _ _ _
  have goP : P0.get (h.next + 2) = some (.cells (gcs g w0 v1 v2 v3 ve vb vl vm vy) 35 true) := by rw [eP, H.put_get_ne _ _ (by omega), H.skip_get]; exact go8
  have hg : ∀ {q : H}, Stp (h.next + 2) h2 q → q.get h.next = some (.cells (gcs g vr v1 v2 v3 ve vb vl vm vy) 35 true) := fun s => by rw [s.get _ (by omega) (by omega)]; exact g2
  have sP0 := s8.trans sP
  have x2 : (hideL [h8.next, h8.next + 5, h8.next + 10] P0).ld h.next 2 = some v1 := by rw [H.ld_of _ (by rw [hide_ne (by simp; omega)]; exact hg sP0)]; rfl
  obtain ⟨w1, q1, y1, y2, y3, y4⟩ := copyF (q := P0) (b := h8.next) (fs := [h.next, h.next]) (hs := [h8.next + 5, h8.next + 10]) (by omega) gP (by simp; omega) (by simp) (by simp; omega) ((src r.q1).step sP0).1
    (fun c hc => by have := r.q1.lt hc; simp; omega) (by simp; omega)
  obtain ⟨T1, eT1⟩ : ∃ T, T = thawL [h.next, h.next, h8.next + 5, h8.next + 10] P0 q1 := ⟨_, rfl⟩
  have y2 : Fr P0 T1 := by rw [eT1]; exact y2
  have y3 : RS T1 4 w1 (g.book.rules.map Rule.enc) := by rw [eT1]; exact y3
  obtain ⟨P1, eP1⟩ : ∃ q, q = T1.put (h8.next + 5) (some (Blk.cells [] 3 true)) := ⟨_, rfl⟩
  have nT1 := y2.nx
  have nP1 : P1.next = T1.next := by rw [eP1]; rfl
  have sP1 : Stp (h.next + 2) h8 P1 := ⟨by omega, fun b hb ho => by rw [eP1, H.put_get_ne _ _ (by omega), y2.get b (by omega), sP.get b hb ho]⟩
  have goP1 : P1.get (h.next + 2) = some (.cells (gcs g w0 v1 v2 v3 ve vb vl vm vy) 35 true) := by rw [eP1, H.put_get_ne _ _ (by omega), y2.get _ (by omega)]; exact goP
  have gP1 : P1.get (h8.next + 5) = some (.cells [] 3 true) := by rw [eP1]; exact H.put_get_same _ _ _
  have W1 : RS P1 4 w1 (g.book.rules.map Rule.enc) := by rw [eP1]; exact y3.keep (by rw [H.put_nx]; exact Nat.le_refl _) fun b hb => H.put_get_ne _ _ (by rcases y4 b hb with rfl | h5 <;> omega)
  have x3 : (hideL [h8.next, h8.next + 5, h8.next + 10] P1).ld h.next 3 = some v2 := by rw [H.ld_of _ (by rw [hide_ne (by simp; omega)]; exact hg (s8.trans sP1))]; rfl
  obtain ⟨w2, q2, u1, u2, u3, u4⟩ := copyF (q := P1) (b := h8.next + 5) (fs := [h.next]) (hs := [h8.next + 10]) (by omega) gP1 (by simp; omega) (by simp) (by simp; omega) ((src r.q2).step (s8.trans sP1)).1
    (fun c hc => by have := RS.lt r.q2 hc; simp; omega) (by simp; omega)
  obtain ⟨T2, eT2⟩ : ∃ T, T = thawL [h.next, h8.next + 10] P1 q2 := ⟨_, rfl⟩
  have u2 : Fr P1 T2 := by rw [eT2]; exact u2
  have u3 : RS T2 1 w2 (g.book.ranks.map fun x => [I x]) := by rw [eT2]; exact u3
  obtain ⟨P2, eP2⟩ : ∃ q, q = T2.put (h8.next + 10) (some (Blk.cells [] 3 true)) := ⟨_, rfl⟩
  have nT2 := u2.nx
  have nP2 : P2.next = T2.next := by rw [eP2]; rfl
  have sP2 : Stp (h.next + 2) h8 P2 := ⟨by omega, fun b hb ho => by rw [eP2, H.put_get_ne _ _ (by omega), u2.get b (by omega), sP1.get b hb ho]⟩
  have goP2 : P2.get (h.next + 2) = some (.cells (gcs g w0 v1 v2 v3 ve vb vl vm vy) 35 true) := by rw [eP2, H.put_get_ne _ _ (by omega), u2.get _ (by omega)]; exact goP1
  have gP2 : P2.get (h8.next + 10) = some (.cells [] 3 true) := by rw [eP2]; exact H.put_get_same _ _ _
  have W2 : RS P2 1 w2 (g.book.ranks.map fun x => [I x]) := by rw [eP2]; exact u3.keep (by rw [H.put_nx]; exact Nat.le_refl _) fun b hb => H.put_get_ne _ _ (by rcases u4 b hb with rfl | h5 <;> omega)
  have W1' : RS P2 4 w1 (g.book.rules.map Rule.enc) := by rw [eP2]; exact (W1.fr u2).keep (by rw [H.put_nx]; exact Nat.le_refl _) fun b hb => H.put_get_ne _ _ (by rcases y4 b hb with rfl | h5 <;> omega)
  have x4 : (hideL [h8.next, h8.next + 5, h8.next + 10] P2).ld h.next 4 = some v3 := by rw [H.ld_of _ (by rw [hide_ne (by simp; omega)]; exact hg (s8.trans sP2))]; rfl
  obtain ⟨w3, q3, t1, t2, t3, t4⟩ := append0_c (h := P2) (b := h8.next + 10) (by omega) gP2 ((src r.q3).step (s8.trans sP2)).1 (by simp; omega)
  have nq3 := t2.nx
  have goq : q3.get (h.next + 2) = some (.cells (gcs g w0 v1 v2 v3 ve vb vl vm vy) 35 true) := by rw [t2.get _ (by omega)]; exact goP2
  have st25 : q3.stn (h.next + 2) 2 [w1, w2, w3] = some (q3.put (h.next + 2) (some (.cells (gcs g w0 w1 w2 w3 ve vb vl vm vy) 35 true))) := by rw [H.stn_of _ goq, if_pos (by simp)]; rfl
  obtain ⟨h25, e25⟩ : ∃ q, q = q3.put (h.next + 2) (some (.cells (gcs g w0 w1 w2 w3 ve vb vl vm vy) 35 true)) := ⟨_, rfl⟩
  rw [← e25] at st25
  have s25 : Stp (h.next + 2) h8 h25 := by rw [e25]; exact (sP2.trans (Stp.of t2)).put _
  have n25 : h25.next = q3.next := by rw [e25]; rfl
  have go25 : h25.get (h.next + 2) = some (.cells (gcs g w0 w1 w2 w3 ve vb vl vm vy) 35 true) := by rw [e25]; exact H.put_get_same _ _ _
  have kp : ∀ {w : Value} {s : Nat} {l : List (List Value)}, RS q3 s w l → (∀ b, bOf w = some b → h.next + 3 ≤ b) → RSo (h.next + 2) h25 s w l := fun rw' hw => ⟨by rw [e25]; exact rw'.keep (by rw [H.put_nx]; exact Nat.le_refl _) fun b hb => H.put_get_ne _ _ (by have := hw b hb; omega), fun b hb => by have := hw b hb; omega⟩
  have X1 := kp (W1'.fr t2) fun b hb => by rcases y4 b hb with rfl | h5 <;> omega
  have X2 := kp (W2.fr t2) fun b hb => by rcases u4 b hb with rfl | h5 <;> omega
  have X3 := kp t3 fun b hb => by rcases t4 b hb with rfl | h5 <;> omega
  have X0 := W0.step s25
  have S25 := s8.trans s25
  have rd : ∀ {q : H} (t : TypeId) (i : Nat), Stp (h.next + 2) h2 q → (q.new (.cells [] t true)).ld h.next i = (gcs g vr v1 v2 v3 ve vb vl vm vy)[i]? := fun {q} t i s => by
    have := s.nx
    rw [H.ld_of _ (by rw [H.new_get_lt _ _ (by omega)]; exact hg s)]
  obtain ⟨w4, r4, h30, a1, a2, a3, a4, a5⟩ := copyStep (i := 5) (t := 162) (by omega) go25 (by simp) ((src r.q4).step S25) (by simp; omega)
  have S30 := S25.trans a3
  have z5 := rd 162 5 S25
  have a4 : h30.get (h.next + 2) = some (.cells (gcs g w0 w1 w2 w3 w4 vb vl vm vy) 35 true) := a4
  have nn30 := S30.nx
  obtain ⟨w5, r5, h37, b1, b2, b3, b4, b5⟩ := copyStep (i := 7) (t := 164) (by omega) a4 (by simp) ((src r.q5).step S30) (by simp; omega)
  have S37 := S30.trans b3
  have z7 := rd 164 7 S30
  have b4 : h37.get (h.next + 2) = some (.cells (gcs g w0 w1 w2 w3 w4 w5 vl vm vy) 35 true) := b4
  have nn37 := S37.nx
  obtain ⟨w6, r6, h44, c1, c2, c3, c4, c5⟩ := copyStep (i := 8) (t := 166) (by omega) b4 (by simp) ((src r.q6).step S37) (by simp; omega)
  have S44 := S37.trans c3
  have z8 := rd 166 8 S37
  have c4 : h44.get (h.next + 2) = some (.cells (gcs g w0 w1 w2 w3 w4 w5 w6 vm vy) 35 true) := c4
  have nn44 := S44.nx
  obtain ⟨w7, r7, h49, d1, d2, d3, d4, d5⟩ := copyStep (i := 12) (t := 3) (by omega) c4 (by simp) ((src r.q7).step S44) (by simp; omega)
  have S49 := S44.trans d3
  have z12 := rd 3 12 S44
  have d4 : h49.get (h.next + 2) = some (.cells (gcs g w0 w1 w2 w3 w4 w5 w6 w7 vy) 35 true) := d4
  have nn49 := S49.nx
  obtain ⟨w8, r8, h54, f1, f2', f3, f4, f5⟩ := copyStep (i := 13) (t := 3) (by omega) d4 (by simp) ((src r.q8).step S49) (by simp; omega)
  have S54 := S49.trans f3
  have z13 := rd 3 13 S49
  have f4 : h54.get (h.next + 2) = some (.cells (gcs g w0 w1 w2 w3 w4 w5 w6 w7 w8) 35 true) := f4
  have nn54 := S54.nx
  have l54 : h54.ldn (h.next + 2) 0 14 = some (gcs g w0 w1 w2 w3 w4 w5 w6 w7 w8) := by rw [H.ldn_of _ f4]; rfl
  have g541 : h54.get (h.next + 1) = _ := (S54.get _ (by omega) (by omega)).trans g21
  have st56 : h54.stn (h.next + 1) 0 (gcs g w0 w1 w2 w3 w4 w5 w6 w7 w8) = some (h54.put (h.next + 1) (some (.cells (gcs g w0 w1 w2 w3 w4 w5 w6 w7 w8) 35 true))) := by rw [H.stn_of _ g541, if_pos (by simp)]; rfl
  have l57 : (h54.put (h.next + 1) (some (.cells (gcs g w0 w1 w2 w3 w4 w5 w6 w7 w8) 35 true))).ldn (h.next + 1) 0 14 = some (gcs g w0 w1 w2 w3 w4 w5 w6 w7 w8) := by rw [H.ldn_of _ (H.put_get_same _ _ _)]; rfl
  have fin : ∀ {w : Value} {s : Nat} {l : List (List Value)}, RSo (h.next + 2) h54 s w l → RS (h54.put (h.next + 1) (some (.cells (gcs g w0 w1 w2 w3 w4 w5 w6 w7 w8) 35 true))) s w l := fun R => R.1.keep (by rw [H.put_nx]; exact Nat.le_refl _) fun b hb => H.put_get_ne _ _ (by have := (R.2 b hb).2; omega)
  have q30 := a3
  refine ⟨gcs g w0 w1 w2 w3 w4 w5 w6 w7 w8, h54.put (h.next + 1) (some (.cells (gcs g w0 w1 w2 w3 w4 w5 w6 w7 w8) 35 true)), ?_, ⟨by rw [H.put_nx]; omega, fun b hb => by rw [H.put_get_ne _ _ (by omega), S54.get b (by omega) (by omega), f2.get b (by omega), fB.get b hb]⟩,
    w0, w1, w2, w3, w4, w5, w6, w7, w8, rfl, GalaT.S (g := g) ⟨fin (((((X0.step a3).step b3).step c3).step d3).step f3), fin (((((X1.step a3).step b3).step c3).step d3).step f3), fin (((((X2.step a3).step b3).step c3).step d3).step f3), fin (((((X3.step a3).step b3).step c3).step d3).step f3),
      fin ((((a5.step b3).step c3).step d3).step f3), fin (((b5.step c3).step d3).step f3), fin ((c5.step d3).step f3), fin (d5.step f3), fin f5⟩ ⟨n0, n1, n2, n3, n4, n5, n6, n7, n8⟩⟩
  rw [hC _ _ _ rfl, F17_eq]; unfold F17
  rw [← eB]
  have tt : thawL [] P2 q3 = q3 := rfl
  simp only [pldn_ptr, l14, Option.bind_some, ifLen_eq, List.length_cons, List.length_nil, Nat.zero_add, Nat.reduceAdd, if_true, pstn_ptr, p1, padd_ptr, t0, k1, unA_agg, st3, ← eP, pld_ptr, x2, bOf_ptr, y1, ← eT1, ← eP1, sameB_ptr, x3, u1, ← eT2, ← eP2, x4, frzL_nil, hideL_nil, thawL_nil, t1, st25,
    z5, a1, a2, z7, b1, b2, Nat.add_zero, z8, c1, c2, z12, d1, d2, z13, f1, f2', l54, st56, l57, List.getElem?_cons_succ, List.getElem?_cons_zero]
end
end Go.Wz
