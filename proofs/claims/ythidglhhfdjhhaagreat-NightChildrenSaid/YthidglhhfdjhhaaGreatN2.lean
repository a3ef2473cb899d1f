/- NightChildren, the walk of its loops. -/
import Derived.Test.YthidglhhfdjhhaaGreatN1
import Derived.Test.YthidglhhfdjhhaaGreatM15
set_option linter.unusedVariables false
set_option linter.unusedSimpArgs false
namespace Go.Wz
open Go

theorem Fr.ld {h h' : H} (f : Fr h h') {b : Nat} (hb : b < h.next) (o : Nat) : h'.ld b o = h.ld b o := by unfold H.ld H.row; rw [f.get b hb]
theorem Fr.ldn {h h' : H} (f : Fr h h') {b : Nat} (hb : b < h.next) (o n : Nat) : h'.ldn b o n = h.ldn b o n := by unfold H.ldn H.row; rw [f.get b hb]
/-- an element of a slice, in all heaps to come -/
theorem RS.ats {h : H} {s : Nat} {v : Value} {l : List (List Value)} (r : RS h s v l) {i : Nat} (hi : i < l.length) :
    ∃ b o, b < h.next ∧ bOf v = some b ∧ idxS s v (I (i : Int)) = some (ptr b o) ∧ ∀ h', Fr h h' → h'.ldn b o s = some l[i] ∧ ∀ j, j < s → h'.ld b (o + j) = l[i][j]? := by
  obtain ⟨b, o, h1, h2, h3, h4⟩ := r.at hi
  refine ⟨b, o, h1, ?_, h2, fun h' f => ⟨by rw [f.ldn h1, h3], fun j hj => by rw [f.ld h1, h4 j hj]⟩⟩
  rcases r.2 with ⟨_, rfl⟩ | ⟨rfl, _⟩ | ⟨b', o', c, vs, e, w, rfl, _⟩
  · simp at hi
  · simp at hi
  · rw [idxS_slcI] at h2
    split at h2
    · unfold ptr at h2; simp at h2; rw [bOf_slc, h2.1]
    · cases h2
theorem rep_ats {h : H} {vl : Value} {reps : List Rep} (r : RS h 3 vl (reps.map Rep.enc)) {i : Nat} (hi : i < reps.length) :
    ∃ b o, idxS 3 vl (I (i : Int)) = some (ptr b o) ∧ ∀ h', Fr h h' → h'.ldn b o 3 = some (RR reps i).enc ∧ h'.ld b o = some (I (RR reps i).at_) ∧ h'.ld b (o + 1) = some (I (RR reps i).kind) := by
  obtain ⟨b, o, _, _, h1, h2⟩ := r.ats (i := i) (by simpa using hi)
  have e : (reps.map Rep.enc)[i]'(by simpa using hi) = (RR reps i).enc := by rw [List.getElem_map, RR_lt hi]
  refine ⟨b, o, h1, fun h' f => ?_⟩
  obtain ⟨h3, h4⟩ := h2 h' f
  rw [e] at h3 h4
  exact ⟨h3, by have := h4 0 (by omega); simpa [Rep.enc] using this, by have := h4 1 (by omega); simpa [Rep.enc] using this⟩

def badK (reps : List Rep) (gs : List Bool) (c a : Nat) (t : Int) (k : Nat) : Bool :=
  !WW gs k && !(k == c) && !(k == a) && !(decide ((RR reps k).at_ ≥ t)) && ((RR reps k).kind == 1 && fB reps k a || (RR reps k).kind == 2 && fB reps c k)
structure ChS (h : H) (bH : Nat) (vl vg : Value) (reps : List Rep) (gs : List Bool) (c a : Nat) (t : Int) : Prop where
  rows : RS h 3 vl (reps.map Rep.enc)
  gone : RB h vg gs
  lt : bH < h.next
  cell : h.get bH = some (.cells [I c, I a, I t] 77 true)
theorem ChS.fr {h h' : H} {bH : Nat} {vl vg : Value} {reps : List Rep} {gs : List Bool} {c a : Nat} {t : Int} (S : ChS h bH vl vg reps gs c a t) (f : Fr h h') : ChS h' bH vl vg reps gs c a t :=
  ⟨S.rows.fr f, RS.fr S.gone f, Nat.lt_of_lt_of_le S.lt f.nx, (f.get _ S.lt).trans S.cell⟩

theorem ch_inner (N d : Nat) (hN : 1000 ≤ N) {bH : Nat} {vl vo vg vi : Value} {reps : List Rep} {gs : List Bool} {c a : Nat} {t : Int} (ok : ∀ r ∈ reps, r.mok) (hc : c < reps.length) (ha : a < reps.length) (hlen : reps.length < 900) (hgl : gs.length = reps.length) :
    ∀ (k i m : Nat) (h : H), ChS h bH vl vg reps gs c a t → i + k = reps.length → k < m →
      ∃ h', LP10_1 (CH N (d + 1)) N m [.one vl, .one vo, .one vg, .one vi, .one (ptr bH 0), .one (I i)] h =
        some (if allF (fun i => !badK reps gs c a t i) i k = true then (.exit 2, [.one vl, .one vo, .one vg, .one vi, .one (ptr bH 0)], h') else (.ret (.one (.bool false)), [], h')) ∧ Fr h h' := by
  intro k
  induction k with
  | zero =>
    intro i m h S hi hm
    obtain ⟨m, rfl⟩ : ∃ q, m = q + 1 := ⟨m - 1, by omega⟩
    rw [LP10_1_succ]; unfold B10_1
    obtain rfl : i = reps.length := by omega
    have hl := S.rows.len
    rw [List.length_map] at hl
    exact ⟨h, by simp [hl, allF], .refl h⟩
  | succ k ih =>
    intro i m h S hi hm
    obtain ⟨m, rfl⟩ : ∃ q, m = q + 1 := ⟨m - 1, by omega⟩
    rw [LP10_1_succ]; unfold B10_1
    have hl := S.rows.len
    rw [List.length_map] at hl
    have hlt : i < reps.length := by omega
    have h1 : (i : Int) < reps.length := by omega
    have e7 : ibin .add (I i) (I 1) = some (I (i + 1 : Nat)) := by rw [add_in (by omega) (by omega)]; rfl
    obtain ⟨bw, ow, _, w1, w2⟩ := RB.at S.gone (i := i) (by omega)
    rw [← WW_lt (by omega)] at w2
    obtain ⟨bi, oi, i1, iq⟩ := rep_ats S.rows hlt
    obtain ⟨ba, oa, a1, aq⟩ := rep_ats S.rows ha
    obtain ⟨bc, oc, c1, cq⟩ := rep_ats S.rows hc
    obtain ⟨i2, i3, i4⟩ := iq h (.refl h)
    obtain ⟨a2, a3, a4⟩ := aq h (.refl h)
    obtain ⟨c2, c3, c4⟩ := cq h (.refl h)
    have g0 : h.ld bH 0 = some (I c) := by rw [H.ld_of _ S.cell]; rfl
    have g1 : h.ld bH 1 = some (I a) := by rw [H.ld_of _ S.cell]; rfl
    have g2 : h.ld bH 2 = some (I t) := by rw [H.ld_of _ S.cell]; rfl
    have oki : (RR reps i).mok := by rw [RR_lt hlt]; exact ok _ (List.getElem_mem hlt)
    have oka : (RR reps a).mok := by rw [RR_lt ha]; exact ok _ (List.getElem_mem ha)
    have okc : (RR reps c).mok := by rw [RR_lt hc]; exact ok _ (List.getElem_mem hc)
    have hne := fun (args : List SV) (h : H) => CH_ne N (d + 1) (show (40 : Nat) ≠ 16 by omega) args h
    cases hwi : WW gs i with
    | true =>
      obtain ⟨h', k1, k2⟩ := ih (i + 1) m h S (by omega) (by omega)
      refine ⟨h', ?_, k2⟩
      have hb : badK reps gs c a t i = false := by simp [badK, hwi]
      simp [hl, h1, w1, w2, pld_ptr, e7, k1, allF, hb, hwi, -Int.natCast_add]
    | false =>
      cases hic : i == c with
      | true =>
        obtain ⟨h', k1, k2⟩ := ih (i + 1) m h S (by omega) (by omega)
        refine ⟨h', ?_, k2⟩
        have hb : badK reps gs c a t i = false := by simp [badK, hwi, hic]
        simp [hl, h1, w1, w2, g0, eqNat, pld_ptr, e7, k1, allF, hb, hwi, hic, -Int.natCast_add]
      | false =>
        cases hia : i == a with
        | true =>
          obtain ⟨h', k1, k2⟩ := ih (i + 1) m h S (by omega) (by omega)
          refine ⟨h', ?_, k2⟩
          have hb : badK reps gs c a t i = false := by simp [badK, hwi, hic, hia]
          simp [hl, h1, w1, w2, g0, g1, eqNat, pld_ptr, e7, k1, allF, hb, hwi, hic, hia, -Int.natCast_add]
        | false =>
          cases hat : decide ((RR reps i).at_ ≥ t) with
          | true =>
            obtain ⟨h', k1, k2⟩ := ih (i + 1) m h S (by omega) (by omega)
            refine ⟨h', ?_, k2⟩
            have hb : badK reps gs c a t i = false := by simp only [badK, hwi, hic, hia, hat]; rfl
            simp [hl, h1, w1, w2, g0, g1, g2, i1, i3, eqNat, pld_ptr, e7, k1, allF, hb, hwi, hic, hia, of_decide_eq_true hat, -Int.natCast_add]
          | false =>
            have hat' : ¬ (RR reps i).at_ ≥ t := of_decide_eq_false hat
            cases hk1 : (RR reps i).kind == 1 with
            | true =>
              have hk2 : ((RR reps i).kind == 2) = false := by
                have : (RR reps i).kind = 1 := by simpa using hk1
                rw [this]; rfl
              obtain ⟨hf, f1, f2⟩ := fit_c N d (by omega) oki oka h
              obtain ⟨j2, j3, j4⟩ := iq hf f2
              cases hfit : fitB (RR reps i) (RR reps a) with
              | true =>
                refine ⟨hf, ?_, f2⟩
                have hb : badK reps gs c a t i = true := by simp only [badK, hwi, hic, hia, hat, hk1, hk2, fB, hfit]; rfl
                simp [hl, h1, w1, w2, g0, g1, g2, i1, i2, i3, i4, a1, a2, eqNat, pld_ptr, pldn_ptr, hne, f1, hfit, hk1, hk2, e7, allF, hb, hwi, hic, hia, hat', -Int.natCast_add, -ge_iff_le]
              | false =>
                obtain ⟨h', k1, k2⟩ := ih (i + 1) m hf (S.fr f2) (by omega) (by omega)
                refine ⟨h', ?_, f2.trans k2⟩
                have hb : badK reps gs c a t i = false := by simp only [badK, hwi, hic, hia, hat, hk1, hk2, fB, hfit]; rfl
                simp [hl, h1, w1, w2, g0, g1, g2, i1, i2, i3, i4, j4, a1, a2, eqNat, pld_ptr, pldn_ptr, hne, f1, hfit, hk1, hk2, e7, k1, allF, hb, hwi, hic, hia, hat', -Int.natCast_add, -ge_iff_le]
            | false =>
              cases hk2 : (RR reps i).kind == 2 with
              | true =>
                obtain ⟨hf, f1, f2⟩ := fit_c N d (by omega) okc oki h
                cases hfit : fitB (RR reps c) (RR reps i) with
                | true =>
                  refine ⟨hf, ?_, f2⟩
                  have hb : badK reps gs c a t i = true := by simp only [badK, hwi, hic, hia, hat, hk1, hk2, fB, hfit]; rfl
                  simp [hl, h1, w1, w2, g0, g1, g2, i1, i2, i3, i4, c1, c2, eqNat, pld_ptr, pldn_ptr, hne, f1, hfit, hk1, hk2, e7, allF, hb, hwi, hic, hia, hat', -Int.natCast_add, -ge_iff_le]
                | false =>
                  obtain ⟨h', k1, k2⟩ := ih (i + 1) m hf (S.fr f2) (by omega) (by omega)
                  refine ⟨h', ?_, f2.trans k2⟩
                  have hb : badK reps gs c a t i = false := by simp only [badK, hwi, hic, hia, hat, hk1, hk2, fB, hfit]; rfl
                  simp [hl, h1, w1, w2, g0, g1, g2, i1, i2, i3, i4, c1, c2, eqNat, pld_ptr, pldn_ptr, hne, f1, hfit, hk1, hk2, e7, k1, allF, hb, hwi, hic, hia, hat', -Int.natCast_add, -ge_iff_le]
              | false =>
                obtain ⟨h', k1, k2⟩ := ih (i + 1) m h S (by omega) (by omega)
                refine ⟨h', ?_, k2⟩
                have hb : badK reps gs c a t i = false := by simp only [badK, hwi, hic, hia, hat, hk1, hk2, Bool.false_and, Bool.or_false, Bool.and_false]
                simp [hl, h1, w1, w2, g0, g1, g2, i1, i2, i3, i4, eqNat, pld_ptr, pldn_ptr, hk1, hk2, e7, k1, allF, hb, hwi, hic, hia, hat', -Int.natCast_add, -ge_iff_le]
end Go.Wz
