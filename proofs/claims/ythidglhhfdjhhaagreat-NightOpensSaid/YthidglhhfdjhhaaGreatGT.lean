/- Contracts: inspect.Released. -/
import Derived.Test.YthidglhhfdjhhaaGreatGS
set_option linter.unusedVariables false
set_option linter.unusedSimpArgs false
namespace Go.Wz
open Go
theorem whyP_len (b : Book) (es : List Entry) (ride day : Int) : (whyP b es ride day).length ≤ 4 := by
  unfold whyP
  refine Nat.le_trans (addIf_len _ _ _) (Nat.succ_le_succ ?_)
  refine Nat.le_trans (addIf_len _ _ _) (Nat.succ_le_succ ?_)
  refine Nat.le_trans (addIf_len _ _ _) (Nat.succ_le_succ ?_)
  exact addIf_len _ _ _
def uptoN (es : List Entry) (day : Int) : Nat := match es.findIdx? (fun x => decide (x.day > day)) with | some j => j | none => es.length
def uptoP (es : List Entry) (day : Int) : List Entry := es.take (uptoN es day)
def dayErr (b : Book) (es : List Entry) (day : Int) : Int := if (logErr b es).2 ≠ 0 then (logErr b es).2 else if wi day 0 10000 = true then 0 else 1
def relL (b : Book) (es : List Entry) (day : Int) : Nat → List Int
  | 0 => []
  | k + 1 => if ((whyP b es k day).length == 0) = true then relL b es day k ++ [(k : Int)] else relL b es day k
theorem relL_len (b : Book) (es : List Entry) (day : Int) : ∀ k, (relL b es day k).length ≤ k
  | 0 => Nat.le_refl _
  | k + 1 => by have := relL_len b es day k; unfold relL; split <;> simp <;> omega
theorem lastDay_take {es : List Entry} {k : Nat} (hk : k ≤ es.length) : lastDay (es.take k) = if 0 < k then (entAt es ((k : Int) - 1)).day else 0 := by
  unfold lastDay
  rw [List.length_take, Nat.min_eq_left hk]
  by_cases h : 0 < k
  · rw [if_pos h, if_pos h]
    unfold entAt
    rw [List.getElem?_take_of_lt (by omega)]
  · rw [if_neg h, if_neg h]
theorem LogOk.of {b : Book} {es : List Entry} (h : (logErr b es).2 = 0) : LogOk b es := by
  unfold logErr at h
  split at h
  · rename_i hb; exact absurd h hb
  rename_i hb
  rw [Decidable.not_not] at hb
  split at h
  · simp at h
  rename_i hl
  split at h
  · simp at h
  rename_i hf
  have hr : ∀ k : Nat, k < es.length → rightP b (es.take k) (entAt es k) = true := fun k hk => by
    have := findI_none hf k _ (List.getElem?_eq_getElem hk)
    rw [Nat.zero_add] at this
    have e : entAt es (k : Int) = es[k] := by unfold entAt; rw [show ((k : Int)).toNat = k by omega, List.getElem?_eq_getElem hk]; rfl
    rw [e]; simpa using this
  have hday : ∀ k : Nat, k < es.length → lastDay (es.take k) ≤ (entAt es k).day ∧ (entAt es k).day ≤ 10000 := fun k hk => by
    have := hr k hk
    unfold rightP at this
    split at this
    · rename_i hw; exact wi_iff.1 hw
    · cases this
  have hstep : ∀ k : Nat, k + 1 < es.length → (entAt es k).day ≤ (entAt es (k + 1 : Nat)).day := fun k hk => by
    have := (hday (k + 1) hk).1
    rw [lastDay_take (by omega), if_pos (by omega), show ((k + 1 : Nat) : Int) - 1 = k by omega] at this
    exact this
  have hsort : ∀ j i : Nat, i ≤ j → j < es.length → (entAt es i).day ≤ (entAt es j).day := by
    intro j
    induction j with
    | zero => intro i h1 h2; obtain rfl : i = 0 := by omega
              exact Int.le_refl _
    | succ j ih =>
      intro i h1 h2
      by_cases hij : i = j + 1
      · subst hij; exact Int.le_refl _
      · exact Int.le_trans (ih i (by omega) (by omega)) (hstep j h2)
  refine ⟨fun i hi => ?_, fun i hi => ?_, fun i hi hk => ?_, fun i j h1 h2 => hsort j i h1 h2⟩
  · unfold bookErr at hb
    split at hb
    · simp at hb
    split at hb
    · simp at hb
    rename_i h9
    have hb : b.rules.any (badRule b.insured.length) = false := Bool.eq_false_iff.2 h9
    rw [List.any_eq_false] at hb
    have e : ruleAt b (i : Int) = b.rules[i] := by unfold ruleAt; rw [show ((i : Int)).toNat = i by omega, List.getElem?_eq_getElem hi]; rfl
    have := hb _ (List.getElem_mem hi)
    rw [← e] at this
    have this : badRule b.insured.length (ruleAt b i) = false := by simpa using this
    unfold badRule at this
    rw [Bool.or_eq_false_iff, Bool.or_eq_false_iff] at this
    have h1 := wi_iff.1 (by simpa using this.1.1 : wi (ruleAt b i).ride 0 ((b.insured.length : Int) - 1) = true)
    have h2 := wi_iff.1 (by simpa using this.1.2 : wi (ruleAt b i).every 1 10000 = true)
    exact ⟨⟨h1.1, by omega⟩, h2⟩
  · have h0 : 0 ≤ (entAt es (0 : Nat)).day := by
      have := (hday 0 (by omega)).1
      rw [lastDay_take (by omega), if_neg (by omega)] at this
      exact this
    exact ⟨Int.le_trans h0 (hsort i 0 (by omega) hi), (hday i hi).2⟩
  · have := hr i hi
    unfold rightP at this
    split at this
    · have h1 : ¬ (entAt es (i : Int)).kind = 1 := by omega
      rw [if_neg h1, Bool.and_eq_true, Bool.and_eq_true] at this
      exact wi_iff.1 this.1.2
    · cases this
theorem entAt_take {es : List Entry} {n i : Nat} (h : i < n) : entAt (es.take n) i = entAt es i := by
  unfold entAt; rw [List.getElem?_take_of_lt (by omega)]
theorem LogOk.take {b : Book} {es : List Entry} (o : LogOk b es) (n : Nat) : LogOk b (es.take n) := by
  have hn : ∀ {i : Nat}, i < (es.take n).length → i < n ∧ i < es.length := fun h => by rw [List.length_take] at h; omega
  exact ⟨o.rules, fun i hi => by rw [entAt_take (hn hi).1]; exact o.days i (hn hi).2, fun i hi => by rw [entAt_take (hn hi).1]; exact o.sev i (hn hi).2,
    fun i j h1 h2 => by rw [entAt_take (hn h2).1, entAt_take (by have := (hn h2).1; omega)]; exact o.sorted i j h1 (hn h2).2⟩
section
variable {C : Nat → CallT} {N : Nat} (K : CallsOf C N)
include K
theorem f63_c {d : Nat} (hd : 9 ≤ d) {cs : List Value} {b : Book} {es : List Entry} {h : H} (r : LogR h cs b es) (ok : LogOk b es) {ride : Int} (hr : 0 ≤ ride ∧ ride < b.insured.length) (day : Int) :
    ∃ v h', C d (.func 63) [.agg cs, .one (I ride), .one (I day)] h = some (.one v, h') ∧ Fr h h' ∧ lenS v = some (I (whyP b es ride day).length) := by
  obtain ⟨e, he, rfl, hC⟩ := K.at (k := 8) hd
  obtain ⟨q, rfl⟩ : ∃ q, e = q + 4 := ⟨e - 4, by omega⟩
  obtain ⟨hA, eA⟩ : ∃ q, q = ((h.new (.cells cs 112 true)).new (.cells [I ride] 3 true)).new (.cells [.slice none 0 0] 26 true) := ⟨_, rfl⟩
  have fA : Fr h hA := by rw [eA]; exact (((Fr.refl h).new _).new _).new _
  have nA : hA.next = h.next + 3 := by rw [eA]; rfl
  have hcs : cs.length = 4 := by obtain ⟨v1, v2, v3, v4, rfl, _⟩ := r.ex; rfl
  have gc : hA.get h.next = some (.cells cs 112 true) := by rw [eA, H.new_get_lt _ _ (by simp; omega), H.new_get_lt _ _ (by simp)]; simp
  have gr : hA.get (h.next + 1) = some (.cells [I ride] 3 true) := by rw [eA, H.new_get_lt _ _ (by simp)]; exact H.new_get_same (h.new (.cells cs 112 true)) _
  have gb : hA.get (h.next + 2) = some (.cells [.slice none 0 0] 26 true) := by rw [eA]; exact H.new_get_same ((h.new (.cells cs 112 true)).new (.cells [I ride] 3 true)) _
  have B0 : Box hA hA (h.next + 2) [] := ⟨by omega, Nat.le_refl _, ⟨_, gb, ⟨by simp, .inl ⟨rfl, rfl⟩⟩, fun x hx => by simp [bOf] at hx⟩, fun _ _ => rfl⟩
  have l4 : ∀ {h' l}, Box hA h' (h.next + 2) l → h'.ldn h.next 0 4 = some cs := fun B => by rw [H.ldn_of _ (by rw [B.fr _ (by omega)]; exact gc), if_pos (by omega), List.drop_zero, List.take_of_length_le (by omega)]
  have lr : ∀ {h' l}, Box hA h' (h.next + 2) l → h'.ld (h.next + 1) 0 = some (I ride) := fun B => by rw [H.ld_of _ (by rw [B.fr _ (by omega)]; exact gr)]; rfl
  have fz : ∀ {h' l}, Box hA h' (h.next + 2) l → Fr h h' := fun B => ⟨by have := B.nx; omega, fun b hb => by rw [B.fr b (by omega), fA.get b hb]⟩
  have cv : ∀ (h1 : H) (n : Int) (p : Bool), callV (C (q + 4)) (.func (.func 113) #[] #[ptr (h.next + 2) 0]) [.one (I n), .one (.bool p)] h1 = C (q + 4) (.func 113) [.one (I n), .one (.bool p), .one (ptr (h.next + 2) 0)] h1 := fun h1 n p => by rw [callV_func]; rfl
  obtain ⟨h1, k1, m1⟩ := f114_c K (d := q + 4) he (r.fr (fz B0)) ok ride
  obtain ⟨h2, k2, B2⟩ := f113_c K (d := q + 4) (by omega) (B0.go m1) (by simp) 1 (decide (checkedP b es ride b.rules.length < day))
  have a1 := addIf_len [] 1 (decide (checkedP b es ride b.rules.length < day))
  obtain ⟨h3, k3, m3⟩ := f115_c K (d := q + 4) (by omega) (r.fr (fz B2)) ok ride
  obtain ⟨h4, k4, B4⟩ := f113_c K (d := q + 4) (by omega) (B2.go m3) (by simp at a1; omega) 2 (!soundP es ride)
  have a2 := addIf_len (addIf [] 1 (decide (checkedP b es ride b.rules.length < day))) 2 (!soundP es ride)
  obtain ⟨h5, k5, m5⟩ := f116_c K (e := q) (by omega) (r.fr (fz B4)) (ride := ride) (vf := .func (.func 117) #[] #[ptr (h.next + 1) 0]) (wanted := fun y => y.kind == 4 && y.a == ride)
    (fun y h1 f => ⟨_, by rw [callV_func]; exact f117_c K (by omega) y (by have := f.nx; have := B4.nx; omega) (by rw [f.ld (by have := B4.nx; omega)]; exact lr B4), (Fr.refl _).new _⟩)
  obtain ⟨h6, k6, B6⟩ := f113_c K (d := q + 4) (by omega) (B4.go m5) (by simp at a1; omega) 3 (lastP (fun y => y.kind == 4 && y.a == ride) ride es != day)
  have a3 := addIf_len (addIf (addIf [] 1 (decide (checkedP b es ride b.rules.length < day))) 2 (!soundP es ride)) 3 (lastP (fun y => y.kind == 4 && y.a == ride) ride es != day)
  obtain ⟨h7, k7, m7⟩ := f118_c K (e := q) (by omega) (r.fr (fz B6)) hr
  obtain ⟨h8, k8, B8⟩ := f113_c K (d := q + 4) (by omega) (B6.go m7) (by simp at a1; omega) 4 (decide (insP b ride es < day))
  obtain ⟨v, g8, og, _⟩ := B8.ex
  have g8' : h8.ld (h.next + 2) 0 = some v := by rw [H.ld_of _ g8]; rfl
  have s8 : h8.st (h.next + 2) 0 v = some h8 := by
    rw [H.st_of _ g8, if_pos (by simp)]; congr 1; exact H.put_self g8
  refine ⟨v, h8, ?_, fz B8, by have := og.rs.len; rwa [List.length_map] at this⟩
  have lr0 := lr B0
  have lr2 := lr B2
  have lr4 := lr B4
  have lr6 := lr B6
  rw [hC _ _ _ rfl, F63_eq]; unfold F63
  rw [← eA]
  simp only [Option.bind_some, un1_one, unT_tup, unNil_nil, ibin_lssI, ibin_neqI, un_not, pld_ptr, pldn_ptr, l4 B0, lr0, k1, cv, k2, l4 B2, lr2, k3, k4, l4 B4, lr4, k5, k6, l4 B6, lr6, k7, k8, g8', pst_ptr, s8]
theorem f187_c {d : Nat} (hd : 1 ≤ d) (x : Entry) {n : Int} {b : Nat} {h : H} (hb : b < h.next) (hg : h.ld b 0 = some (I n)) : C d (.func 187) [.agg x.enc, .one (ptr b 0)] h = some (.one (.bool (decide (x.day > n))), h.new (.cells x.enc 162 true)) := by
  obtain ⟨e, he, rfl, hC⟩ := K.at (k := 0) hd
  have g : (h.new (.cells x.enc 162 true)).ld b 0 = some (I n) := by rw [((Fr.refl h).new _).ld hb]; exact hg
  rw [hC _ _ _ rfl, F187_eq]; unfold F187
  simp only [S0, Nat.reduceAdd, Nat.reduceLeDiff, ↓reduceIte, g]
  simp only [S0, Nat.reduceAdd, Nat.reduceLeDiff, ↓reduceIte, Entry.enc]
theorem f112_c {d : Nat} (hd : 3 ≤ d) {cs : List Value} {b : Book} {es : List Entry} {h : H} (r : LogR h cs b es) (day : Int) :
    ∃ l h', C d (.func 112) [.agg cs, .one (I day)] h = some (.agg l, h') ∧ Fr h h' ∧ l.length = 4 ∧ LogR h' l b (uptoP es day) := by
  obtain ⟨e, he, rfl, hC⟩ := K.at (k := 2) hd
  obtain ⟨q, rfl⟩ : ∃ q, e = q + 1 := ⟨e - 1, by omega⟩
  have s1 := r.s1
  have s2 := r.s2
  have s3 := r.s3
  have s4 := r.s4
  obtain ⟨v1, v2, v3, v4, rfl, r1, r2, r3, r4⟩ := r.ex
  obtain ⟨hA, eA⟩ : ∃ q, q = ((h.new (.cells [v1, v2, v3, v4] 112 true)).new (.cells [I day] 3 true)).new (.cells [.slice none 0 0, .slice none 0 0, .slice none 0 0, .slice none 0 0] 112 true) := ⟨_, rfl⟩
  have fA : Fr h hA := by rw [eA]; exact (((Fr.refl h).new _).new _).new _
  have nA : hA.next = h.next + 3 := by rw [eA]; rfl
  have gc : ∀ h', Fr hA h' → h'.get h.next = some (.cells [v1, v2, v3, v4] 112 true) := fun h' f => by rw [f.get _ (by omega), eA, H.new_get_lt _ _ (by simp; omega), H.new_get_lt _ _ (by simp)]; simp
  have gr : ∀ h', Fr hA h' → h'.ld (h.next + 1) 0 = some (I day) := fun h' f => by rw [f.ld (by omega), H.ld_of _ (show hA.get (h.next + 1) = some (.cells [I day] 3 true) by rw [eA, H.new_get_lt _ _ (by simp)]; exact H.new_get_same (h.new (.cells [v1, v2, v3, v4] 112 true)) _)]; rfl
  have gb : ∀ h', Fr hA h' → h'.get (h.next + 2) = some (.cells [.slice none 0 0, .slice none 0 0, .slice none 0 0, .slice none 0 0] 112 true) := fun h' f => by rw [f.get _ (by omega), eA]; exact H.new_get_same ((h.new (.cells [v1, v2, v3, v4] 112 true)).new (.cells [I day] 3 true)) _
  obtain ⟨h2, k1, k2⟩ := indexF K (fi := 186) (LP := LP186_0) rfl (fun _ _ _ _ _ => F186_eq _ _ _ _ _) (fun _ _ _ _ _ _ _ _ => LP186_0_succ _ _ _ _ _ _ _ _) (d := q) (p := fun x : Entry => decide (x.day > day)) (vf := .func (.func 187) #[] #[ptr (h.next + 1) 0]) (r4.fr fA) s4
    (fun x hx h1 f => ⟨_, by rw [callV_func]; exact f187_c K (by omega) x (by have := f.nx; omega) (gr h1 f), (Fr.refl _).new _⟩)
  have g3 : ∀ h', Fr hA h' → h'.ld h.next 3 = some v4 := fun h' f => by rw [H.ld_of _ (gc h' f)]; rfl
  have sp : ∀ v, splice [.slice none 0 0, .slice none 0 0, .slice none 0 0, .slice none 0 0] 0 [v1, v2, v3, v] = [v1, v2, v3, v] := fun v => splice0 rfl
  have nn := k2.nx
  have fin : ∀ (hx : H) (v : Value), hx.next = h2.next → hx.get h.next = some (.cells [v1, v2, v3, v] 112 true) → (∀ b, b < h2.next → b ≠ h.next → hx.get b = h2.get b) → RS h 5 v ((uptoP es day).map Entry.enc) →
      ∃ h', hx.ldn h.next 0 4 = some [v1, v2, v3, v] ∧ hx.stn (h.next + 2) 0 [v1, v2, v3, v] = some h' ∧ h'.ldn (h.next + 2) 0 4 = some [v1, v2, v3, v] ∧ Fr h h' ∧ LogR h' [v1, v2, v3, v] b (uptoP es day) := fun hx v hn hg ho hv => by
    have gb' : hx.get (h.next + 2) = some (.cells [.slice none 0 0, .slice none 0 0, .slice none 0 0, .slice none 0 0] 112 true) := by rw [ho _ (by omega) (by omega)]; exact gb h2 k2
    have f' : Fr h (hx.put (h.next + 2) (some (.cells [v1, v2, v3, v] 112 true))) := ⟨by rw [H.put_nx]; omega, fun b hb => by rw [H.put_get_ne _ _ (by omega), ho b (by omega) (by omega), k2.get b (by omega), fA.get b hb]⟩
    refine ⟨_, by rw [H.ldn_of _ hg]; rfl, by rw [H.stn_of _ gb', if_pos (by simp), sp], by rw [H.ldn_of _ (H.put_get_same _ _ _)]; rfl, f', ⟨v1, v2, v3, v, rfl, r1.fr f', r2.fr f', r3.fr f', hv.fr f'⟩, s1, s2, s3, by unfold uptoP; rw [List.length_take]; omega⟩
  rw [hC _ _ _ rfl, F112_eq]; unfold F112
  rw [← eA]
  cases hf : es.findIdx? (fun x => decide (x.day > day)) with
  | none =>
    rw [hf] at k1
    have hu : uptoP es day = es := by unfold uptoP uptoN; rw [hf]; exact List.take_of_length_le (Nat.le_refl _)
    obtain ⟨h3, t1, t2, t3, t4, t5⟩ := fin h2 v4 rfl (gc h2 k2) (fun _ _ _ => rfl) (by rw [hu]; exact r4)
    have hm : decide ((-1 : Int) ≥ 0) = false := rfl
    simp only [idxInt] at k1
    refine ⟨_, h3, ?_, t4, rfl, t5⟩
    simp only [S0, Nat.reduceAdd, Nat.reduceLeDiff, ↓reduceIte, g3 hA (.refl _), k1, hm, t1, ifLen_eq, pstn_ptr, t2, t3]
  | some j =>
    rw [hf] at k1
    have hj : j < es.length := (List.findIdx?_eq_some_iff_getElem.1 hf).1
    have hu : uptoP es day = es.take j := by unfold uptoP uptoN; rw [hf]
    obtain ⟨v', c1, c2⟩ := r4.cut (i := j) (by simp; omega)
    rw [← List.map_take] at c2
    have st := H.st_of (h := h2) (o := 3) (v := v') (gc h2 k2)
    rw [if_pos (by simp)] at st
    obtain ⟨h3, t1, t2, t3, t4, t5⟩ := fin (h2.put h.next (some (.cells [v1, v2, v3, v'] 112 true))) v' (H.put_nx _ _ _) (H.put_get_same _ _ _) (fun b hb hb' => H.put_get_ne _ _ hb') (by rw [hu]; exact c2)
    have hm : decide ((j : Int) ≥ 0) = true := by simp
    simp only [idxInt] at k1
    simp only [S0, Nat.reduceAdd, Nat.reduceLeDiff, ↓reduceIte] at st
    refine ⟨_, h3, ?_, t4, rfl, t5⟩
    simp only [S0, Nat.reduceAdd, Nat.reduceLeDiff, ↓reduceIte, g3 hA (.refl _), k1, hm, g3 h2 k2, c1, pst_ptr, st, t1, ifLen_eq, pstn_ptr, t2, t3]
end
end Go.Wz
