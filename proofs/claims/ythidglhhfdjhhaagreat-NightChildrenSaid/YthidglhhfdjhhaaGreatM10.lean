/- Contracts: night's Match, the whole. -/
import Derived.Test.YthidglhhfdjhhaaGreatM9
set_option linter.unusedVariables false
set_option linter.unusedSimpArgs false
namespace Go.Wz
open Go

abbrev MS := List Nat × List Nat × List (Nat × Nat × Int)
def encH (x : Nat × Nat × Int) : List Value := [I x.1, I x.2.1, I x.2.2]
def handAll (reps : List Rep) (t : Int) : Nat → MS → MS
  | 0, s => s
  | n + 1, s => match handF reps s.1 s.2.1 with
    | none => s
    | some (c, a) => handAll reps t n (without c s.1, without a s.2.1, s.2.2 ++ [(c, a, t)])
def push (k : Int) (i : Nat) (s : MS) : MS := if k = 1 then (s.1 ++ [i], s.2.1, s.2.2) else (s.1, s.2.1 ++ [i], s.2.2)
def matchG (reps : List Rep) : Nat → List Rep → MS → MS
  | _, [], s => s
  | i, r :: t, s => matchG reps (i + 1) t (handAll reps r.at_ 1000 (push r.kind i s))

theorem without_len {n : Nat} {l : List Nat} (h : n ∈ l) : (without n l).length + 1 ≤ l.length := by
  unfold without
  have h1 := List.length_filter_lt_length_iff_exists (l := l) (p := fun x => !(x == n))
  have : ∃ x ∈ l, ¬ (!(x == n)) = true := ⟨n, h, by simp⟩
  have := h1.2 this
  omega
theorem without_le (n : Nat) (l : List Nat) : (without n l).length ≤ l.length := List.length_filter_le _ _
theorem handF_mem {reps : List Rep} {W1 W2 : List Nat} {c a : Nat} (h : handF reps W1 W2 = some (c, a)) : c ∈ W1 ∧ a ∈ W2 := by
  unfold handF at h
  obtain ⟨x, h1, h2⟩ := List.exists_of_findSome?_eq_some h
  simp only [Option.map_eq_some_iff, Prod.mk.injEq] at h2
  obtain ⟨y, h3, rfl, rfl⟩ := h2
  refine ⟨h1, ?_⟩
  unfold handC at h3
  split at h3
  · rename_i hh
    split at h3
    · cases h3; exact (aloneB_mem hh).1
    · simp at h3
  · simp at h3
abbrev OSt (h : H) (bo : Nat) (vl : Value) (reps : List Rep) (v1 v2 vh : Value) (s : MS) : Prop := OState h bo vl reps v1 v2 vh s.1 s.2.1 (s.2.2.map encH)

theorem while_loop (N d : Nat) (hN : 1000 ≤ N) {bo rb : Nat} {vl x1 x2 x3 : Value} {reps : List Rep} {r : Rep} :
    ∀ (n m : Nat) (h : H) (v1 v2 vh : Value) (s : MS), OSt h bo vl reps v1 v2 vh s → s.1.length ≤ n → n < m → h.get rb = some (.cells r.enc 81 true) → rb < h.next → ¬ OFoot bo v1 v2 vh rb →
      s.2.2.length + s.1.length ≤ 800 → s.2.1.length ≤ 800 →
      ∃ v1' v2' vh' h', LP38_2 (CF N (d + 6)) N m [.one (ptr bo 0), .one (ptr rb 0), .one x1, .one x2, .one x3] h = some (.exit 4, [.one (ptr bo 0), .one x1, .one x2, .one x3], h') ∧
        OSt h' bo vl reps v1' v2' vh' (handAll reps r.at_ n s) ∧ Step (OFoot bo v1 v2 vh) (OFoot bo v1' v2' vh') h h' := by
  intro n
  induction n with
  | zero =>
    intro m h v1 v2 vh s S hn hm hr hrl hrf hl hl2
    obtain ⟨m, rfl⟩ : ∃ q, m = q + 1 := ⟨m - 1, by omega⟩
    rw [LP38_2_succ]; unfold B38_2
    have e0 : s.1 = [] := List.length_eq_zero_iff.1 (by omega)
    rcases hand_c N d hN (xa := I r.at_) S (by omega) (by omega) (by simp; omega) with ⟨q1, h', q2, q3⟩ | ⟨c, a, v1', v2', vh', h', q1, _⟩
    · exact ⟨v1, v2, vh, h', by simp [H.ld_of _ hr, pld_ptr, Rep.enc, q2], S.fr q3, Step.of_fr q3⟩
    · rw [e0] at q1; simp [handF] at q1
  | succ n ih =>
    intro m h v1 v2 vh s S hn hm hr hrl hrf hl hl2
    obtain ⟨m, rfl⟩ : ∃ q, m = q + 1 := ⟨m - 1, by omega⟩
    rw [LP38_2_succ]; unfold B38_2
    rcases hand_c N d hN (xa := I r.at_) S (by omega) (by omega) (by simp; omega) with ⟨q1, h', q2, q3⟩ | ⟨c, a, v1', v2', vh', h', q1, q2, q3, q4⟩
    · exact ⟨v1, v2, vh, h', by simp [H.ld_of _ hr, pld_ptr, Rep.enc, q2], by unfold handAll; rw [q1]; exact S.fr q3, Step.of_fr q3⟩
    · obtain ⟨hc, ha⟩ := handF_mem q1
      have w1 := without_len hc
      have w2 := without_le a s.2.1
      have S' : OSt h' bo vl reps v1' v2' vh' (without c s.1, without a s.2.1, s.2.2 ++ [(c, a, r.at_)]) := by
        unfold OSt; simpa [encH] using q3
      have hr' : h'.get rb = some (.cells r.enc 81 true) := by rw [q4.get rb hrl hrf, hr]
      obtain ⟨u1, u2, uh, h2, k1, k2, k3⟩ := ih m h' v1' v2' vh' (without c s.1, without a s.2.1, s.2.2 ++ [(c, a, r.at_)]) S' (by simp; omega) (by omega) hr' (Nat.lt_of_lt_of_le hrl q4.nx) (fun hh => hrf (q4.foot rb hrl hh)) (by simp; omega) (by simp; omega)
      exact ⟨u1, u2, uh, h2, by simp [H.ld_of _ hr, pld_ptr, Rep.enc, q2, k1], by unfold handAll; rw [q1]; exact k2, q4.trans k3⟩

theorem handAll_len {reps : List Rep} {t : Int} : ∀ (n : Nat) (s : MS), (handAll reps t n s).2.2.length + (handAll reps t n s).1.length ≤ s.2.2.length + s.1.length ∧ (handAll reps t n s).2.1.length ≤ s.2.1.length
  | 0, s => ⟨Nat.le_refl _, Nat.le_refl _⟩
  | n + 1, s => by
    unfold handAll
    split
    · exact ⟨Nat.le_refl _, Nat.le_refl _⟩
    · rename_i c a hh
      obtain ⟨h1, h2⟩ := handAll_len (reps := reps) (t := t) n (without c s.1, without a s.2.1, s.2.2 ++ [(c, a, t)])
      have w1 := without_len (handF_mem hh).1
      have w2 := without_le a s.2.1
      simp only [List.length_append, List.length_cons, List.length_nil] at h1 h2
      omega

theorem push_round (N d : Nat) {h hA : H} {bo i : Nat} {vl : Value} {reps : List Rep} {r : Rep} {v1 v2 vh : Value} {s : MS} (S : OSt h bo vl reps v1 v2 vh s) (hk : r.kind = 1 ∨ r.kind = 2)
    (eA : h.new (.cells r.enc 81 true) = hA) (hl1 : s.1.length ≤ 800) (hl2 : s.2.1.length ≤ 800) (hi : i < reps.length) :
    ∃ (v1' v2' vk v' : Value) (h1 h2 : H) (j : Nat), (r.kind = (j : Int)) ∧ j < 3 ∧ [vl, nilS, v1, v2, vh][j + 1]? = some vk ∧
      H.appS (frzL [h.next] (hideL [] (H.put (H.skip hA 17) (hA.next + 11) (some (.cells [I i] 3 true))))) 1 3 (slc (hA.next + 11) 0 1 1) vk = some (v', h1) ∧
      pst (frzL [] (hideL [] (thawL [h.next] (H.put (H.skip hA 17) (hA.next + 11) (some (.cells [I i] 3 true))) h1))) v' (ptr bo (j + 1)) = some h2 ∧
      OSt h2 bo vl reps v1' v2' vh (push r.kind i s) ∧ Step (OFoot bo v1 v2 vh) (OFoot bo v1' v2' vh) hA h2 ∧ h2.get h.next = some (.cells r.enc 81 true) ∧ ¬ OFoot bo v1' v2' vh h.next ∧ hA.next = h.next + 1 := by
  have fA : Fr h hA := by subst eA; exact (Fr.refl h).new _
  have SA : OSt hA bo vl reps v1 v2 vh s := S.fr fA
  have nA : hA.next = h.next + 1 := by subst eA; rfl
  have gA : hA.get h.next = some (.cells r.enc 81 true) := by subst eA; simp
  have nf : ¬ OFoot bo v1 v2 vh h.next := fun hh => by have := S.footlt hh; omega
  have hbo := S.lt
  rcases hk with hk | hk
  · obtain ⟨v', h1, h2, e1, e2, e3, e4, e5, e6, e7⟩ := slot_append (n := 17) (k := 11) (s := 1) (j := 2) (xs := [I i]) SA.cell rfl SA.o1.og gA (by omega) SA.lt (by omega) (fun hh => nf (.inr (.inl hh))) SA.n1 (by omega) rfl (by simp; omega)
    refine ⟨v', v2, v1, v', h1, h2, 1, by rw [hk]; rfl, by omega, rfl, e1, e2, ?_, ?_, ?_, ?_, nA⟩
    · unfold push; rw [if_pos hk]
      have keep : ∀ b, b < hA.next → b ≠ bo → bOf v1 ≠ some b → h2.get b = hA.get b := e7
      exact { SA with
        lt := by have := SA.lt; omega
        cell := e3
        o1 := OG.ol (by simpa using e4)
        o2 := SA.o2.keep (by omega) fun b hb hlt => keep b hlt (fun hh => SA.n2 (hh ▸ hb)) (fun hh => SA.n12 b hh hb)
        oh := SA.oh.keep (by omega) fun b hb hlt => keep b hlt (fun hh => SA.nh (hh ▸ hb)) (fun hh => SA.n1h b hh hb)
        rows := SA.rows.keep (by omega) fun b hb => keep b (SA.rows.lt hb) (fun hh => SA.nl (hh ▸ hb)) (SA.nl1 b hb)
        n1 := by rw [e5]; intro hh; cases hh; omega
        n12 := fun b hb => by rw [e5] at hb; cases hb; intro hh; have := SA.o2.lt hh; omega
        n1h := fun b hb => by rw [e5] at hb; cases hb; intro hh; have := SA.oh.lt hh; omega
        nl1 := fun b hb => by rw [e5]; intro hh; cases hh; have := SA.rows.lt hb; omega
        w1 := fun x hx => by
          simp only [List.mem_append, List.mem_singleton] at hx
          rcases hx with hx | rfl
          · exact SA.w1 x hx
          · exact hi }
    · exact {
        nx := by omega
        get := fun b hb hf => e7 b hb (fun hh => hf (.inl hh)) fun hh => hf (.inr (.inl hh))
        foot := fun b hb hf => by
          rcases hf with hf | hf | hf
          · exact .inl hf
          · rw [e5] at hf; cases hf; omega
          · exact .inr (.inr hf) }
    · rw [e7 _ (by omega) (by omega) (fun hh => nf (.inr (.inl hh))), gA]
    · rintro (hh | hh | hh)
      · omega
      · rw [e5] at hh; simp only [Option.some.injEq] at hh; omega
      · exact nf (.inr (.inr hh))
  · obtain ⟨v', h1, h2, e1, e2, e3, e4, e5, e6, e7⟩ := slot_append (n := 17) (k := 11) (s := 1) (j := 3) (xs := [I i]) SA.cell rfl SA.o2.og gA (by omega) SA.lt (by omega) (fun hh => nf (.inr (.inr (.inl hh)))) SA.n2 (by omega) rfl (by simp; omega)
    refine ⟨v1, v', v2, v', h1, h2, 2, by rw [hk]; rfl, by omega, rfl, e1, e2, ?_, ?_, ?_, ?_, nA⟩
    · unfold push; rw [if_neg (by omega)]
      have keep : ∀ b, b < hA.next → b ≠ bo → bOf v2 ≠ some b → h2.get b = hA.get b := e7
      exact { SA with
        lt := by have := SA.lt; omega
        cell := e3
        o2 := OG.ol (by simpa using e4)
        o1 := SA.o1.keep (by omega) fun b hb hlt => keep b hlt (fun hh => SA.n1 (hh ▸ hb)) (fun hh => SA.n12 b hb hh)
        oh := SA.oh.keep (by omega) fun b hb hlt => keep b hlt (fun hh => SA.nh (hh ▸ hb)) (fun hh => SA.n2h b hh hb)
        rows := SA.rows.keep (by omega) fun b hb => keep b (SA.rows.lt hb) (fun hh => SA.nl (hh ▸ hb)) (SA.nl2 b hb)
        n2 := by rw [e5]; intro hh; cases hh; omega
        n12 := fun b hb => by rw [e5]; intro hh; cases hh; have := SA.o1.lt hb; omega
        n2h := fun b hb => by rw [e5] at hb; cases hb; intro hh; have := SA.oh.lt hh; omega
        nl2 := fun b hb => by rw [e5]; intro hh; cases hh; have := SA.rows.lt hb; omega
        w2 := fun x hx => by
          simp only [List.mem_append, List.mem_singleton] at hx
          rcases hx with hx | rfl
          · exact SA.w2 x hx
          · exact hi }
    · exact {
        nx := by omega
        get := fun b hb hf => e7 b hb (fun hh => hf (.inl hh)) fun hh => hf (.inr (.inr (.inl hh)))
        foot := fun b hb hf => by
          rcases hf with hf | hf | hf | hf
          · exact .inl hf
          · exact .inr (.inl hf)
          · rw [e5] at hf; cases hf; omega
          · exact .inr (.inr (.inr hf)) }
    · rw [e7 _ (by omega) (by omega) (fun hh => nf (.inr (.inr (.inl hh)))), gA]
    · rintro (hh | hh | hh | hh)
      · omega
      · exact nf (.inr (.inl hh))
      · rw [e5] at hh; simp only [Option.some.injEq] at hh; omega
      · exact nf (.inr (.inr (.inr hh)))

theorem match_loop (N d : Nat) (hN : 2000 ≤ N) {bo : Nat} {vl : Value} {reps : List Rep} (hlen : reps.length ≤ 800) :
    ∀ (t : List Rep) (i m : Nat) (h : H) (v1 v2 vh : Value) (s : MS), OSt h bo vl reps v1 v2 vh s → reps.drop i = t → i ≤ reps.length → t.length < m → (∀ r ∈ t, r.kind = 1 ∨ r.kind = 2) →
      s.2.2.length + s.1.length ≤ i → s.2.1.length ≤ i →
      ∃ v1' v2' vh' h', LP38_1 (CF N (d + 6)) N m [.one (ptr bo 0), .one vl, .one (I reps.length), .one (I i)] h = some (.exit 2, [.one (ptr bo 0)], h') ∧
        OSt h' bo vl reps v1' v2' vh' (matchG reps i t s) ∧ Step (OFoot bo v1 v2 vh) (OFoot bo v1' v2' vh') h h' := by
  intro t
  induction t with
  | nil =>
    intro i m h v1 v2 vh s S hi hle hm hk hl hl2
    obtain ⟨m, rfl⟩ : ∃ q, m = q + 1 := ⟨m - 1, by omega⟩
    rw [LP38_1_succ]; unfold B38_1
    obtain rfl := drop_nil hi hle
    exact ⟨v1, v2, vh, h, by simp, S, Step.of_fr (.refl h)⟩
  | cons r t ih =>
    intro i m h v1 v2 vh s S hd hle hm hk hl hl2
    obtain ⟨m, rfl⟩ : ∃ q, m = q + 1 := ⟨m - 1, by omega⟩
    simp only [List.length_cons] at hm
    obtain ⟨hlt, hx, hdt, hlt2⟩ := drop_cons hd
    rw [LP38_1_succ]; unfold B38_1
    have hd' : (reps.map Rep.enc).drop i = r.enc :: t.map Rep.enc := by rw [← List.map_drop, hd]; rfl
    obtain ⟨b, o, _, e1, e2, _⟩ := S.rows.atd hd'
    have h1 : (i : Int) < reps.length := by omega
    have e7 : ibin .add (I i) (I 1) = some (I (i + 1 : Nat)) := by rw [add_in (by omega) (by omega)]; rfl
    have st : pstn (h.new (.cells [I 0, I 0, I 0] 81 true)) r.enc (ptr h.next 0) = some (h.new (.cells r.enc 81 true)) := by
      rw [pstn_ptr, H.stn_of _ (H.new_get_same _ _)]; simp [H.new_put, Rep.enc, splice]
    generalize eA : h.new (.cells r.enc 81 true) = hA at st
    obtain ⟨w1, w2, vk, v', q1, q2, j, hj, hj3, hvk, z1, z2, S2, st2, g2, nf2, nA⟩ := push_round N d S (hk r (by simp)) eA (by omega) (by omega) hlt
    have gA : hA.get h.next = some (.cells r.enc 81 true) := by subst eA; simp
    have fA : Fr h hA := by subst eA; exact (Fr.refl h).new _
    have gH : (hideL [(hA.next + 11)] (H.skip hA 17)).get h.next = some (.cells r.enc 81 true) := by rw [hideL_one, H.put_get_ne _ _ (by omega), H.skip_get, gA]
    have gO : (hideL [(hA.next + 11)] (H.skip hA 17)).get bo = some (.cells [vl, nilS, v1, v2, vh] 147 true) := by
      have := S.lt
      rw [hideL_one, H.put_get_ne _ _ (by omega), H.skip_get, fA.get _ S.lt, S.cell]
    have ix : idxP 1 3 (ptr bo 1) (I (j : Int)) = some (ptr bo (j + 1)) := by rw [idxP_ptrI, if_pos (by omega), show 1 + (j : Int).toNat * 1 = j + 1 by omega]
    have hlp : (push r.kind i s).2.2.length + (push r.kind i s).1.length ≤ i + 1 ∧ (push r.kind i s).2.1.length ≤ i + 1 := by
      unfold push; split <;> simp <;> omega
    obtain ⟨u1, u2, uh, hB, k1, k2, k3⟩ := while_loop N d (by omega) (rb := h.next) (x1 := vl) (x2 := I reps.length) (x3 := I i) (r := r) 1000 N q2 w1 w2 vh (push r.kind i s) S2 (by omega) (by omega) g2 (by have := st2.nx; omega) nf2 (by omega) (by omega)
    have hla := handAll_len (reps := reps) (t := r.at_) 1000 (push r.kind i s)
    obtain ⟨y1, y2, yh, hC, m1, m2, m3⟩ := ih (i + 1) m hB u1 u2 uh _ k2 hdt (by omega) (by omega) (fun r' hr' => hk r' (by simp [hr'])) (by omega) (by omega)
    refine ⟨y1, y2, yh, hC, ?_, m2, ((Step.of_fr fA).trans st2).trans (k3.trans m3)⟩
    simp only [ibin_lssI, Option.bind_some, condV_bool, h1, decide_true, if_true, e1, pldn_ptr, e2, ifLen_eq, show r.enc.length = 3 from rfl, st]
    simp only [padd_ptr, Nat.zero_add, Option.bind_some, sameB_ptr, if_true, pld_ptr, H.ld_of _ gH, show r.enc[1]? = some (I r.kind) from rfl, hj, nilC_ptr, ix, H.ld_of _ gO, hvk, bOf_ptr, z1, z2, thawL_nil, k1, outc_exit, ifN_same, unConD_cons, un1_one, unNil_nil, e7, m1]

theorem chkK {last : Int} : ∀ {l : List Rep}, chk last l = true → ∀ r ∈ l, (r.kind = 1 ∨ r.kind = 2) ∧ r.mok := by
  intro l
  induction l generalizing last with
  | nil => intro _ r hr; simp at hr
  | cons a l ih =>
    intro h r hr
    simp only [chk, Bool.and_eq_true, wb, decide_eq_true_eq] at h
    rcases List.mem_cons.1 hr with rfl | hr
    · exact ⟨by omega, by unfold Rep.mok; omega⟩
    · exact ih h.2 r hr

/-- what Match returns -/
def matchP (reps : List Rep) : List (Nat × Nat × Int) × Int :=
  if 60 < reps.length then ([], 2) else if chk 0 reps = true then ((matchG reps 0 reps ([], [], [])).2.2, 0) else ([], 121)
theorem match_c (N d : Nat) (hN : 2000 ≤ N) {h : H} {vl : Value} {reps : List Rep} (r : RS h 3 vl (reps.map Rep.enc)) (hlen : reps.length ≤ 800) :
    ∃ v h', CF N (d + 7) (.func 38) [.one vl] h = some (.tup [.one v, .one (I (matchP reps).2)], h') ∧ Fr h h' ∧ OG h' v 77 3 ((matchP reps).1.map encH) := by
  rw [CF_succ, F38_eq]; unfold F38
  have hl := r.len
  rw [List.length_map] at hl
  rw [hl]
  simp only [Option.bind_some, ibin_gtrI, condV_bool]
  unfold matchP
  by_cases h60 : 60 < reps.length
  · have : (reps.length : Int) > 60 := by omega
    simp only [this, decide_true, if_true, h60]
    exact ⟨_, h, rfl, .refl h, by simp, .inl ⟨rfl, rfl⟩⟩
  · have : ¬ (reps.length : Int) > 60 := by omega
    simp only [this, decide_false, Bool.false_eq_true, if_false, h60]
    obtain ⟨h1, k1, f1⟩ := check_loop N (d + 5) (by omega) r (by omega) reps 0 N 0 h (.refl h) rfl (by omega) (by omega)
    rw [show LP38_0 (CF N (d + 6)) N N [.one vl, .one (I 0), .one vl, .one (I reps.length), .one (I 0)] h = _ from k1]
    cases hc : chk 0 reps with
    | false => exact ⟨_, h1, by simp, f1, by simp, .inl ⟨rfl, rfl⟩⟩
    | true =>
      simp only [if_true, Option.bind_some, outc_exit, ifN_same, unConD_cons, un1_one, unNil_nil, hl]
      generalize eA : h1.new (.cells [vl, nilS, nilS, nilS, nilS] 147 true) = hA
      have fA : Fr h1 hA := by subst eA; exact (Fr.refl h1).new _
      have nA : hA.next = h1.next + 1 := by subst eA; rfl
      have rA := (r.fr f1).fr fA
      have S : OSt hA h1.next vl reps nilS nilS nilS ([], [], []) := {
        lt := by omega
        cell := by subst eA; simp
        o1 := .inl ⟨rfl, rfl⟩
        o2 := .inl ⟨rfl, rfl⟩
        oh := ⟨by simp, .inl ⟨rfl, rfl⟩⟩
        rows := rA
        n1 := by simp [bOf]
        n2 := by simp [bOf]
        nh := by simp [bOf]
        n12 := by simp [bOf]
        n1h := by simp [bOf]
        n2h := by simp [bOf]
        nl := fun hh => by have := (r.fr f1).lt hh; omega
        nl1 := by simp [bOf]
        nl2 := by simp [bOf]
        nlh := by simp [bOf]
        ok := fun x hx => (chkK hc x hx).2
        w1 := by simp
        w2 := by simp }
      obtain ⟨v1', v2', vh', h2, m1, m2, m3⟩ := match_loop N d hN (by omega) reps 0 N hA nilS nilS nilS ([], [], []) S rfl (by omega) (by omega) (fun x hx => (chkK hc x hx).1) (by simp) (by simp)
      refine ⟨vh', h2, ?_, ?_, m2.oh⟩
      · rw [show LP38_1 (CF N (d + 6)) N N [.one (ptr h1.next 0), .one vl, .one (I reps.length), .one (I 0)] hA = _ from m1]
        simp [pld_ptr, H.ld_of _ m2.cell]
      · refine ⟨by have := f1.nx; have := m3.nx; omega, fun b hb => ?_⟩
        have := f1.nx
        rw [m3.get b (by omega), fA.get b (by omega), f1.get b hb]
        rintro (hh | hh | hh | hh)
        · omega
        · simp [bOf] at hh
        · simp [bOf] at hh
        · simp [bOf] at hh
end Go.Wz
