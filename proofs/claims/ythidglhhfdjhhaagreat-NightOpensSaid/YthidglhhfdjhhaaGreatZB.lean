import Derived.Test.YthidglhhfdjhhaaGreatZA
import Derived.OrdersIn
/- The framework, part B of A to D: an evaluator of the model over an abstract heap, and its soundness. -/
set_option linter.unusedSimpArgs false
set_option linter.unusedVariables false
section
namespace Go.Wz
variable {B : Nat} {h h' : H} {P : Program}

theorem bind_some' {α R : Type} {x : Option α} {f : α → Option R} {r : R} (e : x.bind f = some r) : ∃ a, x = some a ∧ f a = some r := Option.bind_eq_some_iff.1 e

set_option maxHeartbeats 2000000 in
theorem opK_ok {call : CallT} (hc : CallOK P B call) {st : St} {o : Oper} {R : Type} {k : Option SV → H → Option R} {r : R} (hk : opK P call st o h k = some r) :
    ∃ v h', k v h' = some r ∧ ∀ F, Wide F → Good P B F st o h v h' := by
  unfold opK at hk
  split at hk
  · -- move
    rename_i x ho
    split at hk
    · rename_i v hv
      exact ⟨_, _, hk, fun F hF => .value hF (by simp [ho]) fun ι w a s tr => ⟨a.eval x, w, ι, by simp [execOp, ho], .refl s, .of (tr.eval hv)⟩⟩
    · simp at hk
  · rename_i x ho
    split at hk
    · rename_i v hv
      exact ⟨_, _, hk, fun F hF => .value hF (by simp [ho]) fun ι w a s tr => ⟨a.eval x, w, ι, by simp [execOp, ho], .refl s, .of (tr.eval hv)⟩⟩
    · simp at hk
  · -- pick
    rename_i c x y ho
    obtain ⟨cv, h1, hk⟩ := v1_some hk
    obtain ⟨v, h4, hk⟩ := bind_some' hk
    refine ⟨_, _, hk, fun F hF => .value hF (by simp [ho]) fun ι w a s tr => ?_⟩
    unfold pickV at h4
    split at h4
    · rename_i t
      have hcb : a.eval c = .bool t := by
        have := tr.v h1; generalize a.eval c = q at this; cases this; rfl
      split at h4
      · rename_i v2 hv2
        simp at h4; subst h4
        cases t
        · exact ⟨a.eval y, w, ι, by simp only [execOp, ho, hcb]; rfl, .refl s, .one (tr.v hv2)⟩
        · exact ⟨a.eval x, w, ι, by simp only [execOp, ho, hcb]; rfl, .refl s, .one (tr.v hv2)⟩
      · simp at h4
    · simp at h4
  · -- alloc
    rename_i e ho
    split at hk
    · rename_i cs hz; exact ⟨_, _, hk, fun F hF => good_alloc hF ho hz⟩
    · simp at hk
  · -- box
    rename_i e x ho
    rcases vc_some hk with ⟨v, hv, hk⟩ | ⟨cs, hv, hk⟩
    · exact ⟨_, _, hk, fun F hF => good_box hF ho (.inr ⟨v, hv, rfl⟩)⟩
    · exact ⟨_, _, hk, fun F hF => good_box hF ho (.inl hv)⟩
  · -- build
    rename_i t parts ho
    split at hk
    · rename_i fs zs hu hz
      split at hk
      · rename_i places hp
        split at hk
        · rename_i hall
          obtain ⟨cs, hk, hf⟩ := fillK_inv _ _ hk
          exact ⟨_, _, hk, fun F hF => good_buildS hF ho hu hz hp hall hf⟩
        · simp at hk
      · simp at hk
    · rename_i n e zs hu hz
      split at hk
      · rename_i s hs
        obtain ⟨cs, hk, hf⟩ := fillK_inv _ _ hk
        exact ⟨_, _, hk, fun F hF => good_buildA hF ho hu hz hs hf⟩
      · simp at hk
    · simp at hk
  · -- buildSlice
    rename_i t len parts ho
    split at hk
    · rename_i e he
      split at hk
      · rename_i s z hs hz
        split at hk
        · rename_i hcond
          obtain ⟨cs, hk, hf⟩ := fillK_inv _ _ hk
          exact ⟨_, _, hk, fun F hF => good_buildSl hF ho (elemS_eq he) hz hs hcond.1 hcond.2.1 hcond.2.2 hf⟩
        · simp at hk
      · simp at hk
    · simp at hk
  · -- load
    rename_i t x ho
    obtain ⟨p, hp, hk⟩ := v1_some hk
    split at hk
    · rename_i n ha hs
      obtain ⟨cs, h1, hk⟩ := bind_some' hk
      exact ⟨_, _, hk, fun F hF => good_loadn hF ho hp ha hs h1⟩
    · rename_i n ha hs
      obtain ⟨cs, h1, hk⟩ := bind_some' hk
      exact ⟨_, _, hk, fun F hF => good_load hF ho hp ha h1⟩
    · simp at hk
  · -- store
    rename_i t x y ho
    obtain ⟨p, hp, hk⟩ := v1_some hk
    split at hk
    · rename_i n hs
      split at hk
      · rename_i v hv
        split at hk
        · rename_i h1; subst h1
          obtain ⟨h2, h3, hk⟩ := bind_some' hk
          exact ⟨_, _, hk, fun F hF => good_store hF ho hp hv hs h3⟩
        · simp at hk
      · rename_i cs hv
        split at hk
        · rename_i h1; subst h1
          obtain ⟨h2, h3, hk⟩ := bind_some' hk
          exact ⟨_, _, hk, fun F hF => good_storen hF ho hp hv hs h3⟩
        · simp at hk
      · simp at hk
    · simp at hk
  · -- nilCheck
    rename_i x ho
    obtain ⟨v, hv, hk⟩ := v1_some hk
    obtain ⟨v2, h2, hk⟩ := bind_some' hk
    refine ⟨_, _, hk, fun F hF => .value hF (by simp [ho]) fun ι w a s tr => ?_⟩
    obtain ⟨rfl, e⟩ := nilC_ok2 (tr.v hv) h2 ho rfl
    exact ⟨_, w, ι, by rw [e]; rfl, .refl s, .one (tr.v hv)⟩
  · -- binOp
    rename_i op t x y ty ho
    split at hk
    · rename_i fs hf
      obtain ⟨as, ha, hk⟩ := vA_some hk
      obtain ⟨bs, hb, hk⟩ := vA_some hk
      obtain ⟨v, hv, hk⟩ := bind_some' hk
      exact ⟨_, _, hk, fun F hF => good_binA hF ho ha hb hf hv⟩
    · obtain ⟨a, ha, hk⟩ := v1_some hk
      obtain ⟨b, hb, hk⟩ := v1_some hk
      obtain ⟨v, hv, hk⟩ := bind_some' hk
      exact ⟨_, _, hk, fun F hF => good_bin hF ho ha hb hv⟩
  · -- unOp
    rename_i op t x ho
    obtain ⟨v, hv, hk⟩ := v1_some hk
    obtain ⟨v2, h2, hk⟩ := bind_some' hk
    refine ⟨_, _, hk, fun F hF => good_sem hF (by simp [ho]) fun ι w a s tr => ?_⟩
    obtain ⟨v', e1, e2⟩ := un_ok (w := w) (P := P) (tr.v hv) h2
    exact ⟨_, v', by simp only [execOp, ho], e1, e2⟩
  · -- convert
    rename_i sT d x ho
    split at hk
    · rename_i kd hd
      split at hk
      · rename_i hsT
        obtain ⟨v, hv, hk⟩ := v1_some hk
        obtain ⟨v2, h2, hk⟩ := bind_some' hk
        refine ⟨_, _, hk, fun F hF => good_sem hF (by simp [ho]) fun ι w a s tr => ?_⟩
        obtain ⟨v', e1, e2⟩ := cvt_ok (w := w) (s := sT) hd (by intro hh; rw [hh] at hsT; simp at hsT) (tr.v hv) h2
        exact ⟨_, v', by simp only [execOp, ho], e1, e2⟩
      · simp at hk
    · simp at hk
  · -- makeFunc
    rename_i f first cap ho
    obtain ⟨fs, h1, hk⟩ := vs1_some hk
    obtain ⟨cs, h2, hk⟩ := vs1_some hk
    refine ⟨_, _, hk, fun F hF => .value hF (by simp [ho]) fun ι w a s tr => ?_⟩
    refine ⟨.func (.func f) ⟨first.toList.map a.eval⟩ ⟨cap.toList.map a.eval⟩, w, ι, ?_, .refl s, .one (.func f (tr.vs h1) (tr.vs h2))⟩
    have e1 : first.map a.eval = ⟨first.toList.map a.eval⟩ := by apply Array.ext'; simp
    have e2 : cap.map a.eval = ⟨cap.toList.map a.eval⟩ := by apply Array.ext'; simp
    simp [execOp, ho, Instr.makeFunc, e1, e2]
  · -- makeSlice
    rename_i t l c ho
    split at hk
    · rename_i e he
      split at hk
      · rename_i s z by_ hs hz hb
        split at hk
        · rename_i hcond
          obtain ⟨lv, h1, hk⟩ := v1_some hk
          obtain ⟨cv, h2, hk⟩ := v1_some hk
          obtain ⟨⟨v2, h2'⟩, h3, hk⟩ := bind_some' hk
          refine ⟨_, _, hk, fun F hF => good_semw hF (by simp [ho]) fun ι w a sm tr => ?_⟩
          obtain ⟨v', w', ι', e1, e2, e3⟩ := mkS_ok ⟨elemS_eq he, hs, hb⟩ hz hcond.2.1 hcond.1 hcond.2.2 sm (tr.v h1) (tr.v h2) h3
          exact ⟨_, v', w', ι', by simp only [execOp, ho], e1, e2, e3⟩
        · simp at hk
      · simp at hk
    · simp at hk
  · -- slice
    rename_i t x lo hi mx ho
    split at hk
    · rename_i e he
      split at hk
      · rename_i s hs
        split at hk
        · rename_i h1s
          obtain ⟨xv, hx, hk⟩ := v1_some hk
          split at hk
          · obtain ⟨v2, h2, hk⟩ := bind_some' hk
            refine ⟨_, _, hk, fun F hF => good_sem hF (by simp [ho]) fun ι w a sm tr => ?_⟩
            obtain ⟨v', e1, e2⟩ := slice_run (w := w) (elemS_eq he) hs h1s (lo := none) (hi := none) (tr.v hx) (lo' := none) (hi' := none) (by simp) (by simp) (by simp) (by simp) h2
            exact ⟨_, v', by simp only [execOp, ho, Option.map_none], e1, e2⟩
          · obtain ⟨lv, hl, hk⟩ := v1_some hk
            obtain ⟨v2, h2, hk⟩ := bind_some' hk
            refine ⟨_, _, hk, fun F hF => good_sem hF (by simp [ho]) fun ι w a sm tr => ?_⟩
            rename_i lo _ _ _
            obtain ⟨v', e1, e2⟩ := slice_run (w := w) (elemS_eq he) hs h1s (lo := some lv) (hi := none) (tr.v hx) (lo' := some (a.eval lo)) (hi' := none) (by rintro _ ⟨⟩; exact ⟨_, rfl, tr.v hl⟩) (by simp) (by simp) (by simp) h2
            exact ⟨_, v', by simp only [execOp, ho, Option.map_none, Option.map_some], e1, e2⟩
          · obtain ⟨uv, hu, hk⟩ := v1_some hk
            obtain ⟨v2, h2, hk⟩ := bind_some' hk
            refine ⟨_, _, hk, fun F hF => good_sem hF (by simp [ho]) fun ι w a sm tr => ?_⟩
            rename_i hi _ _ _
            obtain ⟨v', e1, e2⟩ := slice_run (w := w) (elemS_eq he) hs h1s (lo := none) (hi := some uv) (tr.v hx) (lo' := none) (hi' := some (a.eval hi)) (by simp) (by simp) (by rintro _ ⟨⟩; exact ⟨_, rfl, tr.v hu⟩) (by simp) h2
            exact ⟨_, v', by simp only [execOp, ho, Option.map_none, Option.map_some], e1, e2⟩
          · obtain ⟨lv, hl, hk⟩ := v1_some hk
            obtain ⟨uv, hu, hk⟩ := v1_some hk
            obtain ⟨v2, h2, hk⟩ := bind_some' hk
            refine ⟨_, _, hk, fun F hF => good_sem hF (by simp [ho]) fun ι w a sm tr => ?_⟩
            rename_i lo hi _ _ _ _
            obtain ⟨v', e1, e2⟩ := slice_run (w := w) (elemS_eq he) hs h1s (lo := some lv) (hi := some uv) (tr.v hx) (lo' := some (a.eval lo)) (hi' := some (a.eval hi)) (by rintro _ ⟨⟩; exact ⟨_, rfl, tr.v hl⟩) (by simp) (by rintro _ ⟨⟩; exact ⟨_, rfl, tr.v hu⟩) (by simp) h2
            exact ⟨_, v', by simp only [execOp, ho, Option.map_none, Option.map_some], e1, e2⟩
          · split at hk
            · obtain ⟨v2, h2, hk⟩ := bind_some' hk
              refine ⟨_, _, hk, fun F hF => good_sem hF (by simp [ho]) fun ι w a sm tr => ?_⟩
              rename_i k1 k2 _ _ _
              obtain ⟨v', e1, e2⟩ := cut0_ok (w := w) (k1 := k1) (k2 := k2) (elemS_eq he) hs (tr.v hx) h2 (lo' := none) (.inl rfl)
              exact ⟨_, v', by simp only [execOp, ho, Option.map_none, Option.map_some, Act.eval], e1, e2⟩
            · obtain ⟨v2, h2, hk⟩ := bind_some' hk
              refine ⟨_, _, hk, fun F hF => good_sem hF (by simp [ho]) fun ι w a sm tr => ?_⟩
              rename_i k1 k2 _ k3 _ _
              obtain ⟨v', e1, e2⟩ := cut0_ok (w := w) (k1 := k1) (k2 := k2) (elemS_eq he) hs (tr.v hx) h2 (.inr ⟨k3, rfl⟩)
              exact ⟨_, v', by simp only [execOp, ho, Option.map_none, Option.map_some, Act.eval], e1, e2⟩
            · simp at hk
          · simp at hk
        · simp at hk
      · simp at hk
    · simp at hk
  · -- fieldAddr
    rename_i sT x f ho
    split at hk
    · rename_i off ft hf
      split at hk
      · rename_i n hs
        split at hk
        · rename_i h1
          obtain ⟨pv, hp, hk⟩ := v1_some hk
          obtain ⟨v2, h2, hk⟩ := bind_some' hk
          refine ⟨_, _, hk, fun F hF => good_sem hF (by simp [ho]) fun ι w a sm tr => ?_⟩
          obtain ⟨ad, e1, e2⟩ := padd_ok (tr.v hp) h2
          obtain ⟨fs, fd, q1, q2, q3, q4⟩ := fldT_eq hf
          subst q3 q4
          refine ⟨Instr.fieldAt sT (a.eval x) f, _, by simp only [execOp, ho], ?_, e2⟩
          simp [Instr.fieldAt, run_un q1, q2, e1, Instr.sureAddr, fieldPlace, run_sz hs, show ¬ n = 0 by omega]
        · simp at hk
      · simp at hk
    · simp at hk
  · -- field
    rename_i t x f ho
    split at hk
    · rename_i off ft hf
      split at hk
      · rename_i cs hx
        split at hk
        · rename_i n ha hs
          exact ⟨_, _, hk, fun F hF => good_fieldn hF ho hx hf ha hs⟩
        · rename_i n ha hs
          obtain ⟨v, hv, hk⟩ := bind_some' hk
          exact ⟨_, _, hk, fun F hF => good_field hF ho hx hf ha hv⟩
        · simp at hk
      · simp at hk
    · simp at hk
  · -- indexAddr
    rename_i t x i ho
    split at hk
    · rename_i e hu
      split at hk
      · rename_i s hs
        obtain ⟨xv, hx, hk⟩ := v1_some hk
        obtain ⟨iv, hi, hk⟩ := v1_some hk
        obtain ⟨v, hv, hk⟩ := bind_some' hk
        refine ⟨_, _, hk, fun F hF => good_sem hF (by simp [ho]) fun ι w a sm tr => ?_⟩
        obtain ⟨v', e1, e2⟩ := idxS_ok (w := w) hu hs (tr.v hx) (tr.v hi) hv
        exact ⟨_, v', by simp only [execOp, ho], e1, e2⟩
      · simp at hk
    · rename_i n e hu
      split at hk
      · rename_i s hs
        obtain ⟨xv, hx, hk⟩ := v1_some hk
        obtain ⟨iv, hi, hk⟩ := v1_some hk
        obtain ⟨v, hv, hk⟩ := bind_some' hk
        refine ⟨_, _, hk, fun F hF => good_sem hF (by simp [ho]) fun ι w a sm tr => ?_⟩
        obtain ⟨v', e1, e2⟩ := idxP_ok (w := w) hu hs (tr.v hx) (tr.v hi) hv
        exact ⟨_, v', by simp only [execOp, ho], e1, e2⟩
      · simp at hk
    · simp at hk
  · -- index
    rename_i t x i ho
    split at hk
    · rename_i n e cs hu hx
      split at hk
      · rename_i ha hs
        obtain ⟨iv, hi, hk⟩ := v1_some hk
        obtain ⟨j, hj, hk⟩ := bind_some' hk
        obtain ⟨v, hv, hk⟩ := bind_some' hk
        refine ⟨_, _, hk, fun F hF => good_sem hF (by simp [ho]) fun ι w a sm tr => ?_⟩
        obtain ⟨cs', e0, e1⟩ := (tr.eval hx).agg_inv
        have hiv := tr.v hi
        unfold idxA at hj
        split at hj
        · rename_i k i'
          generalize hg : a.eval i = g at hiv
          cases hiv
          split at hj
          · rename_i hb
            simp at hj; subst hj
            obtain ⟨v', e2, e3⟩ := e1.get _ hv
            refine ⟨Instr.index t (a.eval x) (a.eval i), v', by simp only [execOp, ho], ?_, e3⟩
            simp [Instr.index, hg, asIntOf, run_un hu, e0, hb, part, run_ag ha, run_sz hs, e2]
          · simp at hj
        · simp at hj
      · simp at hk
    · rename_i sv hu hx
      obtain ⟨iv, hi, hk⟩ := v1_some hk
      obtain ⟨v, hv, hk⟩ := bind_some' hk
      refine ⟨_, _, hk, fun F hF => good_sem hF (by simp [ho]) fun ι w a sm tr => ?_⟩
      have hxv := tr.v hx
      have hiv := tr.v hi
      unfold idxStr at hv
      split at hv
      · rename_i s k i'
        generalize hg : a.eval i = g at hiv
        cases hiv
        generalize hg2 : a.eval x = g2 at hxv
        cases hxv
        split at hv
        · rename_i hb
          obtain ⟨b, e1, e2⟩ := Option.map_eq_some_iff.1 hv
          subst e2
          refine ⟨Instr.index t (a.eval x) (a.eval i), _, by simp only [execOp, ho], ?_, .int _ _⟩
          simp [Instr.index, hg, hg2, asIntOf, run_un hu, hb, e1]
        · simp at hv
      · simp at hv
    · simp at hk
  · -- extract
    rename_i x i ho
    split at hk
    · rename_i l hl
      split at hk
      · rename_i v hv
        refine ⟨_, _, hk, fun F hF => .value hF (by simp [ho]) fun ι w a s tr => ?_⟩
        have hx := tr.eval hl
        generalize hg : a.eval x = g at hx
        cases hx with
        | tup hvs =>
          obtain ⟨v', e1, e2⟩ := hvs.get i hv
          exact ⟨v', w, ι, by simp [execOp, ho, Instr.extract, hg, e1], .refl s, .of e2⟩
      · simp at hk
    · simp at hk
  · -- call
    rename_i c ho
    have hargs : ∀ {l : List Operand} {a : Act}, c.args.toList = l → c.args.map a.eval = (l.map a.eval).toArray := by
      intro l a e; subst e; apply Array.ext'; simp
    split at hk
    · rename_i b hcl
      split at hk
      · -- len
        rename_i _ x hal
        split at hk
        · rename_i e hu
          obtain ⟨t, ht, hu⟩ := Option.bind_eq_some_iff.1 hu
          obtain ⟨xv, hx, hk⟩ := v1_some hk
          obtain ⟨v, hv, hk⟩ := bind_some' hk
          refine ⟨_, _, hk, fun F hF => good_sem hF (by simp [ho]) fun ι w a sm tr => ?_⟩
          refine ⟨Builtin.len_ c.argTypes o.type #[a.eval x], v, ?_, ?_, ?_⟩
          · simp only [execOp, ho, resolve, hcl, hargs hal]; simp [invoke, builtin]
          · have := tr.v hx
            unfold lenS at hv
            split at hv
            · simp at hv; subst hv
              obtain ⟨a', c', e1, _⟩ := this.slice_inv
              simp [Builtin.len_, ht, run_un hu, e1, goInt]
            · simp at hv
          · unfold lenS at hv
            split at hv
            · simp at hv; subst hv; exact .int _ _
            · simp at hv
        · rename_i n e hu
          obtain ⟨t, ht, hu⟩ := Option.bind_eq_some_iff.1 hu
          refine ⟨_, _, hk, fun F hF => good_sem hF (by simp [ho]) fun ι w a sm tr => ?_⟩
          refine ⟨Builtin.len_ c.argTypes o.type #[a.eval x], .int .i64 n, ?_, ?_, .int _ _⟩
          · simp only [execOp, ho, resolve, hcl, hargs hal]; simp [invoke, builtin]
          · simp [Builtin.len_, ht, run_un hu, goInt]
        · simp at hk
      · -- append
        rename_i _ x y hal
        split at hk
        · rename_i e e1 he he1
          obtain ⟨t0, ht0, he⟩ := Option.bind_eq_some_iff.1 he
          obtain ⟨t1, ht1, he1⟩ := Option.bind_eq_some_iff.1 he1
          split at hk
          · rename_i z by_ zs hs hbb hz
            split at hk
            · rename_i hcond
              obtain ⟨sv, h1, hk⟩ := v1_some hk
              obtain ⟨xv, h2, hk⟩ := v1_some hk
              obtain ⟨⟨v2, h2'⟩, h3, hk⟩ := bind_some' hk
              refine ⟨_, _, hk, fun F hF => good_semw hF (by simp [ho]) fun ι w a sm tr => ?_⟩
              obtain ⟨v', w', ι', q1, q2, q3⟩ := appS_ok (t0 := t0) (t1 := t1) (ty := o.type) ⟨elemS_eq he, hs, hbb⟩ (elemS_eq he1) hz hcond.2.2.2 hcond.1 hcond.2.1 hcond.2.2.1 sm (tr.v h1) (tr.v h2) h3
              refine ⟨Builtin.append_ c.argTypes o.type #[a.eval x, a.eval y], v', w', ι', ?_, ?_, q2, q3⟩
              · simp only [execOp, ho, resolve, hcl, hargs hal]; simp [invoke, builtin]
              · rw [← q1]
                unfold Builtin.append_
                simp [ht0, ht1]
            · simp at hk
          · simp at hk
        · simp at hk
      · -- max
        rename_i _ x l hal
        obtain ⟨xv, h1, hk⟩ := v1_some hk
        obtain ⟨lv, h2, hk⟩ := vs1_some hk
        obtain ⟨v, hv, hk⟩ := bind_some' hk
        refine ⟨_, _, hk, fun F hF => good_sem hF (by simp [ho]) fun ι w a sm tr => ?_⟩
        obtain ⟨v', e1, e2⟩ := mms_ok (w := w) (P := P) (fun a b a' b' v ha hb e => mx2_ok ha hb e) _ _ _ _ _ (tr.v h1) (tr.vs h2) hv
        refine ⟨Builtin.max_ c.argTypes o.type ((x :: l).map a.eval).toArray, v', ?_, ?_, e2⟩
        · simp only [execOp, ho, resolve, hcl, hargs hal]; simp [invoke, builtin]
        · simpa [Builtin.max_] using e1
      · -- min
        rename_i _ x l hal
        obtain ⟨xv, h1, hk⟩ := v1_some hk
        obtain ⟨lv, h2, hk⟩ := vs1_some hk
        obtain ⟨v, hv, hk⟩ := bind_some' hk
        refine ⟨_, _, hk, fun F hF => good_sem hF (by simp [ho]) fun ι w a sm tr => ?_⟩
        obtain ⟨v', e1, e2⟩ := mms_ok (w := w) (P := P) (fun a b a' b' v ha hb e => mn2_ok ha hb e) _ _ _ _ _ (tr.v h1) (tr.vs h2) hv
        refine ⟨Builtin.min_ c.argTypes o.type ((x :: l).map a.eval).toArray, v', ?_, ?_, e2⟩
        · simp only [execOp, ho, resolve, hcl, hargs hal]; simp [invoke, builtin]
        · simpa [Builtin.min_] using e1
      · -- copy
        rename_i _ x y hal
        split at hk
        · rename_i e he
          obtain ⟨t0, ht0, he⟩ := Option.bind_eq_some_iff.1 he
          split at hk
          · rename_i z hs
            split at hk
            · obtain ⟨sv, h1, hk⟩ := v1_some hk
              obtain ⟨xv, h2, hk⟩ := v1_some hk
              obtain ⟨⟨v2, h2'⟩, h3, hk⟩ := bind_some' hk
              refine ⟨_, _, hk, fun F hF => good_semw hF (by simp [ho]) fun ι w a sm tr => ?_⟩
              obtain ⟨v', w', ι', q1, q2, q3⟩ := copyS_ok (t0 := t0) (t1 := t0) (ty := o.type) (elemS_eq he) hs sm (tr.v h1) (tr.v h2) h3
              refine ⟨Builtin.copy_ c.argTypes o.type #[a.eval x, a.eval y], v', w', ι', ?_, ?_, q2, q3⟩
              · simp only [execOp, ho, resolve, hcl, hargs hal]; simp [invoke, builtin]
              · rw [← q1]
                unfold Builtin.copy_
                simp [ht0]
            · simp at hk
          · simp at hk
        · simp at hk
      · -- clear
        rename_i _ x hal
        split at hk
        · rename_i e he
          obtain ⟨t0, ht0, he⟩ := Option.bind_eq_some_iff.1 he
          split at hk
          · rename_i z n hz hs
            split at hk
            · rename_i hcond
              obtain ⟨sv, h1, hk⟩ := v1_some hk
              obtain ⟨h2', h3, hk⟩ := bind_some' hk
              refine ⟨_, _, hk, fun F hF => .value hF (by simp [ho]) fun ι w a sm tr => ?_⟩
              obtain ⟨w', ι', q1, q2⟩ := clearS_ok (t0 := t0) (ty := o.type) (size := n) (elemS_eq he) hz (by omega) sm (tr.v h1) h3
              refine ⟨.tuple #[], w', ι', ?_, q2, .of (.tup .nil)⟩
              have : (Builtin.clear_ c.argTypes o.type #[a.eval x]).run P w = .ok (.tuple #[]) w' := by
                rw [← q1]; unfold Builtin.clear_; simp [ht0]
              simp only [execOp, ho, resolve, hcl, hargs hal]
              simp [invoke, builtin, this]
            · simp at hk
          · simp at hk
        · simp at hk
      · simp at hk
    · -- a function value
      rename_i f hcl
      obtain ⟨fv, hf, hk⟩ := v1_some hk
      obtain ⟨args, ha, hk⟩ := vsv_some hk
      obtain ⟨⟨v, h2⟩, h3, hk⟩ := bind_some' hk
      split at hk
      · rename_i sh hsh
        exact ⟨_, _, dsh_some _ _ _ _ hk, fun F hF => good_call hF hc ho hcl hf ha h3⟩
      · simp at hk
    · simp at hk
  · simp at hk
end Go.Wz
end
section
namespace Go.Wz
variable {B : Nat} {h h' : H} {P : Program}

def GuardOK (g : Option (Nat × Bool)) (all : Array Oper) (a : Act) : Prop := ∀ j w, g = some (j, w) → yielded all a.tmps j = some w
def NoDst (g : Option (Nat × Bool)) (all : Array Oper) (l : List (Nat × Oper)) : Prop := ∀ j w, g = some (j, w) → ∀ cj, (all[j]?).bind (·.dst) = some cj → ∀ x ∈ l, x.2.dst ≠ some cj
def Same (l : List (Nat × Oper)) (a a' : Act) : Prop := a'.tmps.size = a.tmps.size ∧ a'.defers = a.defers ∧ ∀ t, (∀ x ∈ l, x.2.dst ≠ some t) → a'.tmps[t]? = a.tmps[t]?
theorem Same.refl (l : List (Nat × Oper)) (a : Act) : Same l a a := ⟨rfl, rfl, fun _ _ => rfl⟩
theorem Same.guard {g : Option (Nat × Bool)} {all : Array Oper} {l : List (Nat × Oper)} {a a' : Act} (s : Same l a a') (hn : NoDst g all l) (hg : GuardOK g all a) : GuardOK g all a' := by
  intro j w e
  have := hg j w e
  unfold yielded at this ⊢
  cases hd : (all[j]?).bind (·.dst) with
  | none => simp [hd] at this
  | some cj =>
    simp only [hd, Option.bind_some] at this ⊢
    rw [s.2.2 cj (hn j w e cj hd)]; exact this
theorem put_get (a : Act) (d : Option Tmp) (v : Value) (t : Tmp) (h : d ≠ some t) : (a.put d v).tmps[t]? = a.tmps[t]? := by
  cases d with
  | none => rfl
  | some d =>
    have : d ≠ t := fun e => h (by rw [e])
    simp [Act.put, this]
theorem put_size (a : Act) (d : Option Tmp) (v : Value) : (a.put d v).tmps.size = a.tmps.size := by cases d <;> simp [Act.put]
theorem put_defers (a : Act) (d : Option Tmp) (v : Value) : (a.put d v).defers = a.defers := by cases d <;> rfl
theorem setO_length (st : St) (d : Option Tmp) (v : Option SV) : (setO st d v).len = st.len := by cases d <;> simp [setO, St.set_len]
theorem TR.put {ι : Inj} {st : St} {a : Act} (h : TR ι st a.tmps) (d : Option Tmp) {v : Option SV} {x : Value} (hv : OR ι v x) : TR ι (setO st d v) (a.put d x).tmps := by
  cases d with
  | none => exact h
  | some d =>
    cases v with
    | none => exact h.forget d x
    | some sv => exact h.set d (hv sv rfl)
theorem clearL_le : ∀ (l : List Nat) (st : St), St.le (clearL st l) st
  | [], st => ⟨rfl, fun _ _ e => e⟩
  | d :: l, st => by
    have := clearL_le l (st.set d none)
    refine ⟨by rw [clearL, this.1, St.set_len], fun i sv e => ?_⟩
    have h2 := this.2 i sv e
    rw [St.get_set] at h2
    split at h2
    · cases h2
    · exact h2
/-- a slot of the temporaries -/
def St.has (st : St) (t : Nat) : Prop := t < st.len
theorem clearL_not : ∀ (l : List Nat) (st : St) (i : Nat) sv, (clearL st l).get i = some sv → i < st.len → i ∉ l
  | [], _, _, _, _, _ => by simp
  | d :: l, st, i, sv, e, hi => by
    have h1 := clearL_not l (st.set d none) i sv e (by rw [St.set_len]; exact hi)
    have h2 := (clearL_le l (st.set d none)).2 i sv e
    intro hm
    rcases List.mem_cons.1 hm with rfl | hm
    · rw [St.get_set, if_pos ⟨rfl, hi⟩] at h2; cases h2
    · exact h1 hm
theorem Same.clear {ι ι' : Inj} {l : List (Nat × Oper)} {st : St} {a a' : Act} (s : Same l a a') (hι : ι.le ι') (tr : TR ι st a.tmps) : TR ι' (clearL st (l.filterMap (·.2.dst))) a'.tmps := by
  have hle := clearL_le (l.filterMap (·.2.dst)) st
  refine ⟨by rw [s.1, tr.size, hle.1], fun i sv e => ?_⟩
  have h2 := tr.at_ i sv (hle.2 i sv e)
  by_cases hi : i < st.len
  · have hn := clearL_not _ _ _ _ e hi
    rw [Array.getD_eq_getD_getElem?] at h2 ⊢
    rw [s.2.2 i ?_]
    · exact h2.mono hι
    · intro x hx he
      exact hn (List.mem_filterMap.2 ⟨x, hx, he⟩)
  · have e1 : a.tmps[i]? = none := Array.getElem?_eq_none (by rw [tr.size]; omega)
    have e2 : a'.tmps[i]? = none := Array.getElem?_eq_none (by rw [s.1, tr.size]; omega)
    rw [Array.getD_eq_getD_getElem?, e1] at h2
    rw [Array.getD_eq_getD_getElem?, e2]
    exact h2.mono hι

def GoodOps (P : Program) (B : Nat) (F : Fence) (all : Array Oper) (g : Option (Nat × Bool)) (l : List (Nat × Oper)) (st : St) (h : H) (st' : St) (h' : H) : Prop :=
  ∀ (ι : Inj) (w : World) (a : Act) (tail : List Nat) (Q : Exit → Act → World → Prop), Sim P B ι h w → TR ι st a.tmps → GuardOK g all a →
    (∀ ι' w' a', Ext P B ι h w ι' h' w' → TR ι' st' a'.tmps → Same l a a' → wpOpsIn F 0 P all Q tail a' w') → wpOpsIn F 0 P all Q (l.map (·.1) ++ tail) a w

theorem wanted_of {g : Option (Nat × Bool)} {all : Array Oper} {a : Act} {o : Oper} (hg : GuardOK g all a) (ho : o.guard = g) : Region.wanted o (yielded all a.tmps) = true := by
  unfold Region.wanted
  rw [ho]
  cases g with
  | none => rfl
  | some x => obtain ⟨j, w⟩ := x; simp [hg j w rfl]

theorem yielded_undef {all : Array Oper} {a : Act} {i : Nat} {d : Option Tmp} (h : yielded all a.tmps i = none) : yielded all (a.put d Go.undef).tmps i = none := by
  unfold yielded at h ⊢
  cases hd : (all[i]?).bind (·.dst) with
  | none => rfl
  | some c =>
    simp only [hd, Option.bind_some] at h ⊢
    cases d with
    | none => exact h
    | some d =>
      by_cases hdc : d = c
      · subst hdc
        simp only [Act.put, Array.getElem?_setIfInBounds]
        by_cases hlt : d < a.tmps.size
        · simp [hlt, Go.undef]
        · simp [hlt]
      · rw [put_get a (some d) _ c (by simpa using hdc)]; exact h
theorem yielded_self {all : Array Oper} {a : Act} {i : Nat} {o : Oper} {d : Tmp} (ho : all[i]? = some o) (hd : o.dst = some d) : yielded all (a.put (some d) Go.undef).tmps i = none := by
  unfold yielded
  simp only [ho, Option.bind_some, hd, Act.put, Array.getElem?_setIfInBounds]
  by_cases hlt : d < a.tmps.size
  · simp [hlt, Go.undef]
  · simp [hlt]

/-- a group that is passed over -/
theorem skipped {F : Fence} (hF : Wide F) {all : Array Oper} {j : Nat} {w t : Bool} {cj : Tmp} (hcj : (all[j]?).bind (·.dst) = some cj) (htw : t ≠ w) :
    ∀ (l : List (Nat × Oper)) (seen : List Nat) (a : Act) (W : World) (tail : List Nat) (Q : Exit → Act → World → Prop), (∀ x ∈ l, all[x.1]? = some x.2) → grpOk j w cj seen l = true → yielded all a.tmps j = some t →
      (∀ i ∈ seen, yielded all a.tmps i = none) → (∀ a', Same l a a' → wpOpsIn F 0 P all Q tail a' W) → wpOpsIn F 0 P all Q (l.map (·.1) ++ tail) a W := by
  intro l
  induction l with
  | nil => intro seen a W tail Q _ _ _ _ hk; exact hk a (.refl _ _)
  | cons x l ih =>
    obtain ⟨i, o⟩ := x
    intro seen a W tail Q hall hok hj hseen hk
    have ho := hall (i, o) (by simp)
    simp only at ho
    simp only [grpOk, Bool.and_eq_true] at hok
    obtain ⟨⟨hg, hd⟩, hrest⟩ := hok
    simp only [List.map_cons, List.cons_append, wpOpsIn, ho]
    have hw : Region.wanted o (yielded all a.tmps) = false := by
      unfold Region.wanted
      cases hgo : o.guard with
      | none => simp [hgo] at hg
      | some x =>
        obtain ⟨j', w'⟩ := x
        simp only [hgo, Bool.or_eq_true, Bool.and_eq_true, beq_iff_eq] at hg
        rcases hg with ⟨rfl, rfl⟩ | hm
        · simp [hj, htw]
        · simp only [hseen j' (by simpa using hm)]; rfl
    rw [hw]
    simp only [Bool.false_eq_true, if_false]
    refine ⟨fun f _ => hF.fn f, ?_⟩
    cases hdo : o.dst with
    | none => simp [hdo] at hd
    | some d =>
      simp only [hdo, bne_iff_ne, ne_eq] at hd
      refine ih (i :: seen) _ W tail Q (fun x hx => hall x (by simp [hx])) hrest ?_ ?_ fun a' s' => hk a' ?_
      · unfold yielded at hj ⊢
        simp only [hcj, Option.bind_some] at hj ⊢
        rw [put_get a (some d) _ cj (by simpa using hd)]; exact hj
      · intro i' hi'
        rcases List.mem_cons.1 hi' with rfl | hi'
        · exact yielded_self ho hdo
        · exact yielded_undef (hseen i' hi')
      · refine ⟨by rw [s'.1, put_size], by rw [s'.2.1, put_defers], fun t ht => ?_⟩
        rw [s'.2.2 t (fun x hx => ht x (by simp [hx])), put_get]
        have := ht (i, o) (by simp)
        simpa [hdo] using this

theorem takeWhile_append_dropWhile' {α : Type} (p : α → Bool) (l : List α) : l.takeWhile p ++ l.dropWhile p = l := List.takeWhile_append_dropWhile

set_option maxHeartbeats 1000000 in
theorem opsK_ok {call : CallT} (hc : CallOK P B call) (all : Array Oper) : ∀ (n : Nat) (g : Option (Nat × Bool)) (l : List (Nat × Oper)) (st : St) (h : H) {R : Type} (k : St → H → Option R) (r : R),
    (∀ x ∈ l, all[x.1]? = some x.2) → NoDst g all l → opsK P call all n g l st h k = some r → ∃ st' h', k st' h' = some r ∧ st'.len = st.len ∧ ∀ F, Wide F → GoodOps P B F all g l st h st' h' := by
  intro n
  induction n with
  | zero => intro g l st h R k r _ _ e; simp [opsK] at e
  | succ n ih =>
    intro g l st h R k r hall hnd e
    cases l with
    | nil =>
      simp only [opsK] at e
      exact ⟨st, h, e, rfl, fun F hF ι w a tail Q s tr _ hk => hk ι w a (.refl s) tr (.refl _ _)⟩
    | cons x rest =>
      obtain ⟨i, o⟩ := x
      have ho := hall (i, o) (by simp)
      simp only at ho
      simp only [opsK] at e
      split at e
      · -- an operation of this level
        rename_i hgo
        obtain ⟨v, h1, e1, g1⟩ := opK_ok hc e
        obtain ⟨st', h', e2, hl2, g2⟩ := ih g rest (setO st o.dst v) h1 k r (fun x hx => hall x (by simp [hx])) (fun j w hg cj hcj x hx => hnd j w hg cj hcj x (by simp [hx])) e1
        refine ⟨st', h', e2, by rw [hl2, setO_length], fun F hF ι w a tail Q s tr hg hk => ?_⟩
        simp only [List.map_cons, List.cons_append, wpOpsIn, ho]
        rw [wanted_of hg hgo]
        simp only [if_true]
        refine g1 F hF ι w a s tr _ Q fun x w1 hx => ?_
        obtain ⟨ι1, x1, hv⟩ := hx
        have s1 : Same [(i, o)] a (a.put o.dst x) := ⟨put_size _ _ _, put_defers _ _ _, fun t ht => put_get _ _ _ _ (ht (i, o) (by simp))⟩
        refine g2 F hF ι1 w1 _ tail Q x1.sim ((tr.mono x1.le).put o.dst hv) (s1.guard (fun j w hg cj hcj x hx => hnd j w hg cj hcj x (by simp at hx; subst hx; simp)) hg) fun ι2 w2 a2 x2 tr2 s2 => ?_
        refine hk ι2 w2 a2 (x1.trans x2) tr2 ⟨by rw [s2.1, s1.1], by rw [s2.2.1, s1.2.1], fun t ht => ?_⟩
        rw [s2.2.2 t (fun x hx => ht x (by simp [hx])), s1.2.2 t (fun x hx => ht x (by simp at hx; subst hx; simp))]
      · -- a group
        split at e
        · rename_i hgo j w ip p rest' hog hdw
          generalize hgrp : (((i, o) :: rest).takeWhile fun x => x.2.guard != g) = grp at e
          have hsplit : (i, o) :: rest = grp ++ (ip, p) :: rest' := by
            rw [← hgrp, ← hdw]; exact (takeWhile_append_dropWhile' _ _).symm
          have hp := hall (ip, p) (by rw [hsplit]; simp)
          simp only at hp
          have hpg : p.guard = g := by
            have := List.head_dropWhile_not (p := fun x : Nat × Oper => x.2.guard != g) (l := (i, o) :: rest) (by rw [hdw]; simp)
            simp only [hdw, List.head_cons] at this
            simpa using this
          split at e
          · rename_i c x y d cj hop hpd hcj
            split at e
            · rename_i hcond
              obtain ⟨rfl, hok⟩ := hcond
              obtain ⟨cv, hcv, e⟩ := v1_some e
              obtain ⟨⟨v, h1⟩, hsel, e'⟩ := bind_some' e
              unfold gsel at hsel
              split at hsel
              · rename_i t
                have hgall : ∀ x ∈ grp, all[x.1]? = some x.2 := fun x hx => hall x (by rw [hsplit]; simp [hx])
                have hgnd : ∀ cj', (all[j]?).bind (·.dst) = some cj' → ∀ x ∈ grp, x.2.dst ≠ some cj' := by
                  intro cj' hcj'
                  rw [hcj] at hcj'; cases hcj'
                  have : ∀ (l : List (Nat × Oper)) (seen : List Nat), grpOk j w c seen l = true → ∀ x ∈ l, x.2.dst ≠ some c := by
                    intro l
                    induction l with
                    | nil => simp
                    | cons y l ih2 =>
                      intro seen hh x hx
                      obtain ⟨i2, o2⟩ := y
                      simp only [grpOk, Bool.and_eq_true] at hh
                      rcases List.mem_cons.1 hx with rfl | hx
                      · intro hc2; simp only at hc2; have := hh.1.2; rw [hc2] at this; simp at this
                      · exact ih2 _ hh.2 x hx
                  exact this grp [] hok
                -- the rest, behind the pick
                have hrest : ∃ st' h', k st' h' = some r ∧ st'.len = _ ∧ ∀ F, Wide F → GoodOps P B F all g rest' (setO (clearL st (grp.filterMap (·.2.dst))) (some d) (some (.one v))) h1 st' h' :=
                  ih g rest' _ h1 k r (fun x hx => hall x (by rw [hsplit]; simp [hx])) (fun j w hg cj hcj x hx => hnd j w hg cj hcj x (by rw [hsplit]; simp [hx])) e'
                obtain ⟨st', h', e2, hl2, g2⟩ := hrest
                refine ⟨st', h', e2, by rw [hl2, setO_length, (clearL_le _ _).1], fun F hF ι W a tail Q s tr hg hk => ?_⟩
                rw [hsplit]
                simp only [List.map_append, List.map_cons, List.append_assoc, List.cons_append]
                have hcb : a.eval (.tmp c) = .bool t := by
                  have := tr.v hcv; generalize a.eval (.tmp c) = q at this; cases this; rfl
                have hyj : yielded all a.tmps j = some t := by
                  unfold yielded
                  simp only [hcj, Option.bind_some]
                  have hh : a.tmps.getD c Go.undef = .bool t := hcb
                  rw [Array.getD_eq_getD_getElem?] at hh
                  cases hq : a.tmps[c]? with
                  | none => rw [hq] at hh; simp [Go.undef] at hh
                  | some q => rw [hq] at hh; simp at hh; subst hh; rfl
                -- the pick itself
                have hpick : ∀ (ι1 : Inj) (W1 : World) (a1 : Act) (val : Value), Ext P B ι h W ι1 h1 W1 → Same grp a a1 → a1.eval (.tmp c) = .bool t → a1.eval (if t then x else y) = val → VR ι1 v val →
                    wpOpsIn F 0 P all Q (ip :: (rest'.map (·.1) ++ tail)) a1 W1 := by
                  intro ι1 W1 a1 val x1 s1 hc1 hval hv
                  have hg1 : GuardOK g all a1 := s1.guard (fun j w hg cj hcj x hx => hnd j w hg cj hcj x (by rw [hsplit]; simp [hx])) hg
                  simp only [wpOpsIn, hp]
                  rw [wanted_of hg1 hpg]
                  simp only [if_true]
                  refine ⟨fun f _ => hF.fn f, ?_⟩
                  have hrun : (execOp a1.eval p).run P W1 = .ok (.value val) W1 := by
                    simp only [execOp, hop, hc1, asBool]
                    cases t <;> simpa using hval
                  rw [semAt_of (by simp [hop]), hrun, Oper.uponIn_value]
                  have sp : Same [(ip, p)] a1 (a1.put p.dst val) := ⟨put_size _ _ _, put_defers _ _ _, fun t ht => put_get _ _ _ _ (ht (ip, p) (by simp))⟩
                  refine g2 F hF ι1 W1 _ tail Q x1.sim ?_ (sp.guard (fun j w hg cj hcj x hx => hnd j w hg cj hcj x (by simp at hx; subst hx; rw [hsplit]; simp)) hg1) fun ι2 w2 a2 x2 tr2 s2 => ?_
                  · rw [hpd]
                    exact (s1.clear x1.le tr).put (some d) (OR.one hv)
                  · refine hk ι2 w2 a2 (x1.trans x2) tr2 ⟨by rw [s2.1, sp.1, s1.1], by rw [s2.2.1, sp.2.1, s1.2.1], fun t ht => ?_⟩
                    rw [hsplit] at ht
                    rw [s2.2.2 t (fun x hx => ht x (by simp [hx])), sp.2.2 t (fun x hx => ht x (by simp at hx; subst hx; simp)), s1.2.2 t (fun x hx => ht x (by simp [hx]))]
                by_cases htw : t = w
                · subst htw
                  rw [if_pos rfl] at hsel
                  obtain ⟨st1, h2, e3, _, g3⟩ := ih (some (j, t)) grp st h _ _ hgall (fun j' w' hjw cj' hcj' x hx => by cases hjw; exact hgnd cj' hcj' x hx) hsel
                  obtain ⟨v2, hv2, e3⟩ := v1_some e3
                  simp at e3
                  obtain ⟨rfl, rfl⟩ := e3
                  refine g3 F hF ι W a _ Q s tr (fun j' w' hjw => by cases hjw; exact hyj) fun ι1 W1 a1 x1 tr1 s1 => ?_
                  have hc1 : a1.eval (.tmp c) = .bool t := by
                    show a1.tmps.getD c Go.undef = _
                    rw [Array.getD_eq_getD_getElem?, s1.2.2 c (hgnd c hcj), ← Array.getD_eq_getD_getElem?]; exact hcb
                  exact hpick ι1 W1 a1 _ x1 s1 hc1 rfl (tr1.v hv2)
                · rw [if_neg htw] at hsel
                  obtain ⟨v2, hv2, e3⟩ := v1_some hsel
                  simp at e3
                  obtain ⟨rfl, rfl⟩ := e3
                  refine skipped hF hcj htw grp [] a W _ Q hgall hok hyj (by simp) fun a1 s1 => ?_
                  have hc1 : a1.eval (.tmp c) = .bool t := by
                    show a1.tmps.getD c Go.undef = _
                    rw [Array.getD_eq_getD_getElem?, s1.2.2 c (hgnd c hcj), ← Array.getD_eq_getD_getElem?]; exact hcb
                  have htn : t = !w := by cases t <;> cases w <;> simp_all
                  have hxy : (if t = true then x else y) = (if w = true then y else x) := by subst htn; cases w <;> rfl
                  exact hpick ι W a1 _ (.refl s) s1 hc1 rfl (by rw [hxy]; exact (s1.clear (Inj.le_refl _) tr).v hv2)
              · simp at hsel
            · simp at e
          · simp at e
        · simp at e
end Go.Wz
end
section
namespace Go.Wz
variable {R S : Type} {P : Program}

theorem v1_bind (x : Option SV) (f : Value → Option R) (g : R → Option S) : (v1 x f).bind g = v1 x fun v => (f v).bind g := by
  cases x with
  | none => rfl
  | some s => cases s <;> rfl
theorem vA_bind (x : Option SV) (f : List Value → Option R) (g : R → Option S) : (vA x f).bind g = vA x fun v => (f v).bind g := by
  cases x with
  | none => rfl
  | some s => cases s <;> rfl
theorem vc_bind (x : Option SV) (f : List Value → Option R) (g : R → Option S) : (vc x f).bind g = vc x fun v => (f v).bind g := by
  unfold vc; split <;> rfl
theorem vs1_bind : ∀ (xs : List (Option SV)) (f : List Value → Option R) (g : R → Option S), (vs1 xs f).bind g = vs1 xs fun v => (f v).bind g
  | [], _, _ => rfl
  | x :: r, f, g => by
    unfold vs1; rw [v1_bind]; congr 1; funext v; exact vs1_bind r _ g
theorem vsv_bind : ∀ (xs : List (Option SV)) (f : List SV → Option R) (g : R → Option S), (vsv xs f).bind g = vsv xs fun v => (f v).bind g
  | [], _, _ => rfl
  | none :: _, _, _ => rfl
  | some x :: r, f, g => by unfold vsv; exact vsv_bind r _ g
theorem fillK_bind (f : List Value → Option R) (g : R → Option S) : ∀ (l : List (Nat × Nat × Option SV)) (zs : List Value), (fillK f zs l).bind g = fillK (fun cs => (f cs).bind g) zs l
  | [], _ => rfl
  | (off, size, x) :: rest, zs => by
    unfold fillK
    split
    · split
      · split
        · exact fillK_bind f g rest _
        · rfl
      · split
        · exact fillK_bind f g rest _
        · rfl
      · rfl
    · rfl
mutual
theorem dsh_bind (g : R → Option S) : ∀ (s : Sh) (x : SV) (f : SV → Option R), (dsh s x f).bind g = dsh s x fun v => (f v).bind g
  | .one, x, f => by unfold dsh; cases x <;> rfl
  | .agg, x, f => by unfold dsh; cases x <;> rfl
  | .tup l, x, f => by
    unfold dsh; split
    · exact dshs_bind g l _ _
    · rfl
theorem dshs_bind (g : R → Option S) : ∀ (s : List Sh) (x : List SV) (f : List SV → Option R), (dshs s x f).bind g = dshs s x fun v => (f v).bind g
  | [], x, f => by unfold dshs; split <;> rfl
  | s :: l, x, f => by
    unfold dshs; split
    · rename_i v r
      rw [dsh_bind]; congr 1; funext v
      exact dshs_bind g l r _
    · rfl
end
theorem bind_congr' {α β : Type} (x : Option α) {f g : α → Option β} (h : ∀ a, f a = g a) : x.bind f = x.bind g := by
  have : f = g := funext h
  rw [this]
theorem v1_congr (x : Option SV) {f g : Value → Option R} (h : ∀ a, f a = g a) : v1 x f = v1 x g := by
  have : f = g := funext h
  rw [this]
theorem vA_congr (x : Option SV) {f g : List Value → Option R} (h : ∀ a, f a = g a) : vA x f = vA x g := by
  have : f = g := funext h
  rw [this]
theorem vc_congr (x : Option SV) {f g : List Value → Option R} (h : ∀ a, f a = g a) : vc x f = vc x g := by
  have : f = g := funext h
  rw [this]
theorem vs1_congr (x : List (Option SV)) {f g : List Value → Option R} (h : ∀ a, f a = g a) : vs1 x f = vs1 x g := by
  have : f = g := funext h
  rw [this]
theorem vsv_congr (x : List (Option SV)) {f g : List SV → Option R} (h : ∀ a, f a = g a) : vsv x f = vsv x g := by
  have : f = g := funext h
  rw [this]

/-- what an operation gives, and then the rest -/
theorem opK_nat {call : CallT} (st : St) (o : Oper) (h : H) (k : Option SV → H → Option R) :
    opK P call st o h k = (opK P call st o h fun v h => some (v, h)).bind fun x => k x.1 x.2 := by
  unfold opK
  cases o.op <;> try rfl
  all_goals simp only []
  all_goals
    repeat' first
      | rfl
      | simp only [v1_bind, vA_bind, vc_bind, vs1_bind, vsv_bind, fillK_bind, dsh_bind, Option.bind_assoc, Option.bind_some, Option.bind_none]; done
      | (simp only [v1_bind, vA_bind, vc_bind, vs1_bind, vsv_bind, fillK_bind, dsh_bind, Option.bind_assoc, Option.bind_some, Option.bind_none]; first | (refine v1_congr _ fun _ => ?_) | (refine vA_congr _ fun _ => ?_) | (refine vc_congr _ fun _ => ?_) | (refine vs1_congr _ fun _ => ?_) | (refine vsv_congr _ fun _ => ?_) | (refine bind_congr' _ fun _ => ?_))
      | (refine v1_congr _ fun _ => ?_)
      | (refine vA_congr _ fun _ => ?_)
      | (refine bind_congr' _ fun _ => ?_)
      | (exfalso; simp_all; done)
      | (split <;> try simp only [*, Option.bind_none, Option.bind_some])
end Go.Wz
end
section
namespace Go.Wz
variable {R S : Type} {P : Program} {call : CallT}

theorem H.ext {a b : H} (h : ∀ i, a.get i = b.get i) (n : a.next = b.next) : a = b := by
  cases a; cases b; simp only at h n; subst n; congr 1; exact funext h
theorem H.put_get (h : H) (b : Nat) (x : Option Blk) (i : Nat) : (h.put b x).get i = if i = b then x else h.get i := rfl
theorem H.put_next (h : H) (b : Nat) (x : Option Blk) : (h.put b x).next = h.next := rfl
theorem hideL_get : ∀ (l : List Nat) (h : H) (i : Nat), (hideL l h).get i = if i ∈ l then none else h.get i
  | [], _, _ => by simp [hideL]
  | b :: l, h, i => by
    simp only [hideL, H.put_get, hideL_get l, List.mem_cons]
    by_cases h1 : i = b <;> simp [h1]
theorem hideL_next : ∀ (l : List Nat) (h : H), (hideL l h).next = h.next
  | [], _ => rfl
  | b :: l, h => hideL_next l h
theorem frzL_get : ∀ (l : List Nat) (h : H) (i : Nat), (frzL l h).get i = if i ∈ l then (h.get i).bind Blk.ro else h.get i
  | [], _, _ => by simp [frzL]
  | b :: l, h, i => by
    simp only [frzL, H.put_get, frzL_get l, List.mem_cons]
    by_cases h1 : i = b
    · subst h1; simp
    · simp [h1]
theorem frzL_next : ∀ (l : List Nat) (h : H), (frzL l h).next = h.next
  | [], _ => rfl
  | b :: l, h => frzL_next l h
theorem thawL_get : ∀ (l : List Nat) (h h' : H) (i : Nat), (thawL l h h').get i = if i ∈ l then h.get i else h'.get i
  | [], _, _, _ => by simp [thawL]
  | b :: l, h, h', i => by
    simp only [thawL, H.put_get, thawL_get l, List.mem_cons]
    by_cases h1 : i = b
    · subst h1; simp
    · simp [h1]
theorem thawL_next : ∀ (l : List Nat) (h h' : H), (thawL l h h').next = h'.next
  | [], _, _ => rfl
  | b :: l, h, h' => thawL_next l h h'

abbrev Res := Option (Option SV × H)
def BPure (f : H → Res) : Prop := ∃ c : Option (Option SV), ∀ h, f h = c.map fun v => (v, h)
def BLd (f : H → Res) (hs : List Nat) (b : Nat) : Prop := ∃ g : Blk → Option (Option SV), ∀ h, f h = if b ∈ hs then none else ((h.get b).bind g).map fun v => (v, h)
def BAl (f : H → Res) (n : Nat) : Prop := ∃ c : Option (Option SV × Option Blk), ∀ h, f h = c.map fun x => (x.1, h.put n x.2)
def BWr (f : H → Res) (bs hs : List Nat) : Prop := ∃ g : H → Option (Option SV × H), ∀ h, f h = (g (frzL bs (hideL hs h))).map fun x => (x.1, thawL (bs ++ hs) h x.2)
def Comm (f g : H → Res) : Prop := ∀ h v h1 u h2, f h = some (v, h1) → g h1 = some (u, h2) → ∃ h1', g h = some (u, h1') ∧ f h1' = some (v, h2)

theorem map_some' {α β : Type} {x : Option α} {f : α → β} {r : β} (e : x.map f = some r) : ∃ a, x = some a ∧ f a = r := by
  cases x with
  | none => simp at e
  | some a => exact ⟨a, rfl, by simpa using e⟩

theorem Comm.pureL {f g : H → Res} (hf : BPure f) : Comm f g := by
  obtain ⟨c, hc⟩ := hf
  intro h v h1 u h2 e1 e2
  rw [hc] at e1
  obtain ⟨a, ha, e⟩ := map_some' e1
  cases e
  exact ⟨h2, e2, by rw [hc, ha]; rfl⟩
theorem Comm.pureR {f g : H → Res} (hg : BPure g) : Comm f g := by
  obtain ⟨c, hc⟩ := hg
  intro h v h1 u h2 e1 e2
  rw [hc] at e2
  obtain ⟨a, ha, e⟩ := map_some' e2
  cases e
  exact ⟨h, by rw [hc, ha]; rfl, e1⟩
theorem BLd.inv {f : H → Res} {hs : List Nat} {b : Nat} (hf : BLd f hs b) {h h1 : H} {v : Option SV} (e : f h = some (v, h1)) :
    h1 = h ∧ b ∉ hs ∧ ∀ h', h'.get b = h.get b → f h' = some (v, h') := by
  obtain ⟨g, hg⟩ := hf
  rw [hg] at e
  split at e
  · simp at e
  · rename_i hb
    obtain ⟨a, ha, e⟩ := map_some' e
    cases e
    exact ⟨rfl, hb, fun h' hh => by rw [hg, if_neg hb, hh, ha]; rfl⟩
theorem Comm.ldld {f g : H → Res} {hs hs' : List Nat} {b b' : Nat} (hf : BLd f hs b) (hg : BLd g hs' b') : Comm f g := by
  intro h v h1 u h2 e1 e2
  obtain ⟨rfl, _, k1⟩ := hf.inv e1
  obtain ⟨rfl, _, k2⟩ := hg.inv e2
  exact ⟨_, e2, e1⟩
theorem Comm.ldal {f g : H → Res} {hs : List Nat} {b n : Nat} (hf : BLd f hs b) (hg : BAl g n) (hn : n ∈ hs) : Comm f g := by
  intro h v h1 u h2 e1 e2
  obtain ⟨rfl, hb, k1⟩ := hf.inv e1
  obtain ⟨c, hc⟩ := hg
  refine ⟨h2, e2, ?_⟩
  rw [hc] at e2
  obtain ⟨a, ha, e⟩ := map_some' e2
  cases e
  refine k1 _ ?_
  rw [H.put_get, if_neg]; rintro rfl; exact hb hn
theorem Comm.alld {f g : H → Res} {hs : List Nat} {b n : Nat} (hf : BAl f n) (hg : BLd g hs b) (hn : n ∈ hs) : Comm f g := by
  intro h v h1 u h2 e1 e2
  obtain ⟨rfl, hb, k1⟩ := hg.inv e2
  obtain ⟨c, hc⟩ := hf
  refine ⟨h, ?_, e1⟩
  rw [hc] at e1
  obtain ⟨a, ha, e⟩ := map_some' e1
  cases e
  refine k1 _ ?_
  rw [H.put_get, if_neg]; rintro rfl; exact hb hn
theorem Comm.alal {f g : H → Res} {n m : Nat} (hf : BAl f n) (hg : BAl g m) (hn : n ≠ m) : Comm f g := by
  obtain ⟨c, hc⟩ := hf
  obtain ⟨d, hd⟩ := hg
  intro h v h1 u h2 e1 e2
  rw [hc] at e1
  obtain ⟨a, ha, e⟩ := map_some' e1
  cases e
  rw [hd] at e2
  obtain ⟨b, hb, e⟩ := map_some' e2
  cases e
  refine ⟨_, by rw [hd, hb]; rfl, ?_⟩
  rw [hc, ha]
  simp only [Option.map_some, Option.some.injEq, Prod.mk.injEq, true_and]
  refine H.ext (fun i => ?_) rfl
  simp only [H.put_get]
  by_cases h1 : i = n <;> by_cases h2 : i = m <;> simp_all
theorem Comm.ldwr {f g : H → Res} {hs bs hs' : List Nat} {b : Nat} (hf : BLd f hs b) (hg : BWr g bs hs') (hb : b ∈ bs) : Comm f g := by
  intro h v h1 u h2 e1 e2
  obtain ⟨rfl, _, k1⟩ := hf.inv e1
  refine ⟨h2, e2, ?_⟩
  obtain ⟨c, hc⟩ := hg
  rw [hc] at e2
  obtain ⟨a, ha, e⟩ := map_some' e2
  cases e
  refine k1 _ ?_
  rw [thawL_get, if_pos (by simp [hb])]
theorem Comm.wrld {f g : H → Res} {hs bs hs' : List Nat} {b : Nat} (hf : BWr f bs hs') (hg : BLd g hs b) (hb : b ∈ bs) : Comm f g := by
  intro h v h1 u h2 e1 e2
  obtain ⟨rfl, _, k1⟩ := hg.inv e2
  refine ⟨h, ?_, e1⟩
  obtain ⟨c, hc⟩ := hf
  rw [hc] at e1
  obtain ⟨a, ha, e⟩ := map_some' e1
  cases e
  refine k1 _ ?_
  rw [thawL_get, if_pos (by simp [hb])]
theorem view_put {bs hs : List Nat} {n : Nat} (hn : n ∈ hs) (h : H) (x : Option Blk) : frzL bs (hideL hs (h.put n x)) = frzL bs (hideL hs h) := by
  congr 1
  refine H.ext (fun i => ?_) (by simp [hideL_next, H.put_next])
  simp only [hideL_get, H.put_get]
  by_cases h1 : i ∈ hs
  · simp [h1]
  · simp only [if_neg h1]; rw [if_neg]; rintro rfl; exact h1 hn
theorem thaw_put {l : List Nat} {n : Nat} (hn : n ∈ l) (h h' : H) (x : Option Blk) : thawL l (h.put n x) h' = (thawL l h h').put n x := by
  refine H.ext (fun i => ?_) (by simp [thawL_next, H.put_next])
  simp only [thawL_get, H.put_get]
  by_cases h1 : i = n
  · subst h1; simp [hn]
  · simp [h1]
theorem Comm.alwr {f g : H → Res} {n : Nat} {bs hs : List Nat} (hf : BAl f n) (hg : BWr g bs hs) (hn : n ∈ hs) : Comm f g := by
  obtain ⟨c, hc⟩ := hf
  obtain ⟨d, hd⟩ := hg
  intro h v h1 u h2 e1 e2
  rw [hc] at e1
  obtain ⟨a, ha, e⟩ := map_some' e1
  cases e
  rw [hd, view_put hn] at e2
  obtain ⟨b, hb, e⟩ := map_some' e2
  cases e
  refine ⟨_, by rw [hd, hb]; rfl, ?_⟩
  rw [hc, ha, thaw_put (by simp [hn])]; rfl
theorem Comm.wral {f g : H → Res} {n : Nat} {bs hs : List Nat} (hf : BWr f bs hs) (hg : BAl g n) (hn : n ∈ hs) : Comm f g := by
  obtain ⟨c, hc⟩ := hf
  obtain ⟨d, hd⟩ := hg
  intro h v h1 u h2 e1 e2
  rw [hc] at e1
  obtain ⟨a, ha, e⟩ := map_some' e1
  cases e
  rw [hd] at e2
  obtain ⟨b, hb, e⟩ := map_some' e2
  cases e
  refine ⟨_, by rw [hd, hb]; rfl, ?_⟩
  rw [hc, view_put hn, ha]
  simp only [Option.map_some]
  rw [thaw_put (by simp [hn])]

/-! what the result is turned into -/
def post (φ : Option SV → Option (Option SV)) (f : H → Res) (h : H) : Res := (f h).bind fun x => (φ x.1).map fun v => (v, x.2)
theorem BPure.post {f : H → Res} (hf : BPure f) (φ : Option SV → Option (Option SV)) : BPure (post φ f) := by
  obtain ⟨c, hc⟩ := hf
  refine ⟨c.bind φ, fun h => ?_⟩
  unfold Wz.post; rw [hc]; cases c <;> simp
theorem BLd.post {f : H → Res} {hs : List Nat} {b : Nat} (hf : BLd f hs b) (φ : Option SV → Option (Option SV)) : BLd (post φ f) hs b := by
  obtain ⟨g, hg⟩ := hf
  refine ⟨fun x => (g x).bind φ, fun h => ?_⟩
  unfold Wz.post; rw [hg]
  split
  · rfl
  · cases h.get b with
    | none => rfl
    | some x => simp only [Option.bind_some]; cases g x <;> simp
theorem BAl.post {f : H → Res} {n : Nat} (hf : BAl f n) (φ : Option SV → Option (Option SV)) : BAl (post φ f) n := by
  obtain ⟨c, hc⟩ := hf
  refine ⟨c.bind fun x => (φ x.1).map fun v => (v, x.2), fun h => ?_⟩
  unfold Wz.post; rw [hc]
  cases c with
  | none => rfl
  | some x => simp only [Option.map_some, Option.bind_some]; cases φ x.1 <;> rfl
theorem BWr.post {f : H → Res} {bs hs : List Nat} (hf : BWr f bs hs) (φ : Option SV → Option (Option SV)) : BWr (post φ f) bs hs := by
  obtain ⟨g, hg⟩ := hf
  refine ⟨fun h => (g h).bind fun x => (φ x.1).map fun v => (v, x.2), fun h => ?_⟩
  unfold Wz.post; rw [hg]
  simp only []
  cases g (frzL bs (hideL hs h)) with
  | none => rfl
  | some x => simp only [Option.map_some, Option.bind_some]; cases φ x.1 <;> rfl

/-! the temporaries -/
theorem St.ext {a b : St} (h1 : a.tr = b.tr) (h2 : a.len = b.len) (h3 : a.df = b.df) : a = b := by cases a; cases b; simp_all
theorem keepG_len : ∀ (l : List Nat) (st r : St), (keepG l st r).len = r.len
  | [], _, _ => rfl
  | i :: l, st, r => by rw [keepG, keepG_len l, St.set_len]
theorem keepG_get : ∀ (l : List Nat) (st r : St) (t : Nat), (keepG l st r).get t = if t ∈ l ∧ t < r.len then st.get t else r.get t
  | [], _, _, _ => by simp [keepG]
  | i :: l, st, r, t => by
    rw [keepG, keepG_get l, St.set_len, St.get_set]
    by_cases h1 : t ∈ l ∧ t < r.len
    · rw [if_pos h1, if_pos ⟨List.mem_cons_of_mem _ h1.1, h1.2⟩]
    · rw [if_neg h1]
      by_cases h2 : t = i ∧ i < r.len
      · obtain ⟨rfl, h2⟩ := h2
        rw [if_pos ⟨rfl, h2⟩, if_pos ⟨by simp, h2⟩]
      · rw [if_neg h2, if_neg]
        rintro ⟨h3, h4⟩
        rcases List.mem_cons.1 h3 with rfl | h3
        · exact h2 ⟨rfl, h4⟩
        · exact h1 ⟨h3, h4⟩
theorem keepAt_get (l : List Nat) (st : St) (t : Nat) : (keepAt l st).get t = if t ∈ l ∧ t < st.len then st.get t else none := by
  unfold keepAt; rw [keepG_get]; rfl
theorem keepAt_length (l : List Nat) (st : St) : (keepAt l st).len = st.len := by unfold keepAt; rw [keepG_len]; rfl
theorem keepAt_le (l : List Nat) (st : St) : St.le (keepAt l st) st := by
  refine ⟨keepAt_length l st, fun i sv e => ?_⟩
  rw [keepAt_get] at e
  split at e
  · exact e
  · cases e
theorem keepG_set (d : Nat) (v : Option SV) (st : St) : ∀ (l : List Nat) (r : St), l.contains d = false → keepG l (st.set d v) r = keepG l st r
  | [], _, _ => rfl
  | i :: l, r, h => by
    simp only [List.contains_cons, Bool.or_eq_false_iff] at h
    have hne : i ≠ d := by
      intro e; subst e; simp at h
    rw [keepG, keepG, St.get_set, if_neg (by omega)]
    exact keepG_set d v st l _ h.2
theorem keepAt_set (l : List Nat) (d : Nat) (v : Option SV) (hd : l.contains d = false) (st : St) : keepAt l (st.set d v) = keepAt l st := by
  unfold keepAt; rw [St.set_len]; exact keepG_set d v st l _ hd
theorem keepAt_setO (l : List Nat) (d : Option Nat) (v : Option SV) (hd : dstNot l d = true) (st : St) : keepAt l (setO st d v) = keepAt l st := by
  cases d with
  | none => rfl
  | some d => exact keepAt_set l d v (by simpa [dstNot] using hd) st
theorem evO_keepAt (l l' : List Nat) (st : St) (t : Nat) (ht : t ∈ l') {sv : SV} (e : evO (keepAt l st) (.tmp t) = some sv) : evO (keepAt l' st) (.tmp t) = some sv := by
  simp only [evO, keepAt_get] at e ⊢
  split at e
  · rename_i h; rw [if_pos ⟨ht, h.2⟩]; exact e
  · cases e
theorem setO_comm (st : St) {d d' : Option Nat} (v u : Option SV) (h : dstNot d.toList d' = true) : setO (setO st d v) d' u = setO (setO st d' u) d v := by
  cases d with
  | none => cases d' <;> rfl
  | some d => cases d' with
    | none => rfl
    | some d' =>
      have : d ≠ d' := by
        rintro rfl
        simp [dstNot] at h
      exact (St.set_comm st d d' v u this)
end Go.Wz
end
section
namespace Go.Wz
variable {R S : Type} {P : Program} {call : CallT}

theorem opK_pure {st : St} {o : Oper} (hm : opMode o = 0) : BPure fun h => opK P call st o h fun v h => some (v, h) := by
  refine ⟨opK P call st o ⟨fun _ => none, 0⟩ fun v _ => some v, fun h => ?_⟩
  unfold opMode at hm
  unfold opK
  rw [Option.map_eq_bind]
  cases ho : o.op <;> rw [ho] at hm <;> simp only [] at hm ⊢ <;> try (first | rfl | omega)
  all_goals
    repeat' first
      | rfl
      | (simp only [v1_bind, vA_bind, vc_bind, vs1_bind, vsv_bind, fillK_bind, dsh_bind, Option.bind_assoc, Option.bind_some, Option.bind_none, Function.comp]; done)
      | (simp only [v1_bind, vA_bind, vc_bind, vs1_bind, vsv_bind, fillK_bind, dsh_bind, Option.bind_assoc, Option.bind_some, Option.bind_none]; first | (refine v1_congr _ fun _ => ?_) | (refine vA_congr _ fun _ => ?_) | (refine vc_congr _ fun _ => ?_) | (refine vs1_congr _ fun _ => ?_) | (refine vsv_congr _ fun _ => ?_) | (refine bind_congr' _ fun _ => ?_))
      | (refine v1_congr _ fun _ => ?_)
      | (refine vA_congr _ fun _ => ?_)
      | (refine vs1_congr _ fun _ => ?_)
      | (refine bind_congr' _ fun _ => ?_)
      | (exfalso; simp_all; done)
      | (split <;> try simp only [*, Option.bind_none, Option.bind_some])

theorem aopK_nat (st : St) (o : Oper) (h : H) (b : Nat) (k : Value → Option Blk → Option R) : aopK P st o h b k = (aopK P st o h b fun v x => some (v, x)).bind fun x => k x.1 x.2 := by
  unfold aopK
  cases o.op <;> try rfl
  all_goals simp only []
  all_goals
    repeat' first
      | rfl
      | (simp only [v1_bind, vA_bind, vc_bind, vs1_bind, vsv_bind, fillK_bind, dsh_bind, Option.bind_assoc, Option.bind_some, Option.bind_none]; done)
      | (simp only [v1_bind, vA_bind, vc_bind, vs1_bind, vsv_bind, fillK_bind, dsh_bind, Option.bind_assoc, Option.bind_some, Option.bind_none]; first | (refine v1_congr _ fun _ => ?_) | (refine vA_congr _ fun _ => ?_) | (refine vc_congr _ fun _ => ?_))
      | (exfalso; simp_all; done)
      | (split <;> try simp only [*, Option.bind_none, Option.bind_some])
theorem aopK_const (st : St) (o : Oper) (h h' : H) (b : Nat) (k : Value → Option Blk → Option R) : aopK P st o h b k = aopK P st o h' b k := rfl

def rowB : Blk → Option (List Value) | .cells vs _ _ => some vs | _ => none
theorem H.row_bind (h : H) (b : Nat) : h.row b = (h.get b).bind rowB := by
  unfold H.row rowB
  cases h.get b with
  | none => rfl
  | some x => cases x <;> rfl
theorem pcases (p : Value) : (∃ b o, p = .pointer (some ⟨b, o, none⟩)) ∨ ((∀ h, pld h p = none) ∧ ∀ h n, pldn h n p = none) := by
  cases p <;> try exact .inr ⟨fun _ => rfl, fun _ _ => rfl⟩
  rename_i a
  cases a with
  | none => exact .inr ⟨fun _ => rfl, fun _ _ => rfl⟩
  | some a =>
    obtain ⟨b, o, r⟩ := a
    cases r with
    | none => exact .inl ⟨b, o, rfl⟩
    | some r => exact .inr ⟨fun _ => rfl, fun _ _ => rfl⟩
/-- a load looks at one block -/
theorem opK_load {st : St} {o : Oper} (hm : opMode o = 1) : (∀ h, opK P call st o h (fun v h => some (v, h)) = none) ∨
    ∃ t a p b g, o.op = .load t a ∧ evO st a = some (.one p) ∧ bOf p = some b ∧ ∀ h : H, opK P call st o h (fun v h => some (v, h)) = ((h.get b).bind g).map fun v => (v, h) := by
  unfold opMode at hm
  cases ho : o.op <;> rw [ho] at hm <;> simp only [] at hm <;> try omega
  · rename_i t a
    unfold opK
    simp only [ho]
    cases hp : evO st a with
    | none => exact .inl fun h => rfl
    | some sv =>
      cases sv with
      | one p =>
        simp only [v1, un1]
        have key := pcases p
        rcases key with ⟨b, off, rfl⟩ | ⟨k1, k2⟩
        · cases ha : aggT P t with
          | none => exact .inl fun h => rfl
          | some ag =>
            cases hs : szT P t with
            | none => exact .inl fun h => by cases ag <;> rfl
            | some n =>
              cases ag with
              | true =>
                refine .inr ⟨t, a, .pointer (some ⟨b, off, none⟩), b, fun x => (rowB x).bind fun vs => if off + n ≤ vs.length then some (some (.agg ((vs.drop off).take n))) else none, rfl, hp, rfl, fun h => ?_⟩
                simp only [pldn, H.ldn, H.row_bind, Option.bind_assoc]
                cases h.get b with
                | none => rfl
                | some x =>
                  simp only [Option.bind_some]
                  cases rowB x with
                  | none => rfl
                  | some vs => simp only [Option.bind_some]; split <;> rfl
              | false =>
                refine .inr ⟨t, a, .pointer (some ⟨b, off, none⟩), b, fun x => (rowB x).bind fun vs => (vs[off]?).map fun v => some (.one v), rfl, hp, rfl, fun h => ?_⟩
                simp only [pld, H.ld, H.row_bind, Option.bind_assoc]
                cases h.get b with
                | none => rfl
                | some x =>
                  simp only [Option.bind_some]
                  cases rowB x with
                  | none => rfl
                  | some vs => simp only [Option.bind_some]; cases vs[off]? <;> rfl
        · refine .inl fun h => ?_
          cases ha : aggT P t with
          | none => rfl
          | some ag => cases hs : szT P t with
            | none => cases ag <;> rfl
            | some n => cases ag <;> simp [k1, k2]
      | _ => exact .inl fun h => rfl
  · split at hm <;> simp at hm

theorem chkRoot_bind (st : St) (r : Option Nat) (o : Oper) (X : Option R) (g : R → Option S) : (chkRoot st r o X).bind g = chkRoot st r o (X.bind g) := by
  unfold chkRoot
  split
  · rfl
  · split
    · rw [v1_bind]; refine v1_congr _ fun p => ?_
      rw [v1_bind]; refine v1_congr _ fun q => ?_
      unfold sameB; split
      · split <;> rfl
      · rfl
    · rfl
theorem chkRoot_none (st : St) (r : Option Nat) (o : Oper) : chkRoot st r o (none : Option R) = none := by
  have := chkRoot_bind (S := R) st r o (some ()) fun _ => none
  rw [show ((some ()).bind fun _ => (none : Option R)) = none from rfl] at this
  rw [← this]
  cases chkRoot st r o (some ()) <;> rfl
theorem frB_bind (st : St) (g : R → Option S) : ∀ (l : List Nat) (k : List Nat → Option R), (frB st l k).bind g = frB st l fun bs => (k bs).bind g
  | [], _ => rfl
  | t :: l, k => by
    unfold frB
    rw [v1_bind]; refine v1_congr _ fun p => ?_
    rw [Option.bind_assoc]; refine bind_congr' _ fun b => ?_
    exact frB_bind st g l _
theorem frB_congr (st : St) (l : List Nat) {f g : List Nat → Option R} (h : ∀ a, f a = g a) : frB st l f = frB st l g := by
  have : f = g := funext h
  rw [this]
theorem frB_cases (st : St) : ∀ (l : List Nat), (∀ {R : Type} (k : List Nat → Option R), frB st l k = none) ∨
    ∃ bs, (∀ {R : Type} (k : List Nat → Option R), frB st l k = k bs) ∧ ∀ t ∈ l, ∀ p b, evO st (.tmp t) = some (.one p) → bOf p = some b → b ∈ bs
  | [] => .inr ⟨[], fun k => rfl, by simp⟩
  | t :: l => by
    cases hv : evO st (.tmp t) with
    | none => exact .inl fun k => by simp [frB, v1, un1, hv]
    | some sv => cases sv with
      | one p =>
        cases hb : bOf p with
        | none => exact .inl fun k => by simp [frB, v1, un1, hv, hb]
        | some b =>
          rcases frB_cases st l with h | ⟨bs, h1, h2⟩
          · exact .inl fun k => by simp [frB, v1, un1, hv, hb, h]
          · refine .inr ⟨b :: bs, fun k => by simp [frB, v1, un1, hv, hb, h1], fun t' ht p' b' e1 e2 => ?_⟩
            rcases List.mem_cons.1 ht with rfl | ht
            · rw [hv] at e1; cases e1; rw [hb] at e2; cases e2; simp
            · exact List.mem_cons_of_mem _ (h2 t' ht p' b' e1 e2)
      | _ => exact .inl fun k => by simp [frB, v1, un1, hv]

theorem runO_nat (base : Nat) (md : Md) (i : Nat) (o : Oper) (st : St) (h : H) (k : Option SV → H → Option R) :
    runO P call base md i o st h k = (runO P call base md i o st h fun v h => some (v, h)).bind fun x => k x.1 x.2 := by
  unfold runO
  split
  · rw [opK_nat st o h fun v _ => k v h, opK_nat st o h fun v _ => some (v, h), Option.bind_assoc]; rfl
  · rw [chkRoot_bind, opK_nat st o _ fun v _ => k v h, opK_nat st o _ fun v _ => some (v, h), Option.bind_assoc]; rfl
  · rw [aopK_nat]; dsimp only; rw [aopK_nat (k := fun v x => some (some (SV.one v), h.put (base + i) x)), Option.bind_assoc]; rfl
  · rw [frB_bind]; refine frB_congr _ _ fun bs => ?_
    rw [opK_nat]; dsimp only; rw [opK_nat (k := fun v h' => some (v, thawL (bs ++ md.hid.map (base + ·)) h h')), Option.bind_assoc]; rfl

/-- how an operation goes along with others -/
def Beh (f : H → Res) (base : Nat) (md : Md) (i : Nat) (sx : St) : Prop :=
  BPure f ∨ (md.m = 1 ∧ ∃ b, BLd f (md.hid.map (base + ·)) b ∧ ∀ t, md.root = some t → ∃ p, evO sx (.tmp t) = some (.one p) ∧ bOf p = some b) ∨
  (md.m = 2 ∧ BAl f (base + i)) ∨
  (3 ≤ md.m ∧ ∃ bs, BWr f bs (md.hid.map (base + ·)) ∧ ∀ t ∈ md.fr, ∀ p b, evO sx (.tmp t) = some (.one p) → bOf p = some b → b ∈ bs)
theorem BPure.none : BPure fun _ => (none : Res) := ⟨Option.none, fun _ => rfl⟩

theorem runO_beh (base : Nat) (md : Md) (i : Nat) (o : Oper) (st : St) (hm : modeOk o md = true) : Beh (fun h => runO P call base md i o st h fun v h => some (v, h)) base md i st := by
  unfold modeOk at hm
  unfold runO
  split at hm
  · rename_i h0
    left
    obtain ⟨c, hc⟩ := opK_pure (P := P) (call := call) (st := st) (o := o) (by simpa using hm)
    refine ⟨c, fun h => ?_⟩
    dsimp only at hc ⊢
    rw [opK_nat, hc]
    cases c <;> rfl
  · rename_i h1
    simp only []
    rcases opK_load (P := P) (call := call) (st := st) (o := o) (by simpa using hm) with hn | ⟨t, a, p, b, g, ho, hp, hb, hg⟩
    · left
      refine ⟨none, fun h => ?_⟩
      dsimp only
      rw [opK_nat, hn]
      exact chkRoot_none _ _ _
    · have hld : BLd (fun h => opK P call st o (hideL (md.hid.map (base + ·)) h) fun v _ => some (v, h)) (md.hid.map (base + ·)) b := by
        refine ⟨g, fun h => ?_⟩
        dsimp only
        rw [opK_nat, hg, hideL_get]
        split
        · rfl
        · cases (h.get b).bind g <;> rfl
      cases hr : md.root with
      | none =>
        right; left
        refine ⟨h1, b, ?_, fun t ht => by rw [hr] at ht; cases ht⟩
        simpa [chkRoot] using hld
      | some r =>
        cases hq : evO st (.tmp r) with
        | none => left; refine ⟨none, fun h => ?_⟩; simp [chkRoot, ho, hq, v1, un1]
        | some sv =>
          cases sv with
          | one q =>
            cases hbq : bOf q with
            | none => left; refine ⟨none, fun h => ?_⟩; simp [chkRoot, ho, hq, hp, v1, un1, sameB, hbq]
            | some b' =>
              by_cases hbb : b' = b
              · subst hbb
                right; left
                refine ⟨h1, b', ?_, fun t ht => by rw [hr] at ht; cases ht; exact ⟨q, hq, hbq⟩⟩
                simpa [chkRoot, ho, hq, hp, v1, un1, sameB, hbq, hb] using hld
              · left; refine ⟨none, fun h => ?_⟩; simp [chkRoot, ho, hq, hp, v1, un1, sameB, hbq, hb, hbb]
          | _ => left; refine ⟨none, fun h => ?_⟩; simp [chkRoot, ho, hq, v1, un1]
  · rename_i h2
    right; right; left
    refine ⟨h2, aopK P st o ⟨fun _ => none, 0⟩ (base + i) fun v x => some (some (.one v), x), fun h => ?_⟩
    dsimp only
    rw [aopK_const st o _ ⟨fun _ => none, 0⟩, aopK_nat, aopK_nat (k := fun v x => some (some (SV.one v), x))]
    cases (aopK P st o ⟨fun _ => none, 0⟩ (base + i) fun v x => some (v, x)) <;> rfl
  · rename_i n h0 h1 h2
    have h3 : 3 ≤ md.m := by
      rcases hmm : md.m with _ | _ | _ | k
      · exact absurd hmm h0
      · exact absurd hmm h1
      · exact absurd hmm h2
      · omega
    simp only []
    rcases frB_cases st md.fr with hn | ⟨bs, hbs, hin⟩
    · left; exact ⟨none, fun h => hn _⟩
    · right; right; right
      refine ⟨h3, bs, ⟨fun h => opK P call st o h fun v h' => some (v, h'), fun h => ?_⟩, hin⟩
      dsimp only
      rw [hbs, opK_nat]
      cases (opK P call st o (frzL bs (hideL (md.hid.map (base + ·)) h)) fun v h' => some (v, h')) <;> rfl
end Go.Wz
end
section
noncomputable section
namespace Go.Wz
variable {R S : Type} {P : Program} {call : CallT}

def gval (P : Program) (call : CallT) (all : Array Oper) (base : Nat) (md : Md) (i : Nat) (o : Oper) (sx : St) (h : H) : Res :=
  match o.guard with
  | none => runO P call base md i o sx h fun v h => some (v, h)
  | some (j, w) => (match (all[j]?).bind (·.dst) with
    | some c => (match evO sx (.tmp c) with
      | some cv => (gateS cv w (runO P call base md i o sx h fun v h' => v.bind fun v => some (some v, h')) (some ((none : Option SV), h))).bind fun r => some (some (ovS r.1), r.2)
      | none => none)
    | none => none)
abbrev rdsM (all : Array Oper) (x : Nat × Oper × Md) : List Nat := rdsO all x.2.1 ++ x.2.2.fr ++ x.2.2.root.toList
theorem stepK_eq (all : Array Oper) (base : Nat) (md : Md) (i : Nat) (o : Oper) (st : St) (h : H) (k : St → H → Option R) :
    stepK P call all base md i o st h k = (gval P call all base md i o (keepAt (rdsO all o ++ md.fr ++ md.root.toList) st) h).bind fun x => k (setO st o.dst x.1) x.2 := by
  unfold stepK gval
  cases hg : o.guard with
  | none => simp only; rw [runO_nat]
  | some jw =>
    obtain ⟨j, w⟩ := jw
    simp only
    cases hc : (all[j]?).bind (·.dst) with
    | none => rfl
    | some c =>
      simp only
      cases hv : evO (keepAt (rdsO all o ++ md.fr ++ md.root.toList) st) (.tmp c) with
      | none => rfl
      | some cv => simp only; rw [Option.bind_assoc]; rfl
theorem gval_beh (all : Array Oper) (base : Nat) (md : Md) (i : Nat) (o : Oper) (sx : St) (hm : modeOk o md = true) : Beh (gval P call all base md i o sx) base md i sx := by
  cases hg : o.guard with
  | none =>
    have : gval P call all base md i o sx = fun h => runO P call base md i o sx h fun v h => some (v, h) := by funext h; unfold gval; rw [hg]
    rw [this]
    exact runO_beh base md i o sx hm
  | some jw =>
    obtain ⟨j, w⟩ := jw
    cases hc : (all[j]?).bind (·.dst) with
    | none => exact .inl ⟨none, fun h => by unfold gval; simp only [hg, hc]; rfl⟩
    | some c =>
      cases hv : evO sx (.tmp c) with
      | none => exact .inl ⟨none, fun h => by unfold gval; simp only [hg, hc, hv]; rfl⟩
      | some cv =>
        have hgv : gval P call all base md i o sx = fun h => (gateS cv w (runO P call base md i o sx h fun v h' => v.bind fun v => some (some v, h')) (some ((none : Option SV), h))).bind fun r => some (some (ovS r.1), r.2) := by
          funext h; unfold gval; simp only [hg, hc, hv]
        rw [hgv]
        unfold gateS
        split
        · split
          · have hb := runO_beh (P := P) (call := call) base md i o sx hm
            have heq : (fun h => (runO P call base md i o sx h fun v h' => v.bind fun v => some (some v, h')).bind fun r => some (some (ovS r.1), r.2)) =
                post (fun v => v.bind fun v => some (some v)) (fun h => runO P call base md i o sx h fun v h => some (v, h)) := by
              funext h
              unfold post
              rw [runO_nat, Option.bind_assoc]
              refine bind_congr' _ fun x => ?_
              obtain ⟨x1, x2⟩ := x
              cases x1 <;> rfl
            rw [heq]
            rcases hb with h | ⟨h1, b, h2, h3⟩ | ⟨h1, h2⟩ | ⟨h1, bs, h2, h3⟩
            · exact .inl (h.post _)
            · exact .inr (.inl ⟨h1, b, h2.post _, h3⟩)
            · exact .inr (.inr (.inl ⟨h1, h2.post _⟩))
            · exact .inr (.inr (.inr ⟨h1, bs, h2.post _, h3⟩))
          · exact .inl ⟨some (some .undef), fun h => rfl⟩
        · exact .inl ⟨some (some .undef), fun h => rfl⟩
        · exact .inl ⟨none, fun h => rfl⟩

theorem mem_base {l : List Nat} {base i : Nat} (h : l.contains i = true) : base + i ∈ l.map (base + ·) :=
  List.mem_map.2 ⟨i, by simpa using h, rfl⟩

theorem beh_comm {all : Array Oper} {base : Nat} {x y : Nat × Oper × Md} {f g : H → Res} {st : St} (hi : indep all x y = true)
    (hf : Beh f base x.2.2 x.1 (keepAt (rdsM all x) st)) (hg : Beh g base y.2.2 y.1 (keepAt (rdsM all y) st)) : Comm f g := by
  obtain ⟨i, oi, mi⟩ := x
  obtain ⟨j, oj, mj⟩ := y
  unfold indep at hi
  simp only [Bool.and_eq_true, bne_iff_ne, ne_eq] at hi
  obtain ⟨⟨⟨⟨hne, _⟩, _⟩, _⟩, hm⟩ := hi
  simp only at hf hg
  have hfr : ∀ t b, (∃ p, evO (keepAt (rdsM all (i, oi, mi)) st) (.tmp t) = some (.one p) ∧ bOf p = some b) → t ∈ rdsM all (i, oi, mi) → t ∈ rdsM all (j, oj, mj) →
      ∃ p, evO (keepAt (rdsM all (j, oj, mj)) st) (.tmp t) = some (.one p) ∧ bOf p = some b := by
    rintro t b ⟨p, e1, e2⟩ h1 h2
    exact ⟨p, evO_keepAt _ _ _ _ h2 e1, e2⟩
  have hfr' : ∀ t b, (∃ p, evO (keepAt (rdsM all (j, oj, mj)) st) (.tmp t) = some (.one p) ∧ bOf p = some b) → t ∈ rdsM all (j, oj, mj) → t ∈ rdsM all (i, oi, mi) →
      ∃ p, evO (keepAt (rdsM all (i, oi, mi)) st) (.tmp t) = some (.one p) ∧ bOf p = some b := by
    rintro t b ⟨p, e1, e2⟩ h1 h2
    exact ⟨p, evO_keepAt _ _ _ _ h2 e1, e2⟩
  rcases hf with h | ⟨h1, b, h2, h3⟩ | ⟨h1, h2⟩ | ⟨h1, bs, h2, h3⟩
  · exact .pureL h
  · rcases hg with h | ⟨k1, b', k2, k3⟩ | ⟨k1, k2⟩ | ⟨k1, bs', k2, k3⟩
    · exact .pureR h
    · exact .ldld h2 k2
    · simp only [h1, k1] at hm
      exact .ldal h2 k2 (mem_base hm)
    · have hm' : ∃ t, mi.root = some t ∧ mj.fr.contains t = true := by
        rcases hk : mj.m with _ | _ | _ | _ | k
        · omega
        · omega
        · omega
        · cases hr : mi.root with
          | none => simp [h1, hk, hr] at hm
          | some t => exact ⟨t, rfl, by simpa [h1, hk, hr] using hm⟩
        · simp [h1, hk] at hm
      obtain ⟨t, ht, hm'⟩ := hm'
      · have htf : t ∈ mj.fr := by simpa using hm'
        obtain ⟨p, e1, e2⟩ := hfr t b (h3 t ht) (by simp [rdsM, ht]) (by simp [rdsM, htf])
        exact .ldwr h2 k2 (k3 t htf p b e1 e2)
  · rcases hg with h | ⟨k1, b', k2, k3⟩ | ⟨k1, k2⟩ | ⟨k1, bs', k2, k3⟩
    · exact .pureR h
    · simp only [h1, k1] at hm
      exact .alld h2 k2 (mem_base hm)
    · exact .alal h2 k2 (by intro e; exact hne (by omega))
    · have hm' : mj.hid.contains i = true := by
        rcases hk : mj.m with _ | _ | _ | _ | k
        · omega
        · omega
        · omega
        · simpa [h1, hk] using hm
        · simp [h1, hk] at hm
      exact .alwr h2 k2 (mem_base hm')
  · rcases hg with h | ⟨k1, b', k2, k3⟩ | ⟨k1, k2⟩ | ⟨k1, bs', k2, k3⟩
    · exact .pureR h
    · have hm' : ∃ t, mj.root = some t ∧ mi.fr.contains t = true := by
        rcases hk : mi.m with _ | _ | _ | _ | k
        · omega
        · omega
        · omega
        · cases hr : mj.root with
          | none => simp [k1, hk, hr] at hm
          | some t => exact ⟨t, rfl, by simpa [k1, hk, hr] using hm⟩
        · simp [k1, hk] at hm
      obtain ⟨t, ht, hm'⟩ := hm'
      · have htf : t ∈ mi.fr := by simpa using hm'
        obtain ⟨p, e1, e2⟩ := hfr' t b' (k3 t ht) (by simp [rdsM, ht]) (by simp [rdsM, htf])
        exact .wrld h2 k2 (h3 t htf p b' e1 e2)
    · have hm' : mi.hid.contains j = true := by
        rcases hk : mi.m with _ | _ | _ | _ | k
        · omega
        · omega
        · omega
        · simpa [k1, hk] using hm
        · simp [k1, hk] at hm
      exact .wral h2 k2 (mem_base hm')
    · exfalso
      rcases hk : mi.m with _ | _ | _ | k
      · omega
      · omega
      · omega
      · rcases hk2 : mj.m with _ | _ | _ | k2
        · omega
        · omega
        · omega
        · simp [hk, hk2] at hm

abbrev stepD (P : Program) (call : CallT) (all : Array Oper) (base : Nat) (x : Nat × Oper × Md) (s : St × H) : Option (St × H) := stepK P call all base x.2.2 x.1 x.2.1 s.1 s.2 fun st h => some (st, h)
abbrev runP (P : Program) (call : CallT) (all : Array Oper) (base : Nat) (l : List (Nat × Oper × Md)) (s : St × H) : Option (St × H) := runD P call all base l s.1 s.2 fun st h => some (st, h)
theorem stepK_nat (all : Array Oper) (base : Nat) (x : Nat × Oper × Md) (st : St) (h : H) (k : St → H → Option R) : stepK P call all base x.2.2 x.1 x.2.1 st h k = (stepD P call all base x (st, h)).bind fun s => k s.1 s.2 := by
  rw [stepK_eq, stepD, stepK_eq, Option.bind_assoc]; rfl
theorem runD_nat (all : Array Oper) (base : Nat) : ∀ (l : List (Nat × Oper × Md)) (st : St) (h : H) (k : St → H → Option R), runD P call all base l st h k = (runP P call all base l (st, h)).bind fun s => k s.1 s.2
  | [], _, _, _ => rfl
  | (i, o, md) :: l, st, h, k => by
    unfold runP runD
    rw [stepK_nat all base (i, o, md), stepK_nat (R := St × H) all base (i, o, md), Option.bind_assoc]
    refine bind_congr' _ fun s => ?_
    exact runD_nat all base l _ _ k
theorem runP_cons (all : Array Oper) (base : Nat) (x : Nat × Oper × Md) (l : List (Nat × Oper × Md)) (s : St × H) : runP P call all base (x :: l) s = (stepD P call all base x s).bind (runP P call all base l) := by
  obtain ⟨i, o, md⟩ := x
  obtain ⟨st, h⟩ := s
  show runD P call all base ((i, o, md) :: l) st h (fun st h => some (st, h)) = _
  unfold runD
  exact stepK_nat all base (i, o, md) st h _

theorem step_comm {all : Array Oper} {base : Nat} {x y : Nat × Oper × Md} (hi : indep all x y = true) (hx : modeOk x.2.1 x.2.2 = true) (hy : modeOk y.2.1 y.2.2 = true)
    {s s1 s2 : St × H} (e1 : stepD P call all base x s = some s1) (e2 : stepD P call all base y s1 = some s2) :
    ∃ s1', stepD P call all base y s = some s1' ∧ stepD P call all base x s1' = some s2 := by
  obtain ⟨st, h⟩ := s
  have hd := hi
  unfold indep at hd
  simp only [Bool.and_eq_true, bne_iff_ne, ne_eq] at hd
  obtain ⟨⟨⟨⟨_, hd1⟩, hd2⟩, hd3⟩, _⟩ := hd
  unfold stepD at e1 e2 ⊢
  rw [stepK_eq] at e1
  obtain ⟨⟨v, h1⟩, g1, e1⟩ := Option.bind_eq_some_iff.1 e1
  simp at e1; subst e1
  rw [stepK_eq] at e2
  obtain ⟨⟨u, h2⟩, g2, e2⟩ := Option.bind_eq_some_iff.1 e2
  simp at e2; subst e2
  simp only at g1 g2
  rw [keepAt_setO _ _ _ hd1] at g2
  obtain ⟨h1', q1, q2⟩ := beh_comm (st := st) hi (gval_beh (P := P) (call := call) all base x.2.2 x.1 x.2.1 _ hx) (gval_beh (P := P) (call := call) all base y.2.2 y.1 y.2.1 _ hy) h v h1 u h2 g1 g2
  refine ⟨(setO st y.2.1.dst u, h1'), ?_, ?_⟩
  · rw [stepK_eq]; rw [q1]; rfl
  · rw [stepK_eq]
    simp only
    rw [keepAt_setO _ _ _ hd2, q2]
    simp only [Option.bind_some]
    rw [setO_comm _ _ _ hd3]
/-- an operation that waits for none before it comes first -/
theorem hoist {all : Array Oper} {base : Nat} {y : Nat × Oper × Md} (hy : modeOk y.2.1 y.2.2 = true) (post : List (Nat × Oper × Md)) : ∀ (pre : List (Nat × Oper × Md)) (s r : St × H),
    (∀ x ∈ pre, indep all x y = true ∧ modeOk x.2.1 x.2.2 = true) → runP P call all base (pre ++ y :: post) s = some r → ∃ s1, stepD P call all base y s = some s1 ∧ runP P call all base (pre ++ post) s1 = some r
  | [], s, r, _, e => by
    rw [List.nil_append, runP_cons] at e
    exact Option.bind_eq_some_iff.1 e
  | x :: pre, s, r, hp, e => by
    rw [List.cons_append, runP_cons] at e
    obtain ⟨s1, e1, e⟩ := Option.bind_eq_some_iff.1 e
    obtain ⟨s2, e2, e3⟩ := hoist hy post pre s1 r (fun z hz => hp z (by simp [hz])) e
    obtain ⟨s1', q1, q2⟩ := step_comm (hp x (by simp)).1 (hp x (by simp)).2 hy e1 e2
    exact ⟨s1', q1, by rw [List.cons_append, runP_cons, q2]; exact e3⟩
end Go.Wz
end
end
section
namespace Go.Wz
variable {P : Program} {call : CallT} {B : Nat} {ι ι' ι0 : Inj} {h h' h0 hv h1 : H} {w w' w0 : World}

structure View (bl : List Nat) (h hv : H) : Prop where
  next : hv.next = h.next
  out : ∀ b, b ∉ bl → hv.get b = h.get b
  inn : ∀ b, b ∈ bl → hv.get b = none ∨ ∃ vs e own, h.get b = some (.cells vs e own) ∧ hv.get b = some (.cells vs e false)
theorem View.wr {bl : List Nat} (v : View bl h hv) {b : Nat} {x : Blk} (e : hv.get b = some x) (hw : x.wr = true) : b ∉ bl ∧ h.get b = some x := by
  by_cases hb : b ∈ bl
  · rcases v.inn b hb with hn | ⟨vs, t, own, e1, e2⟩
    · rw [hn] at e; cases e
    · rw [e2] at e; cases e; simp [Blk.wr] at hw
  · exact ⟨hb, by rw [← v.out b hb]; exact e⟩
theorem View.of {bl : List Nat} (v : View bl h hv) {b : Nat} {x : Blk} (e : hv.get b = some x) : ∃ y, h.get b = some y ∧ (y.wr = false → x.wr = false) := by
  by_cases hb : b ∈ bl
  · rcases v.inn b hb with hn | ⟨vs, t, own, e1, e2⟩
    · rw [hn] at e; cases e
    · rw [e2] at e; cases e; exact ⟨_, e1, fun _ => rfl⟩
  · exact ⟨x, by rw [← v.out b hb]; exact e, fun h => h⟩
theorem View.sim {bl : List Nat} (v : View bl h hv) (s : Sim P B ι h w) : Sim P B ι hv w := by
  refine ⟨s.base, fun b hb => s.dom b (by rw [← v.next]; exact hb), s.lt, fun b x e => ?_, fun b b' x x' L L' e e' i i' hne hcb => ?_⟩
  · by_cases hb : b ∈ bl
    · rcases v.inn b hb with hn | ⟨vs, t, own, e1, e2⟩
      · rw [hn] at e; cases e
      · rw [e2] at e; cases e
        obtain ⟨L, a, c, e', fz, q1, q2, q3, _⟩ := s.live b _ e1
        exact ⟨L, a, c, e', fz, q1, q2, q3, fun hh => by cases hh⟩
    · exact s.live b x (by rw [← v.out b hb]; exact e)
  · obtain ⟨y, ey, hy⟩ := v.of e
    obtain ⟨y', ey', hy'⟩ := v.of e'
    have := s.sep b b' y y' L L' ey ey' i i' hne hcb
    exact ⟨hy this.1, hy' this.2⟩
theorem View.thaw {bl : List Nat} (v : View bl h hv) (s : Sim P B ι h w) (x : Ext P B ι hv w ι' h1 w') : Ext P B ι h w ι' (thawL bl h h1) w' := by
  have same : ∀ b ∈ bl, ∀ y L, h.get b = some y → ι b = some L → w'.heap[L.cb]? = w.heap[L.cb]? := by
    intro b hb y L hg hi
    refine x.fr L.cb (s.lt b L hi) fun b0 x0 L0 g0 i0 w0 e0 => ?_
    obtain ⟨hn, hg0⟩ := v.wr g0 w0
    have := (s.sep b0 b x0 y L0 L hg0 hg i0 hi (by rintro rfl; exact hn hb) e0).1
    rw [w0] at this; cases this
  have oldL : ∀ b ∈ bl, ∀ y, h.get b = some y → ∃ L, ι b = some L ∧ ι' b = some L ∧ L.cb < w.heap.size := by
    intro b hb y hg
    obtain ⟨L, a, _⟩ := s.live b y hg
    exact ⟨L, a, x.le _ _ a, s.lt b L a⟩
  -- a block of the view's heap against one that the view leaves out
  have cross : ∀ b b' y y' L L', b ∈ bl → b' ∉ bl → h.get b = some y → h1.get b' = some y' → ι' b = some L → ι' b' = some L' → L.cb = L'.cb → y.wr = false ∧ y'.wr = false := by
    intro b b' y y' L L' hb hb' hg hg' hi hi' hcb
    obtain ⟨L2, i2, i3, hlt⟩ := oldL b hb y hg
    rw [i3] at hi; cases hi
    have hw' : y'.wr = false := by
      cases hw : y'.wr with
      | false => rfl
      | true =>
        rcases x.img b' y' L' hg' hi' hw with hh | ⟨b0, x0, L0, g0, i0, w0, e0⟩
        · omega
        · obtain ⟨hn, hg0⟩ := v.wr g0 w0
          have := (s.sep b0 b x0 y L0 L hg0 hg i0 i2 (by rintro rfl; exact hn hb) (by omega)).1
          rw [w0] at this; cases this
    refine ⟨?_, hw'⟩
    have hold := x.ro b' y' L' hg' hi' hw' (by omega)
    obtain ⟨z, hz, _⟩ := v.of hold
    obtain ⟨L3, j3, _⟩ := s.live b' z hz
    have j4 := x.le _ _ j3
    rw [hi'] at j4; cases j4
    exact (s.sep b b' y z L L' hg hz i2 j3 (by rintro rfl; exact hb' hb) hcb).1
  refine ⟨x.le, ⟨x.sim.base, fun b hb => x.sim.dom b (by rw [thawL_next] at hb; exact hb), x.sim.lt, fun b y e => ?_, fun b b' y y' L L' e e' i i' hne hcb => ?_⟩,
    by rw [thawL_next]; exact v.next ▸ x.nx, x.size, fun cb hcb hn => x.fr cb hcb fun b y L hg hi hw => ?_, fun b y L e i hw => ?_, fun b y L e i hw hlt => ?_, fun b hb => x.old b (by rw [v.next]; exact hb), x.os, x.tape, x.out⟩
  · rw [thawL_get] at e
    split at e
    · rename_i hb
      obtain ⟨L, a, c⟩ := s.live b y e
      exact ⟨L, x.le _ _ a, c.keep x.le (same b hb y L e a)⟩
    · exact x.sim.live b y e
  · rw [thawL_get] at e e'
    split at e <;> split at e'
    · rename_i hb hb'
      obtain ⟨M, m1, m2, _⟩ := oldL b hb y e
      obtain ⟨M', m1', m2', _⟩ := oldL b' hb' y' e'
      rw [m2] at i; cases i
      rw [m2'] at i'; cases i'
      exact s.sep b b' y y' L L' e e' m1 m1' hne hcb
    · rename_i hb hb'
      exact cross b b' y y' L L' hb hb' e e' i i' hcb
    · rename_i hb hb'
      exact (cross b' b y' y L' L hb' hb e' e i' i hcb.symm).symm
    · exact x.sim.sep b b' y y' L L' e e' i i' hne hcb
  · exact hn b y L (v.wr hg hw).2 hi hw
  · rw [thawL_get] at e
    split at e
    · rename_i hb
      obtain ⟨M, m1, m2, _⟩ := oldL b hb y e
      rw [m2] at i; cases i
      exact .inr ⟨b, y, L, e, m1, hw, rfl⟩
    · rcases x.img b y L e i hw with hh | ⟨b0, x0, L0, g0, i0, w0, e0⟩
      · exact .inl hh
      · exact .inr ⟨b0, x0, L0, (v.wr g0 w0).2, i0, w0, e0⟩
  · rw [thawL_get] at e
    split at e
    · exact e
    · rename_i hb
      have := x.ro b y L e i hw hlt
      rw [v.out b hb] at this; exact this

theorem view_hide (l : List Nat) (h : H) : View l h (hideL l h) :=
  ⟨hideL_next l h, fun b hb => by rw [hideL_get, if_neg hb], fun b hb => by rw [hideL_get, if_pos hb]; exact .inl rfl⟩
theorem view_frz (bs hs : List Nat) (h : H) : View (bs ++ hs) h (frzL bs (hideL hs h)) := by
  refine ⟨by rw [frzL_next, hideL_next], fun b hb => ?_, fun b hb => ?_⟩
  · simp only [List.mem_append, not_or] at hb
    rw [frzL_get, if_neg hb.1, hideL_get, if_neg hb.2]
  · rw [frzL_get, hideL_get]
    by_cases h1 : b ∈ hs
    · left; simp [h1]
    · have h2 : b ∈ bs := by simpa [h1] using hb
      simp only [h1, h2, if_true, if_false]
      cases hg : h.get b with
      | none => exact .inl rfl
      | some x =>
        cases x with
        | cells vs e own => exact .inr ⟨vs, e, own, rfl, rfl⟩
        | loop s p f t ps a c ha hb => exact .inl rfl
theorem thaw_hide (l : List Nat) (h : H) : thawL l h (hideL l h) = h := by
  refine H.ext (fun i => ?_) (by rw [thawL_next, hideL_next])
  rw [thawL_get, hideL_get]; split <;> rfl

/-- a block is made under a given number -/
theorem Ext.newAt (x : Ext P B ι0 h0 w0 ι h w) {b : Nat} (hb : ι b = none) (hl : h0.next ≤ b) (hu : b < h.next) (X : Blk) (o : Obj) (L : Loc) (hL : L.cb = w.heap.size)
    (hbr : BR P B (ι.add b L) L X (w.alloc o)) : Ext P B ι0 h0 w0 (ι.add b L) (h.put b (some X)) (w.alloc o) := by
  have s := x.sim
  have hle := Inj.le_add (L := L) hb
  have hget : ∀ i y, (h.put b (some X)).get i = some y → (i = b ∧ y = X) ∨ (i ≠ b ∧ h.get i = some y) := by
    intro i y e
    rw [H.put_get] at e
    split at e
    · simp at e; exact .inl ⟨‹_›, e.symm⟩
    · exact .inr ⟨‹_›, e⟩
  have hlt : ∀ i y, h.get i = some y → ∃ M, ι i = some M ∧ M.cb < w.heap.size ∧ (ι.add b L) i = some M := by
    intro i y e
    obtain ⟨M, e1, _⟩ := s.live i y e
    exact ⟨M, e1, s.lt i M e1, hle _ _ e1⟩
  have hsz := x.size
  refine ⟨Inj.le_trans x.le hle, ⟨?_, ?_, ?_, ?_, ?_⟩, x.nx, ?_, ?_, ?_, ?_, ?_, x.os, x.tape, x.out⟩
  · have := s.base; simp; omega
  · intro i hi
    have hi' : h.next ≤ i := hi
    rw [Inj.add_ne (by omega)]; exact s.dom i hi'
  · intro i M e
    by_cases hbn : i = b
    · subst hbn; rw [Inj.add_same] at e; cases e; simp [hL]
    · rw [Inj.add_ne hbn] at e; have := s.lt i M e; simp; omega
  · intro i y e
    rcases hget i y e with ⟨rfl, rfl⟩ | ⟨hne, hg⟩
    · exact ⟨L, Inj.add_same, hbr⟩
    · obtain ⟨M, e1, hbr⟩ := s.live i y hg
      exact ⟨M, by rw [Inj.add_ne hne]; exact e1, hbr.keep hle (heap_alloc_lt (s.lt i M e1))⟩
  · intro i j y y' M M' e e' a a' hne hcb
    rcases hget i y e with ⟨rfl, rfl⟩ | ⟨hb1, hg⟩ <;> rcases hget j y' e' with ⟨rfl, rfl⟩ | ⟨hb2, hg'⟩
    · exact absurd rfl hne
    · rw [Inj.add_same] at a; cases a
      obtain ⟨N, e1, l1, e2⟩ := hlt j y' hg'
      rw [e2] at a'; cases a'; omega
    · rw [Inj.add_same] at a'; cases a'
      obtain ⟨N, e1, l1, e2⟩ := hlt i y hg
      rw [e2] at a; cases a; omega
    · rw [Inj.add_ne hb1] at a; rw [Inj.add_ne hb2] at a'
      exact s.sep i j y y' M M' hg hg' a a' hne hcb
  · simp; omega
  · intro cb hcb hn; rw [heap_alloc_lt (by omega)]; exact x.fr cb hcb hn
  · intro i y M e a hw
    rcases hget i y e with ⟨rfl, rfl⟩ | ⟨hne, hg⟩
    · rw [Inj.add_same] at a; cases a; exact .inl (by omega)
    · rw [Inj.add_ne hne] at a; exact x.img i y M hg a hw
  · intro i y M e a hw hlt'
    rcases hget i y e with ⟨rfl, rfl⟩ | ⟨hne, hg⟩
    · rw [Inj.add_same] at a; cases a; omega
    · rw [Inj.add_ne hne] at a; exact x.ro i y M hg a hw hlt'
  · intro i hi; rw [Inj.add_ne (by omega)]; exact x.old i hi
theorem Ext.newAtCells (x : Ext P B ι0 h0 w0 ι h w) {b : Nat} (hb : ι b = none) (hl : h0.next ≤ b) (hu : b < h.next) {cs : List Value} {c : Array Value} {e : TypeId} {esz : Nat} (he : esz = (szT P e).getD 0)
    (hcl : cs.length ≤ c.size) (hv : VRs ι cs (c.toList.take cs.length)) :
    Ext P B ι0 h0 w0 (ι.add b ⟨w.heap.size, 0, esz, c.size⟩) (h.put b (some (.cells cs e true))) (w.alloc (.cells c e)) :=
  x.newAt hb hl hu _ _ _ rfl ⟨c, e, (0, 0), heap_alloc_at, by simpa using hcl, by simpa using hv.mono (Inj.le_add hb), fun _ => ⟨rfl, rfl, rfl, x.sim.base, rfl, he⟩⟩
end Go.Wz
end
section
namespace Go.Wz
variable {P : Program} {call : CallT} {B : Nat} {ι ι' ι0 : Inj} {h h' h0 hv h1 : H} {w w' w0 : World}

theorem OpWp.mono {F : Fence} {o : Oper} {a : Act} {Post Post' : Value → World → Prop} (hm : ∀ x w', Post x w' → Post' x w') (hh : OpWp F P o a w Post) : OpWp F P o a w Post' :=
  fun next Q hn => hh next Q fun x w' hp => hn x w' (hm x w' hp)

/-- what a step says of the world behind it -/
def After (P : Program) (B : Nat) (ι0 : Inj) (h0 : H) (w0 : World) (b : Nat) (ι : Inj) (h : H) (h1 : H) (ι' : Inj) (w' : World) : Prop :=
  Ext P B ι0 h0 w0 ι' h1 w' ∧ ι.le ι' ∧ (∀ n, n < h.next → n ≠ b → ι' n = ι n) ∧ h.next ≤ h1.next
theorem After.of (x : Ext P B ι0 h0 w0 ι h w) (b : Nat) (y : Ext P B ι h w ι' h1 w') : After P B ι0 h0 w0 b ι h h1 ι' w' :=
  ⟨x.trans y, y.le, fun n hn _ => y.old n hn, y.nx⟩
def GoodAt (P : Program) (B : Nat) (F : Fence) (st : St) (o : Oper) (h : H) (b : Nat) (v : Value) (X : Option Blk) : Prop :=
  ∀ (ι0 : Inj) (h0 : H) (w0 : World) (ι : Inj) (w : World) (a : Act), Ext P B ι0 h0 w0 ι h w → TR ι st a.tmps → ι b = none → h0.next ≤ b → b < h.next →
    OpWp F P o a w fun x w' => ∃ ι', After P B ι0 h0 w0 b ι h (h.put b X) ι' w' ∧ OR ι' (some (.one v)) x
theorem After.add (b : Nat) (L : Loc) {X : Option Blk} (hb : ι b = none) (y : Ext P B ι0 h0 w0 (ι.add b L) (h.put b X) w') : After P B ι0 h0 w0 b ι h (h.put b X) (ι.add b L) w' :=
  ⟨y, Inj.le_add hb, fun n _ hne => Inj.add_ne hne, Nat.le_refl _⟩

theorem aopK_ok {F : Fence} (hF : Wide F) {st : St} {o : Oper} {hx : H} {b : Nat} {v : Value} {X : Option Blk} (hk : (aopK P st o hx b fun v x => some (v, x)) = some (v, X)) : GoodAt P B F st o h b v X := by
  unfold aopK at hk
  split at hk
  · -- alloc
    rename_i e ho
    split at hk
    · rename_i cs hz
      simp at hk; obtain ⟨rfl, rfl⟩ := hk
      intro ι0 h0 w0 ι w a x tr hb hl hu
      obtain ⟨z, h1, h2, h3⟩ := zeroC_len hz
      have y := x.newAtCells hb hl hu (cs := cs) (c := ⟨cs⟩) (e := e) (esz := (szT P e).getD 0) rfl (by simp) (by simpa using h3 ι)
      refine OpWp.value hF (x := .pointer (some ⟨w.heap.size, 0, none⟩)) (by simp [ho]) ?_ ⟨_, .add b _ hb y, OR.one ?_⟩
      · simp [execOp, ho, Instr.alloc, h1, newVar, newRow, h2]
      · simpa [ptr] using VR.ptr (ι := ι.add b ⟨w.heap.size, 0, (szT P e).getD 0, cs.length⟩) 0 Inj.add_same
    · simp at hk
  · -- box
    rename_i e y ho
    have hz : ∃ cs, (evO st y = some (.agg cs) ∨ ∃ v, evO st y = some (.one v) ∧ cs = [v]) ∧ ptr b 0 = v ∧ some (Blk.cells cs e true) = X := by
      rcases vc_some hk with ⟨u, hu, e1⟩ | ⟨cs, hu, e1⟩
      · simp at e1; exact ⟨[u], .inr ⟨u, hu, rfl⟩, e1⟩
      · simp at e1; exact ⟨cs, .inl hu, e1⟩
    obtain ⟨cs, hz, rfl, rfl⟩ := hz
    intro ι0 h0 w0 ι w a x tr hb hl hu
    obtain ⟨cs', h2, h3⟩ : ∃ cs' : List Value, (a.eval y).cells = ⟨cs'⟩ ∧ VRs ι cs cs' := by
      rcases hz with hz | ⟨v, hz, rfl⟩
      · obtain ⟨cs', e1, e2⟩ := (tr.eval hz).agg_inv; exact ⟨cs', by rw [e1]; rfl, e2⟩
      · have := tr.v hz; exact ⟨[a.eval y], this.cells, .cons this .nil⟩
    have z := x.newAtCells hb hl hu (cs := cs) (c := ⟨cs'⟩) (e := e) (esz := (szT P e).getD 0) rfl (by simp [h3.length]) (by simpa [h3.length] using h3)
    refine OpWp.value hF (x := .pointer (some ⟨w.heap.size, 0, none⟩)) (by simp [ho]) ?_ ⟨_, .add b _ hb z, OR.one ?_⟩
    · simp [execOp, ho, Instr.box, newVar, newRow, h2]
    · simpa [ptr] using VR.ptr (ι := ι.add b ⟨w.heap.size, 0, (szT P e).getD 0, cs'.length⟩) 0 Inj.add_same
  · -- buildSlice
    rename_i t len parts ho
    split at hk
    · rename_i e he
      split at hk
      · rename_i s z hs hz
        split at hk
        · rename_i hc
          obtain ⟨hs1, hzl, hlen⟩ := hc
          obtain ⟨cs, e1, hfk⟩ := fillK_inv _ _ hk
          simp at e1; obtain ⟨rfl, rfl⟩ := e1
          have hu' := elemS_eq he
          intro ι0 h0 w0 ι w a x tr hb hl hu
          obtain ⟨zv, hz1, hz2, hz3⟩ := zeroC_len hz
          obtain ⟨cs2, cs', q1, q2, q3, q4⟩ := fillK_ok tr (fun i => some (i * s, s)) parts.toList _ _ _ ((hz3 ι).flat len) rfl (by simp) (by simpa using hfk)
          obtain rfl : cs2 = cs := by simpa using q1
          have hcl : cs2.length = len * s := by rw [q4]; simp [hzl]
          have hcl' : cs'.length = len * s := by rw [← q3.length, hcl]
          have y := x.newAtCells hb hl hu (cs := cs2) (c := ⟨cs'⟩) (e := e) (esz := s) (by rw [hs]; rfl) (by simp [q3.length]) (by simpa [q3.length] using q3)
          refine OpWp.value hF (x := .slice (some ⟨w.heap.size, 0, none⟩) len len) (by simp [ho]) ?_ ⟨_, .add b _ hb y, OR.one ?_⟩
          · have hbig : ¬ (2 ^ 24 < len * s) := by omega
            have hfill : Instr.fill (fun i => some (i * s, s)) ((Array.range (len * s)).map ((if len * s = 0 then #[] else (⟨z⟩ : Array Value))[· % (if len * s = 0 then #[] else (⟨z⟩ : Array Value)).size]!)) (parts.map fun (i, x) => (i, a.eval x)).toList = some ⟨cs'⟩ := by
              rw [parts_map]
              have e2 : ((Array.range (len * s)).map ((if len * s = 0 then #[] else (⟨z⟩ : Array Value))[· % (if len * s = 0 then #[] else (⟨z⟩ : Array Value)).size]!)) = ⟨(List.replicate len z).flatten⟩ := by
                apply Array.ext'
                by_cases h0 : len * s = 0
                · have : len = 0 := by rcases Nat.mul_eq_zero.1 h0 with h | h <;> omega
                  subst this; simp
                · simp only [if_neg h0, Array.toList_map, Array.toList_range, List.size_toArray, hzl]
                  exact rep_flat z s len hzl hs1
              rw [e2]; exact q2
            have hrun : (Instr.buildSlice t len (parts.map fun (i, x) => (i, a.eval x))).run P w = .ok (.slice (some ⟨w.heap.size, 0, none⟩) len len) (w.alloc (.cells ⟨cs'⟩ e)) := by
              simp only [Instr.buildSlice, Sem.run_bind, run_un hu', Result.andThen_ok, run_sz hs]
              rw [if_neg hbig]
              by_cases h0 : len * s = 0
              · rw [if_pos h0]
                simp only [if_pos h0] at hfill
                simp only [Sem.run_bind, Sem.run_pure, Result.andThen_ok]
                rw [hfill]
                simp [newRow]
              · rw [if_neg h0]
                simp only [if_neg h0] at hfill
                simp only [Sem.run_bind, Sem.run_pure, Result.andThen_ok, hz1, hz2]
                rw [hfill]
                simp [newRow]
            have hex : execOp a.eval o = (do pure (.value (← Instr.buildSlice t len (parts.map fun (i, x) => (i, a.eval x))))) := by simp [execOp, ho]
            rw [hex, Sem.run_bind, hrun]; rfl
          · by_cases h0 : len = 0
            · subst h0
              simpa using VR.sl0 (ι := ι.add b ⟨w.heap.size, 0, s, cs'.length⟩) (b := b) 0 ⟨w.heap.size, 0, none⟩
            · have := VR.sl (ι := ι.add b ⟨w.heap.size, 0, s, cs'.length⟩) (b := b) 0 len len Inj.add_same (Nat.le_refl _) (fun _ => by simp [hcl'])
              simpa [h0] using this
        · simp at hk
      · simp at hk
    · simp at hk
  · simp at hk

theorem chkRoot_some {R : Type} {st : St} {r : Option Nat} {o : Oper} {X : Option R} {v : R} (e : chkRoot st r o X = some v) : X = some v := by
  cases X with
  | none => rw [chkRoot_none] at e; cases e
  | some u =>
    have := chkRoot_bind st r o (some ()) fun _ => some u
    rw [show ((some ()).bind fun _ => some u) = some u from rfl] at this
    rw [← this] at e
    cases h : chkRoot st r o (some ()) with
    | none => rw [h] at e; cases e
    | some _ => rw [h] at e; exact e
theorem frB_some {R : Type} {st : St} {l : List Nat} {k : List Nat → Option R} {v : R} (e : frB st l k = some v) : ∃ bs, k bs = some v := by
  rcases frB_cases st l with h | ⟨bs, h, _⟩
  · rw [h] at e; cases e
  · rw [h] at e; exact ⟨bs, e⟩
theorem opK_heap {st : St} {o : Oper} (hm : opMode o = 0 ∨ opMode o = 1) {v : Option SV} (e : (opK P call st o h fun v h => some (v, h)) = some (v, h')) : h' = h := by
  rcases hm with hm | hm
  · obtain ⟨c, hc⟩ := opK_pure (P := P) (call := call) (st := st) hm
    dsimp only at hc
    rw [hc] at e
    obtain ⟨_, _, e⟩ := map_some' e
    cases e; rfl
  · rcases opK_load (P := P) (call := call) (st := st) hm with hn | ⟨t, a, p, b, g, _, _, _, hg⟩
    · rw [hn] at e; cases e
    · rw [hg] at e
      obtain ⟨_, _, e⟩ := map_some' e
      cases e; rfl

theorem runO_ok (hc : CallOK P B call) {F : Fence} (hF : Wide F) {base : Nat} {md : Md} {i : Nat} {o : Oper} {st : St} {v : Option SV} (hm : modeOk o md = true)
    (e : (runO P call base md i o st h fun v h => some (v, h)) = some (v, h1)) {a : Act} (x : Ext P B ι0 h0 w0 ι h w) (tr : TR ι st a.tmps)
    (hres : md.m = 2 → ι (base + i) = none ∧ h0.next ≤ base + i ∧ base + i < h.next) :
    OpWp F P o a w fun y w' => ∃ ι', After P B ι0 h0 w0 (base + i) ι h h1 ι' w' ∧ OR ι' v y := by
  unfold modeOk at hm
  unfold runO at e
  split at e
  · rename_i h0'
    have hm0 : opMode o = 0 := by simpa [h0'] using hm
    rw [opK_nat] at e
    obtain ⟨⟨v', h''⟩, e1, e2⟩ := Option.bind_eq_some_iff.1 e
    simp at e2; obtain ⟨rfl, rfl⟩ := e2
    obtain rfl := opK_heap (.inl hm0) e1
    obtain ⟨v2, h2, e3, g⟩ := opK_ok hc e1
    simp at e3; obtain ⟨rfl, rfl⟩ := e3
    refine (g F hF ι w a x.sim tr).mono fun y w' ⟨ι', x', hv⟩ => ⟨ι', .of x _ x', hv⟩
  · rename_i h1'
    have hm1 : opMode o = 1 := by simpa [h1'] using hm
    have e := chkRoot_some e
    rw [opK_nat] at e
    obtain ⟨⟨v', h''⟩, e1, e2⟩ := Option.bind_eq_some_iff.1 e
    simp at e2; obtain ⟨rfl, rfl⟩ := e2
    obtain rfl := opK_heap (.inr hm1) e1
    obtain ⟨v2, h2, e3, g⟩ := opK_ok hc e1
    simp at e3; obtain ⟨rfl, rfl⟩ := e3
    have vw := view_hide (md.hid.map (base + ·)) h
    refine (g F hF ι w a (vw.sim x.sim) tr).mono fun y w' ⟨ι', x', hv⟩ => ⟨ι', .of x _ ?_, hv⟩
    have := vw.thaw x.sim x'
    rw [thaw_hide] at this; exact this
  · rename_i h2'
    rw [aopK_nat] at e
    obtain ⟨⟨v', X⟩, e1, e2⟩ := Option.bind_eq_some_iff.1 e
    simp at e2; obtain ⟨rfl, rfl⟩ := e2
    obtain ⟨r1, r2, r3⟩ := hres h2'
    exact aopK_ok hF e1 ι0 h0 w0 ι w a x tr r1 r2 r3
  · obtain ⟨bs, e⟩ := frB_some e
    rw [opK_nat] at e
    obtain ⟨⟨v', h''⟩, e1, e2⟩ := Option.bind_eq_some_iff.1 e
    simp at e2; obtain ⟨rfl, rfl⟩ := e2
    obtain ⟨v2, h2, e3, g⟩ := opK_ok hc e1
    simp at e3; obtain ⟨rfl, rfl⟩ := e3
    have vw := view_frz bs (md.hid.map (base + ·)) h
    exact (g F hF ι w a (vw.sim x.sim) tr).mono fun y w' ⟨ι', x', hv⟩ => ⟨ι', .of x _ (vw.thaw x.sim x'), hv⟩
end Go.Wz
end
section
namespace Go.Wz
variable {P : Program} {call : CallT} {B : Nat} {ι ι' ι0 : Inj} {h h' h0 hv h1 : H} {w w' w0 : World}

theorem yielded_of {all : Array Oper} {a : Act} {j c : Nat} (hcj : (all[j]?).bind (·.dst) = some c) {t : Bool} (hh : a.eval (.tmp c) = .bool t) : yielded all a.tmps j = some t := by
  unfold yielded
  simp only [hcj, Option.bind_some]
  have hh : a.tmps.getD c Go.undef = .bool t := hh
  rw [Array.getD_eq_getD_getElem?] at hh
  cases hq : a.tmps[c]? with
  | none => rw [hq] at hh; simp [Go.undef] at hh
  | some q => rw [hq] at hh; simp at hh; subst hh; rfl
theorem yielded_undef' {all : Array Oper} {a : Act} {j c : Nat} (hcj : (all[j]?).bind (·.dst) = some c) (hh : a.eval (.tmp c) = Go.undef) : yielded all a.tmps j = none := by
  unfold yielded
  simp only [hcj, Option.bind_some]
  have hh : a.tmps.getD c Go.undef = Go.undef := hh
  rw [Array.getD_eq_getD_getElem?] at hh
  cases hq : a.tmps[c]? with
  | none => rfl
  | some q => rw [hq] at hh; simp at hh; subst hh; rfl

theorem stepD_ok (hc : CallOK P B call) {F : Fence} (hF : Wide F) {all : Array Oper} {base : Nat} {x : Nat × Oper × Md} {s1 : St × H} {st : St} (hm : modeOk x.2.1 x.2.2 = true) (hall : all[x.1]? = some x.2.1)
    (e : stepD P call all base x (st, h) = some s1) {a : Act} (y : Ext P B ι0 h0 w0 ι h w) (tr : TR ι st a.tmps)
    (hres : x.2.2.m = 2 → ι (base + x.1) = none ∧ h0.next ≤ base + x.1 ∧ base + x.1 < h.next) {Q : Exit → Act → World → Prop} {K : Act → World → Prop}
    (hk : ∀ ι' w' a', After P B ι0 h0 w0 (base + x.1) ι h s1.2 ι' w' → TR ι' s1.1 a'.tmps → a'.defers = a.defers → K a' w') :
    wpOpIn F 0 P all Q x.1 K a w := by
  obtain ⟨i, o, md⟩ := x
  unfold stepD at e
  rw [stepK_eq] at e
  obtain ⟨⟨v, h1⟩, g1, e⟩ := Option.bind_eq_some_iff.1 e
  simp at e; subst e
  simp only at g1 hall hm hres
  have trk : TR ι (keepAt (rdsO all o ++ md.fr ++ md.root.toList) st) a.tmps := tr.le (keepAt_le _ _)
  unfold wpOpIn
  simp only [hall]
  have main : ∀ v' h1', (runO P call base md i o (keepAt (rdsO all o ++ md.fr ++ md.root.toList) st) h fun v h => some (v, h)) = some (v', h1') → h1' = h1 → (∀ ι' x, OR ι' v' x → OR ι' v x) → o.wpIn F 0 P a w K Q := by
    intro v' h1' er hh1 hor
    subst hh1
    refine runO_ok hc hF hm er y trk hres K Q fun x w' ⟨ι', af, hv⟩ => ?_
    exact hk ι' w' _ af ((tr.mono af.2.1).put o.dst (hor _ _ hv)) (put_defers _ _ _)
  cases hg : o.guard with
  | none =>
    have : Region.wanted o (yielded all a.tmps) = true := by unfold Region.wanted; rw [hg]
    rw [if_pos this]
    unfold gval at g1
    rw [hg] at g1
    exact main v h1 g1 rfl fun _ _ hv => hv
  | some jw =>
    obtain ⟨j, wn⟩ := jw
    unfold gval at g1
    simp only [hg] at g1
    cases hcj : (all[j]?).bind (·.dst) with
    | none => rw [hcj] at g1; simp at g1
    | some c =>
      simp only [hcj] at g1
      cases hcv : evO (keepAt (rdsO all o ++ md.fr ++ md.root.toList) st) (.tmp c) with
      | none => rw [hcv] at g1; simp at g1
      | some cv =>
        simp only [hcv] at g1
        obtain ⟨⟨ov, hr⟩, g2, e2⟩ := Option.bind_eq_some_iff.1 g1
        clear g1
        have g1 := g2
        clear g2
        simp at e2; obtain ⟨rfl, rfl⟩ := e2
        have hsr := trk.eval hcv
        have skip : Region.wanted o (yielded all a.tmps) = false → some ((none : Option SV), h) = some (ov, hr) → (if Region.wanted o (yielded all a.tmps) = true then o.wpIn F 0 P a w K Q else (∀ f, o.about P w a.eval = some f → F.fn f) ∧ K (a.put o.dst Go.undef) w) := by
          intro hw he
          cases he
          rw [hw]
          simp only [Bool.false_eq_true, if_false]
          refine ⟨fun f _ => hF.fn f, hk ι w _ (After.of y _ (.refl y.sim)) (tr.put o.dst ?_) (put_defers _ _ _)⟩
          intro sv hsv
          simp [ovS] at hsv; subst hsv; exact .undef
        unfold gateS at g1
        split at g1
        · rename_i t
          have hb : a.eval (.tmp c) = .bool t := by
            have := hsr.one_inv; generalize a.eval (.tmp c) = q at this; cases this; rfl
          have hy := yielded_of hcj hb
          split at g1
          · rename_i htw
            subst htw
            have hw : Region.wanted o (yielded all a.tmps) = true := by unfold Region.wanted; rw [hg]; simp [hy]
            rw [if_pos hw]
            rw [runO_nat] at g1
            obtain ⟨⟨v', h1'⟩, e3, e4⟩ := Option.bind_eq_some_iff.1 g1
            obtain ⟨u, hu, e4⟩ := Option.bind_eq_some_iff.1 e4
            simp at e4; obtain ⟨rfl, rfl⟩ := e4
            simp only at hu; subst hu
            exact main _ _ e3 rfl fun _ _ hv => hv
          · rename_i htw
            exact skip (by unfold Region.wanted; rw [hg]; simp [hy, htw]) g1
        · have hb : a.eval (.tmp c) = Go.undef := by generalize a.eval (.tmp c) = q at hsr; cases hsr; rfl
          have hy := yielded_undef' hcj hb
          exact skip (by unfold Region.wanted; rw [hg]; simp [hy]) g1
        · simp at g1

/-! what comes before what -/
theorem addU_mem (r : List Nat) (k : Nat) : ∀ l, k ∈ addU l r → k ∈ l ∨ k ∈ r := by
  induction r with
  | nil => intro l h; exact .inl h
  | cons a r ih =>
    intro l h
    unfold addU at h
    split at h
    · rcases ih _ h with h | h
      · exact .inl h
      · exact .inr (by simp [h])
    · rcases ih _ h with h | h
      · rcases List.mem_cons.1 h with rfl | h
        · exact .inr (by simp)
        · exact .inl h
      · exact .inr (by simp [h])
theorem fold_anc (t : List (List Nat)) (k : Nat) : ∀ (es : List Nat) (r : List Nat), k ∈ es.foldl (fun r e => addU (addU r [e]) (t.getD e [])) r → k ∈ r ∨ ∃ e ∈ es, k = e ∨ k ∈ t.getD e [] := by
  intro es
  induction es with
  | nil => intro r h; exact .inl h
  | cons e es ih =>
    intro r h
    rcases ih _ h with h | ⟨e', he, h⟩
    · rcases addU_mem _ _ _ h with h | h
      · rcases addU_mem _ _ _ h with h | h
        · exact .inl h
        · exact .inr ⟨e, by simp, .inl (by simpa using h)⟩
      · exact .inr ⟨e, by simp, .inr h⟩
    · exact .inr ⟨e', by simp [he], h⟩
theorem anc_closed (C : Nat → Prop) (all : List Oper) (hC : ∀ i o, C i → all[i]? = some o → ∀ e ∈ edgesO o, C e) :
    ∀ (l : List Oper) (done : List Oper) (t : List (List Nat)), all = done ++ l → t.length = done.length → (∀ i o, done[i]? = some o → (∀ e ∈ edgesO o, C e) → ∀ k ∈ t.getD i [], C k) →
      ∀ i o, all[i]? = some o → (∀ e ∈ edgesO o, C e) → ∀ k ∈ (ancTab l t).getD i [], C k := by
  intro l
  induction l with
  | nil =>
    intro done t ha hl h i o ho he k hk
    rw [List.append_nil] at ha; subst ha
    exact h i o ho he k hk
  | cons x l ih =>
    intro done t ha hl h i o ho he k hk
    unfold ancTab at hk
    refine ih (done ++ [x]) _ (by simp [ha]) (by simp [hl]) ?_ i o ho he k hk
    intro i' o' ho' he' k' hk'
    by_cases hlt : i' < done.length
    · rw [List.getElem?_append_left hlt] at ho'
      rw [List.getD_eq_getElem?_getD, List.getElem?_append_left (by omega), ← List.getD_eq_getElem?_getD] at hk'
      exact h i' o' ho' he' k' hk'
    · have hi' : i' = done.length := by
        rw [List.getElem?_append_right (by omega)] at ho'
        have := (List.getElem?_eq_some_iff.1 ho').1
        simp at this; omega
      subst hi'
      simp at ho'; subst ho'
      rw [List.getD_eq_getElem?_getD, ← hl, List.getElem?_append_right (by omega)] at hk'
      simp at hk'
      rcases fold_anc t k' _ _ hk' with hh | ⟨e, hee, rfl | hh⟩
      · simp at hh
      · exact he' _ hee
      · have hCe := he' e hee
        by_cases hel : e < done.length
        · have hoe : done[e]? = some done[e] := by simp [hel]
          exact h e _ hoe (hC e _ hCe (by rw [ha, List.getElem?_append_left hel]; exact hoe)) k' hh
        · rw [List.getD_eq_getElem?_getD, List.getElem?_eq_none (by omega)] at hh
          simp at hh
end Go.Wz
end
section
namespace Go.Wz
variable {P : Program} {call : CallT} {B : Nat} {ι ι' ι0 : Inj} {h h' h0 hv h1 : H} {w w' w0 : World}

theorem edgesO_mem {o : Oper} {e : Nat} : e ∈ edgesO o ↔ ∃ d ∈ o.after, Region.binds .any d = true ∧ d.on = e := by
  unfold edgesO
  simp only [List.mem_map, List.mem_filter, Array.mem_toList_iff]
  constructor
  · rintro ⟨d, ⟨h1, h2⟩, h3⟩; exact ⟨d, h1, h2, h3⟩
  · rintro ⟨d, h1, h2, h3⟩; exact ⟨d, ⟨h1, h2⟩, h3⟩
theorem getD_flip {l : Array Bool} {i : Nat} (h : l.getD i true = false) : l.getD i false = false := by
  by_cases hi : i < l.size
  · simp [hi] at h ⊢; exact h
  · simp [Array.getElem?_eq_none (Nat.le_of_not_lt hi)] at h
theorem getD_lt {l : Array Bool} {i : Nat} (h : l.getD i true = false) : i < l.size := by
  by_cases hi : i < l.size
  · exact hi
  · simp [Array.getElem?_eq_none (Nat.le_of_not_lt hi)] at h
theorem getD_true {l : Array Bool} {i : Nat} (hi : i < l.size) (h : ¬ l.getD i true = false) : l.getD i false = true := by
  simp [hi] at h ⊢; exact h

theorem pairs_of {all : Array Oper} {anc : List (List Nat)} : ∀ (l : List (Nat × Oper × Md)), pairsOk all anc l = true →
    l.Pairwise (fun x y => (anc.getD y.1 []).contains x.1 = true ∨ indep all x y = true) ∧ ∀ x ∈ l, modeOk x.2.1 x.2.2 = true
  | [], _ => ⟨.nil, by simp⟩
  | x :: l, h => by
    simp only [pairsOk, Bool.and_eq_true, List.all_eq_true, Bool.or_eq_true] at h
    obtain ⟨⟨h1, h2⟩, h3⟩ := h
    obtain ⟨a, b⟩ := pairs_of l h3
    refine ⟨.cons (fun y hy => h1 y hy) a, fun y hy => ?_⟩
    rcases List.mem_cons.1 hy with rfl | hy
    · exact h2
    · exact b y hy

theorem runP_ok (hc : CallOK P B call) {F : Fence} (hF : Wide F) {all : Array Oper} {base : Nat} {Q : Exit → Act → World → Prop} {r : St × H} {ds : List Deferred} (hb : h0.next ≤ base)
    (hE : ∀ i o, all[i]? = some o → ∀ e ∈ edgesO o, e < i)
    (hk : ∀ ι' w' a', Ext P B ι0 h0 w0 ι' r.2 w' → TR ι' r.1 a'.tmps → a'.defers = ds → Q .normal a' w') :
    ∀ (fuel : Nat) (listed : Array Bool) (cs : List (Nat × Oper × Md)) (s : St × H) (ι : Inj) (w : World) (a : Act),
      runP P call all base cs s = some r → Ext P B ι0 h0 w0 ι s.2 w → TR ι s.1 a.tmps → a.defers = ds →
      (∀ x ∈ cs, x.2.2.m = 2 → ι (base + x.1) = none ∧ base + x.1 < s.2.next) → listed.size = all.size →
      (∀ x ∈ cs, all[x.1]? = some x.2.1 ∧ listed.getD x.1 true = false) → (∀ i, listed.getD i true = false → ∃ x ∈ cs, x.1 = i) →
      cs.Pairwise (fun x y => x.1 < y.1) → cs.Pairwise (fun x y => ((ancTab all.toList []).getD y.1 []).contains x.1 = true ∨ indep all x y = true) → (∀ x ∈ cs, modeOk x.2.1 x.2.2 = true) →
      (∀ i o, listed.getD i false = true → all[i]? = some o → ∀ e ∈ edgesO o, listed.getD e false = true) → cs.length ≤ fuel →
      wpAnyIn F 0 P .any all Q fuel listed a w := by
  intro fuel
  induction fuel with
  | zero =>
    intro listed cs s ι w a hr x tr hd hres hsz hin hout hlt hpw hmo hcl hlen
    have hcs : cs = [] := List.length_eq_zero_iff.1 (by omega)
    subst hcs
    cases hr
    refine ⟨?_, hk ι w a x tr hd⟩
    refine List.eq_nil_iff_forall_not_mem.2 fun j hj => ?_
    obtain ⟨hj, _⟩ := mem_ready.1 hj
    obtain ⟨y, hy, _⟩ := hout j hj
    cases hy
  | succ fuel ih =>
    intro listed cs s ι w a hr x tr hd hres hsz hin hout hlt hpw hmo hcl hlen
    refine ⟨fun hn => ?_, fun i hi => ?_⟩
    · cases cs with
      | nil => cases hr; exact hk ι w a x tr hd
      | cons y l =>
        exfalso
        have hy := hin y (by simp)
        have : y.1 ∈ Region.ready .any all listed := by
          refine mem_ready.2 ⟨hy.2, _, hy.1, fun e he hbe => ?_⟩
          have hlt' := hE _ _ hy.1 e.on (edgesO_mem.2 ⟨e, he, hbe, rfl⟩)
          refine getD_true (by have := getD_lt hy.2; omega) fun hne => ?_
          obtain ⟨z, hz, hze⟩ := hout _ hne
          rcases List.mem_cons.1 hz with rfl | hz
          · omega
          · have := (List.pairwise_cons.1 hlt).1 z hz; omega
        rw [hn] at this; cases this
    · obtain ⟨hi1, o, ho, hi2⟩ := mem_ready.1 hi
      obtain ⟨y, hy, rfl⟩ := hout i hi1
      obtain ⟨pre, post, rfl⟩ := List.append_of_mem hy
      have hyo : y.2.1 = o := by have := (hin y hy).1; rw [ho] at this; simpa using this.symm
      have hsub : List.Sublist (pre ++ post) (pre ++ y :: post) := List.Sublist.append (List.Sublist.refl _) (List.sublist_cons_self _ _)
      have hne : ∀ z ∈ pre ++ post, z.1 ≠ y.1 := by
        intro z hz
        rw [List.pairwise_append] at hlt
        rcases List.mem_append.1 hz with hz | hz
        · have := hlt.2.2 z hz y (by simp); omega
        · have := (List.pairwise_cons.1 hlt.2.1).1 z hz; omega
      have hedge : ∀ e ∈ edgesO o, listed.getD e false = true := by
        intro e he
        obtain ⟨d, hd1, hd2, rfl⟩ := edgesO_mem.1 he
        exact hi2 d hd1 hd2
      have hpre : ∀ z ∈ pre, indep all z y = true ∧ modeOk z.2.1 z.2.2 = true := by
        intro z hz
        refine ⟨?_, hmo z (by simp [hz])⟩
        rw [List.pairwise_append] at hpw
        rcases hpw.2.2 z hz y (by simp) with hh | hh
        · exfalso
          have := anc_closed (fun k => listed.getD k false = true) all.toList (fun i o hl hio => hcl i o hl (by simpa using hio)) all.toList [] [] rfl rfl (by simp) y.1 o (by simpa using ho) hedge z.1 (by simpa using hh)
          have hz2 := getD_flip (hin z (by simp [hz])).2
          rw [hz2] at this; cases this
        · exact hh
      obtain ⟨s1, e1, e2⟩ := hoist (hmo y hy) post pre s r hpre hr
      obtain ⟨st, hh⟩ := s
      refine stepD_ok hc hF (hmo y hy) (hin y hy).1 e1 x tr (fun hm2 => ?_) fun ι' w' a' af tr' hd' => ?_
      · obtain ⟨q1, q2⟩ := hres y hy hm2
        exact ⟨q1, by omega, q2⟩
      · refine ih _ (pre ++ post) s1 ι' w' a' e2 af.1 tr' (hd'.trans hd) (fun z hz hz2 => ?_) (by simpa using hsz) (fun z hz => ?_) (fun j hj => ?_) (hlt.sublist hsub) (hpw.sublist hsub)
          (fun z hz => hmo z (hsub.mem hz)) (fun j oj hj hoj e he => ?_) (by simp at hlen ⊢; omega)
        · obtain ⟨q1, q2⟩ := hres z (hsub.mem hz) hz2
          refine ⟨?_, Nat.lt_of_lt_of_le q2 af.2.2.2⟩
          rw [af.2.2.1 _ q2 (by have := hne z hz; omega)]; exact q1
        · obtain ⟨q1, q2⟩ := hin z (hsub.mem hz)
          exact ⟨q1, by rw [getD_set_ne true (Ne.symm (hne z hz))]; exact q2⟩
        · by_cases hjy : j = y.1
          · subst hjy
            have hlt2 := getD_lt hi1
            simp [hlt2] at hj
          · rw [getD_set_ne true (Ne.symm hjy)] at hj
            obtain ⟨z, hz, rfl⟩ := hout j hj
            refine ⟨z, ?_, rfl⟩
            rcases List.mem_append.1 hz with hz | hz
            · exact List.mem_append_left _ hz
            · rcases List.mem_cons.1 hz with rfl | hz
              · exact absurd rfl hjy
              · exact List.mem_append_right _ hz
        · by_cases hjy : j = y.1
          · subst hjy
            rw [ho] at hoj; cases hoj
            exact getD_set_true (hedge e he)
          · rw [getD_set_ne false (Ne.symm hjy)] at hj
            exact getD_set_true (hcl j oj hj hoj e he)

theorem mdsOf_fst (ops : List Oper) : (mdsOf ops).map (fun x => (x.1, x.2.1)) = ops.zipIdx.map fun x => (x.2, x.1) := by
  unfold mdsOf
  simp only [List.map_map]
  rfl
theorem stepD_length {all : Array Oper} {base : Nat} {x : Nat × Oper × Md} {s s1 : St × H} (e : stepD P call all base x s = some s1) : s1.1.len = s.1.len := by
  unfold stepD at e
  rw [stepK_eq] at e
  obtain ⟨⟨v, h1⟩, _, e⟩ := Option.bind_eq_some_iff.1 e
  simp at e; subst e
  exact setO_length _ _ _
theorem runP_length {all : Array Oper} {base : Nat} : ∀ (l : List (Nat × Oper × Md)) (s r : St × H), runP P call all base l s = some r → r.1.len = s.1.len
  | [], s, r, e => by cases e; rfl
  | x :: l, s, r, e => by
    rw [runP_cons] at e
    obtain ⟨s1, e1, e2⟩ := Option.bind_eq_some_iff.1 e
    rw [runP_length l s1 r e2, stepD_length e1]

theorem drawK_ok (hmix : P.follows .mixedOrders = true) (hc : CallOK P B call) {ops : Array Oper} {st : St} {R : Type} {k : St → H → Option R} {r : R} (e : drawK P call ops st h k = some r) :
    ∃ st' h', k st' h' = some r ∧ st'.len = st.len ∧ ∀ F, Wide F → ∀ (ι : Inj) (w : World) (a : Act) (Q : Exit → Act → World → Prop) (id : Nat), Sim P B ι h w → TR ι st a.tmps →
      (∀ ι' w' a', Ext P B ι h w ι' h' w' → TR ι' st' a'.tmps → a'.defers = a.defers → Q .normal a' w') → (Code.region id ops true).wpIn F 0 P Q a w := by
  unfold drawK at e
  split at e
  · rename_i hok
    unfold okD at hok
    simp only [Bool.and_eq_true] at hok
    obtain ⟨hp, hed⟩ := hok
    rw [runD_nat] at e
    obtain ⟨s, e1, e2⟩ := Option.bind_eq_some_iff.1 e
    refine ⟨s.1, s.2, e2, runP_length _ _ _ e1, fun F hF ι w a Q id sm tr hk => ?_⟩
    obtain ⟨hpw, hmo⟩ := pairs_of _ hp
    have hfst := mdsOf_fst ops.toList
    have hmem : ∀ x ∈ mdsOf ops.toList, ops[x.1]? = some x.2.1 := by
      intro x hx
      have : (x.1, x.2.1) ∈ ops.toList.zipIdx.map fun x => (x.2, x.1) := by rw [← hfst]; exact List.mem_map.2 ⟨x, hx, rfl⟩
      obtain ⟨y, hy, hyx⟩ := List.mem_map.1 this
      simp only [Prod.mk.injEq] at hyx
      have := List.mem_zipIdx_iff_getElem?.1 hy
      rw [← hyx.1, ← hyx.2]
      simpa using this
    have hlenm : (mdsOf ops.toList).length = ops.size := by have := congrArg List.length hfst; simpa using this
    have hidx : (mdsOf ops.toList).map (·.1) = List.range ops.size := by
      have := congrArg (List.map Prod.fst) hfst
      simp only [List.map_map] at this
      rw [show (List.map (fun x => x.1) (mdsOf ops.toList)) = List.map (Prod.fst ∘ fun x : Nat × Oper × Md => (x.1, x.2.1)) (mdsOf ops.toList) from rfl, this]
      refine List.ext_getElem? fun i => ?_
      simp only [List.getElem?_map, List.getElem?_zipIdx, List.getElem?_range']
      by_cases hi : i < ops.size
      · simp [hi]
      · simp [hi, List.getElem?_eq_none]
    have hsort : (mdsOf ops.toList).Pairwise fun x y => x.1 < y.1 := by
      have : (List.map (·.1) (mdsOf ops.toList)).Pairwise (· < ·) := by rw [hidx]; exact List.pairwise_lt_range
      rwa [List.pairwise_map] at this
    have x0 := sm.drew 1
    have hres : ∀ hR, hR = (if ((mdsOf ops.toList).any fun x => x.2.2.m == 2) = true then ({ get := h.get, next := h.next + ops.size } : H) else h) →
        Ext P B ι h w ι hR (w.drewN 1) ∧ ∀ x ∈ mdsOf ops.toList, x.2.2.m = 2 → ι (h.next + x.1) = none ∧ h.next + x.1 < hR.next := by
      intro hR hRe
      split at hRe
      · subst hRe
        refine ⟨⟨x0.le, ⟨x0.sim.base, fun b hb => sm.dom b (by have : h.next + ops.size ≤ b := hb; omega), x0.sim.lt, x0.sim.live, x0.sim.sep⟩, by simp, x0.size, x0.fr, x0.img, x0.ro, x0.old, x0.os, x0.tape, x0.out⟩, fun x hx _ => ⟨sm.dom _ (by omega), ?_⟩⟩
        have := (Array.getElem?_eq_some_iff.1 (hmem x hx)).1
        show h.next + x.1 < h.next + ops.size
        omega
      · rename_i hno
        subst hRe
        refine ⟨x0, fun x hx hm2 => absurd ?_ hno⟩
        exact List.any_eq_true.2 ⟨x, hx, by simp [hm2]⟩
    obtain ⟨xR, hr2⟩ := hres _ rfl
    refine wpIn_region_any hmix ?_
    show wpAnyIn F 0 P .any ops Q ops.size (Array.replicate ops.size false) a (w.drewN 1)
    refine runP_ok hc hF (base := h.next) (ι0 := ι) (h0 := h) (w0 := w) (r := s) (ds := a.defers) (Nat.le_refl _) ?_ hk ops.size _ (mdsOf ops.toList) _ ι _ a e1 xR tr rfl hr2 (by simp) (fun x hx => ⟨hmem x hx, ?_⟩) (fun i hi => ?_) hsort hpw hmo ?_ (by omega)
    · intro i o ho e he
      have := List.all_eq_true.1 hed (o, i) (List.mem_zipIdx_iff_getElem?.2 (by simpa using ho))
      have := List.all_eq_true.1 this e he
      simpa using this
    · have := (Array.getElem?_eq_some_iff.1 (hmem x hx)).1
      simp [this]
    · have hlt := getD_lt hi
      simp at hlt
      have : i ∈ (mdsOf ops.toList).map (·.1) := by rw [hidx]; exact List.mem_range.2 hlt
      obtain ⟨x, hx, e⟩ := List.mem_map.1 this
      exact ⟨x, hx, e⟩
    · intro i o hi
      exfalso
      by_cases hlt : i < ops.size
      · simp [hlt] at hi
      · simp [hlt] at hi
  · simp at e
end Go.Wz
end
