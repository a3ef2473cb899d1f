/- NightMatches, the row: but for the run of 'works'. -/
import Derived.Test.YthidglhhfdjhhaaGreatM16
import Derived.Test.YthidglhhfdjhhaaGreatK9
set_option linter.unusedSimpArgs false
set_option linter.unusedVariables false
namespace Go.Proofs.YthidglhhfdjhhaaGreat.nightMatches
open Go.ChangeShapes Go.WideShapes Go.ChangeAt Go.RowKit Go.Wz

set_option maxRecDepth 100000 in
theorem contract {callw : CallT} (hw : ∀ B, CallOK Tryz.prog B callw) {h1 : Wz.H} (e0 : callw (.func 16) [] H.empty = some (.one (.bool true), h1)) (H : Type) (enc : TypeId × Value → H) (W : World) (base : Nat) (args : Array Value) (ds gs : List (DataW H)) (before : List MemPlace)
    (hval : ∀ (j : Nat) t v, Tryz.f9.params[j]? = some t → args[j]? = some v → Value.okWide Tryz.prog W .any base t v)
    (hW : DataW.Whole enc Tryz.prog Tryz.f9.params.toList Rows.nightMatchesSpec.vars false W args.toList ds gs before) :
    Calls Tryz.prog 9 args W fun e W' => ∃ v, e = .returned v ∧ Rows.nightMatchesSpec.post enc Tryz.prog Tryz.f9 false true false false W args v W' := by
  have hW' := hW
  obtain ⟨p, q, hA0, hV, rfl, hfz, hnd⟩ := hW
  have hA : DataW.TrodAll enc Tryz.prog W 0 (fun _ => true) true Tryz.f9.params.toList args.toList ds p := hA0
  rw [Tryz.params9] at hA hval
  obtain ⟨v0, vs0, d0, ds0, p0, q0, hargs, rfl, rfl, h0, r0⟩ := trodAll_cons hA
  obtain ⟨rfl, rfl, rfl⟩ := trodAll_nil r0
  obtain rfl : args = #[v0] := by cases args; simp_all
  obtain ⟨rfl, rfl⟩ := trodVars_none hV
  obtain ⟨av, reps, ha, hr⟩ := reports_open h0 (okWide_slice Tryz.underlying72 (hval 0 72 v0 rfl rfl))
  refine (matches_calls hw e0 ha hr).mono fun e W' ⟨he, hB⟩ => ?_
  subst he
  exact ⟨_, rfl, law_post (tb := 4) tryz_laid (by kernel_rfl) Tryz.underlying4 rfl (by kernel_rfl) rfl hW' hB⟩

set_option maxRecDepth 100000 in
theorem lifted {callw : CallT} (hw : ∀ B, CallOK Tryz.prog B callw) {h1 : Wz.H} (e0 : callw (.func 16) [] H.empty = some (.one (.bool true), h1)) (os : Os) (started : os.Started) (H : Type) (enc : TypeId × Value → H) :
    ReturnsInHanded {} Tryz.checked os 9 .any (Rows.nightMatchesSpec.pre6 enc Tryz.prog Tryz.f9 Rows.nightMatchesRow.domain false) (Rows.nightMatchesSpec.post enc Tryz.prog Tryz.f9 false true false false) := by
  refine returnsInHanded_of_change (C := Tryz.checked) tryz_own started (by kernel_rfl) Tryz.func9
    (ChangeSpec.witness6 (enc := enc) (C := Tryz.checked) false ⟨#[], #[.slice none 0 0], []⟩ 8 (by kernel_rfl) (by kernel_rfl) (by kernel_rfl) (by kernel_rfl)) ?_
  intro W base args ds gs before hval hW _ _
  exact contract hw e0 H enc W base args ds gs before hval hW

theorem over {callw : CallT} (hw : ∀ B, CallOK Tryz.prog B callw) {h1 : Wz.H} (e0 : callw (.func 16) [] H.empty = some (.one (.bool true), h1)) : Rows.NightMatchesSaid :=
  OpenClaim.holds_of_wide 9 Tryz.f9 rfl rfl rfl rfl rfl rfl rfl ⟨rfl, rfl, rfl, rfl, rfl⟩ rfl rfl rfl rfl rfl k_named Tryz.func9 k_all k_inst k_wrap
    (fun os started H enc _ => lifted hw e0 os started H enc)
end Go.Proofs.YthidglhhfdjhhaaGreat.nightMatches
