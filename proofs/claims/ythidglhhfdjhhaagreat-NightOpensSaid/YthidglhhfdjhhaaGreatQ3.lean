/- NightOpens: whatever the input, it returns true, and the input reads as it did. No condition. -/
import Derived.Test.YthidglhhfdjhhaaGreatHF
import Derived.Test.YthidglhhfdjhhaaGreatW8
import Derived.Test.YthidglhhfdjhhaaGreatK3
set_option linter.unusedSimpArgs false
set_option linter.unusedVariables false
namespace Go.Proofs.YthidglhhfdjhhaaGreat.nightOpens
open Go.ChangeShapes Go.WideShapes Go.ChangeAt Go.RowKit Go.Wz

set_option maxRecDepth 100000 in
theorem contract (H : Type) (enc : TypeId × Value → H) (W : World) (base : Nat) (args : Array Value) (ds gs : List (DataW H)) (before : List MemPlace)
    (hval : ∀ (j : Nat) t v, Tryz.f3.params[j]? = some t → args[j]? = some v → Value.okWide Tryz.prog W .any base t v)
    (hW : DataW.Whole enc Tryz.prog Tryz.f3.params.toList Rows.nightOpensSpec.vars false W args.toList ds gs before) :
    Calls Tryz.prog 3 args W fun e W' => ∃ v, e = .returned v ∧ Rows.nightOpensSpec.post enc Tryz.prog Tryz.f3 false true false false W args v W' :=
  law_contract (m := 8) tryz_names tryz_mixed tryz_laid (CY_ok 5000 20) (tb := 4) (by kernel_rfl) Tryz.underlying4 rfl (by kernel_rfl)
    (fun ds hl => by
      have hl' : ds.length = 1 := hl
      match ds, hl' with
      | [d0], _ => rfl)
    (ks := [(true, galaKs)]) (by kernel_rfl) opens_exec W base args ds gs before hval hW

set_option maxRecDepth 100000 in
theorem lifted (os : Os) (started : os.Started) (H : Type) (enc : TypeId × Value → H) :
    ReturnsInHanded {} Tryz.checked os 3 .any (Rows.nightOpensSpec.pre6 enc Tryz.prog Tryz.f3 Rows.nightOpensRow.domain false) (Rows.nightOpensSpec.post enc Tryz.prog Tryz.f3 false true false false) := by
  refine returnsInHanded_of_change (C := Tryz.checked) tryz_own started (by kernel_rfl) Tryz.func3
    (ChangeSpec.witness6 (enc := enc) (C := Tryz.checked) false ⟨#[], #[.agg #[.slice none 0 0, .int .i64 0, .slice none 0 0, .slice none 0 0, .slice none 0 0, .slice none 0 0, .int .i64 0, .slice none 0 0, .slice none 0 0, .int .i64 0, .int .i64 0, .int .i64 0, .slice none 0 0, .slice none 0 0]], []⟩ 8 (by kernel_rfl) (by kernel_rfl) (by kernel_rfl) (by kernel_rfl)) ?_
  intro W base args ds gs before hval hW _ _
  exact contract H enc W base args ds gs before hval hW
end Go.Proofs.YthidglhhfdjhhaaGreat.nightOpens
namespace Go.Proofs.YthidglhhfdjhhaaGreat
open Go.Wz
set_option maxRecDepth 100000 in
theorem nightOpens.said : Rows.NightOpensSaid :=
  OpenClaim.holds_of_wide 3 Tryz.f3 rfl rfl rfl rfl rfl rfl rfl ⟨rfl, rfl, rfl, rfl, rfl⟩ rfl rfl rfl rfl rfl nightOpens.k_named Tryz.func3 nightOpens.k_all nightOpens.k_inst nightOpens.k_wrap
    (fun os started H enc _ => nightOpens.lifted os started H enc)
end Go.Proofs.YthidglhhfdjhhaaGreat
