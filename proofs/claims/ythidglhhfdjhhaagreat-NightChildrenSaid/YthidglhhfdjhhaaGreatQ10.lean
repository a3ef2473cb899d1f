/- NightChildren: whatever the input, it returns true, and the input reads as it did. No condition. -/
import Derived.Test.YthidglhhfdjhhaaGreatN3
import Derived.Test.YthidglhhfdjhhaaGreatW8
import Derived.Test.YthidglhhfdjhhaaGreatK10
set_option linter.unusedSimpArgs false
set_option linter.unusedVariables false
namespace Go.Proofs.YthidglhhfdjhhaaGreat.nightChildren
open Go.ChangeShapes Go.WideShapes Go.ChangeAt Go.RowKit Go.Wz

set_option maxRecDepth 100000 in
theorem contract (H : Type) (enc : TypeId × Value → H) (W : World) (base : Nat) (args : Array Value) (ds gs : List (DataW H)) (before : List MemPlace)
    (hval : ∀ (j : Nat) t v, Tryz.f10.params[j]? = some t → args[j]? = some v → Value.okWide Tryz.prog W .any base t v)
    (hW : DataW.Whole enc Tryz.prog Tryz.f10.params.toList Rows.nightChildrenSpec.vars false W args.toList ds gs before) :
    Calls Tryz.prog 10 args W fun e W' => ∃ v, e = .returned v ∧ Rows.nightChildrenSpec.post enc Tryz.prog Tryz.f10 false true false false W args v W' :=
  law_contract (m := 8) tryz_names tryz_mixed tryz_laid (hookT_ok (fun B => CF_ok 2000 7 B) callW_ok works_c) (tb := 4) (by kernel_rfl) Tryz.underlying4 rfl (by kernel_rfl)
    (fun ds hl => by
      have hl' : ds.length = 1 := hl
      match ds, hl' with
      | [d0], _ => rfl)
    (ks := [(false, [.sl [.int .i64, .int .i64, .int .i64]])]) (by kernel_rfl) children_exec W base args ds gs before hval hW

set_option maxRecDepth 100000 in
theorem lifted (os : Os) (started : os.Started) (H : Type) (enc : TypeId × Value → H) :
    ReturnsInHanded {} Tryz.checked os 10 .any (Rows.nightChildrenSpec.pre6 enc Tryz.prog Tryz.f10 Rows.nightChildrenRow.domain false) (Rows.nightChildrenSpec.post enc Tryz.prog Tryz.f10 false true false false) := by
  refine returnsInHanded_of_change (C := Tryz.checked) tryz_own started (by kernel_rfl) Tryz.func10
    (ChangeSpec.witness6 (enc := enc) (C := Tryz.checked) false ⟨#[], #[.slice none 0 0], []⟩ 8 (by kernel_rfl) (by kernel_rfl) (by kernel_rfl) (by kernel_rfl)) ?_
  intro W base args ds gs before hval hW _ _
  exact contract H enc W base args ds gs before hval hW
end Go.Proofs.YthidglhhfdjhhaaGreat.nightChildren
namespace Go.Proofs.YthidglhhfdjhhaaGreat
open Go.Wz
set_option maxRecDepth 100000 in
theorem nightChildren.said : Rows.NightChildrenSaid :=
  OpenClaim.holds_of_wide 10 Tryz.f10 rfl rfl rfl rfl rfl rfl rfl ⟨rfl, rfl, rfl, rfl, rfl⟩ rfl rfl rfl rfl rfl nightChildren.k_named Tryz.func10 nightChildren.k_all nightChildren.k_inst nightChildren.k_wrap
    (fun os started H enc _ => nightChildren.lifted os started H enc)
end Go.Proofs.YthidglhhfdjhhaaGreat
