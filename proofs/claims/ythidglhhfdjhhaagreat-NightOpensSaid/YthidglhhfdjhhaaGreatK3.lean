/- The closed facts of the row of NightOpens. -/
import Derived.Test.YthidglhhfdjhhaaGreatRows
import Derived.ProofKit
set_option linter.unusedSimpArgs false
namespace Go.Proofs.YthidglhhfdjhhaaGreat.nightOpens
open Go.ChangeShapes Go.WideShapes Go.ChangeAt Go.RowKit
set_option maxRecDepth 100000
theorem and_ok {a b : Bool} (ha : a = true) (hb : b = true) : (a && b) = true := by rw [ha, hb]; rfl
theorem k_0 : (Rows.nightOpensRow.wf (OpenSpec.ofChange Rows.nightOpensSpec)) = true := by kernel_rfl
theorem k_1 : (laidOutB Tryz.prog) = true := by kernel_rfl
theorem k_2 : (mapsRowed Tryz.prog) = true := by kernel_rfl
theorem k_3 : (Tryz.f3.params.all (Tryz.prog.readableRec ·)) = true := by kernel_rfl
theorem k_4 : (namedTie Tryz.prog Rows.nightOpensRow.named Rows.nightOpensSpec.vars) = true := by kernel_rfl
theorem k_5 : ((Rows.nightOpensRow.stops == [])) = true := by kernel_rfl
theorem k_6 : ((Tryz.prog.stops == [])) = true := by kernel_rfl
theorem k_7 : ((Rows.nightOpensRow.knobs == [])) = true := by kernel_rfl
theorem k_8 : ((Tryz.prog.stopKnobs == [])) = true := by kernel_rfl
theorem k_9 : ((Rows.nightOpensRow.inPlace == Tryz.prog.inPlace 3)) = true := by kernel_rfl
theorem k_10 : ((Rows.nightOpensRow.unfollowed == Tryz.prog.unfollowed 3)) = true := by kernel_rfl
theorem k_11 : ((Rows.nightOpensRow.recurses == Tryz.prog.recurses 3)) = true := by kernel_rfl
theorem k_12 : ((Rows.nightOpensRow.named == Tryz.prog.varsNamed 3)) = true := by kernel_rfl
theorem k_13 : ((Rows.nightOpensRow.maps == (Tryz.f3.params.toList ++ Rows.nightOpensSpec.plain.varTypes Tryz.prog).any (Tryz.prog.mapsRec ·))) = true := by kernel_rfl
theorem k_14 : ((Rows.nightOpensRow.ifaces == (Tryz.f3.params.toList ++ Rows.nightOpensSpec.plain.varTypes Tryz.prog).any (Tryz.prog.ifacesRec ·))) = true := by kernel_rfl
theorem k_15 : ((Rows.nightOpensRow.mapsOut == Tryz.prog.mapsAmong Tryz.f3.resultTypes.toList)) = true := by kernel_rfl
theorem k_16 : ((Rows.nightOpensRow.loops == (Tryz.f3.params.toList ++ Rows.nightOpensSpec.plain.varTypes Tryz.prog).any (Tryz.prog.loopsFrom ·))) = true := by kernel_rfl
theorem k_17 : ((Rows.nightOpensRow.wideKeys == (Tryz.f3.params.toList ++ Rows.nightOpensSpec.plain.varTypes Tryz.prog ++ Tryz.f3.resultTypes.toList).any (Tryz.prog.wideKeysFrom ·))) = true := by kernel_rfl
theorem k_18 : (Rows.nightOpensSpec.vars.all (Tryz.prog.varReadable ·)) = true := by kernel_rfl
theorem k_19 : (Tryz.f3.resultTypes.all (fun t => Tryz.prog.readableRec t && decide (t < Tryz.prog.types.size))) = true := by kernel_rfl
theorem k_20 : ((Rows.nightOpensRow.ifacesOut == Tryz.f3.resultTypes.toList.any (Tryz.prog.ifacesRec ·))) = true := by kernel_rfl
theorem k_21 : ((Rows.nightOpensRow.loopsOut == Tryz.f3.resultTypes.toList.any (Tryz.prog.loopsFrom ·))) = true := by kernel_rfl
theorem k_22 : ((Rows.nightOpensRow.plainKeys == Tryz.prog.plainKeys)) = true := by kernel_rfl
theorem k_23 : (Rows.nightOpensRow.shortTexts.isNone) = true := by kernel_rfl
theorem k_24 : (Tryz.prog.stopsHeard) = true := by kernel_rfl
theorem k_25 : (Tryz.prog.mayEnter) = true := by kernel_rfl
theorem k_26 : ((Rows.nightOpensRow.lifted == Tryz.prog.liftsFinal)) = true := by kernel_rfl
theorem k_27 : ((Tryz.prog.make == some Rows.nightOpensRow.make)) = true := by kernel_rfl
theorem k_28 : ((Rows.nightOpensRow.kinds == (if Rows.nightOpensRow.domain.isEmpty then [] else Tryz.f3.params.toList.map fun t => match Tryz.prog.underlying t with | some (.int k) => some k | _ => none))) = true := by kernel_rfl
theorem k_29 : ((Rows.nightOpensRow.pinned == Rows.nightOpensRow.pinnedBy)) = true := by kernel_rfl
theorem k_30 : ((Rows.nightOpensRow.veiled == (Tryz.f3.params.toList ++ Rows.nightOpensSpec.plain.varTypes Tryz.prog ++ Tryz.f3.resultTypes.toList).any (Tryz.prog.veiledRec ·))) = true := by kernel_rfl
theorem k_31 : (Rows.nightOpensRow.veiledFits Tryz.prog Tryz.f3.params.toList (Tryz.f3.params.toList ++ Rows.nightOpensSpec.plain.varTypes Tryz.prog ++ Tryz.f3.resultTypes.toList)) = true := by kernel_rfl
theorem k_all : joinedFacts Tryz.prog 3 Tryz.f3 Rows.nightOpensSpec Rows.nightOpensRow = true := (and_ok (and_ok (and_ok (and_ok (and_ok (and_ok (and_ok (and_ok (and_ok (and_ok (and_ok (and_ok (and_ok (and_ok (and_ok (and_ok (and_ok (and_ok (and_ok (and_ok (and_ok (and_ok (and_ok (and_ok (and_ok (and_ok (and_ok (and_ok (and_ok (and_ok (and_ok k_0 k_1) k_2) k_3) k_4) k_5) k_6) k_7) k_8) k_9) k_10) k_11) k_12) k_13) k_14) k_15) k_16) k_17) k_18) k_19) k_20) k_21) k_22) k_23) k_24) k_25) k_26) k_27) k_28) k_29) k_30) k_31)
theorem k_named : Tryz.pinned.checked.prog.funcNamed Rows.nightOpensRow.func = some 3 := by kernel_rfl
theorem k_inst : Tryz.f3.isInstance Tryz.pinned.checked.prog Rows.nightOpensRow.origin Rows.nightOpensRow.targs := of_decide_eq_true (by kernel_rfl)
theorem k_wrap : Tryz.f3.isWrapper Tryz.pinned.checked.prog Rows.nightOpensRow.wrapper Rows.nightOpensRow.mainSum := by unfold Func.isWrapper; first | (rw [if_pos (by decide +kernel)]; kernel_rfl) | (rw [if_neg (by decide +kernel)]; exact ⟨rfl, rfl⟩)
end Go.Proofs.YthidglhhfdjhhaaGreat.nightOpens
