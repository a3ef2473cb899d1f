/- The closed facts of the row of NightChildren. -/
import Derived.Test.YthidglhhfdjhhaaGreatRows
import Derived.ProofKit
set_option linter.unusedSimpArgs false
namespace Go.Proofs.YthidglhhfdjhhaaGreat.nightChildren
open Go.ChangeShapes Go.WideShapes Go.ChangeAt Go.RowKit
set_option maxRecDepth 100000
theorem and_ok {a b : Bool} (ha : a = true) (hb : b = true) : (a && b) = true := by rw [ha, hb]; rfl
theorem k_0 : (Rows.nightChildrenRow.wf (OpenSpec.ofChange Rows.nightChildrenSpec)) = true := by kernel_rfl
theorem k_1 : (laidOutB Tryz.prog) = true := by kernel_rfl
theorem k_2 : (mapsRowed Tryz.prog) = true := by kernel_rfl
theorem k_3 : (Tryz.f10.params.all (Tryz.prog.readableRec ·)) = true := by kernel_rfl
theorem k_4 : (namedTie Tryz.prog Rows.nightChildrenRow.named Rows.nightChildrenSpec.vars) = true := by kernel_rfl
theorem k_5 : ((Rows.nightChildrenRow.stops == [])) = true := by kernel_rfl
theorem k_6 : ((Tryz.prog.stops == [])) = true := by kernel_rfl
theorem k_7 : ((Rows.nightChildrenRow.knobs == [])) = true := by kernel_rfl
theorem k_8 : ((Tryz.prog.stopKnobs == [])) = true := by kernel_rfl
theorem k_9 : ((Rows.nightChildrenRow.inPlace == Tryz.prog.inPlace 10)) = true := by kernel_rfl
theorem k_10 : ((Rows.nightChildrenRow.unfollowed == Tryz.prog.unfollowed 10)) = true := by kernel_rfl
theorem k_11 : ((Rows.nightChildrenRow.recurses == Tryz.prog.recurses 10)) = true := by kernel_rfl
theorem k_12 : ((Rows.nightChildrenRow.named == Tryz.prog.varsNamed 10)) = true := by kernel_rfl
theorem k_13 : ((Rows.nightChildrenRow.maps == (Tryz.f10.params.toList ++ Rows.nightChildrenSpec.plain.varTypes Tryz.prog).any (Tryz.prog.mapsRec ·))) = true := by kernel_rfl
theorem k_14 : ((Rows.nightChildrenRow.ifaces == (Tryz.f10.params.toList ++ Rows.nightChildrenSpec.plain.varTypes Tryz.prog).any (Tryz.prog.ifacesRec ·))) = true := by kernel_rfl
theorem k_15 : ((Rows.nightChildrenRow.mapsOut == Tryz.prog.mapsAmong Tryz.f10.resultTypes.toList)) = true := by kernel_rfl
theorem k_16 : ((Rows.nightChildrenRow.loops == (Tryz.f10.params.toList ++ Rows.nightChildrenSpec.plain.varTypes Tryz.prog).any (Tryz.prog.loopsFrom ·))) = true := by kernel_rfl
theorem k_17 : ((Rows.nightChildrenRow.wideKeys == (Tryz.f10.params.toList ++ Rows.nightChildrenSpec.plain.varTypes Tryz.prog ++ Tryz.f10.resultTypes.toList).any (Tryz.prog.wideKeysFrom ·))) = true := by kernel_rfl
theorem k_18 : (Rows.nightChildrenSpec.vars.all (Tryz.prog.varReadable ·)) = true := by kernel_rfl
theorem k_19 : (Tryz.f10.resultTypes.all (fun t => Tryz.prog.readableRec t && decide (t < Tryz.prog.types.size))) = true := by kernel_rfl
theorem k_20 : ((Rows.nightChildrenRow.ifacesOut == Tryz.f10.resultTypes.toList.any (Tryz.prog.ifacesRec ·))) = true := by kernel_rfl
theorem k_21 : ((Rows.nightChildrenRow.loopsOut == Tryz.f10.resultTypes.toList.any (Tryz.prog.loopsFrom ·))) = true := by kernel_rfl
theorem k_22 : ((Rows.nightChildrenRow.plainKeys == Tryz.prog.plainKeys)) = true := by kernel_rfl
theorem k_23 : (Rows.nightChildrenRow.shortTexts.isNone) = true := by kernel_rfl
theorem k_24 : (Tryz.prog.stopsHeard) = true := by kernel_rfl
theorem k_25 : (Tryz.prog.mayEnter) = true := by kernel_rfl
theorem k_26 : ((Rows.nightChildrenRow.lifted == Tryz.prog.liftsFinal)) = true := by kernel_rfl
theorem k_27 : ((Tryz.prog.make == some Rows.nightChildrenRow.make)) = true := by kernel_rfl
theorem k_28 : ((Rows.nightChildrenRow.kinds == (if Rows.nightChildrenRow.domain.isEmpty then [] else Tryz.f10.params.toList.map fun t => match Tryz.prog.underlying t with | some (.int k) => some k | _ => none))) = true := by kernel_rfl
theorem k_29 : ((Rows.nightChildrenRow.pinned == Rows.nightChildrenRow.pinnedBy)) = true := by kernel_rfl
theorem k_30 : ((Rows.nightChildrenRow.veiled == (Tryz.f10.params.toList ++ Rows.nightChildrenSpec.plain.varTypes Tryz.prog ++ Tryz.f10.resultTypes.toList).any (Tryz.prog.veiledRec ·))) = true := by kernel_rfl
theorem k_31 : (Rows.nightChildrenRow.veiledFits Tryz.prog Tryz.f10.params.toList (Tryz.f10.params.toList ++ Rows.nightChildrenSpec.plain.varTypes Tryz.prog ++ Tryz.f10.resultTypes.toList)) = true := by kernel_rfl
theorem k_all : joinedFacts Tryz.prog 10 Tryz.f10 Rows.nightChildrenSpec Rows.nightChildrenRow = true := (and_ok (and_ok (and_ok (and_ok (and_ok (and_ok (and_ok (and_ok (and_ok (and_ok (and_ok (and_ok (and_ok (and_ok (and_ok (and_ok (and_ok (and_ok (and_ok (and_ok (and_ok (and_ok (and_ok (and_ok (and_ok (and_ok (and_ok (and_ok (and_ok (and_ok (and_ok k_0 k_1) k_2) k_3) k_4) k_5) k_6) k_7) k_8) k_9) k_10) k_11) k_12) k_13) k_14) k_15) k_16) k_17) k_18) k_19) k_20) k_21) k_22) k_23) k_24) k_25) k_26) k_27) k_28) k_29) k_30) k_31)
theorem k_named : Tryz.pinned.checked.prog.funcNamed Rows.nightChildrenRow.func = some 10 := by kernel_rfl
theorem k_inst : Tryz.f10.isInstance Tryz.pinned.checked.prog Rows.nightChildrenRow.origin Rows.nightChildrenRow.targs := of_decide_eq_true (by kernel_rfl)
theorem k_wrap : Tryz.f10.isWrapper Tryz.pinned.checked.prog Rows.nightChildrenRow.wrapper Rows.nightChildrenRow.mainSum := by unfold Func.isWrapper; first | (rw [if_pos (by decide +kernel)]; kernel_rfl) | (rw [if_neg (by decide +kernel)]; exact ⟨rfl, rfl⟩)
end Go.Proofs.YthidglhhfdjhhaaGreat.nightChildren
