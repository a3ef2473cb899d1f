/- NightMatches, over the evaluator: in any world, for any reports, true; what was there is as it was. -/
import Derived.Test.YthidglhhfdjhhaaGreatRows
import Derived.Test.YthidglhhfdjhhaaGreatM15
import Derived.Test.YthidglhhfdjhhaaGreatZD
set_option linter.unusedSimpArgs false
set_option linter.unusedVariables false
namespace Go.Wz
open Go.ChangeShapes Go.WideShapes Go.ChangeAt Go.RowKit

theorem tryz_names : NamesOK Proofs.Tryz.prog := NamesOK.of_all (by kernel_rfl)
theorem tryz_mixed : Proofs.Tryz.prog.follows .mixedOrders = true := by kernel_rfl
theorem tryz_laid : laidOutB Proofs.Tryz.prog = true := by kernel_rfl
theorem tryz_own : ownKnob Proofs.Tryz.prog.godebug = none := by kernel_rfl

theorem CF_ok (N d B : Nat) : CallOK Proofs.Tryz.prog B (CF N d) := callF_ok tryz_names tryz_mixed hints N d

theorem row_rep {r : List Value} (h : RowK [some .i64, some .i64, some .i64] r) : ∃ p : Rep, r = p.enc := by
  match r with
  | [] => exact h.elim
  | [_] => exact h.2.elim
  | [_, _] => exact h.2.2.elim
  | [a, b, c] =>
    obtain ⟨⟨x, hx, _⟩, ⟨y, hy, _⟩, ⟨z, hz, _⟩, _⟩ := h
    subst hx hy hz
    exact ⟨⟨x, y, z⟩, rfl⟩
  | _ :: _ :: _ :: _ :: _ => exact h.2.2.2.elim
theorem rows_reps : ∀ (rows : List (List Value)), (∀ r ∈ rows, RowK [some .i64, some .i64, some .i64] r) → ∃ reps : List Rep, rows = reps.map Rep.enc
  | [], _ => ⟨[], rfl⟩
  | r :: rows, h => by
    obtain ⟨reps, e⟩ := rows_reps rows fun r' hr => h r' (List.mem_cons_of_mem _ hr)
    obtain ⟨p, rfl⟩ := row_rep (h r (List.mem_cons_self ..))
    exact ⟨p :: reps, by rw [e]; rfl⟩
theorem kinds81 : flatKinds Proofs.Tryz.prog 4 81 = some [some .i64, some .i64, some .i64] := by kernel_rfl
theorem cells81 : Proofs.Tryz.prog.cellsOf 81 = 3 := by kernel_rfl
theorem reports_open {H0 : Type} {enc : TypeId × Value → H0} {w : World} {v : Value} {d : DataW H0} {ps : List MemPlace} (h : DataW.Trod enc Proofs.Tryz.prog w 0 (fun _ => true) true 72 v d ps) (hc : ∃ a n c, v = .slice a n c) :
    ∃ av reps, absV w v = some av ∧ RS (HW w) 3 av (List.map Rep.enc reps) := by
  obtain ⟨fuel, h⟩ := h
  obtain ⟨a, n, c, rfl⟩ := hc
  obtain ⟨av, rows, h1, h2, h3⟩ := open_flat Proofs.Tryz.underlying72 kinds81 cells81 (by decide) (show DataW.trod enc Proofs.Tryz.prog w 0 (fun _ => true) true fuel 72 [.slice a n c] = some (d, ps) from h)
  obtain ⟨reps, rfl⟩ := rows_reps rows h3
  exact ⟨av, reps, h1, h2⟩

/-- the law's call, wherever: calls of 'works' are taken by their answer -/
theorem matches_calls {callw : CallT} (hw : ∀ B, CallOK Proofs.Tryz.prog B callw) {h1 : H} (e0 : callw (.func 16) [] H.empty = some (.one (.bool true), h1)) {w : World} {v av : Value} {reps : List Rep}
    (ha : absV w v = some av) (r : RS (HW w) 3 av (List.map Rep.enc reps)) : Calls Proofs.Tryz.prog 9 #[v] w fun e w' => e = .returned (.bool true) ∧ Below w.heap.size w w' := by
  obtain ⟨h', e⟩ := matches_law 2000 0 (Nat.le_refl _) r
  exact law_calls tryz_names tryz_mixed (fun B => hookT_ok (fun B => CF_ok 2000 7 B) hw e0 B) e (.cons (.one (absV_ok ha)) .nil)
end Go.Wz

