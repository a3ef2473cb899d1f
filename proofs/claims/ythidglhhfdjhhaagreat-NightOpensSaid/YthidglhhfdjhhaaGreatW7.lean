/- The first eleven ticks in the example of works(). -/
import Derived.Test.YthidglhhfdjhhaaGreatWB
set_option linter.unusedSimpArgs false
set_option linter.unusedVariables false
set_option maxRecDepth 100000
namespace Go.Wz
open Go
theorem tick0 (M : Nat) (go : List SV → H → Option X) : B76_2 (C76 M) (M + 10 + 10) go (ptr 423 0) (hk M 0) = go [.one (ptr 423 0)] (hk M (0 + 1)) := by kernel_rfl
theorem tick1 (M : Nat) (go : List SV → H → Option X) : B76_2 (C76 M) (M + 10 + 10) go (ptr 423 0) (hk M 1) = go [.one (ptr 423 0)] (hk M (1 + 1)) := by kernel_rfl
theorem tick2 (M : Nat) (go : List SV → H → Option X) : B76_2 (C76 M) (M + 10 + 10) go (ptr 423 0) (hk M 2) = go [.one (ptr 423 0)] (hk M (2 + 1)) := by kernel_rfl
theorem tick3 (M : Nat) (go : List SV → H → Option X) : B76_2 (C76 M) (M + 10 + 10) go (ptr 423 0) (hk M 3) = go [.one (ptr 423 0)] (hk M (3 + 1)) := by kernel_rfl
theorem tick4 (M : Nat) (go : List SV → H → Option X) : B76_2 (C76 M) (M + 10 + 10) go (ptr 423 0) (hk M 4) = go [.one (ptr 423 0)] (hk M (4 + 1)) := by kernel_rfl
theorem tick5 (M : Nat) (go : List SV → H → Option X) : B76_2 (C76 M) (M + 10 + 10) go (ptr 423 0) (hk M 5) = go [.one (ptr 423 0)] (hk M (5 + 1)) := by kernel_rfl
theorem tick6 (M : Nat) (go : List SV → H → Option X) : B76_2 (C76 M) (M + 10 + 10) go (ptr 423 0) (hk M 6) = go [.one (ptr 423 0)] (hk M (6 + 1)) := by kernel_rfl
theorem tick7 (M : Nat) (go : List SV → H → Option X) : B76_2 (C76 M) (M + 10 + 10) go (ptr 423 0) (hk M 7) = go [.one (ptr 423 0)] (hk M (7 + 1)) := by kernel_rfl
theorem tick8 (M : Nat) (go : List SV → H → Option X) : B76_2 (C76 M) (M + 10 + 10) go (ptr 423 0) (hk M 8) = go [.one (ptr 423 0)] (hk M (8 + 1)) := by kernel_rfl
theorem tick9 (M : Nat) (go : List SV → H → Option X) : B76_2 (C76 M) (M + 10 + 10) go (ptr 423 0) (hk M 9) = go [.one (ptr 423 0)] (hk M (9 + 1)) := by kernel_rfl
theorem tick10 (M : Nat) (go : List SV → H → Option X) : B76_2 (C76 M) (M + 10 + 10) go (ptr 423 0) (hk M 10) = go [.one (ptr 423 0)] h11 := by kernel_rfl
theorem ticks11 (M m : Nat) : LP76_2 (C76 M) (M + 10 + 10) (m + 11) [.one (ptr 423 0)] (hk M 0) = LP76_2 (C76 M) (M + 10 + 10) m [.one (ptr 423 0)] h11 := by
  rw [show m + 11 = (m + 10) + 1 from rfl, LP76_2_succ, tick0]
  rw [show m + 10 = (m + 9) + 1 from rfl, LP76_2_succ, tick1]
  rw [show m + 9 = (m + 8) + 1 from rfl, LP76_2_succ, tick2]
  rw [show m + 8 = (m + 7) + 1 from rfl, LP76_2_succ, tick3]
  rw [show m + 7 = (m + 6) + 1 from rfl, LP76_2_succ, tick4]
  rw [show m + 6 = (m + 5) + 1 from rfl, LP76_2_succ, tick5]
  rw [show m + 5 = (m + 4) + 1 from rfl, LP76_2_succ, tick6]
  rw [show m + 4 = (m + 3) + 1 from rfl, LP76_2_succ, tick7]
  rw [show m + 3 = (m + 2) + 1 from rfl, LP76_2_succ, tick8]
  rw [show m + 2 = (m + 1) + 1 from rfl, LP76_2_succ, tick9]
  rw [LP76_2_succ, tick10]
end Go.Wz
