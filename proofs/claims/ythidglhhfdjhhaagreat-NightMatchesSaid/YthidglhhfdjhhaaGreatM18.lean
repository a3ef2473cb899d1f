/- NightMatches, the row: proved. -/
import Derived.Test.YthidglhhfdjhhaaGreatM17
import Derived.Test.YthidglhhfdjhhaaGreatW8
set_option linter.unusedSimpArgs false
set_option linter.unusedVariables false
namespace Go.Proofs.YthidglhhfdjhhaaGreat
open Go.Wz

theorem nightMatches.said : Rows.NightMatchesSaid := nightMatches.over callW_ok works_c
end Go.Proofs.YthidglhhfdjhhaaGreat
