/-
  ConnectKnown, worked out.
-/
import Derived.Test.YtoinombhonbibaaGreatDoorAeK4
set_option linter.unusedSimpArgs false
set_option linter.unusedVariables false
set_option linter.unusedSectionVars false
set_option maxRecDepth 100000
namespace Go.AE
theorem known_run : wpB tabB1 (nat_lit 10000000) (.call 5 [] heap0 isTB) = true := by kernel_rfl
end Go.AE
