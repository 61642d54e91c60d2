/- Scripts: a text that is wrong from a line on is wrong there, whatever stands behind that line. In plain Lean. -/
import Derived.Test.YtbjhikadmmolfaaDoorSE
set_option linter.unusedSectionVars false
set_option linter.unusedVariables false
set_option linter.unusedSimpArgs false
namespace Go.SP
open Go Go.Am
end Go.SP
