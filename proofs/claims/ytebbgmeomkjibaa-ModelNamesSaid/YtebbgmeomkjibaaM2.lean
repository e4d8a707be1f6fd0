/- ModelNames: it runs, and it is so. -/
import Derived.Test.YtebbgmeomkjibaaM1
set_option linter.unusedSimpArgs false
set_option linter.unusedVariables false
namespace Go.Proofs.Ytebbgmeomkjibaa
open Go.AM
theorem names_run : callN Try.prog polN 60 3 [] [] = some (.ret (.bool true), []) := by kernel_rfl
theorem names_law : callW Try.prog polN 3 [] [] = some (.ret (.bool true), []) := callW_some.2 ⟨60, names_run⟩
end Go.Proofs.Ytebbgmeomkjibaa
