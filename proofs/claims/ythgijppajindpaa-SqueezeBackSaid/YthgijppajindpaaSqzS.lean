/-
  The law's own small case, reckoned.
-/
import Derived.Test.YthgijppajindpaaQ9x1
set_option linter.unusedVariables false
namespace Go.Proofs.Ythgijppajindpaa
open Go.RowKit Go.Proofs.YthgijppajindpaaW.PrintWords Go.Proofs.Ythgijppajindpaa.K7 Go.Proofs.Ythgijppajindpaa.Q9

theorem shown9 : hanaperlaw09_shown.f = some true := by decide +kernel

end Go.Proofs.Ythgijppajindpaa
