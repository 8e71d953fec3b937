/- Printed by this session's own copy of the printer: a part of the machine's side of the statements, beside functions that are proved by hand; on no condition. -/
import Derived.Test.YthgijppajindpaaProg
import Derived.Below
import Derived.Deep.Draws
import Derived.Deep.AppendLies
import Derived.Maps.AppendAt
import Derived.OwnWalk
import Derived.Laws.BytesArg
import Derived.Laws.MakeOwn
import Derived.Laws.OwnMore
import Derived.Deep.OwnRows
import Derived.Tactics
import Derived.Lib.ConvBytes
import Derived.Laws.Slices
import Derived.WalkKit
import Derived.KernelRfl
import Derived.RowKit3
import Derived.Deep.LoopGhost
import Derived.Deep.QuietTactic
import Derived.BigQuiet
import Derived.WideLaws
import Derived.Deep.DeepCutAuto
import Derived.Deep.CutBlock
import Derived.Deep.RegionHeld3
import Derived.Laws.Rows
import Derived.Lib.AppendStr
import Derived.ArgAppend
import Derived.Laws.IdiomCopy
import Derived.OrdersHeld
import Derived.Laws.BitsLemmas
import Derived.RowKit
import Derived.Test.YthgijppajindpaaWWords
import Derived.Test.YthgijppajindpaaWLast
import Derived.Test.YthgijppajindpaaWTab
import Derived.Test.YthgijppajindpaaWFour
import Derived.Test.YthgijppajindpaaWQPut
import Derived.Test.YthgijppajindpaaWApart
import Derived.Test.YthgijppajindpaaWArr
import Derived.Test.YthgijppajindpaaWZeros
import Derived.Test.YthgijppajindpaaWFoot
import Derived.Test.YthgijppajindpaaWKept
import Derived.Test.YthgijppajindpaaWShare
import Derived.Test.YthgijppajindpaaWN
import Derived.Test.YthgijppajindpaaWFootNe
import Derived.Test.YthgijppajindpaaWAt
import Derived.Test.YthgijppajindpaaWEqStruct
import Derived.Test.YthgijppajindpaaWRepsOne
import Derived.Test.YthgijppajindpaaWInv
import Derived.Test.YthgijppajindpaaWInvWords
import Derived.Test.YthgijppajindpaaWGuard
import Derived.Test.YthgijppajindpaaWNEv
import Derived.Test.YthgijppajindpaaWMore
namespace Go.Proofs.Ythgijppajindpaa.Q9
open Go.RowKit Go.Proofs.YthgijppajindpaaW.PrintWords Go.Proofs.YthgijppajindpaaW.PrintLast Go.Proofs.YthgijppajindpaaW.PrintMore
attribute [local go_sem] max2_int min2_int max_two min_two max_three min_three max_four min_four   -- for this text's walks alone
set_option linter.unusedVariables false
set_option linter.unusedSimpArgs false



def errW : Option Int → Value
  | none => .nilIface
  | some c => .iface 0 (.int .i64 c)
theorem errW_none : errW none = .nilIface := rfl
theorem errW_some (c : Int) : errW (some c) = .iface 0 (.int .i64 c) := rfl

theorem info5 : (Try.prog.info? 5).map (fun i => (i.zero, i.size, i.bytes)) = some (some (.int .u8 0), 1, 1) := by kernel_rfl
-- the values' own types

end Go.Proofs.Ythgijppajindpaa.Q9
