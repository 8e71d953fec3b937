/-
  No cell of these rows narrows 'for every input' (looked for: loops, veiled, ifaces, maps, wideKeys, modest, calm, conditions, laid).
  DERIVED. THE GIVEN ROWS OF THIS SEAT. 13 by the template 'for every input the law returns true; each argument reads behind the call as it read before'; 0 by the template 'total and deterministic' (their statements: YthgijppajindpaaTotals.lean).
  GIVEN WITH THE SEED: the statements are not yours to turn. If you find one false, say at which input.
  Laid BY PROGRAM, IN A SANDBOX (cutbox-rows.mjs): the forced cells as the released guide's own fill.sh prints them over the translation 6afcd8816741748a… (all of the seat's roots in one cut). By AI agents, Wed Nov 11 2026. No macro, syntax, notation, axiom, sorry.
-/
import Derived.Test.YthgijppajindpaaChecked
import GoSem.Claim
import GoSem.ClaimJoined
import GoSem.ClaimMapViews
import Derived.JoinedTies
import Derived.KernelRfl
namespace Go.Proofs.Ythgijppajindpaa
/- THE CELL 'sum', in the pinned program and in every row, IS THE sha256 OF THE DUMP (.gsa) THAT YthgijppajindpaaProg.lean LOADS. Nothing in Lean hashes anything: it is a label: what it is worth is what the hold of that sum in a sandbox is worth. -/
noncomputable def Try.pinned : Pinned := { name := "ythgijppajindpaa", sum := "6afcd8816741748a9acefd858b9d51ddf2a31160e709f8f60a5e8060633f8676", checked := Try.checked }
namespace Rows
def none {H : Type} : Left H := { results := [], args := [] }

/-- 'hanaperlaw07.PrefixLengths': WHATEVER THE INPUT: true; the input reads as it did. -/
def prefixLengthsSpec : ChangeSpec := { name := "prefixLengths", fn := fun _ => fun
  | [d1, d2] => { results := [.lit (.bool true)], args := [d1, d2] }
  | _ => none }
def prefixLengthsRow : OpenClaim := { program := "ythgijppajindpaa", sum := "6afcd8816741748a9acefd858b9d51ddf2a31160e709f8f60a5e8060633f8676", func := "hanaper/hanaperlaw07.PrefixLengths", spec := "prefixLengths", unfollowed := true, recurses := true, apart := false }
def PrefixLengthsSaid : Prop := prefixLengthsRow.holds Try.pinned (OpenSpec.ofChange prefixLengthsSpec)

/-- ITS FALSE NEIGHBOUR: 'it returns false'. Refute it at one input. -/
def prefixLengthsWrong : ChangeSpec := { name := "prefixLengths", fn := fun _ => fun
  | [d1, d2] => { results := [.lit (.bool false)], args := [d1, d2] }
  | _ => none }
def PrefixLengthsWrongFalsely : Prop := prefixLengthsRow.holds Try.pinned (OpenSpec.ofChange prefixLengthsWrong)

/-- 'hanaperlaw07.PrefixOrder': WHATEVER THE INPUT: true; the input reads as it did. -/
def prefixOrderSpec : ChangeSpec := { name := "prefixOrder", fn := fun _ => fun
  | [d] => { results := [.lit (.bool true)], args := [d] }
  | _ => none }
def prefixOrderRow : OpenClaim := { program := "ythgijppajindpaa", sum := "6afcd8816741748a9acefd858b9d51ddf2a31160e709f8f60a5e8060633f8676", func := "hanaper/hanaperlaw07.PrefixOrder", spec := "prefixOrder", unfollowed := true, recurses := true, apart := false }
def PrefixOrderSaid : Prop := prefixOrderRow.holds Try.pinned (OpenSpec.ofChange prefixOrderSpec)

/-- ITS FALSE NEIGHBOUR: 'it returns false'. Refute it at one input. -/
def prefixOrderWrong : ChangeSpec := { name := "prefixOrder", fn := fun _ => fun
  | [d] => { results := [.lit (.bool false)], args := [d] }
  | _ => none }
def PrefixOrderWrongFalsely : Prop := prefixOrderRow.holds Try.pinned (OpenSpec.ofChange prefixOrderWrong)

/-- 'hanaperlaw07.PrefixCodes': WHATEVER THE INPUT: true; the input reads as it did. -/
def prefixCodesSpec : ChangeSpec := { name := "prefixCodes", fn := fun _ => fun
  | [d] => { results := [.lit (.bool true)], args := [d] }
  | _ => none }
def prefixCodesRow : OpenClaim := { program := "ythgijppajindpaa", sum := "6afcd8816741748a9acefd858b9d51ddf2a31160e709f8f60a5e8060633f8676", func := "hanaper/hanaperlaw07.PrefixCodes", spec := "prefixCodes", unfollowed := true, recurses := true, apart := false }
def PrefixCodesSaid : Prop := prefixCodesRow.holds Try.pinned (OpenSpec.ofChange prefixCodesSpec)

/-- ITS FALSE NEIGHBOUR: 'it returns false'. Refute it at one input. -/
def prefixCodesWrong : ChangeSpec := { name := "prefixCodes", fn := fun _ => fun
  | [d] => { results := [.lit (.bool false)], args := [d] }
  | _ => none }
def PrefixCodesWrongFalsely : Prop := prefixCodesRow.holds Try.pinned (OpenSpec.ofChange prefixCodesWrong)

/-- 'hanaperlaw07.PrefixWhole': WHATEVER THE INPUT: true; the input reads as it did. -/
def prefixWholeSpec : ChangeSpec := { name := "prefixWhole", fn := fun _ => fun
  | [d1, d2] => { results := [.lit (.bool true)], args := [d1, d2] }
  | _ => none }
def prefixWholeRow : OpenClaim := { program := "ythgijppajindpaa", sum := "6afcd8816741748a9acefd858b9d51ddf2a31160e709f8f60a5e8060633f8676", func := "hanaper/hanaperlaw07.PrefixWhole", spec := "prefixWhole", unfollowed := true, recurses := true, apart := false }
def PrefixWholeSaid : Prop := prefixWholeRow.holds Try.pinned (OpenSpec.ofChange prefixWholeSpec)

/-- ITS FALSE NEIGHBOUR: 'it returns false'. Refute it at one input. -/
def prefixWholeWrong : ChangeSpec := { name := "prefixWhole", fn := fun _ => fun
  | [d1, d2] => { results := [.lit (.bool false)], args := [d1, d2] }
  | _ => none }
def PrefixWholeWrongFalsely : Prop := prefixWholeRow.holds Try.pinned (OpenSpec.ofChange prefixWholeWrong)

/-- 'hanaperlaw07.PrefixFree': WHATEVER THE INPUT: true; the input reads as it did. -/
def prefixFreeSpec : ChangeSpec := { name := "prefixFree", fn := fun _ => fun
  | [d] => { results := [.lit (.bool true)], args := [d] }
  | _ => none }
def prefixFreeRow : OpenClaim := { program := "ythgijppajindpaa", sum := "6afcd8816741748a9acefd858b9d51ddf2a31160e709f8f60a5e8060633f8676", func := "hanaper/hanaperlaw07.PrefixFree", spec := "prefixFree", unfollowed := true, recurses := true, apart := false }
def PrefixFreeSaid : Prop := prefixFreeRow.holds Try.pinned (OpenSpec.ofChange prefixFreeSpec)

/-- ITS FALSE NEIGHBOUR: 'it returns false'. Refute it at one input. -/
def prefixFreeWrong : ChangeSpec := { name := "prefixFree", fn := fun _ => fun
  | [d] => { results := [.lit (.bool false)], args := [d] }
  | _ => none }
def PrefixFreeWrongFalsely : Prop := prefixFreeRow.holds Try.pinned (OpenSpec.ofChange prefixFreeWrong)

/-- 'hanaperlaw07.PrefixNext': WHATEVER THE INPUT: true; the input reads as it did. -/
def prefixNextSpec : ChangeSpec := { name := "prefixNext", fn := fun _ => fun
  | [d1, d2] => { results := [.lit (.bool true)], args := [d1, d2] }
  | _ => none }
def prefixNextRow : OpenClaim := { program := "ythgijppajindpaa", sum := "6afcd8816741748a9acefd858b9d51ddf2a31160e709f8f60a5e8060633f8676", func := "hanaper/hanaperlaw07.PrefixNext", spec := "prefixNext", unfollowed := true, recurses := true, apart := false }
def PrefixNextSaid : Prop := prefixNextRow.holds Try.pinned (OpenSpec.ofChange prefixNextSpec)

/-- ITS FALSE NEIGHBOUR: 'it returns false'. Refute it at one input. -/
def prefixNextWrong : ChangeSpec := { name := "prefixNext", fn := fun _ => fun
  | [d1, d2] => { results := [.lit (.bool false)], args := [d1, d2] }
  | _ => none }
def PrefixNextWrongFalsely : Prop := prefixNextRow.holds Try.pinned (OpenSpec.ofChange prefixNextWrong)

/-- 'hanaperlaw07.PrefixBack': WHATEVER THE INPUT: true; the input reads as it did. -/
def prefixBackSpec : ChangeSpec := { name := "prefixBack", fn := fun _ => fun
  | [d1, d2] => { results := [.lit (.bool true)], args := [d1, d2] }
  | _ => none }
def prefixBackRow : OpenClaim := { program := "ythgijppajindpaa", sum := "6afcd8816741748a9acefd858b9d51ddf2a31160e709f8f60a5e8060633f8676", func := "hanaper/hanaperlaw07.PrefixBack", spec := "prefixBack", unfollowed := true, recurses := true, apart := false }
def PrefixBackSaid : Prop := prefixBackRow.holds Try.pinned (OpenSpec.ofChange prefixBackSpec)

/-- ITS FALSE NEIGHBOUR: 'it returns false'. Refute it at one input. -/
def prefixBackWrong : ChangeSpec := { name := "prefixBack", fn := fun _ => fun
  | [d1, d2] => { results := [.lit (.bool false)], args := [d1, d2] }
  | _ => none }
def PrefixBackWrongFalsely : Prop := prefixBackRow.holds Try.pinned (OpenSpec.ofChange prefixBackWrong)

/-- 'hanaperlaw09.SqueezeTells': WHATEVER THE INPUT: true; the input reads as it did. -/
def squeezeTellsSpec : ChangeSpec := { name := "squeezeTells", fn := fun _ => fun
  | [d] => { results := [.lit (.bool true)], args := [d] }
  | _ => none }
def squeezeTellsRow : OpenClaim := { program := "ythgijppajindpaa", sum := "6afcd8816741748a9acefd858b9d51ddf2a31160e709f8f60a5e8060633f8676", func := "hanaper/hanaperlaw09.SqueezeTells", spec := "squeezeTells", unfollowed := true, recurses := true, apart := false }
def SqueezeTellsSaid : Prop := squeezeTellsRow.holds Try.pinned (OpenSpec.ofChange squeezeTellsSpec)

/-- ITS FALSE NEIGHBOUR: 'it returns false'. Refute it at one input. -/
def squeezeTellsWrong : ChangeSpec := { name := "squeezeTells", fn := fun _ => fun
  | [d] => { results := [.lit (.bool false)], args := [d] }
  | _ => none }
def SqueezeTellsWrongFalsely : Prop := squeezeTellsRow.holds Try.pinned (OpenSpec.ofChange squeezeTellsWrong)

/-- 'hanaperlaw09.SqueezeBack': WHATEVER THE INPUT: true; the input reads as it did. -/
def squeezeBackSpec : ChangeSpec := { name := "squeezeBack", fn := fun _ => fun
  | [d1, d2] => { results := [.lit (.bool true)], args := [d1, d2] }
  | _ => none }
def squeezeBackRow : OpenClaim := { program := "ythgijppajindpaa", sum := "6afcd8816741748a9acefd858b9d51ddf2a31160e709f8f60a5e8060633f8676", func := "hanaper/hanaperlaw09.SqueezeBack", spec := "squeezeBack", unfollowed := true, recurses := true, apart := false }
def SqueezeBackSaid : Prop := squeezeBackRow.holds Try.pinned (OpenSpec.ofChange squeezeBackSpec)

/-- ITS FALSE NEIGHBOUR: 'it returns false'. Refute it at one input. -/
def squeezeBackWrong : ChangeSpec := { name := "squeezeBack", fn := fun _ => fun
  | [d1, d2] => { results := [.lit (.bool false)], args := [d1, d2] }
  | _ => none }
def SqueezeBackWrongFalsely : Prop := squeezeBackRow.holds Try.pinned (OpenSpec.ofChange squeezeBackWrong)

/-- 'hanaperlaw09.SqueezeCounts': WHATEVER THE INPUT: true; the input reads as it did. -/
def squeezeCountsSpec : ChangeSpec := { name := "squeezeCounts", fn := fun _ => fun
  | [d1, d2] => { results := [.lit (.bool true)], args := [d1, d2] }
  | _ => none }
def squeezeCountsRow : OpenClaim := { program := "ythgijppajindpaa", sum := "6afcd8816741748a9acefd858b9d51ddf2a31160e709f8f60a5e8060633f8676", func := "hanaper/hanaperlaw09.SqueezeCounts", spec := "squeezeCounts", unfollowed := true, recurses := true, apart := false }
def SqueezeCountsSaid : Prop := squeezeCountsRow.holds Try.pinned (OpenSpec.ofChange squeezeCountsSpec)

/-- ITS FALSE NEIGHBOUR: 'it returns false'. Refute it at one input. -/
def squeezeCountsWrong : ChangeSpec := { name := "squeezeCounts", fn := fun _ => fun
  | [d1, d2] => { results := [.lit (.bool false)], args := [d1, d2] }
  | _ => none }
def SqueezeCountsWrongFalsely : Prop := squeezeCountsRow.holds Try.pinned (OpenSpec.ofChange squeezeCountsWrong)

/-- 'hanaperlaw09.SqueezeCap': WHATEVER THE INPUT: true; the input reads as it did. -/
def squeezeCapSpec : ChangeSpec := { name := "squeezeCap", fn := fun _ => fun
  | [d1, d2] => { results := [.lit (.bool true)], args := [d1, d2] }
  | _ => none }
def squeezeCapRow : OpenClaim := { program := "ythgijppajindpaa", sum := "6afcd8816741748a9acefd858b9d51ddf2a31160e709f8f60a5e8060633f8676", func := "hanaper/hanaperlaw09.SqueezeCap", spec := "squeezeCap", unfollowed := true, recurses := true, apart := false }
def SqueezeCapSaid : Prop := squeezeCapRow.holds Try.pinned (OpenSpec.ofChange squeezeCapSpec)

/-- ITS FALSE NEIGHBOUR: 'it returns false'. Refute it at one input. -/
def squeezeCapWrong : ChangeSpec := { name := "squeezeCap", fn := fun _ => fun
  | [d1, d2] => { results := [.lit (.bool false)], args := [d1, d2] }
  | _ => none }
def SqueezeCapWrongFalsely : Prop := squeezeCapRow.holds Try.pinned (OpenSpec.ofChange squeezeCapWrong)

/-- 'hanaperlaw09.SqueezeFew': WHATEVER THE INPUT: true; the input reads as it did. -/
def squeezeFewSpec : ChangeSpec := { name := "squeezeFew", fn := fun _ => fun
  | [d1, d2] => { results := [.lit (.bool true)], args := [d1, d2] }
  | _ => none }
def squeezeFewRow : OpenClaim := { program := "ythgijppajindpaa", sum := "6afcd8816741748a9acefd858b9d51ddf2a31160e709f8f60a5e8060633f8676", func := "hanaper/hanaperlaw09.SqueezeFew", spec := "squeezeFew", unfollowed := true, recurses := true, apart := false }
def SqueezeFewSaid : Prop := squeezeFewRow.holds Try.pinned (OpenSpec.ofChange squeezeFewSpec)

/-- ITS FALSE NEIGHBOUR: 'it returns false'. Refute it at one input. -/
def squeezeFewWrong : ChangeSpec := { name := "squeezeFew", fn := fun _ => fun
  | [d1, d2] => { results := [.lit (.bool false)], args := [d1, d2] }
  | _ => none }
def SqueezeFewWrongFalsely : Prop := squeezeFewRow.holds Try.pinned (OpenSpec.ofChange squeezeFewWrong)

/-- 'hanaperlaw09.SqueezeMore': WHATEVER THE INPUT: true; the input reads as it did. -/
def squeezeMoreSpec : ChangeSpec := { name := "squeezeMore", fn := fun _ => fun
  | [d1, d2, d3] => { results := [.lit (.bool true)], args := [d1, d2, d3] }
  | _ => none }
def squeezeMoreRow : OpenClaim := { program := "ythgijppajindpaa", sum := "6afcd8816741748a9acefd858b9d51ddf2a31160e709f8f60a5e8060633f8676", func := "hanaper/hanaperlaw09.SqueezeMore", spec := "squeezeMore", unfollowed := true, recurses := true, apart := false }
def SqueezeMoreSaid : Prop := squeezeMoreRow.holds Try.pinned (OpenSpec.ofChange squeezeMoreSpec)

/-- ITS FALSE NEIGHBOUR: 'it returns false'. Refute it at one input. -/
def squeezeMoreWrong : ChangeSpec := { name := "squeezeMore", fn := fun _ => fun
  | [d1, d2, d3] => { results := [.lit (.bool false)], args := [d1, d2, d3] }
  | _ => none }
def SqueezeMoreWrongFalsely : Prop := squeezeMoreRow.holds Try.pinned (OpenSpec.ofChange squeezeMoreWrong)

/- THE SECOND FORM. 'bulk': how many values and letters a reading holds, each counted each time it is reached (what is shared counts as often as it is met; a slice's spare places count too). A statement '..UptoSaid' is the law's where the arguments, and the package variables that the reading takes, are together of bulk at most 1048576: NARROWER than '..Said'. Prove '..Said' where nothing that the law and all that it calls make is longer than what came in: it says more and counts as full. Else prove '..UptoSaid'. A law counts once. -/
mutual
def uptoBulk {H : Type} : DataW H → Nat
  | .lit (.string bytes) => bytes.length + 1
  | .lit _ => 1
  | .nil => 1
  | .ptr d => uptoBulk d + 1
  | .slice elems spare => uptoBulkAll elems + uptoBulkAll spare + 1
  | .agg parts => uptoBulkAll parts + 1
  | .iface _ d => uptoBulk d + 1
  | .map entries => uptoBulkEntries entries + 1
  | .held _ => 1
def uptoBulkAll {H : Type} : List (DataW H) → Nat
  | [] => 0
  | d :: r => uptoBulk d + uptoBulkAll r
def uptoBulkEntries {H : Type} : List (Lit × DataW H) → Nat
  | [] => 0
  | x :: r => uptoBulkEntry x + uptoBulkEntries r
def uptoBulkEntry {H : Type} : Lit × DataW H → Nat
  | (.string bytes, d) => bytes.length + uptoBulk d + 1
  | (_, d) => uptoBulk d + 1
 end
def uptoSmall : (H : Type) → List (DataW H) → Bool := fun _ ds => decide (uptoBulkAll ds ≤ 1048576)
def OpenSpec.upto (s : _root_.Go.ChangeSpec) : _root_.Go.OpenSpec := { _root_.Go.OpenSpec.ofChange s with cond := some uptoSmall }

/-- 'hanaperlaw07.PrefixLengths', WHERE WHAT IT READS IS OF BULK AT MOST 1048576: true; the input reads as it did. -/
def prefixLengthsUptoRow : OpenClaim := { program := "ythgijppajindpaa", sum := "6afcd8816741748a9acefd858b9d51ddf2a31160e709f8f60a5e8060633f8676", func := "hanaper/hanaperlaw07.PrefixLengths", spec := "prefixLengths", unfollowed := true, recurses := true, apart := false, narrowed := true }
def PrefixLengthsUptoSaid : Prop := prefixLengthsUptoRow.holds Try.pinned (OpenSpec.upto prefixLengthsSpec)

/-- 'hanaperlaw07.PrefixOrder', WHERE WHAT IT READS IS OF BULK AT MOST 1048576: true; the input reads as it did. -/
def prefixOrderUptoRow : OpenClaim := { program := "ythgijppajindpaa", sum := "6afcd8816741748a9acefd858b9d51ddf2a31160e709f8f60a5e8060633f8676", func := "hanaper/hanaperlaw07.PrefixOrder", spec := "prefixOrder", unfollowed := true, recurses := true, apart := false, narrowed := true }
def PrefixOrderUptoSaid : Prop := prefixOrderUptoRow.holds Try.pinned (OpenSpec.upto prefixOrderSpec)

/-- 'hanaperlaw07.PrefixCodes', WHERE WHAT IT READS IS OF BULK AT MOST 1048576: true; the input reads as it did. -/
def prefixCodesUptoRow : OpenClaim := { program := "ythgijppajindpaa", sum := "6afcd8816741748a9acefd858b9d51ddf2a31160e709f8f60a5e8060633f8676", func := "hanaper/hanaperlaw07.PrefixCodes", spec := "prefixCodes", unfollowed := true, recurses := true, apart := false, narrowed := true }
def PrefixCodesUptoSaid : Prop := prefixCodesUptoRow.holds Try.pinned (OpenSpec.upto prefixCodesSpec)

/-- 'hanaperlaw07.PrefixWhole', WHERE WHAT IT READS IS OF BULK AT MOST 1048576: true; the input reads as it did. -/
def prefixWholeUptoRow : OpenClaim := { program := "ythgijppajindpaa", sum := "6afcd8816741748a9acefd858b9d51ddf2a31160e709f8f60a5e8060633f8676", func := "hanaper/hanaperlaw07.PrefixWhole", spec := "prefixWhole", unfollowed := true, recurses := true, apart := false, narrowed := true }
def PrefixWholeUptoSaid : Prop := prefixWholeUptoRow.holds Try.pinned (OpenSpec.upto prefixWholeSpec)

/-- 'hanaperlaw07.PrefixFree', WHERE WHAT IT READS IS OF BULK AT MOST 1048576: true; the input reads as it did. -/
def prefixFreeUptoRow : OpenClaim := { program := "ythgijppajindpaa", sum := "6afcd8816741748a9acefd858b9d51ddf2a31160e709f8f60a5e8060633f8676", func := "hanaper/hanaperlaw07.PrefixFree", spec := "prefixFree", unfollowed := true, recurses := true, apart := false, narrowed := true }
def PrefixFreeUptoSaid : Prop := prefixFreeUptoRow.holds Try.pinned (OpenSpec.upto prefixFreeSpec)

/-- 'hanaperlaw07.PrefixNext', WHERE WHAT IT READS IS OF BULK AT MOST 1048576: true; the input reads as it did. -/
def prefixNextUptoRow : OpenClaim := { program := "ythgijppajindpaa", sum := "6afcd8816741748a9acefd858b9d51ddf2a31160e709f8f60a5e8060633f8676", func := "hanaper/hanaperlaw07.PrefixNext", spec := "prefixNext", unfollowed := true, recurses := true, apart := false, narrowed := true }
def PrefixNextUptoSaid : Prop := prefixNextUptoRow.holds Try.pinned (OpenSpec.upto prefixNextSpec)

/-- 'hanaperlaw07.PrefixBack', WHERE WHAT IT READS IS OF BULK AT MOST 1048576: true; the input reads as it did. -/
def prefixBackUptoRow : OpenClaim := { program := "ythgijppajindpaa", sum := "6afcd8816741748a9acefd858b9d51ddf2a31160e709f8f60a5e8060633f8676", func := "hanaper/hanaperlaw07.PrefixBack", spec := "prefixBack", unfollowed := true, recurses := true, apart := false, narrowed := true }
def PrefixBackUptoSaid : Prop := prefixBackUptoRow.holds Try.pinned (OpenSpec.upto prefixBackSpec)

/-- 'hanaperlaw09.SqueezeTells', WHERE WHAT IT READS IS OF BULK AT MOST 1048576: true; the input reads as it did. -/
def squeezeTellsUptoRow : OpenClaim := { program := "ythgijppajindpaa", sum := "6afcd8816741748a9acefd858b9d51ddf2a31160e709f8f60a5e8060633f8676", func := "hanaper/hanaperlaw09.SqueezeTells", spec := "squeezeTells", unfollowed := true, recurses := true, apart := false, narrowed := true }
def SqueezeTellsUptoSaid : Prop := squeezeTellsUptoRow.holds Try.pinned (OpenSpec.upto squeezeTellsSpec)

/-- 'hanaperlaw09.SqueezeBack', WHERE WHAT IT READS IS OF BULK AT MOST 1048576: true; the input reads as it did. -/
def squeezeBackUptoRow : OpenClaim := { program := "ythgijppajindpaa", sum := "6afcd8816741748a9acefd858b9d51ddf2a31160e709f8f60a5e8060633f8676", func := "hanaper/hanaperlaw09.SqueezeBack", spec := "squeezeBack", unfollowed := true, recurses := true, apart := false, narrowed := true }
def SqueezeBackUptoSaid : Prop := squeezeBackUptoRow.holds Try.pinned (OpenSpec.upto squeezeBackSpec)

/-- 'hanaperlaw09.SqueezeCounts', WHERE WHAT IT READS IS OF BULK AT MOST 1048576: true; the input reads as it did. -/
def squeezeCountsUptoRow : OpenClaim := { program := "ythgijppajindpaa", sum := "6afcd8816741748a9acefd858b9d51ddf2a31160e709f8f60a5e8060633f8676", func := "hanaper/hanaperlaw09.SqueezeCounts", spec := "squeezeCounts", unfollowed := true, recurses := true, apart := false, narrowed := true }
def SqueezeCountsUptoSaid : Prop := squeezeCountsUptoRow.holds Try.pinned (OpenSpec.upto squeezeCountsSpec)

/-- 'hanaperlaw09.SqueezeCap', WHERE WHAT IT READS IS OF BULK AT MOST 1048576: true; the input reads as it did. -/
def squeezeCapUptoRow : OpenClaim := { program := "ythgijppajindpaa", sum := "6afcd8816741748a9acefd858b9d51ddf2a31160e709f8f60a5e8060633f8676", func := "hanaper/hanaperlaw09.SqueezeCap", spec := "squeezeCap", unfollowed := true, recurses := true, apart := false, narrowed := true }
def SqueezeCapUptoSaid : Prop := squeezeCapUptoRow.holds Try.pinned (OpenSpec.upto squeezeCapSpec)

/-- 'hanaperlaw09.SqueezeFew', WHERE WHAT IT READS IS OF BULK AT MOST 1048576: true; the input reads as it did. -/
def squeezeFewUptoRow : OpenClaim := { program := "ythgijppajindpaa", sum := "6afcd8816741748a9acefd858b9d51ddf2a31160e709f8f60a5e8060633f8676", func := "hanaper/hanaperlaw09.SqueezeFew", spec := "squeezeFew", unfollowed := true, recurses := true, apart := false, narrowed := true }
def SqueezeFewUptoSaid : Prop := squeezeFewUptoRow.holds Try.pinned (OpenSpec.upto squeezeFewSpec)

/-- 'hanaperlaw09.SqueezeMore', WHERE WHAT IT READS IS OF BULK AT MOST 1048576: true; the input reads as it did. -/
def squeezeMoreUptoRow : OpenClaim := { program := "ythgijppajindpaa", sum := "6afcd8816741748a9acefd858b9d51ddf2a31160e709f8f60a5e8060633f8676", func := "hanaper/hanaperlaw09.SqueezeMore", spec := "squeezeMore", unfollowed := true, recurses := true, apart := false, narrowed := true }
def SqueezeMoreUptoSaid : Prop := squeezeMoreUptoRow.holds Try.pinned (OpenSpec.upto squeezeMoreSpec)

end Rows
end Go.Proofs.Ythgijppajindpaa
