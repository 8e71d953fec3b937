/-
  squeeze.Squeeze and squeeze.Expand in the print's form of a contract.
-/
import Derived.Test.YthgijppajindpaaSqzs
import Derived.Test.YthgijppajindpaaExps
set_option linter.unusedVariables false
set_option linter.unusedSimpArgs false
namespace Go.Proofs.Ythgijppajindpaa
open Go.RowKit Go.Proofs.YthgijppajindpaaW.PrintWords Go.Proofs.Ythgijppajindpaa.K7

def squeeze_Squeeze.f (a0 : ByteArray) : Option (ByteArray × Int) := some (Sqz a0)
def squeeze_Expand.f (a0 : ByteArray) (a1 : Int) : Option (ByteArray × Int) := if a0.size ≤ 1000000 then ExpR a0 a1 100000 else none

theorem squeeze_Squeeze.calls (a0 : ByteArray) (r1 : ByteArray) (r2 : Int) (w : World) (h : squeeze_Squeeze.f a0 = some (r1, r2)) :
    Calls Try.prog 32 #[.string a0] w fun e w' => e = .returned (.tuple #[.string r1, .int .i64 r2]) ∧ Below w.heap.size w w' := by
  have e : Sqz a0 = (r1, r2) := Option.some.inj h
  have h1 := squeeze_calls a0 w
  rw [e] at h1
  exact h1

theorem squeeze_Expand.calls (a0 : ByteArray) (a1 : Int) (r1 : ByteArray) (r2 : Int) (w : World) (h : squeeze_Expand.f a0 a1 = some (r1, r2)) :
    Calls Try.prog 34 #[.string a0, .int .i64 a1] w fun e w' => e = .returned (.tuple #[.string r1, .int .i64 r2]) ∧ Below w.heap.size w w' := by
  unfold squeeze_Expand.f at h
  split at h
  · rename_i hs
    exact expand_calls a0 a1 100000 (r1, r2) w hs (by decide) h
  · cases h

end Go.Proofs.Ythgijppajindpaa
