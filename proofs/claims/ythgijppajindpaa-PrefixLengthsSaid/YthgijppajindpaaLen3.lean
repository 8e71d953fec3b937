/-
  prefix.Lengths in the print's form of a contract: it hands back the document's lengths, or its error.
-/
import Derived.Test.YthgijppajindpaaLen2
set_option linter.unusedVariables false
namespace Go.Proofs.Ythgijppajindpaa
open Go.RowKit Go.Proofs.YthgijppajindpaaW.PrintWords

def prefix_Lengths.f (l0 : List Int) (a1 : Int) : Option (List Int × Int) := some (Lens l0 a1)

theorem prefix_Lengths.calls (A0 : Option Addr) (c0 : Nat) (l0 : List Int) (a1 : Int) (r1 : List Int) (r2 : Int) (w : World) (hr0 : Kd.C (Kd.int .i64) w A0 l0.length l0) (hc0 : l0.length ≤ c0) (h : prefix_Lengths.f l0 a1 = some (r1, r2)) :
    Calls Try.prog 17 #[.slice A0 l0.length c0, .int .i64 a1] w fun e w' => ∃ v0_ : Value, e = .returned (.tuple #[v0_, .int .i64 r2]) ∧ Kd.R (Kd.int .i64) 3 w' w.heap.size (fun _ => True) v0_ r1 ∧ Below w.heap.size w w' := by
  have e : Lens l0 a1 = (r1, r2) := Option.some.inj h
  have h1 := lengths_calls A0 l0.length c0 l0 a1 w rfl (reads_ints hr0).2
  rw [e] at h1
  exact h1

end Go.Proofs.Ythgijppajindpaa
