/-
  The check that stands in each statement of the layer comes to true.
-/
import Derived.Test.YthgijppajindpaaL7x1
import Derived.Test.YthgijppajindpaaL7x2
import Derived.Test.YthgijppajindpaaDpth
namespace Go.Proofs.Ythgijppajindpaa
open Go.RowKit Go.Proofs.Ythgijppajindpaa.L7 Go.Proofs.YthgijppajindpaaW.PrintWords Go.Proofs.YthgijppajindpaaW.PrintLast

theorem same_loop (xs : List Int) (hx : xs.length < 1000000) (d : Nat) : ∀ j, j + d = xs.length → Ev fun k => hanaperlaw07_same.l0 k xs xs (j : Int) = some true := by
  induction d with
  | zero =>
    intro j hj
    refine Ev.one fun k => ?_
    rw [hanaperlaw07_same.l0, if_neg (by omega)]
  | succ d ih =>
    intro j hj
    have hw : wrap64 ((j : Int) + 1) = ((j + 1 : Nat) : Int) := by rw [w64 (by omega)]; rfl
    refine (ih (j + 1) (by omega)).succ fun k hk => ?_
    rw [hanaperlaw07_same.l0, if_pos (by omega), if_pos (by omega), if_pos (by omega), if_pos rfl, hw]
    exact hk

theorem same_ev (xs : List Int) (hx : xs.length < 1000000) : Ev fun k => hanaperlaw07_same.f k xs xs = some true := by
  refine (same_loop xs hx xs.length 0 (by omega)).imp fun k hk => ?_
  rw [hanaperlaw07_same.f, if_pos rfl]
  exact hk

theorem length_lens (k : Int) : ∀ (n : Nat) (l : List Int), (lens n k l).length = l.length
  | 0, l => length_dpt l
  | n + 1, l => by
    rw [lens]
    split
    · exact length_dpt l
    · rw [length_lens k n, length_halve]

theorem length_Lens (l : List Int) (k : Int) : (Lens l k).1.length ≤ 300 := by
  rw [Lens]
  split
  · rename_i h
    rw [length_lens]; exact h.1
  · simp

theorem shown_lens : Lens [1, 1, 2] 15 = ([2, 2, 1], 0) := by decide +kernel

theorem shown_ev : Ev fun k => hanaperlaw07_shown.f k = some true := by
  refine (same_ev [2, 2, 1] (by decide)).imp fun k hk => ?_
  rw [hanaperlaw07_shown.f, prefix_Lengths.f, shown_lens, Option.bind_some, hk, Option.bind_some, if_pos rfl]
  rfl

end Go.Proofs.Ythgijppajindpaa
