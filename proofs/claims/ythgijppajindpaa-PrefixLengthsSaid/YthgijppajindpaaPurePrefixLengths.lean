/-
  PrefixLengths, its one pure statement: for any frequencies and any limit the law's function comes to true.
-/
import Derived.Test.YthgijppajindpaaL7x7
import Derived.Test.YthgijppajindpaaRef3
namespace Go.Proofs.Ythgijppajindpaa
open Go.RowKit Go.Proofs.Ythgijppajindpaa.L7 Go.Proofs.YthgijppajindpaaW.PrintWords Go.Proofs.YthgijppajindpaaW.PrintLast

theorem same_loop (xs : List Int) (hx : xs.length < 1000000) (d : Nat) : ∀ j, j + d = xs.length → Ev fun k => hanaperlaw07_same.l0 k xs xs (j : Int) = some true := by
  induction d with
  | zero =>
    intro j hj
    refine Ev.one fun k => ?_
    rw [hanaperlaw07_same.l0, if_neg (by omega)]
  | succ d ih =>
    intro j hj
    have hw : wrap64 ((j : Int) + 1) = ((j + 1 : Nat) : Int) := by rw [w64 (by omega)]; rfl
    refine (ih (j + 1) (by omega)).succ fun k hk => ?_
    rw [hanaperlaw07_same.l0, if_pos (by omega), if_pos (by omega), if_pos (by omega), if_pos rfl, hw]
    exact hk

theorem same_ev (xs : List Int) (hx : xs.length < 1000000) : Ev fun k => hanaperlaw07_same.f k xs xs = some true := by
  refine (same_loop xs hx xs.length 0 (by omega)).imp fun k hk => ?_
  rw [hanaperlaw07_same.f, if_pos rfl]
  exact hk

theorem length_lens (k : Int) : ∀ (n : Nat) (l : List Int), (lens n k l).length = l.length
  | 0, l => length_dpt l
  | n + 1, l => by
    rw [lens]
    split
    · exact length_dpt l
    · rw [length_lens k n, length_halve]

theorem length_Lens (l : List Int) (k : Int) : (Lens l k).1.length ≤ 300 := by
  rw [Lens]
  split
  · rename_i h
    rw [length_lens]; exact h.1
  · simp

theorem shown_lens : Lens [1, 1, 2] 15 = ([2, 2, 1], 0) := by decide +kernel

theorem shown_ev : Ev fun k => hanaperlaw07_shown.f k = some true := by
  refine (same_ev [2, 2, 1] (by decide)).imp fun k hk => ?_
  rw [hanaperlaw07_shown.f, prefix_Lengths.f, shown_lens, Option.bind_some, hk, Option.bind_some, if_pos rfl]
  rfl

namespace Pure

theorem PrefixLengths : hanaperlaw07_PrefixLengths.Pure := by
  intro l0 a1 _ _ _ _
  refine Ev.ex ?_
  by_cases h : l0.length ≤ 310
  · have h1 : Ev fun k => hanaperlaw07_PrefixLengths.j0 k l0 a1 false = some true := by
      refine ((ref_Lengths l0 a1).and (same_ev (Lens l0 a1).1 (by have := length_Lens l0 a1; omega))).succ fun k hk => ?_
      rw [hanaperlaw07_PrefixLengths.j0, if_neg (by decide), prefix_Lengths.f, Option.bind_some, hk.1, Option.bind_some, hk.2, Option.bind_some, if_pos rfl]
      simp
    refine (shown_ev.and h1).imp fun k hk => ?_
    rw [hanaperlaw07_PrefixLengths.f, if_neg (by omega), hk.1, Option.bind_some]
    exact hk.2
  · have h1 : Ev fun k => hanaperlaw07_PrefixLengths.j0 k l0 a1 true = some true := by
      refine shown_ev.succ fun k hk => ?_
      rw [hanaperlaw07_PrefixLengths.j0, if_pos rfl, hk, Option.bind_some]
    refine h1.imp fun k hk => ?_
    rw [hanaperlaw07_PrefixLengths.f, if_pos (by omega)]
    exact hk

end Pure

end Go.Proofs.Ythgijppajindpaa
