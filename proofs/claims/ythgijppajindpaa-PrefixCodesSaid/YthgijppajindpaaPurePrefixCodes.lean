/-
  PrefixCodes, its one pure statement: for any lengths the law's function comes to true.
-/
import Derived.Test.YthgijppajindpaaKrf2
import Derived.Test.YthgijppajindpaaK7x8
namespace Go.Proofs.Ythgijppajindpaa
open Go.RowKit Go.Proofs.Ythgijppajindpaa.K7 Go.Proofs.YthgijppajindpaaW.PrintWords Go.Proofs.YthgijppajindpaaW.PrintLast

theorem codesLaw_loop (l : List Int) (n : Nat) (hn : n < 1000000) (d : Nat) : ∀ j, j + d = n →
    Ev fun k => hanaperlaw07_PrefixCodes.l0 k ((List.range n).map (P42 l)) ((List.range n).map (P41 l)) (j : Int) = some true := by
  induction d with
  | zero =>
    intro j hj
    refine Ev.one fun k => ?_
    rw [hanaperlaw07_PrefixCodes.l0, if_neg (by simp; omega)]
  | succ d ih =>
    intro j hj
    have hw : wrap64 ((j : Int) + 1) = ((j + 1 : Nat) : Int) := by rw [w64 (by omega)]; rfl
    refine (ih (j + 1) (by omega)).succ fun k hk => ?_
    have e1 : rd_T42 ((List.range n).map (P42 l)) (j : Int) = P42 l j := by
      unfold rd_T42
      rw [Int.toNat_natCast, List.getD_eq_getElem?_getD, List.getElem?_map, List.getElem?_range (by omega)]
      rfl
    have e2 : rd_T41 ((List.range n).map (P41 l)) (j : Int) = P41 l j := by
      unfold rd_T41
      rw [Int.toNat_natCast, List.getD_eq_getElem?_getD, List.getElem?_map, List.getElem?_range (by omega)]
      rfl
    rw [hanaperlaw07_PrefixCodes.l0, if_pos (by simp; omega), if_pos (by omega), if_pos (by simp; omega), e1, e2, if_neg (by simp [P41, P42]), hw]
    exact hk

namespace Pure

theorem PrefixCodes : hanaperlaw07_PrefixCodes.Pure := by
  intro l0 _ _ hwf
  refine Ev.ex ?_
  by_cases h : l0.length ≤ 310
  · have h1 : Ev fun k => hanaperlaw07_PrefixCodes.j0 k l0 false = some true := by
      cases hc : isCode l0 with
      | true =>
        have h2 := (codesLaw_loop l0 l0.length (by omega) l0.length 0 (by omega)).succ (q := fun k => hanaperlaw07_PrefixCodes.j1 k ((List.range l0.length).map (P42 l0)) ((List.range l0.length).map (P41 l0)) false = some true) fun k hk => by
          rw [hanaperlaw07_PrefixCodes.j1, if_neg (by decide)]
          exact hk
        refine ((h2.and (refCodes_ev l0 (by omega))).and (kraft_ev l0 (by omega))).succ fun k hk => ?_
        obtain ⟨⟨k1, k2⟩, k3⟩ := hk
        rw [hc, if_pos rfl] at k2
        rw [hanaperlaw07_PrefixCodes.j0, if_neg (by decide), prefix_Codes.f, if_pos (by omega), Codes_eq, hc, if_pos rfl, Option.bind_some, k2, Option.bind_some]
        dsimp only
        rw [if_pos (by simp), if_pos rfl, prefix_Kraft.f, if_pos (by omega), Option.bind_some, k3, Option.bind_some]
        have : (Kr l0 != Kr l0) = false := by simp
        rw [this]
        exact k1
      | false =>
        have h2 := (codesLaw_loop l0 0 (by omega) 0 0 (by omega)).succ (q := fun k => hanaperlaw07_PrefixCodes.j1 k [] [] false = some true) fun k hk => by
          rw [hanaperlaw07_PrefixCodes.j1, if_neg (by decide)]
          exact hk
        refine ((h2.and (refCodes_ev l0 (by omega))).and (kraft_ev l0 (by omega))).succ fun k hk => ?_
        obtain ⟨⟨k1, k2⟩, k3⟩ := hk
        rw [hc, if_neg (by decide)] at k2
        rw [hanaperlaw07_PrefixCodes.j0, if_neg (by decide), prefix_Codes.f, if_pos (by omega), Codes_eq, hc, if_neg (by decide), Option.bind_some, k2, Option.bind_some]
        dsimp only
        rw [if_pos (by simp), if_pos rfl, prefix_Kraft.f, if_pos (by omega), Option.bind_some, k3, Option.bind_some]
        have : (Kr l0 != Kr l0) = false := by simp
        rw [this]
        exact k1
    refine (shownK_ev.and h1).imp fun k hk => ?_
    rw [hanaperlaw07_PrefixCodes.f, if_neg (by omega), hk.1, Option.bind_some]
    exact hk.2
  · have h1 : Ev fun k => hanaperlaw07_PrefixCodes.j0 k l0 true = some true := by
      refine shownK_ev.succ fun k hk => ?_
      rw [hanaperlaw07_PrefixCodes.j0, if_pos rfl, hk, Option.bind_some]
    refine h1.imp fun k hk => ?_
    rw [hanaperlaw07_PrefixCodes.f, if_pos (by omega)]
    exact hk

end Pure

end Go.Proofs.Ythgijppajindpaa
