/-
  PrefixOrder, its one pure statement: for any frequencies the law's function comes to true.
-/
import Derived.Test.YthgijppajindpaaL7x8
import Derived.Test.YthgijppajindpaaShwn
namespace Go.Proofs.Ythgijppajindpaa
open Go.RowKit Go.Proofs.Ythgijppajindpaa.L7 Go.Proofs.YthgijppajindpaaW.PrintWords Go.Proofs.YthgijppajindpaaW.PrintLast

/-- The frequencies that the law makes. -/
def nines (l : List Int) : List Int := l.map fun x => x % 9

theorem order_loop2 (f : List Int) (hf : f.length ≤ 100) (i : Nat) (hi : i < f.length) (r : Option Bool) (h : Ev fun k => hanaperlaw07_PrefixOrder.l1 k f (dpt f) ((i + 1 : Nat) : Int) = r) (d : Nat) : ∀ j, j + d = f.length →
    Ev fun k => hanaperlaw07_PrefixOrder.l2 k f (dpt f) (i : Int) (j : Int) = r := by
  induction d with
  | zero =>
    intro j hj
    refine h.succ fun k hk => ?_
    have hw : wrap64 ((i : Int) + 1) = ((i + 1 : Nat) : Int) := by rw [w64 (by omega)]; rfl
    rw [hanaperlaw07_PrefixOrder.l2, if_neg (by omega), hw]
    exact hk
  | succ d ih =>
    intro j hj
    have hw : wrap64 ((j : Int) + 1) = ((j + 1 : Nat) : Int) := by rw [w64 (by omega)]; rfl
    refine (ih (j + 1) (by omega)).succ fun k hk => ?_
    have e1 : rd f (i : Int) = f.getD i 0 := rfl
    have e2 : rd f (j : Int) = f.getD j 0 := rfl
    have e3 : rd (dpt f) (i : Int) = (dpt f).getD i 0 := rfl
    have e4 : rd (dpt f) (j : Int) = (dpt f).getD j 0 := rfl
    rw [hanaperlaw07_PrefixOrder.l2, if_pos (by omega), if_pos (by omega), if_pos (by omega), if_pos (by omega), e1, e2, hw]
    by_cases h1 : f.getD i 0 > f.getD j 0
    · rw [if_pos h1]
      by_cases h2 : f.getD j 0 > 0
      · rw [if_pos h2, if_pos (by rw [length_dpt]; omega), if_pos (by rw [length_dpt]; omega), e3, e4, if_neg (by
          have := dpt_order f hi (show j < f.length by omega) h1 h2
          omega)]
        exact hk
      · rw [if_neg h2]; exact hk
    · rw [if_neg h1]; exact hk

theorem order_loop1 (f : List Int) (hf : f.length ≤ 100) (d : Nat) : ∀ i, i + d = f.length → Ev fun k => hanaperlaw07_PrefixOrder.l1 k f (dpt f) (i : Int) = some true := by
  induction d with
  | zero =>
    intro i hi
    refine Ev.one fun k => ?_
    rw [hanaperlaw07_PrefixOrder.l1, if_neg (by omega)]
  | succ d ih =>
    intro i hi
    refine (order_loop2 f hf i (by omega) _ (ih (i + 1) (by omega)) f.length 0 (by omega)).succ fun k hk => ?_
    rw [hanaperlaw07_PrefixOrder.l1, if_pos (by omega)]
    exact hk

theorem order_loop0 (l : List Int) (hl : l.length ≤ 100) (hw : ∀ x, x ∈ l → 0 ≤ x ∧ x ≤ 65535) (d : Nat) : ∀ j, j + d = l.length → Ev fun k => hanaperlaw07_PrefixOrder.l0 k l (nines (l.take j)) (j : Int) = some true := by
  induction d with
  | zero =>
    intro j hj
    have : j = l.length := by omega
    subst this
    rw [List.take_length]
    have hn : ∀ x, x ∈ nines l → 0 ≤ x ∧ x ≤ 8 := fun x hx => by
      obtain ⟨y, hy, rfl⟩ := List.mem_map.1 hx
      omega
    have hln : (nines l).length = l.length := by simp [nines]
    have hL := Lens_small (nines l) (by omega) (fun x hx => by have := hn x hx; omega) (by
      have := wts_sum 8 (nines l) (fun x hx => (hn x hx).2) (by decide)
      omega)
    have h0 := order_loop1 (nines l) (by omega) (nines l).length 0 (by omega)
    have h1 : Ev fun k => hanaperlaw07_PrefixOrder.j2 k (nines l) (dpt (nines l)) false = some true := h0.succ fun k hk => by
      rw [hanaperlaw07_PrefixOrder.j2, if_neg (by decide)]
      exact hk
    refine h1.succ fun k hk => ?_
    rw [hanaperlaw07_PrefixOrder.l0, if_neg (by omega), prefix_Lengths.f, hL, Option.bind_some]
    dsimp only
    rw [if_pos rfl, length_dpt]
    have : (((nines l).length : Int) != ((nines l).length : Int)) = false := by simp
    rw [this]
    exact hk
  | succ d ih =>
    intro j hj
    have hjl : j < l.length := by omega
    have hw1 : wrap64 ((j : Int) + 1) = ((j + 1 : Nat) : Int) := by rw [w64 (by omega)]; rfl
    refine (ih (j + 1) (by omega)).succ fun k hk => ?_
    have hlk : (nines (l.take j)).length ≤ 100 := by simp [nines]; omega
    have hx := hw (l.getD j 0) (by rw [List.getD_eq_getElem?_getD, List.getElem?_eq_getElem hjl]; exact List.getElem_mem hjl)
    have e1 : rd l (j : Int) = l.getD j 0 := rfl
    rw [hanaperlaw07_PrefixOrder.l0, if_pos (by omega), if_pos (by omega), if_pos (by omega), hw1, e1, w64 (by omega), Int.tmod_eq_emod_of_nonneg hx.1]
    rw [take_snoc hjl] at hk
    have : nines (l.take j ++ [l.getD j 0]) = nines (l.take j) ++ [l.getD j 0 % 9] := by unfold nines; rw [List.map_append]; rfl
    rw [this] at hk
    exact hk

namespace Pure

theorem PrefixOrder : hanaperlaw07_PrefixOrder.Pure := by
  intro l0 _ _ hwf
  refine Ev.ex ?_
  by_cases h : l0.length ≤ 100
  · have hw : ∀ x, x ∈ l0 → 0 ≤ x ∧ x ≤ 65535 := fun x hx => by
      have := hwf x hx
      simp [Lit.wf, IntKind.min, IntKind.max, IntKind.signed, IntKind.bits] at this
      omega
    have h0 := order_loop0 l0 h hw l0.length 0 (by omega)
    have h1 : Ev fun k => hanaperlaw07_PrefixOrder.j0 k l0 false = some true := h0.succ fun k hk => by
      rw [hanaperlaw07_PrefixOrder.j0, if_neg (by decide)]
      exact hk
    refine (shown_ev.and h1).imp fun k hk => ?_
    rw [hanaperlaw07_PrefixOrder.f, if_neg (by omega), hk.1, Option.bind_some]
    exact hk.2
  · have h1 : Ev fun k => hanaperlaw07_PrefixOrder.j0 k l0 true = some true := by
      refine shown_ev.succ fun k hk => ?_
      rw [hanaperlaw07_PrefixOrder.j0, if_pos rfl, hk, Option.bind_some]
    refine h1.imp fun k hk => ?_
    rw [hanaperlaw07_PrefixOrder.f, if_pos (by omega)]
    exact hk

end Pure

end Go.Proofs.Ythgijppajindpaa
