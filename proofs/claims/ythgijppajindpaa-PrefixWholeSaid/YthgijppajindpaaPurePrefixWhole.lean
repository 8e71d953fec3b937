/-
  PrefixWhole, its one pure statement: for any frequencies and limit the law's function comes to true.
-/
import Derived.Test.YthgijppajindpaaLnsc
import Derived.Test.YthgijppajindpaaKrf2
import Derived.Test.YthgijppajindpaaK7x9
namespace Go.Proofs.Ythgijppajindpaa
open Go.RowKit Go.Proofs.Ythgijppajindpaa.K7 Go.Proofs.YthgijppajindpaaW.PrintWords Go.Proofs.YthgijppajindpaaW.PrintLast

theorem used_small : ∀ l : List Int, (∀ x, x ∈ l → 0 ≤ x) → used l ≤ l.length
  | [], _ => by simp [used]
  | x :: l, h => by
    have h1 := used_small l (fun y hy => h y (by simp [hy]))
    rw [used_cons, List.length_cons]
    push_cast
    omega

theorem u16_bound {l : List Int} (hwf : ∀ x ∈ l, (Lit.int .u16 x).wf = true) : ∀ x, x ∈ l → 0 ≤ x ∧ x ≤ 65535 := fun x hx => by
  have := hwf x hx
  simp [Lit.wf, IntKind.min, IntKind.max, IntKind.signed, IntKind.bits] at this
  omega

theorem getD_bound {l : List Int} (hw : ∀ x, x ∈ l → 0 ≤ x ∧ x ≤ 65535) (j : Nat) : 0 ≤ l.getD j 0 ∧ l.getD j 0 ≤ 65535 := by
  by_cases hj : j < l.length
  · exact hw _ (by rw [List.getD_eq_getElem?_getD, List.getElem?_eq_getElem hj]; exact List.getElem_mem hj)
  · rw [List.getD_eq_getElem?_getD, List.getElem?_eq_none (by omega)]
    simp

theorem Codes_err (L : List Int) : (Codes L).2 = if isCode L then 0 else 70 := by
  rw [Codes_eq]
  split <;> rfl

theorem whole_loop1 (l L : List Int) (n : Int) (hl : l.length ≤ 300) (h0 : ∀ x, x ∈ l → 0 ≤ x) (g : Good l n L) (d : Nat) : ∀ j, j + d = l.length →
    Ev fun k => hanaperlaw07_PrefixWhole.l1 k l (used l) n L (j : Int) = some true := by
  have hlen := g.len
  induction d with
  | zero =>
    intro j hj
    refine Ev.one fun k => ?_
    have hu := used_nonneg l h0
    have hkr : prefix_Kraft.f L = some (Kr L) := by rw [prefix_Kraft.f, if_pos (by omega)]
    rw [hanaperlaw07_PrefixWhole.l1, if_neg (by omega), prefix_Codes.f, if_pos (by omega), Option.bind_some, Codes_err, hkr]
    by_cases e0 : used l = 0
    · have := g.none e0
      rw [if_pos e0, Option.bind_some, this.1, this.2]
      rfl
    · by_cases e1 : used l = 1
      · have := g.one e1
        rw [if_neg e0, if_pos e1, Option.bind_some, this.1, this.2]
        rfl
      · have := g.whole (by omega)
        rw [if_neg e0, if_neg e1, Option.bind_some, this.1, this.2]
        rfl
  | succ d ih =>
    intro j hj
    have hw : wrap64 ((j : Int) + 1) = ((j + 1 : Nat) : Int) := by rw [w64 (by omega)]; rfl
    have e1 : rd L (j : Int) = L.getD j 0 := rfl
    have e2 : rd l (j : Int) = l.getD j 0 := rfl
    have ga := g.at_ j (by omega)
    have hp : 0 ≤ l.getD j 0 := h0 _ (by rw [List.getD_eq_getElem?_getD, List.getElem?_eq_getElem (by omega)]; exact List.getElem_mem _)
    refine (ih (j + 1) (by omega)).succ fun k hk => ?_
    have hb : ((L.getD j 0 == 0) != (l.getD j 0 == 0)) = false := by
      by_cases e : L.getD j 0 = 0
      · have : l.getD j 0 = 0 := by have := ga.2.2.1 e; omega
        rw [e, this]; rfl
      · have : l.getD j 0 ≠ 0 := fun h => e (ga.2.2.2 (by omega))
        rw [beq_false_of_ne e, beq_false_of_ne this]; rfl
    rw [hanaperlaw07_PrefixWhole.l1, if_pos (by omega), if_pos (by omega), e1, if_neg (by omega), if_neg (by omega), if_pos (by omega), e2, hb, if_neg (by decide), hw]
    exact hk

theorem whole_loop0 (l : List Int) (a : Int) (hl : l.length ≤ 300) (hw : ∀ x, x ∈ l → 0 ≤ x ∧ x ≤ 65535) (ha : 0 ≤ a ∧ a ≤ 255) (d : Nat) : ∀ j, j + d = l.length →
    Ev fun k => hanaperlaw07_PrefixWhole.l0 k l a (l.take j) (used (l.take j)) (j : Int) = some true := by
  have h0 : ∀ x, x ∈ l → 0 ≤ x := fun x hx => (hw x hx).1
  induction d with
  | zero =>
    intro j hj
    have : j = l.length := by omega
    subst this
    rw [List.take_length]
    obtain ⟨n, hn, hn1, hn2⟩ : ∃ n : Nat, wrap64 (9 + (Int.tmod (wrap64 a) 7)) = (n : Int) ∧ 9 ≤ n ∧ n ≤ 15 := by
      rw [w64 (x := a) (by omega), Int.tmod_eq_emod_of_nonneg ha.1, w64 (by omega)]
      exact ⟨(9 + a % 7).toNat, by omega, by omega, by omega⟩
    have hu := used_small l h0
    have hpow : (2 : Int) ^ 9 ≤ 2 ^ n := by exact_mod_cast Nat.pow_le_pow_right (n := 2) (by decide) hn1
    have h512 : (2 : Int) ^ 9 = 512 := by decide
    obtain ⟨hL, g⟩ := Lens_good l n hl (by omega) hn2 (by
      unfold freqOk
      rw [List.all_eq_true]
      intro x hx
      have := hw x hx
      simp only [decide_eq_true_eq]
      omega) (by omega)
    have h2 := (whole_loop1 l _ n hl h0 g l.length 0 (by omega)).succ (q := fun k => hanaperlaw07_PrefixWhole.j2 k l (used l) n (lens 20 n l) false = some true) fun k hk => by
      rw [hanaperlaw07_PrefixWhole.j2, if_neg (by decide)]
      exact hk
    refine h2.succ fun k hk => ?_
    rw [hanaperlaw07_PrefixWhole.l0, if_neg (by omega), hn, prefix_Lengths.f, hL, Option.bind_some, if_pos rfl]
    have : (((lens 20 n l).length : Int) != (l.length : Int)) = false := by rw [g.len]; simp
    dsimp only
    rw [this]
    exact hk
  | succ d ih =>
    intro j hj
    have hjl : j < l.length := by omega
    have hwr : wrap64 ((j : Int) + 1) = ((j + 1 : Nat) : Int) := by rw [w64 (by omega)]; rfl
    have e1 : rd l (j : Int) = l.getD j 0 := rfl
    have hx := getD_bound hw j
    have hus := used_small (l.take j) (fun x hx => h0 x (List.mem_of_mem_take hx))
    have hus0 := used_nonneg (l.take j) (fun x hx => h0 x (List.mem_of_mem_take hx))
    rw [List.length_take] at hus
    refine (ih (j + 1) (by omega)).succ fun k hk => ?_
    rw [take_snoc hjl, used_snoc] at hk
    rw [hanaperlaw07_PrefixWhole.l0, if_pos (by omega), if_pos (by omega), if_pos (by rw [List.length_take]; omega), Option.bind_some, hwr, e1, w64 (x := l.getD j 0) (by omega)]
    by_cases hp : l.getD j 0 > 0
    · have : min (l.getD j 0) 1 = 1 := by omega
      rw [this] at hk
      rw [if_pos hp, w64 (by omega)]
      exact hk
    · have : min (l.getD j 0) 1 = 0 := by omega
      rw [this, Int.add_zero] at hk
      rw [if_neg hp]
      exact hk

namespace Pure

theorem PrefixWhole : hanaperlaw07_PrefixWhole.Pure := by
  intro l0 a1 _ _ hwf hwa
  refine Ev.ex ?_
  by_cases h : l0.length ≤ 300
  · have ha : 0 ≤ a1 ∧ a1 ≤ 255 := by
      simp [Lit.wf, IntKind.min, IntKind.max, IntKind.signed, IntKind.bits] at hwa
      omega
    have h0 := whole_loop0 l0 a1 h (u16_bound hwf) ha l0.length 0 (by omega)
    have h1 : Ev fun k => hanaperlaw07_PrefixWhole.j0 k l0 a1 false = some true := h0.succ fun k hk => by
      rw [hanaperlaw07_PrefixWhole.j0, if_neg (by decide)]
      exact hk
    refine (shownK_ev.and h1).imp fun k hk => ?_
    rw [hanaperlaw07_PrefixWhole.f, if_neg (by omega), hk.1, Option.bind_some]
    exact hk.2
  · have h1 : Ev fun k => hanaperlaw07_PrefixWhole.j0 k l0 a1 true = some true := by
      refine shownK_ev.succ fun k hk => ?_
      rw [hanaperlaw07_PrefixWhole.j0, if_pos rfl, hk, Option.bind_some]
    refine h1.imp fun k hk => ?_
    rw [hanaperlaw07_PrefixWhole.f, if_pos (by omega)]
    exact hk

end Pure

end Go.Proofs.Ythgijppajindpaa
