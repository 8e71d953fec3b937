/-
  The document's own words of lengths, as they are printed, are the plain ones.
-/
import Derived.Test.YthgijppajindpaaCod2
import Derived.Test.YthgijppajindpaaK7x7
import Derived.Test.YthgijppajindpaaK7x3
set_option linter.unusedVariables false
set_option linter.unusedSimpArgs false
namespace Go.Proofs.Ythgijppajindpaa
open Go.RowKit Go.Proofs.YthgijppajindpaaW.PrintWords Go.Proofs.YthgijppajindpaaW.PrintLast Go.Proofs.YthgijppajindpaaW.PrintMore Go.Proofs.Ythgijppajindpaa.K7

/-! ### the check -/
theorem sameK_loop (xs : List Int) (hx : xs.length < 1000000) (d : Nat) : ∀ j, j + d = xs.length → Ev fun k => hanaperlaw07_same.l0 k xs xs (j : Int) = some true := by
  induction d with
  | zero =>
    intro j hj
    refine Ev.one fun k => ?_
    rw [hanaperlaw07_same.l0, if_neg (by omega)]
  | succ d ih =>
    intro j hj
    have hw : wrap64 ((j : Int) + 1) = ((j + 1 : Nat) : Int) := by rw [w64 (by omega)]; rfl
    refine (ih (j + 1) (by omega)).succ fun k hk => ?_
    rw [hanaperlaw07_same.l0, if_pos (by omega), if_pos (by omega), if_pos (by omega), if_pos rfl, hw]
    exact hk

theorem sameK_ev (xs : List Int) (hx : xs.length < 1000000) : Ev fun k => hanaperlaw07_same.f k xs xs = some true := by
  refine (sameK_loop xs hx xs.length 0 (by omega)).imp fun k hk => ?_
  rw [hanaperlaw07_same.f, if_pos rfl]
  exact hk

theorem shownK_lens : Lens [1, 1, 2] 15 = ([2, 2, 1], 0) := by decide +kernel

theorem shownK_ev : Ev fun k => hanaperlaw07_shown.f k = some true := by
  refine (sameK_ev [2, 2, 1] (by decide)).imp fun k hk => ?_
  rw [hanaperlaw07_shown.f, prefix_Lengths.f, shownK_lens, Option.bind_some, hk, Option.bind_some, if_pos rfl]
  rfl

/-! ### Kraft -/
theorem shl_kr {x : Int} (h1 : 1 ≤ x) (h2 : x ≤ 15) : shl .i64 1 (15 - x) = kr x := by
  have : x = 1 ∨ x = 2 ∨ x = 3 ∨ x = 4 ∨ x = 5 ∨ x = 6 ∨ x = 7 ∨ x = 8 ∨ x = 9 ∨ x = 10 ∨ x = 11 ∨ x = 12 ∨ x = 13 ∨ x = 14 ∨ x = 15 := by omega
  rcases this with rfl | rfl | rfl | rfl | rfl | rfl | rfl | rfl | rfl | rfl | rfl | rfl | rfl | rfl | rfl <;> decide +kernel

theorem kraft_loop (l : List Int) (hl : l.length < 1000000) (d : Nat) : ∀ j, j + d = l.length → Ev fun k => hanaperref07_Kraft.l0 k l (Kr (l.take j)) (j : Int) = some (Kr l) := by
  induction d with
  | zero =>
    intro j hj
    have : j = l.length := by omega
    subst this
    refine Ev.one fun k => ?_
    rw [hanaperref07_Kraft.l0, if_neg (by omega), List.take_length]
  | succ d ih =>
    intro j hj
    have hjl : j < l.length := by omega
    have hw : wrap64 ((j : Int) + 1) = ((j + 1 : Nat) : Int) := by rw [w64 (by omega)]; rfl
    refine (ih (j + 1) (by omega)).succ fun k hk => ?_
    have e1 : rd l (j : Int) = l.getD j 0 := rfl
    rw [take_snoc hjl, Kr_snoc] at hk
    have hb := Kr_bound (l.take j)
    have hb2 := kr_bound (l.getD j 0)
    rw [List.length_take] at hb
    rw [hanaperref07_Kraft.l0, if_pos (by omega), if_pos (by omega), e1, hw]
    by_cases h1 : l.getD j 0 ≥ 1
    · rw [if_pos h1]
      by_cases h2 : l.getD j 0 ≤ 15
      · rw [if_pos h2, w64 (by omega), if_pos (by omega), shl_kr h1 h2, w64 (by omega)]; exact hk
      · have h0 : kr (l.getD j 0) = 0 := by unfold kr; rw [if_neg (by omega)]
        rw [h0, Int.add_zero] at hk
        rw [if_neg h2]; exact hk
    · have h0 : kr (l.getD j 0) = 0 := by unfold kr; rw [if_neg (by omega)]
      rw [h0, Int.add_zero] at hk
      rw [if_neg h1]; exact hk

theorem kraft_ev (l : List Int) (hl : l.length < 1000000) : Ev fun k => hanaperref07_Kraft.f k l = some (Kr l) := by
  refine (kraft_loop l hl l.length 0 (by omega)).imp fun k hk => ?_
  rw [hanaperref07_Kraft.f]
  exact hk

/-! ### is it a code -/
/-- How many have a word. -/
def usedK (l : List Int) : Int := (l.map fun x => if 0 < x then 1 else 0).sum
theorem usedK_snoc (l : List Int) (x : Int) : usedK (l ++ [x]) = usedK l + if 0 < x then 1 else 0 := by simp [usedK]
theorem usedK_bound : ∀ l : List Int, 0 ≤ usedK l ∧ usedK l ≤ l.length
  | [] => by simp [usedK]
  | x :: l => by
    have h1 := usedK_bound l
    have e : usedK (x :: l) = (if 0 < x then 1 else 0) + usedK l := rfl
    rw [e, List.length_cons]
    push_cast
    split <;> omega

theorem kr_parts {x : Int} (h0 : 0 ≤ x) (h1 : x ≤ 15) : ∃ m r : Int, kr x = 16384 * (if x = 1 then 1 else 0) + r ∧ (if 0 < x then (1 : Int) else 0) = (if x = 1 then 1 else 0) + m ∧ 0 ≤ m ∧ m ≤ r ∧ r ≤ 8192 * m := by
  by_cases e0 : x = 0
  · subst e0; exact ⟨0, 0, by decide, by decide, by decide, by decide, by decide⟩
  by_cases e1 : x = 1
  · subst e1; exact ⟨0, 0, by decide, by decide, by decide, by decide, by decide⟩
  refine ⟨1, kr x, by rw [if_neg e1]; omega, by rw [if_neg e1, if_pos (by omega)]; rfl, by omega, ?_, ?_⟩
  all_goals
    have : x = 2 ∨ x = 3 ∨ x = 4 ∨ x = 5 ∨ x = 6 ∨ x = 7 ∨ x = 8 ∨ x = 9 ∨ x = 10 ∨ x = 11 ∨ x = 12 ∨ x = 13 ∨ x = 14 ∨ x = 15 := by omega
    rcases this with rfl | rfl | rfl | rfl | rfl | rfl | rfl | rfl | rfl | rfl | rfl | rfl | rfl | rfl <;> decide +kernel

theorem Kr_parts : ∀ l : List Int, lensOk l = true → ∃ m r : Int, Kr l = 16384 * cnt l 1 + r ∧ usedK l = cnt l 1 + m ∧ 0 ≤ m ∧ m ≤ r ∧ r ≤ 8192 * m
  | [], _ => ⟨0, 0, by simp [Kr, cnt], by simp [usedK, cnt], by omega, by omega, by omega⟩
  | x :: l, h => by
    have h' : decide (0 ≤ x ∧ x ≤ 15) = true ∧ lensOk l = true := by
      have : (decide (0 ≤ x ∧ x ≤ 15) && lensOk l) = true := h
      rwa [Bool.and_eq_true] at this
    have hx : 0 ≤ x ∧ x ≤ 15 := by simpa using h'.1
    obtain ⟨m, r, e1, e2, h1, h2, h3⟩ := Kr_parts l h'.2
    obtain ⟨m', r', e1', e2', h1', h2', h3'⟩ := kr_parts hx.1 hx.2
    have k1 : Kr (x :: l) = kr x + Kr l := rfl
    have k2 : usedK (x :: l) = (if 0 < x then 1 else 0) + usedK l := rfl
    have k3 : cnt (x :: l) 1 = (if x = 1 then 1 else 0) + cnt l 1 := rfl
    exact ⟨m' + m, r' + r, by rw [k1, k3, e1, e1']; omega, by rw [k2, k3, e2, e2']; omega, by omega, by omega, by omega⟩

theorem one_code {l : List Int} (h : lensOk l = true) : (usedK l = 1 ∧ Kr l = 16384) ↔ (cnt l 1 = 1 ∧ Kr l = 16384) := by
  obtain ⟨m, r, e1, e2, h1, h2, h3⟩ := Kr_parts l h
  have := (cnt_bound 1 l).1
  omega

theorem lensOk_get {l : List Int} (h : lensOk l = true) (j : Nat) : 0 ≤ l.getD j 0 ∧ l.getD j 0 ≤ 15 := by
  by_cases hj : j < l.length
  · unfold lensOk at h
    rw [List.all_eq_true] at h
    have := h (l.getD j 0) (by rw [List.getD_eq_getElem?_getD, List.getElem?_eq_getElem hj]; exact List.getElem_mem _)
    simpa using this
  · rw [List.getD_eq_getElem?_getD, List.getElem?_eq_none (by omega)]
    simp

theorem right_loop (l : List Int) (hl : l.length < 1000000) (d : Nat) : ∀ j, j + d = l.length → lensOk (l.take j) = true →
    Ev fun k => hanaperref07_right.l0 k l (usedK (l.take j)) (j : Int) = some (isCode l) := by
  induction d with
  | zero =>
    intro j hj hok
    have : j = l.length := by omega
    subst this
    rw [List.take_length] at hok ⊢
    refine (kraft_ev l hl).succ fun k hk => ?_
    rw [hanaperref07_right.l0, if_neg (by omega), hk]
    have ho := one_code hok
    unfold isCode
    rw [hok]
    by_cases h3 : l.length ≤ 300
    · rw [if_pos (by omega), Option.bind_some, decide_eq_true h3]
      by_cases hK : Kr l = 32768
      · rw [if_pos hK, decide_eq_true hK]; rfl
      · rw [if_neg hK, decide_eq_false hK]
        by_cases hu : usedK l = 1
        · rw [if_pos hu, Option.bind_some]
          congr 1
          rw [Bool.eq_iff_iff]
          simp
          omega
        · rw [if_neg hu]
          congr 1
          rw [Bool.eq_iff_iff]
          simp
          omega
    · rw [if_neg (by omega), decide_eq_false h3]; rfl
  | succ d ih =>
    intro j hj hok
    have hjl : j < l.length := by omega
    have hw : wrap64 ((j : Int) + 1) = ((j + 1 : Nat) : Int) := by rw [w64 (by omega)]; rfl
    have e1 : rd l (j : Int) = l.getD j 0 := rfl
    by_cases hx : 0 ≤ l.getD j 0 ∧ l.getD j 0 ≤ 15
    · have hok2 : lensOk (l.take (j + 1)) = true := by rw [take_snoc hjl, lensOk_snoc, hok, decide_eq_true hx]; rfl
      have hu := usedK_bound (l.take j)
      rw [List.length_take] at hu
      refine ((ih (j + 1) (by omega) hok2).succ (q := fun k => hanaperref07_right.j1 k l (usedK (l.take j)) (j : Int) false = some (isCode l)) fun k hk => ?_).succ fun k hk => ?_
      · rw [take_snoc hjl, usedK_snoc] at hk
        rw [hanaperref07_right.j1, if_neg (by decide), if_pos (by omega), if_pos (by omega), e1, hw]
        by_cases h0 : l.getD j 0 > 0
        · rw [if_pos h0] at hk
          rw [if_pos h0, w64 (by omega)]; exact hk
        · rw [if_neg h0, Int.add_zero] at hk
          rw [if_neg h0]; exact hk
      · rw [hanaperref07_right.l0, if_pos (by omega), if_pos (by omega), e1, if_neg (by omega), decide_eq_false (by omega)]
        exact hk
    · have hbad : isCode l = false := by
        unfold isCode
        cases e : lensOk l with
        | false => rfl
        | true => exact absurd (lensOk_get e j) hx
      rw [hbad]
      refine (Ev.one (q := fun k => hanaperref07_right.j1 k l (usedK (l.take j)) (j : Int) true = some false) fun k => ?_).succ fun k hk => ?_
      · rw [hanaperref07_right.j1, if_pos rfl]
      · rw [hanaperref07_right.l0, if_pos (by omega), if_pos (by omega), e1]
        by_cases h0 : l.getD j 0 < 0
        · rw [if_pos h0]; exact hk
        · rw [if_neg h0, decide_eq_true (by omega)]; exact hk

theorem right_ev (l : List Int) (hl : l.length < 1000000) : Ev fun k => hanaperref07_right.f k l = some (isCode l) := by
  refine (right_loop l hl l.length 0 (by omega) rfl).imp fun k hk => ?_
  rw [hanaperref07_right.f]
  exact hk

/-! ### turned -/
theorem turned_loop (x n : Nat) (hx : x < 4294967296) (hn : n ≤ 31) (d : Nat) : ∀ j, j + d = n → Ev fun k => hanaperref07_turned.l0 k x n (turnN x j) (j : Int) = some (turnN x n : Int) := by
  induction d with
  | zero =>
    intro j hj
    have : j = n := by omega
    subst this
    refine Ev.one fun k => ?_
    rw [hanaperref07_turned.l0, if_neg (by omega)]
  | succ d ih =>
    intro j hj
    have hw : wrap64 ((j : Int) + 1) = ((j + 1 : Nat) : Int) := by rw [w64 (by omega)]; rfl
    refine (ih (j + 1) (by omega)).succ fun k hk => ?_
    have ht : turnN x j < 2 ^ 30 := Nat.lt_of_lt_of_le (turnN_lt x j) (Nat.pow_le_pow_right (by decide) (by omega))
    rw [hanaperref07_turned.l0, if_pos (by omega), if_pos (by omega), hw]
    have e1 : ((turnN x j : Nat) : Int) * (2 : Int) % (4294967296 : Int) = ((turnN x j <<< 1 : Nat) : Int) := by rw [Nat.shiftLeft_eq]; omega
    have e2 : shr .u32 (x : Int) (j : Int) = ((x >>> j : Nat) : Int) := by
      unfold shr
      have : min (j : Int).toNat IntKind.u32.bits = j := by show min (j : Int).toNat 32 = j; omega
      rw [this, Nat.shiftRight_eq_div_pow, Int.natCast_ediv]
      push_cast
      rfl
    have h1 : x >>> j < 4294967296 := by rw [Nat.shiftRight_eq_div_pow]; exact Nat.lt_of_le_of_lt (Nat.div_le_self _ _) hx
    have h2 : (x >>> j) &&& 1 < 4294967296 := Nat.lt_of_le_of_lt Nat.and_le_right (by decide)
    have h3 : turnN x j <<< 1 < 4294967296 := by rw [Nat.shiftLeft_eq]; omega
    have e3 : Go.bits .and .u32 ((x >>> j : Nat) : Int) 1 = ((x >>> j &&& 1 : Nat) : Int) := and_u32 h1 (b := 1) (by decide)
    rw [e1, e2, e3, or_u32 h3 h2]
    exact hk

theorem turned_ev (x n : Int) (h0 : 0 ≤ x) (hx : x < 4294967296) (hn0 : 0 ≤ n) (hn : n ≤ 31) : Ev fun k => hanaperref07_turned.f k x n = some (turnN x.toNat n.toNat : Int) := by
  refine (turned_loop x.toNat n.toNat (by omega) (by omega) n.toNat 0 (by omega)).imp fun k hk => ?_
  rw [hanaperref07_turned.f]
  rw [Int.toNat_of_nonneg h0, Int.toNat_of_nonneg hn0] at hk
  exact hk

end Go.Proofs.Ythgijppajindpaa
