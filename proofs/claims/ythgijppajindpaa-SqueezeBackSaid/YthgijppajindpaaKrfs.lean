/-
  The document's own words of lengths are the plain ones; what lengths and words are as a code.
-/
import Derived.Test.YthgijppajindpaaCod2
import Derived.Test.YthgijppajindpaaK7a
set_option linter.unusedVariables false
set_option linter.unusedSimpArgs false
namespace Go.Proofs.Ythgijppajindpaa
open Go.RowKit Go.Proofs.YthgijppajindpaaW.PrintWords Go.Proofs.YthgijppajindpaaW.PrintLast Go.Proofs.YthgijppajindpaaW.PrintMore Go.Proofs.Ythgijppajindpaa.K7

/-! ### the check -/
theorem sameK_loop (xs : List Int) (hx : xs.length < 1000000) (d : Nat) : ∀ j, j + d = xs.length → Ev fun k => hanaperlaw07_same.l0 k xs xs (j : Int) = some true := by
  induction d with
  | zero =>
    intro j hj
    refine Ev.one fun k => ?_
    rw [hanaperlaw07_same.l0, if_neg (by omega)]
  | succ d ih =>
    intro j hj
    have hw : wrap64 ((j : Int) + 1) = ((j + 1 : Nat) : Int) := by rw [w64 (by omega)]; rfl
    refine (ih (j + 1) (by omega)).succ fun k hk => ?_
    rw [hanaperlaw07_same.l0, if_pos (by omega), if_pos (by omega), if_pos (by omega), if_pos rfl, hw]
    exact hk

theorem sameK_ev (xs : List Int) (hx : xs.length < 1000000) : Ev fun k => hanaperlaw07_same.f k xs xs = some true := by
  refine (sameK_loop xs hx xs.length 0 (by omega)).imp fun k hk => ?_
  rw [hanaperlaw07_same.f, if_pos rfl]
  exact hk

theorem shownK_lens : Lens [1, 1, 2] 15 = ([2, 2, 1], 0) := by decide +kernel

theorem shownK_ev : Ev fun k => hanaperlaw07_shown.f k = some true := by
  refine (sameK_ev [2, 2, 1] (by decide)).imp fun k hk => ?_
  rw [hanaperlaw07_shown.f, prefix_Lengths.f, shownK_lens, Option.bind_some, hk, Option.bind_some, if_pos rfl]
  rfl

/-! ### Kraft -/
theorem shl_kr {x : Int} (h1 : 1 ≤ x) (h2 : x ≤ 15) : shl .i64 1 (15 - x) = kr x := by
  have : x = 1 ∨ x = 2 ∨ x = 3 ∨ x = 4 ∨ x = 5 ∨ x = 6 ∨ x = 7 ∨ x = 8 ∨ x = 9 ∨ x = 10 ∨ x = 11 ∨ x = 12 ∨ x = 13 ∨ x = 14 ∨ x = 15 := by omega
  rcases this with rfl | rfl | rfl | rfl | rfl | rfl | rfl | rfl | rfl | rfl | rfl | rfl | rfl | rfl | rfl <;> decide +kernel

theorem kraft_loop (l : List Int) (hl : l.length < 1000000) (d : Nat) : ∀ j, j + d = l.length → Ev fun k => hanaperref07_Kraft.l0 k l (Kr (l.take j)) (j : Int) = some (Kr l) := by
  induction d with
  | zero =>
    intro j hj
    have : j = l.length := by omega
    subst this
    refine Ev.one fun k => ?_
    rw [hanaperref07_Kraft.l0, if_neg (by omega), List.take_length]
  | succ d ih =>
    intro j hj
    have hjl : j < l.length := by omega
    have hw : wrap64 ((j : Int) + 1) = ((j + 1 : Nat) : Int) := by rw [w64 (by omega)]; rfl
    refine (ih (j + 1) (by omega)).succ fun k hk => ?_
    have e1 : rd l (j : Int) = l.getD j 0 := rfl
    rw [take_snoc hjl, Kr_snoc] at hk
    have hb := Kr_bound (l.take j)
    have hb2 := kr_bound (l.getD j 0)
    rw [List.length_take] at hb
    rw [hanaperref07_Kraft.l0, if_pos (by omega), if_pos (by omega), e1, hw]
    by_cases h1 : l.getD j 0 ≥ 1
    · rw [if_pos h1]
      by_cases h2 : l.getD j 0 ≤ 15
      · rw [if_pos h2, w64 (by omega), if_pos (by omega), shl_kr h1 h2, w64 (by omega)]; exact hk
      · have h0 : kr (l.getD j 0) = 0 := by unfold kr; rw [if_neg (by omega)]
        rw [h0, Int.add_zero] at hk
        rw [if_neg h2]; exact hk
    · have h0 : kr (l.getD j 0) = 0 := by unfold kr; rw [if_neg (by omega)]
      rw [h0, Int.add_zero] at hk
      rw [if_neg h1]; exact hk

theorem kraft_ev (l : List Int) (hl : l.length < 1000000) : Ev fun k => hanaperref07_Kraft.f k l = some (Kr l) := by
  refine (kraft_loop l hl l.length 0 (by omega)).imp fun k hk => ?_
  rw [hanaperref07_Kraft.f]
  exact hk

/-! ### is it a code -/
/-- How many have a word. -/
def usedK (l : List Int) : Int := (l.map fun x => if 0 < x then 1 else 0).sum
theorem usedK_snoc (l : List Int) (x : Int) : usedK (l ++ [x]) = usedK l + if 0 < x then 1 else 0 := by simp [usedK]
theorem usedK_bound : ∀ l : List Int, 0 ≤ usedK l ∧ usedK l ≤ l.length
  | [] => by simp [usedK]
  | x :: l => by
    have h1 := usedK_bound l
    have e : usedK (x :: l) = (if 0 < x then 1 else 0) + usedK l := rfl
    rw [e, List.length_cons]
    push_cast
    split <;> omega

theorem kr_parts {x : Int} (h0 : 0 ≤ x) (h1 : x ≤ 15) : ∃ m r : Int, kr x = 16384 * (if x = 1 then 1 else 0) + r ∧ (if 0 < x then (1 : Int) else 0) = (if x = 1 then 1 else 0) + m ∧ 0 ≤ m ∧ m ≤ r ∧ r ≤ 8192 * m := by
  by_cases e0 : x = 0
  · subst e0; exact ⟨0, 0, by decide, by decide, by decide, by decide, by decide⟩
  by_cases e1 : x = 1
  · subst e1; exact ⟨0, 0, by decide, by decide, by decide, by decide, by decide⟩
  refine ⟨1, kr x, by rw [if_neg e1]; omega, by rw [if_neg e1, if_pos (by omega)]; rfl, by omega, ?_, ?_⟩
  all_goals
    have : x = 2 ∨ x = 3 ∨ x = 4 ∨ x = 5 ∨ x = 6 ∨ x = 7 ∨ x = 8 ∨ x = 9 ∨ x = 10 ∨ x = 11 ∨ x = 12 ∨ x = 13 ∨ x = 14 ∨ x = 15 := by omega
    rcases this with rfl | rfl | rfl | rfl | rfl | rfl | rfl | rfl | rfl | rfl | rfl | rfl | rfl | rfl <;> decide +kernel

theorem Kr_parts : ∀ l : List Int, lensOk l = true → ∃ m r : Int, Kr l = 16384 * cnt l 1 + r ∧ usedK l = cnt l 1 + m ∧ 0 ≤ m ∧ m ≤ r ∧ r ≤ 8192 * m
  | [], _ => ⟨0, 0, by simp [Kr, cnt], by simp [usedK, cnt], by omega, by omega, by omega⟩
  | x :: l, h => by
    have h' : decide (0 ≤ x ∧ x ≤ 15) = true ∧ lensOk l = true := by
      have : (decide (0 ≤ x ∧ x ≤ 15) && lensOk l) = true := h
      rwa [Bool.and_eq_true] at this
    have hx : 0 ≤ x ∧ x ≤ 15 := by simpa using h'.1
    obtain ⟨m, r, e1, e2, h1, h2, h3⟩ := Kr_parts l h'.2
    obtain ⟨m', r', e1', e2', h1', h2', h3'⟩ := kr_parts hx.1 hx.2
    have k1 : Kr (x :: l) = kr x + Kr l := rfl
    have k2 : usedK (x :: l) = (if 0 < x then 1 else 0) + usedK l := rfl
    have k3 : cnt (x :: l) 1 = (if x = 1 then 1 else 0) + cnt l 1 := rfl
    exact ⟨m' + m, r' + r, by rw [k1, k3, e1, e1']; omega, by rw [k2, k3, e2, e2']; omega, by omega, by omega, by omega⟩

theorem one_code {l : List Int} (h : lensOk l = true) : (usedK l = 1 ∧ Kr l = 16384) ↔ (cnt l 1 = 1 ∧ Kr l = 16384) := by
  obtain ⟨m, r, e1, e2, h1, h2, h3⟩ := Kr_parts l h
  have := (cnt_bound 1 l).1
  omega

theorem lensOk_get {l : List Int} (h : lensOk l = true) (j : Nat) : 0 ≤ l.getD j 0 ∧ l.getD j 0 ≤ 15 := by
  by_cases hj : j < l.length
  · unfold lensOk at h
    rw [List.all_eq_true] at h
    have := h (l.getD j 0) (by rw [List.getD_eq_getElem?_getD, List.getElem?_eq_getElem hj]; exact List.getElem_mem _)
    simpa using this
  · rw [List.getD_eq_getElem?_getD, List.getElem?_eq_none (by omega)]
    simp

theorem right_loop (l : List Int) (hl : l.length < 1000000) (d : Nat) : ∀ j, j + d = l.length → lensOk (l.take j) = true →
    Ev fun k => hanaperref07_right.l0 k l (usedK (l.take j)) (j : Int) = some (isCode l) := by
  induction d with
  | zero =>
    intro j hj hok
    have : j = l.length := by omega
    subst this
    rw [List.take_length] at hok ⊢
    refine (kraft_ev l hl).succ fun k hk => ?_
    rw [hanaperref07_right.l0, if_neg (by omega), hk]
    have ho := one_code hok
    unfold isCode
    rw [hok]
    by_cases h3 : l.length ≤ 300
    · rw [if_pos (by omega), Option.bind_some, decide_eq_true h3]
      by_cases hK : Kr l = 32768
      · rw [if_pos hK, decide_eq_true hK]; rfl
      · rw [if_neg hK, decide_eq_false hK]
        by_cases hu : usedK l = 1
        · rw [if_pos hu, Option.bind_some]
          congr 1
          rw [Bool.eq_iff_iff]
          simp
          omega
        · rw [if_neg hu]
          congr 1
          rw [Bool.eq_iff_iff]
          simp
          omega
    · rw [if_neg (by omega), decide_eq_false h3]; rfl
  | succ d ih =>
    intro j hj hok
    have hjl : j < l.length := by omega
    have hw : wrap64 ((j : Int) + 1) = ((j + 1 : Nat) : Int) := by rw [w64 (by omega)]; rfl
    have e1 : rd l (j : Int) = l.getD j 0 := rfl
    by_cases hx : 0 ≤ l.getD j 0 ∧ l.getD j 0 ≤ 15
    · have hok2 : lensOk (l.take (j + 1)) = true := by rw [take_snoc hjl, lensOk_snoc, hok, decide_eq_true hx]; rfl
      have hu := usedK_bound (l.take j)
      rw [List.length_take] at hu
      refine ((ih (j + 1) (by omega) hok2).succ (q := fun k => hanaperref07_right.j1 k l (usedK (l.take j)) (j : Int) false = some (isCode l)) fun k hk => ?_).succ fun k hk => ?_
      · rw [take_snoc hjl, usedK_snoc] at hk
        rw [hanaperref07_right.j1, if_neg (by decide), if_pos (by omega), if_pos (by omega), e1, hw]
        by_cases h0 : l.getD j 0 > 0
        · rw [if_pos h0] at hk
          rw [if_pos h0, w64 (by omega)]; exact hk
        · rw [if_neg h0, Int.add_zero] at hk
          rw [if_neg h0]; exact hk
      · rw [hanaperref07_right.l0, if_pos (by omega), if_pos (by omega), e1, if_neg (by omega), decide_eq_false (by omega)]
        exact hk
    · have hbad : isCode l = false := by
        unfold isCode
        cases e : lensOk l with
        | false => rfl
        | true => exact absurd (lensOk_get e j) hx
      rw [hbad]
      refine (Ev.one (q := fun k => hanaperref07_right.j1 k l (usedK (l.take j)) (j : Int) true = some false) fun k => ?_).succ fun k hk => ?_
      · rw [hanaperref07_right.j1, if_pos rfl]
      · rw [hanaperref07_right.l0, if_pos (by omega), if_pos (by omega), e1]
        by_cases h0 : l.getD j 0 < 0
        · rw [if_pos h0]; exact hk
        · rw [if_neg h0, decide_eq_true (by omega)]; exact hk

theorem right_ev (l : List Int) (hl : l.length < 1000000) : Ev fun k => hanaperref07_right.f k l = some (isCode l) := by
  refine (right_loop l hl l.length 0 (by omega) rfl).imp fun k hk => ?_
  rw [hanaperref07_right.f]
  exact hk

/-! ### turned -/
theorem turned_loop (x n : Nat) (hx : x < 4294967296) (hn : n ≤ 31) (d : Nat) : ∀ j, j + d = n → Ev fun k => hanaperref07_turned.l0 k x n (turnN x j) (j : Int) = some (turnN x n : Int) := by
  induction d with
  | zero =>
    intro j hj
    have : j = n := by omega
    subst this
    refine Ev.one fun k => ?_
    rw [hanaperref07_turned.l0, if_neg (by omega)]
  | succ d ih =>
    intro j hj
    have hw : wrap64 ((j : Int) + 1) = ((j + 1 : Nat) : Int) := by rw [w64 (by omega)]; rfl
    refine (ih (j + 1) (by omega)).succ fun k hk => ?_
    have ht : turnN x j < 2 ^ 30 := Nat.lt_of_lt_of_le (turnN_lt x j) (Nat.pow_le_pow_right (by decide) (by omega))
    rw [hanaperref07_turned.l0, if_pos (by omega), if_pos (by omega), hw]
    have e1 : ((turnN x j : Nat) : Int) * (2 : Int) % (4294967296 : Int) = ((turnN x j <<< 1 : Nat) : Int) := by rw [Nat.shiftLeft_eq]; omega
    have e2 : shr .u32 (x : Int) (j : Int) = ((x >>> j : Nat) : Int) := by
      unfold shr
      have : min (j : Int).toNat IntKind.u32.bits = j := by show min (j : Int).toNat 32 = j; omega
      rw [this, Nat.shiftRight_eq_div_pow, Int.natCast_ediv]
      push_cast
      rfl
    have h1 : x >>> j < 4294967296 := by rw [Nat.shiftRight_eq_div_pow]; exact Nat.lt_of_le_of_lt (Nat.div_le_self _ _) hx
    have h2 : (x >>> j) &&& 1 < 4294967296 := Nat.lt_of_le_of_lt Nat.and_le_right (by decide)
    have h3 : turnN x j <<< 1 < 4294967296 := by rw [Nat.shiftLeft_eq]; omega
    have e3 : Go.bits .and .u32 ((x >>> j : Nat) : Int) 1 = ((x >>> j &&& 1 : Nat) : Int) := and_u32 h1 (b := 1) (by decide)
    rw [e1, e2, e3, or_u32 h3 h2]
    exact hk

theorem turned_ev (x n : Int) (h0 : 0 ≤ x) (hx : x < 4294967296) (hn0 : 0 ≤ n) (hn : n ≤ 31) : Ev fun k => hanaperref07_turned.f k x n = some (turnN x.toNat n.toNat : Int) := by
  refine (turned_loop x.toNat n.toNat (by omega) (by omega) n.toNat 0 (by omega)).imp fun k hk => ?_
  rw [hanaperref07_turned.f]
  rw [Int.toNat_of_nonneg h0, Int.toNat_of_nonneg hn0] at hk
  exact hk

end Go.Proofs.Ythgijppajindpaa

namespace Go.Proofs.Ythgijppajindpaa
open Go.RowKit Go.Proofs.YthgijppajindpaaW.PrintWords Go.Proofs.YthgijppajindpaaW.PrintLast Go.Proofs.YthgijppajindpaaW.PrintMore Go.Proofs.Ythgijppajindpaa.K7

/-- A symbol's word. -/
def wdOf (l : List Int) (j : Nat) : Int := (wordAt (cnts l) (l.getD j 0).toNat + cnt (l.take j) (l.getD j 0)) % 4294967296
/-- A symbol's piece. -/
def pcOf (l : List Int) (j : Nat) : Int × Int := if 0 < l.getD j 0 then ((turnN (wdOf l j).toNat (l.getD j 0).toNat : Int), l.getD j 0) else (0, 0)
def P42 (l : List Int) (j : Nat) : S42 := ⟨(pcOf l j).1, (pcOf l j).2⟩
def P41 (l : List Int) (j : Nat) : S41 := ⟨(pcOf l j).1, (pcOf l j).2⟩

/-- The words to come, before symbol i. -/
def Wst (l : List Int) (i : Nat) : List Int := (List.range 17).map fun k : Nat => if k = 0 then 0 else (wordAt (cnts l) k + cnt (l.take i) k) % 4294967296
theorem length_Wst (l : List Int) (i : Nat) : (Wst l i).length = 17 := by simp [Wst]
theorem Wst_getD (l : List Int) (i k : Nat) (hk : k < 17) : (Wst l i).getD k 0 = if k = 0 then 0 else (wordAt (cnts l) k + cnt (l.take i) k) % 4294967296 := by
  unfold Wst
  rw [List.getD_eq_getElem?_getD, List.getElem?_map, List.getElem?_range hk]
  rfl
theorem Wst_zero (l : List Int) : Wst l 0 = wordsTo (cnts l) 16 := by
  refine ext_getD (by rw [length_Wst, length_wordsTo]) (fun k hk => ?_)
  rw [length_Wst] at hk
  rw [Wst_getD _ _ _ hk, wordsTo_getD _ _ _ hk]
  by_cases h : k = 0
  · subst h; rfl
  · have := wordAt_bound (cnts l) k
    have e : cnt (l.take 0) (k : Int) = 0 := rfl
    rw [if_neg h, if_pos (by omega), e]
    omega

theorem codeStep_at {l : List Int} (hok : lensOk l = true) {i : Nat} (hi : i < l.length) : codeStep (Wst l i) (l.getD i 0) = (P42 l i, Wst l (i + 1)) := by
  have hx := lensOk_get hok i
  have hs : ∀ s : Nat, cnt (l.take (i + 1)) (s : Int) = cnt (l.take i) s + if l.getD i 0 = s then 1 else 0 := fun s => by rw [take_snoc hi, cnt_snoc]
  unfold codeStep P42 pcOf
  by_cases h0 : 0 < l.getD i 0
  · have hw : (Wst l i).getD (l.getD i 0).toNat 0 = wdOf l i := by
      rw [Wst_getD _ _ _ (by omega), if_neg (by omega), wdOf, Int.toNat_of_nonneg hx.1]
    rw [if_pos h0, if_pos h0, hw]
    refine Prod.ext rfl ?_
    show (Wst l i).set _ _ = _
    refine ext_getD (by rw [List.length_set, length_Wst, length_Wst]) (fun s hs' => ?_)
    rw [List.length_set, length_Wst] at hs'
    rw [getD_set, length_Wst, Wst_getD _ _ _ hs', Wst_getD _ _ _ hs', hs]
    by_cases e : (l.getD i 0).toNat = s
    · subst e
      rw [if_pos ⟨rfl, hs'⟩, if_neg (by omega), Int.toNat_of_nonneg hx.1, if_pos rfl, wdOf]
      omega
    · rw [if_neg (by omega), if_neg (show ¬ l.getD i 0 = (s : Int) by omega), Int.add_zero]
  · rw [if_neg h0, if_neg h0]
    refine Prod.ext rfl ?_
    show Wst l i = _
    refine ext_getD (by rw [length_Wst, length_Wst]) (fun s hs' => ?_)
    rw [length_Wst] at hs'
    rw [Wst_getD _ _ _ hs', Wst_getD _ _ _ hs', hs]
    by_cases e : s = 0
    · rw [if_pos e, if_pos e]
    · rw [if_neg (show ¬ l.getD i 0 = (s : Int) by omega), Int.add_zero]

theorem codesFrom_eq {l : List Int} (hok : lensOk l = true) (d : Nat) : ∀ i, i + d = l.length → codesFrom (Wst l i) (l.drop i) = (List.range' i d).map (P42 l) := by
  induction d with
  | zero =>
    intro i hi
    rw [List.drop_of_length_le (by omega)]
    rfl
  | succ d ih =>
    intro i hi
    have hil : i < l.length := by omega
    have e : l[i] = l.getD i 0 := by rw [List.getD_eq_getElem?_getD, List.getElem?_eq_getElem hil]; rfl
    rw [List.drop_eq_getElem_cons hil, e, codesFrom, codeStep_at hok hil, List.range'_succ, List.map_cons, ih (i + 1) (by omega)]

theorem isCode_ok {l : List Int} (h : isCode l = true) : lensOk l = true := by
  rw [isCode, Bool.and_eq_true] at h
  exact h.1

/-- The program's words, plain. -/
theorem Codes_eq (l : List Int) : Codes l = if isCode l then ((List.range l.length).map (P42 l), 0) else ([], 70) := by
  unfold Codes
  split
  · rename_i h
    have := codesFrom_eq (isCode_ok h) l.length 0 (by omega)
    rw [Wst_zero, List.drop_zero] at this
    rw [this, List.range_eq_range']
  · rfl

/-! ### the document's -/
def outAt (l : List Int) (n : Int) (i : Nat) : List S41 := (List.range l.length).map fun j => if 0 < l.getD j 0 ∧ (l.getD j 0 < n ∨ (l.getD j 0 = n ∧ j < i)) then P41 l j else ⟨0, 0⟩
theorem length_outAt (l : List Int) (n : Int) (i : Nat) : (outAt l n i).length = l.length := by simp [outAt]
theorem outAt_get (l : List Int) (n : Int) (i j : Nat) (hj : j < l.length) : (outAt l n i)[j]? = some (if 0 < l.getD j 0 ∧ (l.getD j 0 < n ∨ (l.getD j 0 = n ∧ j < i)) then P41 l j else ⟨0, 0⟩) := by
  unfold outAt
  rw [List.getElem?_map, List.getElem?_range hj]
  rfl
theorem outAt_ext (l : List Int) (xs : List S41) (n : Int) (i : Nat) (hl : xs.length = l.length) (h : ∀ j, j < l.length → xs[j]? = some (if 0 < l.getD j 0 ∧ (l.getD j 0 < n ∨ (l.getD j 0 = n ∧ j < i)) then P41 l j else ⟨0, 0⟩)) : xs = outAt l n i := by
  apply List.ext_getElem?
  intro j
  by_cases hj : j < l.length
  · rw [h j hj, outAt_get _ _ _ _ hj]
  · rw [List.getElem?_eq_none (by omega), List.getElem?_eq_none (by rw [length_outAt]; omega)]

theorem outAt_one (l : List Int) : List.replicate l.length (⟨0, 0⟩ : S41) = outAt l 1 0 := by
  refine outAt_ext l _ _ _ (by simp) (fun j hj => ?_)
  rw [List.getElem?_replicate, if_pos hj, if_neg (by omega)]
theorem outAt_next (l : List Int) (n : Int) : outAt l n l.length = outAt l (n + 1) 0 := by
  refine outAt_ext l _ _ _ (length_outAt _ _ _) (fun j hj => ?_)
  rw [outAt_get _ _ _ _ hj]
  congr 1
  by_cases h : 0 < l.getD j 0 ∧ (l.getD j 0 < n ∨ (l.getD j 0 = n ∧ j < l.length))
  · rw [if_pos h, if_pos (by omega)]
  · rw [if_neg h, if_neg (by omega)]
theorem outAt_skip (l : List Int) (n : Int) (i : Nat) (h : l.getD i 0 ≠ n) : outAt l n i = outAt l n (i + 1) := by
  refine outAt_ext l _ _ _ (length_outAt _ _ _) (fun j hj => ?_)
  rw [outAt_get _ _ _ _ hj]
  congr 1
  by_cases e : j = i
  · subst e
    by_cases h1 : 0 < l.getD j 0 ∧ (l.getD j 0 < n ∨ (l.getD j 0 = n ∧ j < j))
    · rw [if_pos h1, if_pos (by omega)]
    · rw [if_neg h1, if_neg (by omega)]
  · by_cases h1 : 0 < l.getD j 0 ∧ (l.getD j 0 < n ∨ (l.getD j 0 = n ∧ j < i))
    · rw [if_pos h1, if_pos (by omega)]
    · rw [if_neg h1, if_neg (by omega)]
theorem outAt_set (l : List Int) (n : Int) (i : Nat) (hi : i < l.length) (h0 : 0 < n) (h : l.getD i 0 = n) : (outAt l n i).set i (P41 l i) = outAt l n (i + 1) := by
  refine outAt_ext l _ _ _ (by rw [List.length_set]; exact length_outAt _ _ _) (fun j hj => ?_)
  rw [List.getElem?_set]
  by_cases e : i = j
  · subst e
    rw [if_pos rfl, if_pos (by rw [length_outAt]; exact hi), if_pos (by omega)]
  · rw [if_neg e, outAt_get _ _ _ _ hj]
    congr 1
    by_cases h1 : 0 < l.getD j 0 ∧ (l.getD j 0 < n ∨ (l.getD j 0 = n ∧ j < i))
    · rw [if_pos h1, if_pos (by omega)]
    · rw [if_neg h1, if_neg (by omega)]
theorem outAt_all {l : List Int} (hok : lensOk l = true) : outAt l 16 0 = (List.range l.length).map (P41 l) := by
  refine (outAt_ext l _ _ _ (by simp) (fun j hj => ?_)).symm
  rw [List.getElem?_map, List.getElem?_range hj]
  have hx := lensOk_get hok j
  show some (P41 l j) = _
  congr 1
  by_cases h : 0 < l.getD j 0
  · rw [if_pos (by omega)]
  · rw [if_neg (by omega)]
    unfold P41 pcOf
    rw [if_neg h]

def wS (l : List Int) (n i : Nat) : Int := (wordAt (cnts l) n + cnt (l.take i) n) % 4294967296

theorem codes_loop2 {l : List Int} (hl : l.length < 1000000) (n : Nat) (h1 : 1 ≤ n) (h15 : n ≤ 15) (R : Option (List S41 × Int)) (h : Ev fun k => hanaperref07_Codes.l1 k l (outAt l (n + 1 : Nat) 0) (wS l n l.length) ((n + 1 : Nat) : Int) = R) (d : Nat) : ∀ i, i + d = l.length →
    Ev fun k => hanaperref07_Codes.l2 k l (outAt l n i) (wS l n i) n i = R := by
  induction d with
  | zero =>
    intro i hi
    have : i = l.length := by omega
    subst this
    refine h.succ fun k hk => ?_
    have hw : wrap64 ((n : Int) + 1) = ((n + 1 : Nat) : Int) := by rw [w64 (by omega)]; rfl
    rw [hanaperref07_Codes.l2, if_neg (by omega), hw, outAt_next]
    exact hk
  | succ d ih =>
    intro i hi
    have hil : i < l.length := by omega
    have hw : wrap64 ((i : Int) + 1) = ((i + 1 : Nat) : Int) := by rw [w64 (by omega)]; rfl
    have e1 : rd l (i : Int) = l.getD i 0 := rfl
    have hs : cnt (l.take (i + 1)) (n : Int) = cnt (l.take i) n + if l.getD i 0 = n then 1 else 0 := by rw [take_snoc hil, cnt_snoc]
    by_cases hx : l.getD i 0 = n
    · have hb : 0 ≤ wS l n i ∧ wS l n i < 4294967296 := by unfold wS; omega
      refine ((ih (i + 1) (by omega)).and (turned_ev (wS l n i) n hb.1 hb.2 (by omega) (by omega))).succ fun k hk => ?_
      obtain ⟨hk, ht⟩ := hk
      rw [hanaperref07_Codes.l2, if_pos (by omega), if_pos (by omega), e1, if_pos hx, ht, Option.bind_some, if_pos (by rw [length_outAt]; omega), hw]
      have e2 : (⟨(turnN (wS l n i).toNat (n : Int).toNat : Int), (n : Int)⟩ : S41) = P41 l i := by
        unfold P41 pcOf wdOf wS
        rw [if_pos (by omega), hx]
        rfl
      have e3 : (wS l n i + 1) % 4294967296 = wS l n (i + 1) := by
        unfold wS
        rw [hs, if_pos hx]
        omega
      rw [e2, e3, Int.toNat_natCast, outAt_set l n i hil (by omega) hx]
      exact hk
    · refine (ih (i + 1) (by omega)).succ fun k hk => ?_
      rw [hanaperref07_Codes.l2, if_pos (by omega), if_pos (by omega), e1, if_neg hx, hw]
      have e3 : wS l n i = wS l n (i + 1) := by
        unfold wS
        rw [hs, if_neg hx, Int.add_zero]
      rw [e3, outAt_skip l n i hx]
      exact hk

theorem wS_double (l : List Int) (n : Nat) (h1 : 1 ≤ n) (h15 : n ≤ 15) : (wS l n l.length * 2) % 4294967296 = wS l (n + 1) 0 := by
  obtain ⟨m, rfl⟩ : ∃ m, n = m + 1 := ⟨n - 1, by omega⟩
  unfold wS
  have e : cnt (l.take 0) ((m + 1 + 1 : Nat) : Int) = 0 := rfl
  rw [e, List.take_length, wordAt, cnts_getD l (m + 1) (by omega)]
  omega

theorem codes_loop1 {l : List Int} (hl : l.length < 1000000) (hok : lensOk l = true) (d : Nat) : ∀ (n : Nat) (x : Int), 1 ≤ n → n + d = 16 → (x * 2) % 4294967296 = wS l n 0 →
    Ev fun k => hanaperref07_Codes.l1 k l (outAt l n 0) x n = some ((List.range l.length).map (P41 l), 0) := by
  induction d with
  | zero =>
    intro n x h1 hn hx
    have : n = 16 := by omega
    subst this
    refine Ev.one fun k => ?_
    rw [hanaperref07_Codes.l1, if_neg (by omega)]
    have := outAt_all hok
    rw [← this]
    rfl
  | succ d ih =>
    intro n x h1 hn hx
    refine (codes_loop2 hl n h1 (by omega) _ (ih (n + 1) _ (by omega) (by omega) (wS_double l n h1 (by omega))) l.length 0 (by omega)).succ fun k hk => ?_
    rw [hanaperref07_Codes.l1, if_pos (by omega), hx]
    exact hk

theorem codes_loop0 {l : List Int} (hl : l.length < 1000000) (hok : lensOk l = true) (d : Nat) : ∀ i, i + d = l.length →
    Ev fun k => hanaperref07_Codes.l0 k l (List.replicate i ⟨0, 0⟩) (i : Int) = some ((List.range l.length).map (P41 l), 0) := by
  induction d with
  | zero =>
    intro i hi
    have : i = l.length := by omega
    subst this
    refine (codes_loop1 hl hok 15 1 0 (by omega) (by omega) (by unfold wS; rfl)).succ fun k hk => ?_
    rw [hanaperref07_Codes.l0, if_neg (by omega), outAt_one]
    exact hk
  | succ d ih =>
    intro i hi
    have hw : wrap64 ((i : Int) + 1) = ((i + 1 : Nat) : Int) := by rw [w64 (by omega)]; rfl
    refine (ih (i + 1) (by omega)).succ fun k hk => ?_
    rw [hanaperref07_Codes.l0, if_pos (by omega), if_pos (by simp; omega), hw]
    rw [List.replicate_succ'] at hk
    exact hk

theorem refCodes_ev (l : List Int) (hl : l.length < 1000000) : Ev fun k => hanaperref07_Codes.f k l = some (if isCode l then ((List.range l.length).map (P41 l), 0) else ([], 70)) := by
  cases h : isCode l with
  | true =>
    refine ((right_ev l hl).and (codes_loop0 hl (isCode_ok h) l.length 0 (by omega))).imp fun k hk => ?_
    rw [hanaperref07_Codes.f, hk.1, Option.bind_some, h, if_pos rfl, if_pos rfl]
    exact hk.2
  | false =>
    refine (right_ev l hl).imp fun k hk => ?_
    rw [hanaperref07_Codes.f, hk, Option.bind_some, h]
    rfl

end Go.Proofs.Ythgijppajindpaa

namespace Go.Proofs.Ythgijppajindpaa
open Go.RowKit Go.Proofs.YthgijppajindpaaW.PrintWords

/-- The first word of a width, exact. -/
def Fx (l : List Int) : Nat → Nat
  | 0 => 0
  | 1 => 0
  | w + 2 => 2 * (Fx l (w + 1) + (cnt l ((w + 1 : Nat) : Int)).toNat)
/-- The first word behind those of a width. -/
def Ex (l : List Int) (w : Nat) : Nat := Fx l w + (cnt l (w : Int)).toNat
theorem Fx_succ (l : List Int) (w : Nat) (hw : 1 ≤ w) : Fx l (w + 1) = 2 * Ex l w := by
  obtain ⟨v, rfl⟩ : ∃ v, w = v + 1 := ⟨w - 1, by omega⟩
  rfl

/-- The share of the words up to a width. -/
def Krle (l : List Int) (w : Nat) : Nat := (l.map fun x => if 1 ≤ x ∧ x ≤ (w : Int) then 2 ^ (15 - x).toNat else 0).sum
theorem Krle_cons (x : Int) (l : List Int) (w : Nat) : Krle (x :: l) w = (if 1 ≤ x ∧ x ≤ (w : Int) then 2 ^ (15 - x).toNat else 0) + Krle l w := rfl
theorem cnt_cons (x : Int) (l : List Int) (k : Int) : cnt (x :: l) k = (if x = k then 1 else 0) + cnt l k := rfl
theorem Krle_succ (w : Nat) : ∀ l : List Int, Krle l (w + 1) = Krle l w + (cnt l ((w + 1 : Nat) : Int)).toNat * 2 ^ (15 - (w + 1))
  | [] => by simp [Krle, cnt]
  | x :: l => by
    have h := Krle_succ w l
    have hb := cnt_bound ((w + 1 : Nat) : Int) l
    rw [Krle_cons, Krle_cons, cnt_cons, h]
    by_cases e : x = ((w + 1 : Nat) : Int)
    · subst e
      rw [if_pos (by omega), if_neg (by omega), if_pos rfl]
      have e1 : (15 - ((w + 1 : Nat) : Int)).toNat = 15 - (w + 1) := by omega
      have e2 : (1 + cnt l ((w + 1 : Nat) : Int)).toNat = 1 + (cnt l ((w + 1 : Nat) : Int)).toNat := by omega
      rw [e1, e2, Nat.add_mul]
      omega
    · rw [if_neg e, Int.zero_add]
      by_cases e1 : 1 ≤ x ∧ x ≤ (w : Int)
      · rw [if_pos e1, if_pos (by omega)]; omega
      · rw [if_neg e1, if_neg (by omega)]; omega
theorem Krle_zero : ∀ l : List Int, Krle l 0 = 0
  | [] => rfl
  | x :: l => by rw [Krle_cons, Krle_zero l, if_neg (by omega)]
theorem Krle_mono (l : List Int) {v w : Nat} (h : v ≤ w) : Krle l v ≤ Krle l w := by
  induction h with
  | refl => exact Nat.le_refl _
  | step _ ih => rw [Krle_succ]; omega
theorem Krle_all : ∀ l : List Int, (Krle l 15 : Int) = Kr l
  | [] => rfl
  | x :: l => by
    have h := Krle_all l
    have k1 : Kr (x :: l) = kr x + Kr l := rfl
    rw [Krle_cons, k1, ← h]
    unfold kr
    rw [Int.natCast_add]
    congr 1
    by_cases e : 1 ≤ x ∧ x ≤ 15
    · rw [if_pos e, if_pos (show 1 ≤ x ∧ x ≤ ((15 : Nat) : Int) from e)]; push_cast; rfl
    · rw [if_neg e, if_neg (show ¬ (1 ≤ x ∧ x ≤ ((15 : Nat) : Int)) from e)]; rfl

theorem Ex_share (l : List Int) : ∀ w, 1 ≤ w → w ≤ 15 → Ex l w * 2 ^ (15 - w) = Krle l w := by
  intro w
  induction w with
  | zero => intro h; omega
  | succ w ih =>
    intro _ h15
    by_cases h : w = 0
    · subst h
      rw [Krle_succ, Krle_zero]
      show (0 + _) * _ = 0 + _
      simp only [Nat.zero_add]
    · have := ih (by omega) (by omega)
      rw [Krle_succ, ← this, Ex, Fx_succ l w (by omega), Nat.add_mul]
      have e : 2 ^ (15 - w) = 2 * 2 ^ (15 - (w + 1)) := by
        rw [show 15 - w = (15 - (w + 1)) + 1 by omega, Nat.pow_succ]
        omega
      rw [e]
      generalize 2 ^ (15 - (w + 1)) = p
      generalize Ex l w = q
      rw [Nat.mul_comm 2 q, Nat.mul_assoc]

theorem Kr_code {l : List Int} (h : isCode l = true) : Kr l = 32768 ∨ (cnt l 1 = 1 ∧ Kr l = 16384) := by
  rw [isCode, Bool.and_eq_true, Bool.and_eq_true, Bool.or_eq_true, Bool.and_eq_true] at h
  have := h.2.2
  simpa using this
theorem len_code {l : List Int} (h : isCode l = true) : l.length ≤ 300 := by
  rw [isCode, Bool.and_eq_true, Bool.and_eq_true] at h
  simpa using h.2.1

theorem Ex_le {l : List Int} (h : isCode l = true) {w : Nat} (h1 : 1 ≤ w) (h15 : w ≤ 15) : Ex l w ≤ 2 ^ w := by
  have e := Ex_share l w h1 h15
  have m := Krle_mono l h15
  have a := Krle_all l
  have k := Kr_code h
  have hle : Krle l w ≤ 32768 := by omega
  have e2 : (32768 : Nat) = 2 ^ w * 2 ^ (15 - w) := by rw [← Nat.pow_add, show w + (15 - w) = 15 by omega]
  rw [e2, ← e] at hle
  exact Nat.le_of_mul_le_mul_right hle (Nat.two_pow_pos _)
theorem Ex_whole {l : List Int} (h : Kr l = 32768) : Ex l 15 = 32768 := by
  have e := Ex_share l 15 (by decide) (by decide)
  have a := Krle_all l
  simp at e
  omega

theorem wordAt_exact {l : List Int} (h : isCode l = true) : ∀ w, w ≤ 15 → wordAt (cnts l) w = (Fx l w : Int)
  | 0, _ => rfl
  | 1, _ => rfl
  | w + 2, hw => by
    have ih := wordAt_exact h (w + 1) (by omega)
    have hE := Ex_le h (w := w + 1) (by omega) (by omega)
    have hp : 2 ^ (w + 1) ≤ 2 ^ 15 := Nat.pow_le_pow_right (by decide) (by omega)
    have hb := cnt_bound ((w + 1 : Nat) : Int) l
    have eF : Fx l (w + 2) = 2 * (Fx l (w + 1) + (cnt l ((w + 1 : Nat) : Int)).toNat) := rfl
    unfold Ex at hE
    rw [wordAt, ih, cnts_getD l (w + 1) (by omega), eF]
    generalize Fx l (w + 1) = f at *
    generalize cnt l ((w + 1 : Nat) : Int) = c at *
    generalize 2 ^ (w + 1) = p at *
    omega

/-- How many of a symbol's width stand ahead of it. -/
def ahead (l : List Int) (j : Nat) : Nat := (cnt (l.take j) (l.getD j 0)).toNat
theorem cnt_append (l m : List Int) (k : Int) : cnt (l ++ m) k = cnt l k + cnt m k := by simp [cnt]
theorem cnt_take_le (l : List Int) (j : Nat) (k : Int) : cnt (l.take j) k ≤ cnt l k := by
  have e : cnt l k = cnt (l.take j) k + cnt (l.drop j) k := by rw [← cnt_append, List.take_append_drop]
  have := (cnt_bound k (l.drop j)).1
  omega
theorem cnt_take_mono (l : List Int) {i j : Nat} (h : i ≤ j) (k : Int) : cnt (l.take i) k ≤ cnt (l.take j) k := by
  have e : (l.take j).take i = l.take i := by rw [List.take_take, Nat.min_eq_left h]
  rw [← e]
  exact cnt_take_le _ _ _
theorem ahead_lt {l : List Int} {j : Nat} (hj : j < l.length) : ahead l j < (cnt l (l.getD j 0)).toNat := by
  have h1 := cnt_take_le l (j + 1) (l.getD j 0)
  rw [take_snoc hj, cnt_snoc, if_pos rfl] at h1
  have h2 := cnt_bound (l.getD j 0) (l.take j)
  unfold ahead
  omega

theorem wdOf_exact {l : List Int} (h : isCode l = true) {j : Nat} (hj : j < l.length) (hx : 0 < l.getD j 0) : wdOf l j = ((Fx l (l.getD j 0).toNat + ahead l j : Nat) : Int) := by
  have hb := lensOk_get (isCode_ok h) j
  have hE := Ex_le h (w := (l.getD j 0).toNat) (by omega) (by omega)
  have hp : 2 ^ (l.getD j 0).toNat ≤ 2 ^ 15 := Nat.pow_le_pow_right (by decide) (by omega)
  have ha := ahead_lt hj
  have hc := cnt_bound (l.getD j 0) (l.take j)
  unfold wdOf
  rw [wordAt_exact h _ (by omega)]
  unfold Ex at hE
  rw [Int.toNat_of_nonneg hb.1] at hE
  unfold ahead at *
  omega

/-- A symbol's word, a number. -/
def wN (l : List Int) (j : Nat) : Nat := Fx l (l.getD j 0).toNat + ahead l j
theorem wN_lt {l : List Int} {j : Nat} (hj : j < l.length) (hx : 0 ≤ l.getD j 0) : wN l j < Ex l (l.getD j 0).toNat := by
  have := ahead_lt hj
  unfold wN Ex
  rw [Int.toNat_of_nonneg hx]
  omega
theorem wN_lt_pow {l : List Int} (h : isCode l = true) {j : Nat} (hj : j < l.length) (hx : 0 < l.getD j 0) : wN l j < 2 ^ (l.getD j 0).toNat := by
  have hb := lensOk_get (isCode_ok h) j
  exact Nat.lt_of_lt_of_le (wN_lt hj hb.1) (Ex_le h (by omega) (by omega))

theorem Fx_ge (l : List Int) (v d : Nat) (h1 : 1 ≤ v) : 2 ^ (d + 1) * Ex l v ≤ Fx l (v + d + 1) := by
  induction d with
  | zero => rw [Fx_succ l (v + 0) (by omega)]; simp
  | succ d ih =>
    rw [Fx_succ l (v + (d + 1)) (by omega), show v + (d + 1) = v + d + 1 by omega]
    have : Fx l (v + d + 1) ≤ Ex l (v + d + 1) := Nat.le_add_right _ _
    rw [Nat.pow_succ]
    generalize 2 ^ (d + 1) = p at *
    generalize Ex l v = e at *
    have e2 : p * 2 * e = 2 * (p * e) := by rw [Nat.mul_comm p 2, Nat.mul_assoc]
    rw [e2]
    omega

/-- No word begins another one. -/
theorem wN_free {l : List Int} (h : isCode l = true) {i k : Nat} (hi : i < l.length) (hk : k < l.length) (hik : i ≠ k) (hxi : 0 < l.getD i 0) (hle : l.getD i 0 ≤ l.getD k 0) :
    wN l k / 2 ^ ((l.getD k 0).toNat - (l.getD i 0).toNat) ≠ wN l i := by
  have hbi := lensOk_get (isCode_ok h) i
  have hbk := lensOk_get (isCode_ok h) k
  by_cases e : l.getD i 0 = l.getD k 0
  · rw [e, Nat.sub_self, Nat.pow_zero, Nat.div_one]
    unfold wN
    rw [e]
    intro hh
    have hh : ahead l k = ahead l i := by omega
    unfold ahead at hh
    rw [e] at hh
    have c1 := cnt_bound (l.getD k 0) (l.take k)
    have c2 := cnt_bound (l.getD k 0) (l.take i)
    rcases Nat.lt_or_gt_of_ne hik with hlt | hlt
    · have := cnt_take_mono l (show i + 1 ≤ k by omega) (l.getD k 0)
      rw [take_snoc hi, cnt_snoc, if_pos e] at this
      omega
    · have := cnt_take_mono l (show k + 1 ≤ i by omega) (l.getD k 0)
      rw [take_snoc hk, cnt_snoc, if_pos rfl] at this
      omega
  · have h1 := wN_lt hi hbi.1
    obtain ⟨d, hd⟩ : ∃ d, (l.getD k 0).toNat = (l.getD i 0).toNat + d + 1 := ⟨(l.getD k 0).toNat - (l.getD i 0).toNat - 1, by omega⟩
    have h2 := Fx_ge l (l.getD i 0).toNat d (by omega)
    rw [hd, show (l.getD i 0).toNat + d + 1 - (l.getD i 0).toNat = d + 1 by omega]
    have h3 : 2 ^ (d + 1) * Ex l (l.getD i 0).toNat ≤ wN l k := by
      unfold wN
      rw [hd]
      omega
    have h4 : Ex l (l.getD i 0).toNat ≤ wN l k / 2 ^ (d + 1) := by
      rw [Nat.le_div_iff_mul_le (Nat.two_pow_pos _), Nat.mul_comm]
      exact h3
    omega

/-! ### turned words -/
theorem turnN_mod (x W w : Nat) (h : w ≤ W) : turnN x W % 2 ^ w = turnN (x / 2 ^ (W - w)) w := by
  apply Nat.eq_of_testBit_eq
  intro j
  rw [Nat.testBit_mod_two_pow, turnN_bit, turnN_bit, ← Nat.shiftRight_eq_div_pow, Nat.testBit_shiftRight]
  by_cases hj : j < w
  · rw [decide_eq_true hj, decide_eq_true (show j < W by omega), Bool.true_and, Bool.true_and, Bool.true_and]
    congr 1
    omega
  · rw [decide_eq_false hj]
    simp
theorem turnN_turn (x w : Nat) (h : x < 2 ^ w) : turnN (turnN x w) w = x := by
  apply Nat.eq_of_testBit_eq
  intro j
  rw [turnN_bit, turnN_bit]
  by_cases hj : j < w
  · rw [decide_eq_true hj, decide_eq_true (show w - 1 - j < w by omega), Bool.true_and, Bool.true_and]
    congr 1
    omega
  · rw [decide_eq_false hj, Bool.false_and]
    exact (Nat.testBit_lt_two_pow (Nat.lt_of_lt_of_le h (Nat.pow_le_pow_right (by decide) (by omega)))).symm
theorem turnN_inj {x y w : Nat} (hx : x < 2 ^ w) (hy : y < 2 ^ w) (h : turnN x w = turnN y w) : x = y := by
  rw [← turnN_turn x w hx, ← turnN_turn y w hy, h]

/-- A symbol's piece, by its word. -/
theorem pcOf_code {l : List Int} (h : isCode l = true) {j : Nat} (hj : j < l.length) (hx : 0 < l.getD j 0) : pcOf l j = ((turnN (wN l j) (l.getD j 0).toNat : Int), l.getD j 0) := by
  unfold pcOf
  rw [if_pos hx, wdOf_exact h hj hx]
  rfl

end Go.Proofs.Ythgijppajindpaa

namespace Go.Proofs.Ythgijppajindpaa
open Go.RowKit Go.Proofs.YthgijppajindpaaW.PrintWords

theorem Kr_set : ∀ (xs : List Int) (i : Nat) (v : Int), i < xs.length → Kr (xs.set i v) = Kr xs - kr (xs.getD i 0) + kr v
  | x :: xs, 0, v, _ => by
    show kr v + Kr xs = kr x + Kr xs - kr x + kr v
    omega
  | x :: xs, i + 1, v, h => by
    have := Kr_set xs i v (by simpa using h)
    show kr x + Kr (xs.set i v) = kr x + Kr xs - kr (xs.getD i 0) + kr v
    omega

theorem Kr_setAll : ∀ (ps : List (Nat × Nat)) (xs : List Int), (ps.map Prod.fst).Nodup → (∀ p, p ∈ ps → p.1 < xs.length ∧ xs.getD p.1 0 = 0) →
    Kr (setAll ps xs) = Kr xs + (ps.map fun p => kr (max (p.2 : Int) 1)).sum
  | [], xs, _, _ => by simp [setAll]
  | p :: ps, xs, hn, h => by
    have e : setAll (p :: ps) xs = setAll ps (xs.set p.1 (max (p.2 : Int) 1)) := rfl
    obtain ⟨n1, n2⟩ := List.nodup_cons.1 (show (p.1 :: ps.map Prod.fst).Nodup from hn)
    have hp := h p (by simp)
    have k0 : kr 0 = 0 := by decide
    rw [e, Kr_setAll ps _ n2 (fun q hq => by
      have h1 := h q (by simp [hq])
      refine ⟨by rw [List.length_set]; exact h1.1, ?_⟩
      rw [getD_set, if_neg, h1.2]
      rintro ⟨e1, _⟩
      exact n1 (e1 ▸ List.mem_map_of_mem hq)), Kr_set xs _ _ hp.1, hp.2, k0, List.map_cons, List.sum_cons]
    omega

theorem Kr_zeros (n : Nat) : Kr (List.replicate n 0) = 0 := by
  induction n with
  | zero => rfl
  | succ n ih =>
    have k0 : kr 0 = 0 := by decide
    show kr 0 + Kr (List.replicate n 0) = 0
    rw [ih, k0]; rfl

/-- The depths' shares. -/
theorem Kr_dpt (l : List Int) : Kr (dpt l) = ((deps l.length (wts l)).map fun d : Nat => kr (max (d : Int) 1)).sum := by
  unfold dpt
  rw [Kr_setAll _ _ (by rw [zip_syms]; exact (leafs_syms l).imp (fun h e => by omega)) (fun p hp => by
    have hs : p.1 ∈ syms l := by
      rw [← zip_syms l]
      exact List.mem_map_of_mem hp
    have := syms_lt l p.1 hs
    exact ⟨by rw [List.length_replicate]; exact this, by simp [List.getD_eq_getElem?_getD, List.getElem?_replicate, this]⟩), Kr_zeros, Int.zero_add]
  congr 1
  have e : ((syms l).zip (deps l.length (wts l))).map Prod.snd = deps l.length (wts l) := by
    rw [List.map_snd_zip]
    rw [length_deps]
    simp [syms, wts]
  conv => rhs; rw [← e, List.map_map]
  rfl

theorem kr_nat {d : Nat} (h1 : 1 ≤ d) (h2 : d ≤ 15) : kr (max (d : Int) 1) = ((2 ^ (15 - d) : Nat) : Int) := by
  have : max (d : Int) 1 = (d : Int) := by omega
  rw [this]
  unfold kr
  rw [if_pos (by omega)]
  have e : (15 - (d : Int)).toNat = 15 - d := by omega
  rw [e]
  push_cast
  rfl

theorem share_deps (K k : Nat) (l : List Int) : share K (zd k l) = ((deps k l).map fun d => 2 ^ (K - d)).sum := by
  unfold share
  have e : (zd k l).map Prod.snd = deps k l := by
    unfold zd
    rw [List.map_snd_zip]
    rw [length_deps]
    exact Nat.le_refl _
  conv => rhs; rw [← e, List.map_map]
  rfl

theorem deps_mem {k : Nat} {l : List Int} {d : Nat} (h : d ∈ deps k l) : ∃ x, (x, d) ∈ zd k l := by
  obtain ⟨i, hi, rfl⟩ := List.getElem_of_mem h
  have hl : i < l.length := by rwa [length_deps] at hi
  refine ⟨l[i], ?_⟩
  have : (zd k l)[i]'(by rw [length_zd]; exact hl) = (l[i], (deps k l)[i]) := by simp only [zd, List.getElem_zip]
  rw [← this]
  exact List.getElem_mem _

theorem sum_kr_nat : ∀ ds : List Nat, (∀ d, d ∈ ds → 1 ≤ d ∧ d ≤ 15) → (ds.map fun d : Nat => kr (max (d : Int) 1)).sum = (((ds.map fun d => 2 ^ (15 - d)).sum : Nat) : Int)
  | [], _ => rfl
  | d :: ds, h => by
    have h1 := h d (by simp)
    rw [List.map_cons, List.sum_cons, List.map_cons, List.sum_cons, kr_nat h1.1 h1.2, sum_kr_nat ds (fun e he => h e (by simp [he]))]
    push_cast
    rfl

theorem dpt_mem (l : List Int) {d : Nat} (h : d ∈ deps l.length (wts l)) : (max (d : Int) 1) ∈ dpt l := by
  obtain ⟨i, hi, rfl⟩ := List.getElem_of_mem h
  have hw : i < (syms l).length := by rw [length_deps] at hi; simpa [syms, wts] using hi
  have hz : ((syms l)[i], (deps l.length (wts l))[i]) ∈ (syms l).zip (deps l.length (wts l)) := by
    have : ((syms l).zip (deps l.length (wts l)))[i]'(by rw [List.length_zip]; omega) = ((syms l)[i], (deps l.length (wts l))[i]) := by simp
    rw [← this]
    exact List.getElem_mem _
  rw [← dpt_get l hz]
  have hs := syms_lt l _ (List.getElem_mem hw)
  rw [List.getD_eq_getElem?_getD, List.getElem?_eq_getElem (by rw [length_dpt]; exact hs)]
  exact List.getElem_mem _

theorem wts_used (l : List Int) (h : ∀ x, x ∈ l → 0 ≤ x) : ((wts l).length : Int) = used l := by
  rw [← used_leafs l h]
  simp [wts]

theorem dpt_whole (l : List Int) (h0 : ∀ x, x ∈ l → 0 ≤ x) (hf : fits 15 (dpt l) = true) (h2 : 2 ≤ used l) : Kr (dpt l) = 32768 := by
  have hu := wts_used l h0
  have hle := wts_len l
  have hd : ∀ d, d ∈ deps l.length (wts l) → 1 ≤ d ∧ d ≤ 15 := by
    intro d hd
    obtain ⟨x, hx⟩ := deps_mem hd
    have h1 := zd_pos l.length (wts l) (by omega) (by omega) _ hx
    have h3 := dpt_mem l hd
    unfold fits at hf
    rw [List.all_eq_true] at hf
    have := hf _ h3
    simp only [decide_eq_true_eq] at this
    dsimp only at h1
    omega
  rw [Kr_dpt, sum_kr_nat _ hd, ← share_deps, zd_share 15 l.length (wts l) (by omega) (by omega) (fun z hz => by
    have : z.2 ∈ deps l.length (wts l) := by
      unfold zd at hz
      exact (List.of_mem_zip (show (z.1, z.2) ∈ _ from hz)).2
    exact (hd _ this).2)]
  rfl

theorem dpt_single (l : List Int) (h0 : ∀ x, x ∈ l → 0 ≤ x) (h1 : used l = 1) : Kr (dpt l) = 16384 := by
  have hu := wts_used l h0
  have hl : (deps l.length (wts l)).length = 1 := by rw [length_deps]; omega
  obtain ⟨d, hd⟩ : ∃ d, deps l.length (wts l) = [d] := by
    match h : deps l.length (wts l) with
    | [d] => exact ⟨d, rfl⟩
    | [] => rw [h] at hl; simp at hl
    | _ :: _ :: _ => rw [h] at hl; simp at hl
  obtain ⟨x, hx⟩ := deps_mem (k := l.length) (l := wts l) (d := d) (by rw [hd]; simp)
  have := zd_one (k := l.length) (l := wts l) (by omega) _ hx
  dsimp only at this
  subst this
  rw [Kr_dpt, hd]
  decide

theorem dpt_empty (l : List Int) (h0 : ∀ x, x ∈ l → 0 ≤ x) (h1 : used l = 0) : Kr (dpt l) = 0 := by
  have hu := wts_used l h0
  have hl : (deps l.length (wts l)).length = 0 := by rw [length_deps]; omega
  rw [Kr_dpt, List.length_eq_zero_iff.1 hl]
  rfl

theorem dpt_nonneg (l : List Int) (j : Nat) : 0 ≤ (dpt l).getD j 0 ∧ (j < l.length → ((dpt l).getD j 0 = 0 ↔ ¬ 0 < l.getD j 0)) := by
  by_cases hm : j ∈ syms l
  · obtain ⟨d, hd⟩ := zip_mem l hm
    rw [dpt_get l hd]
    refine ⟨by omega, fun hj => ?_⟩
    have hz := zip_zd l hd
    have hp := wts_pos l (l.getD j 0) (by
      have h1 := List.mem_map_of_mem (f := Prod.fst) hz
      rwa [zd_fst] at h1)
    constructor
    · intro h; omega
    · intro h; exact absurd hp h
  · rw [dpt_none l hm]
    exact ⟨Int.le_refl _, fun hj => ⟨fun _ hp => hm (mem_syms hj hp), fun _ => rfl⟩⟩

/-- Where something comes, it comes after halving, too. -/
theorem halve_pos (l : List Int) (j : Nat) (hj : j < l.length) (h0 : 0 ≤ l.getD j 0) : (0 < (halve l).getD j 0 ↔ 0 < l.getD j 0) ∧ 0 ≤ (halve l).getD j 0 := by
  unfold halve
  rw [List.getD_eq_getElem?_getD, List.getElem?_map, List.getElem?_eq_getElem hj]
  rw [List.getD_eq_getElem?_getD, List.getElem?_eq_getElem hj] at h0 ⊢
  simp only [Option.map_some, Option.getD_some] at *
  omega

theorem halve_nonneg (l : List Int) (h : ∀ x, x ∈ l → 0 ≤ x) : ∀ x, x ∈ halve l → 0 ≤ x := by
  intro x hx
  obtain ⟨y, hy, rfl⟩ := List.mem_map.1 hx
  have := h y hy
  omega

theorem lens_is (K : Nat) (hK : 1 ≤ K) (n : Nat) : ∀ l : List Int, (∀ x, x ∈ l → 0 ≤ x ∧ x ≤ 2 ^ n) → used l ≤ 2 ^ K →
    ∃ l' : List Int, lens n K l = dpt l' ∧ l'.length = l.length ∧ fits K (dpt l') = true ∧ (∀ x, x ∈ l' → 0 ≤ x) ∧ used l' = used l ∧ ∀ j, j < l.length → (0 < l'.getD j 0 ↔ 0 < l.getD j 0) := by
  induction n with
  | zero =>
    intro l h hu
    refine ⟨l, rfl, rfl, dpt_ones l K hK (fun x hx => by have := h x hx; simpa using this) hu, fun x hx => (h x hx).1, rfl, fun j _ => Iff.rfl⟩
  | succ n ih =>
    intro l h hu
    rw [lens]
    split
    · rename_i hf
      exact ⟨l, rfl, rfl, hf, fun x hx => (h x hx).1, rfl, fun j _ => Iff.rfl⟩
    · have hn : ∀ x, x ∈ l → 0 ≤ x := fun x hx => (h x hx).1
      obtain ⟨l', h1, h2, h3, h4, h5, h6⟩ := ih (halve l) (halve_le l n h) (by rw [used_halve l hn]; exact hu)
      refine ⟨l', h1, by rw [h2, length_halve], h3, h4, by rw [h5, used_halve l hn], fun j hj => ?_⟩
      rw [h6 j (by rw [length_halve]; exact hj)]
      exact (halve_pos l j hj (hn _ (by rw [List.getD_eq_getElem?_getD, List.getElem?_eq_getElem hj]; exact List.getElem_mem _))).1

theorem usedK_cons (x : Int) (l : List Int) : usedK (x :: l) = (if 0 < x then 1 else 0) + usedK l := rfl
theorem used_cons (x : Int) (l : List Int) : used (x :: l) = min x 1 + used l := rfl
theorem usedK_used : ∀ (l m : List Int), l.length = m.length → (∀ x, x ∈ m → 0 ≤ x) → (∀ j, j < m.length → (0 < l.getD j 0 ↔ 0 < m.getD j 0)) → usedK l = used m
  | [], [], _, _, _ => rfl
  | x :: l, y :: m, hl, h0, h => by
    have := usedK_used l m (by simpa using hl) (fun z hz => h0 z (by simp [hz])) (fun j hj => by
      have := h (j + 1) (by simpa using hj)
      simpa using this)
    have hx : 0 < x ↔ 0 < y := by simpa using h 0 (by simp)
    have hy := h0 y (by simp)
    rw [usedK_cons, used_cons, this]
    by_cases e : 0 < x
    · rw [if_pos e]
      have := hx.1 e
      omega
    · rw [if_neg e]
      have : ¬ 0 < y := fun h => e (hx.2 h)
      omega

/-- What lengths are. -/
structure Good (l : List Int) (k : Int) (L : List Int) : Prop where
  len : L.length = l.length
  at_ : ∀ j, j < l.length → 0 ≤ L.getD j 0 ∧ L.getD j 0 ≤ k ∧ (L.getD j 0 = 0 ↔ ¬ 0 < l.getD j 0)
  none : used l = 0 → Kr L = 0 ∧ isCode L = false
  one : used l = 1 → Kr L = 16384 ∧ isCode L = true
  whole : 2 ≤ used l → Kr L = 32768 ∧ isCode L = true

theorem Lens_good (l : List Int) (K : Nat) (h3 : l.length ≤ 300) (hK1 : 1 ≤ K) (hK : K ≤ 15) (hok : freqOk l = true) (hu : used l ≤ 2 ^ K) : Lens l K = (lens 20 K l, 0) ∧ Good l K (lens 20 K l) := by
  have hx : ∀ x, x ∈ l → 0 ≤ x ∧ x ≤ 2 ^ 20 := by
    unfold freqOk at hok
    rw [List.all_eq_true] at hok
    intro x hx
    have := hok x hx
    simpa using this
  refine ⟨by rw [Lens, if_pos ⟨h3, by omega, by omega, hok, by rwa [Int.toNat_natCast]⟩], ?_⟩
  obtain ⟨l', h1, h2, hf, h4, h5, h6⟩ := lens_is K hK1 20 l hx hu
  rw [h1]
  have hf15 : fits 15 (dpt l') = true := by
    unfold fits at *
    rw [List.all_eq_true] at *
    intro x hx
    have := hf x hx
    simp only [decide_eq_true_eq] at *
    omega
  have hat : ∀ j, j < l.length → 0 ≤ (dpt l').getD j 0 ∧ (dpt l').getD j 0 ≤ K ∧ ((dpt l').getD j 0 = 0 ↔ ¬ 0 < l.getD j 0) := by
    intro j hj
    have hd := dpt_nonneg l' j
    refine ⟨hd.1, ?_, ?_⟩
    · unfold fits at hf
      rw [List.all_eq_true] at hf
      have := hf ((dpt l').getD j 0) (by rw [List.getD_eq_getElem?_getD, List.getElem?_eq_getElem (by rw [length_dpt, h2]; exact hj)]; exact List.getElem_mem _)
      simpa using this
    · rw [hd.2 (by rw [h2]; exact hj), h6 j hj]
  have hlo : lensOk (dpt l') = true := by
    unfold lensOk
    rw [List.all_eq_true]
    intro x hx
    obtain ⟨j, hj, rfl⟩ := mem_getD hx
    rw [length_dpt, h2] at hj
    have := hat j hj
    simp only [decide_eq_true_eq]
    omega
  have hln : (dpt l').length ≤ 300 := by rw [length_dpt, h2]; exact h3
  have huk : usedK (dpt l') = used l' := usedK_used _ _ (by rw [length_dpt]) h4 (fun j hj => by
    have := dpt_nonneg l' j
    have h := this.2 hj
    constructor
    · intro h'
      exact Classical.not_not.1 (fun hn => by have := h.2 hn; omega)
    · intro h'
      have : (dpt l').getD j 0 ≠ 0 := fun e => h.1 e h'
      omega)
  have ho := one_code hlo
  refine ⟨by rw [length_dpt, h2], hat, fun hu0 => ?_, fun hu1 => ?_, fun hu2 => ?_⟩
  · have := dpt_empty l' h4 (by omega)
    refine ⟨this, ?_⟩
    unfold isCode
    rw [this]
    simp
  · have := dpt_single l' h4 (by omega)
    refine ⟨this, ?_⟩
    have := ho.1 ⟨by omega, this⟩
    unfold isCode
    rw [hlo, this.1, this.2]
    simp
    exact hln
  · have := dpt_whole l' h4 hf15 (by omega)
    refine ⟨this, ?_⟩
    unfold isCode
    rw [hlo, this]
    simp
    exact hln

end Go.Proofs.Ythgijppajindpaa
