/-
  The words of a code, plain: no word begins another one; a word is told by where it stands among those of its width.
-/
import Derived.Test.YthgijppajindpaaKrf2
set_option linter.unusedVariables false
set_option linter.unusedSimpArgs false
namespace Go.Proofs.Ythgijppajindpaa
open Go.RowKit Go.Proofs.YthgijppajindpaaW.PrintWords

/-- The first word of a width, exact. -/
def Fx (l : List Int) : Nat → Nat
  | 0 => 0
  | 1 => 0
  | w + 2 => 2 * (Fx l (w + 1) + (cnt l ((w + 1 : Nat) : Int)).toNat)
/-- The first word behind those of a width. -/
def Ex (l : List Int) (w : Nat) : Nat := Fx l w + (cnt l (w : Int)).toNat
theorem Fx_succ (l : List Int) (w : Nat) (hw : 1 ≤ w) : Fx l (w + 1) = 2 * Ex l w := by
  obtain ⟨v, rfl⟩ : ∃ v, w = v + 1 := ⟨w - 1, by omega⟩
  rfl

/-- The share of the words up to a width. -/
def Krle (l : List Int) (w : Nat) : Nat := (l.map fun x => if 1 ≤ x ∧ x ≤ (w : Int) then 2 ^ (15 - x).toNat else 0).sum
theorem Krle_cons (x : Int) (l : List Int) (w : Nat) : Krle (x :: l) w = (if 1 ≤ x ∧ x ≤ (w : Int) then 2 ^ (15 - x).toNat else 0) + Krle l w := rfl
theorem cnt_cons (x : Int) (l : List Int) (k : Int) : cnt (x :: l) k = (if x = k then 1 else 0) + cnt l k := rfl
theorem Krle_succ (w : Nat) : ∀ l : List Int, Krle l (w + 1) = Krle l w + (cnt l ((w + 1 : Nat) : Int)).toNat * 2 ^ (15 - (w + 1))
  | [] => by simp [Krle, cnt]
  | x :: l => by
    have h := Krle_succ w l
    have hb := cnt_bound ((w + 1 : Nat) : Int) l
    rw [Krle_cons, Krle_cons, cnt_cons, h]
    by_cases e : x = ((w + 1 : Nat) : Int)
    · subst e
      rw [if_pos (by omega), if_neg (by omega), if_pos rfl]
      have e1 : (15 - ((w + 1 : Nat) : Int)).toNat = 15 - (w + 1) := by omega
      have e2 : (1 + cnt l ((w + 1 : Nat) : Int)).toNat = 1 + (cnt l ((w + 1 : Nat) : Int)).toNat := by omega
      rw [e1, e2, Nat.add_mul]
      omega
    · rw [if_neg e, Int.zero_add]
      by_cases e1 : 1 ≤ x ∧ x ≤ (w : Int)
      · rw [if_pos e1, if_pos (by omega)]; omega
      · rw [if_neg e1, if_neg (by omega)]; omega
theorem Krle_zero : ∀ l : List Int, Krle l 0 = 0
  | [] => rfl
  | x :: l => by rw [Krle_cons, Krle_zero l, if_neg (by omega)]
theorem Krle_mono (l : List Int) {v w : Nat} (h : v ≤ w) : Krle l v ≤ Krle l w := by
  induction h with
  | refl => exact Nat.le_refl _
  | step _ ih => rw [Krle_succ]; omega
theorem Krle_all : ∀ l : List Int, (Krle l 15 : Int) = Kr l
  | [] => rfl
  | x :: l => by
    have h := Krle_all l
    have k1 : Kr (x :: l) = kr x + Kr l := rfl
    rw [Krle_cons, k1, ← h]
    unfold kr
    rw [Int.natCast_add]
    congr 1
    by_cases e : 1 ≤ x ∧ x ≤ 15
    · rw [if_pos e, if_pos (show 1 ≤ x ∧ x ≤ ((15 : Nat) : Int) from e)]; push_cast; rfl
    · rw [if_neg e, if_neg (show ¬ (1 ≤ x ∧ x ≤ ((15 : Nat) : Int)) from e)]; rfl

theorem Ex_share (l : List Int) : ∀ w, 1 ≤ w → w ≤ 15 → Ex l w * 2 ^ (15 - w) = Krle l w := by
  intro w
  induction w with
  | zero => intro h; omega
  | succ w ih =>
    intro _ h15
    by_cases h : w = 0
    · subst h
      rw [Krle_succ, Krle_zero]
      show (0 + _) * _ = 0 + _
      simp only [Nat.zero_add]
    · have := ih (by omega) (by omega)
      rw [Krle_succ, ← this, Ex, Fx_succ l w (by omega), Nat.add_mul]
      have e : 2 ^ (15 - w) = 2 * 2 ^ (15 - (w + 1)) := by
        rw [show 15 - w = (15 - (w + 1)) + 1 by omega, Nat.pow_succ]
        omega
      rw [e]
      generalize 2 ^ (15 - (w + 1)) = p
      generalize Ex l w = q
      rw [Nat.mul_comm 2 q, Nat.mul_assoc]

theorem Kr_code {l : List Int} (h : isCode l = true) : Kr l = 32768 ∨ (cnt l 1 = 1 ∧ Kr l = 16384) := by
  rw [isCode, Bool.and_eq_true, Bool.and_eq_true, Bool.or_eq_true, Bool.and_eq_true] at h
  have := h.2.2
  simpa using this
theorem len_code {l : List Int} (h : isCode l = true) : l.length ≤ 300 := by
  rw [isCode, Bool.and_eq_true, Bool.and_eq_true] at h
  simpa using h.2.1

theorem Ex_le {l : List Int} (h : isCode l = true) {w : Nat} (h1 : 1 ≤ w) (h15 : w ≤ 15) : Ex l w ≤ 2 ^ w := by
  have e := Ex_share l w h1 h15
  have m := Krle_mono l h15
  have a := Krle_all l
  have k := Kr_code h
  have hle : Krle l w ≤ 32768 := by omega
  have e2 : (32768 : Nat) = 2 ^ w * 2 ^ (15 - w) := by rw [← Nat.pow_add, show w + (15 - w) = 15 by omega]
  rw [e2, ← e] at hle
  exact Nat.le_of_mul_le_mul_right hle (Nat.two_pow_pos _)
theorem Ex_whole {l : List Int} (h : Kr l = 32768) : Ex l 15 = 32768 := by
  have e := Ex_share l 15 (by decide) (by decide)
  have a := Krle_all l
  simp at e
  omega

theorem wordAt_exact {l : List Int} (h : isCode l = true) : ∀ w, w ≤ 15 → wordAt (cnts l) w = (Fx l w : Int)
  | 0, _ => rfl
  | 1, _ => rfl
  | w + 2, hw => by
    have ih := wordAt_exact h (w + 1) (by omega)
    have hE := Ex_le h (w := w + 1) (by omega) (by omega)
    have hp : 2 ^ (w + 1) ≤ 2 ^ 15 := Nat.pow_le_pow_right (by decide) (by omega)
    have hb := cnt_bound ((w + 1 : Nat) : Int) l
    have eF : Fx l (w + 2) = 2 * (Fx l (w + 1) + (cnt l ((w + 1 : Nat) : Int)).toNat) := rfl
    unfold Ex at hE
    rw [wordAt, ih, cnts_getD l (w + 1) (by omega), eF]
    generalize Fx l (w + 1) = f at *
    generalize cnt l ((w + 1 : Nat) : Int) = c at *
    generalize 2 ^ (w + 1) = p at *
    omega

/-- How many of a symbol's width stand ahead of it. -/
def ahead (l : List Int) (j : Nat) : Nat := (cnt (l.take j) (l.getD j 0)).toNat
theorem cnt_append (l m : List Int) (k : Int) : cnt (l ++ m) k = cnt l k + cnt m k := by simp [cnt]
theorem cnt_take_le (l : List Int) (j : Nat) (k : Int) : cnt (l.take j) k ≤ cnt l k := by
  have e : cnt l k = cnt (l.take j) k + cnt (l.drop j) k := by rw [← cnt_append, List.take_append_drop]
  have := (cnt_bound k (l.drop j)).1
  omega
theorem cnt_take_mono (l : List Int) {i j : Nat} (h : i ≤ j) (k : Int) : cnt (l.take i) k ≤ cnt (l.take j) k := by
  have e : (l.take j).take i = l.take i := by rw [List.take_take, Nat.min_eq_left h]
  rw [← e]
  exact cnt_take_le _ _ _
theorem ahead_lt {l : List Int} {j : Nat} (hj : j < l.length) : ahead l j < (cnt l (l.getD j 0)).toNat := by
  have h1 := cnt_take_le l (j + 1) (l.getD j 0)
  rw [take_snoc hj, cnt_snoc, if_pos rfl] at h1
  have h2 := cnt_bound (l.getD j 0) (l.take j)
  unfold ahead
  omega

theorem wdOf_exact {l : List Int} (h : isCode l = true) {j : Nat} (hj : j < l.length) (hx : 0 < l.getD j 0) : wdOf l j = ((Fx l (l.getD j 0).toNat + ahead l j : Nat) : Int) := by
  have hb := lensOk_get (isCode_ok h) j
  have hE := Ex_le h (w := (l.getD j 0).toNat) (by omega) (by omega)
  have hp : 2 ^ (l.getD j 0).toNat ≤ 2 ^ 15 := Nat.pow_le_pow_right (by decide) (by omega)
  have ha := ahead_lt hj
  have hc := cnt_bound (l.getD j 0) (l.take j)
  unfold wdOf
  rw [wordAt_exact h _ (by omega)]
  unfold Ex at hE
  rw [Int.toNat_of_nonneg hb.1] at hE
  unfold ahead at *
  omega

/-- A symbol's word, a number. -/
def wN (l : List Int) (j : Nat) : Nat := Fx l (l.getD j 0).toNat + ahead l j
theorem wN_lt {l : List Int} {j : Nat} (hj : j < l.length) (hx : 0 ≤ l.getD j 0) : wN l j < Ex l (l.getD j 0).toNat := by
  have := ahead_lt hj
  unfold wN Ex
  rw [Int.toNat_of_nonneg hx]
  omega
theorem wN_lt_pow {l : List Int} (h : isCode l = true) {j : Nat} (hj : j < l.length) (hx : 0 < l.getD j 0) : wN l j < 2 ^ (l.getD j 0).toNat := by
  have hb := lensOk_get (isCode_ok h) j
  exact Nat.lt_of_lt_of_le (wN_lt hj hb.1) (Ex_le h (by omega) (by omega))

theorem Fx_ge (l : List Int) (v d : Nat) (h1 : 1 ≤ v) : 2 ^ (d + 1) * Ex l v ≤ Fx l (v + d + 1) := by
  induction d with
  | zero => rw [Fx_succ l (v + 0) (by omega)]; simp
  | succ d ih =>
    rw [Fx_succ l (v + (d + 1)) (by omega), show v + (d + 1) = v + d + 1 by omega]
    have : Fx l (v + d + 1) ≤ Ex l (v + d + 1) := Nat.le_add_right _ _
    rw [Nat.pow_succ]
    generalize 2 ^ (d + 1) = p at *
    generalize Ex l v = e at *
    have e2 : p * 2 * e = 2 * (p * e) := by rw [Nat.mul_comm p 2, Nat.mul_assoc]
    rw [e2]
    omega

/-- No word begins another one. -/
theorem wN_free {l : List Int} (h : isCode l = true) {i k : Nat} (hi : i < l.length) (hk : k < l.length) (hik : i ≠ k) (hxi : 0 < l.getD i 0) (hle : l.getD i 0 ≤ l.getD k 0) :
    wN l k / 2 ^ ((l.getD k 0).toNat - (l.getD i 0).toNat) ≠ wN l i := by
  have hbi := lensOk_get (isCode_ok h) i
  have hbk := lensOk_get (isCode_ok h) k
  by_cases e : l.getD i 0 = l.getD k 0
  · rw [e, Nat.sub_self, Nat.pow_zero, Nat.div_one]
    unfold wN
    rw [e]
    intro hh
    have hh : ahead l k = ahead l i := by omega
    unfold ahead at hh
    rw [e] at hh
    have c1 := cnt_bound (l.getD k 0) (l.take k)
    have c2 := cnt_bound (l.getD k 0) (l.take i)
    rcases Nat.lt_or_gt_of_ne hik with hlt | hlt
    · have := cnt_take_mono l (show i + 1 ≤ k by omega) (l.getD k 0)
      rw [take_snoc hi, cnt_snoc, if_pos e] at this
      omega
    · have := cnt_take_mono l (show k + 1 ≤ i by omega) (l.getD k 0)
      rw [take_snoc hk, cnt_snoc, if_pos rfl] at this
      omega
  · have h1 := wN_lt hi hbi.1
    obtain ⟨d, hd⟩ : ∃ d, (l.getD k 0).toNat = (l.getD i 0).toNat + d + 1 := ⟨(l.getD k 0).toNat - (l.getD i 0).toNat - 1, by omega⟩
    have h2 := Fx_ge l (l.getD i 0).toNat d (by omega)
    rw [hd, show (l.getD i 0).toNat + d + 1 - (l.getD i 0).toNat = d + 1 by omega]
    have h3 : 2 ^ (d + 1) * Ex l (l.getD i 0).toNat ≤ wN l k := by
      unfold wN
      rw [hd]
      omega
    have h4 : Ex l (l.getD i 0).toNat ≤ wN l k / 2 ^ (d + 1) := by
      rw [Nat.le_div_iff_mul_le (Nat.two_pow_pos _), Nat.mul_comm]
      exact h3
    omega

/-! ### turned words -/
theorem turnN_mod (x W w : Nat) (h : w ≤ W) : turnN x W % 2 ^ w = turnN (x / 2 ^ (W - w)) w := by
  apply Nat.eq_of_testBit_eq
  intro j
  rw [Nat.testBit_mod_two_pow, turnN_bit, turnN_bit, ← Nat.shiftRight_eq_div_pow, Nat.testBit_shiftRight]
  by_cases hj : j < w
  · rw [decide_eq_true hj, decide_eq_true (show j < W by omega), Bool.true_and, Bool.true_and, Bool.true_and]
    congr 1
    omega
  · rw [decide_eq_false hj]
    simp
theorem turnN_turn (x w : Nat) (h : x < 2 ^ w) : turnN (turnN x w) w = x := by
  apply Nat.eq_of_testBit_eq
  intro j
  rw [turnN_bit, turnN_bit]
  by_cases hj : j < w
  · rw [decide_eq_true hj, decide_eq_true (show w - 1 - j < w by omega), Bool.true_and, Bool.true_and]
    congr 1
    omega
  · rw [decide_eq_false hj, Bool.false_and]
    exact (Nat.testBit_lt_two_pow (Nat.lt_of_lt_of_le h (Nat.pow_le_pow_right (by decide) (by omega)))).symm
theorem turnN_inj {x y w : Nat} (hx : x < 2 ^ w) (hy : y < 2 ^ w) (h : turnN x w = turnN y w) : x = y := by
  rw [← turnN_turn x w hx, ← turnN_turn y w hy, h]

/-- A symbol's piece, by its word. -/
theorem pcOf_code {l : List Int} (h : isCode l = true) {j : Nat} (hj : j < l.length) (hx : 0 < l.getD j 0) : pcOf l j = ((turnN (wN l j) (l.getD j 0).toNat : Int), l.getD j 0) := by
  unfold pcOf
  rw [if_pos hx, wdOf_exact h hj hx]
  rfl

end Go.Proofs.Ythgijppajindpaa
