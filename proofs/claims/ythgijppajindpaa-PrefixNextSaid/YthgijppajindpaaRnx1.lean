/-
  The document's own reader, and which symbol bits are by it, are the plain ones.
-/
import Derived.Test.YthgijppajindpaaNxt1
import Derived.Test.YthgijppajindpaaK7x16
set_option linter.unusedVariables false
set_option linter.unusedSimpArgs false
namespace Go.Proofs.Ythgijppajindpaa
open Go.RowKit Go.Proofs.YthgijppajindpaaW.PrintWords Go.Proofs.YthgijppajindpaaW.PrintLast Go.Proofs.YthgijppajindpaaW.PrintMore Go.Proofs.Ythgijppajindpaa.K7

theorem bt_by8 (s : ByteArray) (i : Nat) : bt s (i : Int) = (by8 s i : Int) := by
  unfold bt
  rw [Int.toNat_natCast]
  split
  · rename_i h; rw [by8_get s i h]
  · rename_i h; rw [by8_past s i (by omega)]; rfl

theorem and_u8 {a b : Nat} (ha : a < 256) (hb : b < 256) : Go.bits .and .u8 (a : Int) (b : Int) = ((a &&& b : Nat) : Int) :=
  (bits_nat .u8 8 (by decide) (fun n h0 h1 => by
    have : IntKind.u8.wrap n = n % 256 := by simp [IntKind.wrap, IntKind.bits, IntKind.signed]
    rw [this]; omega) a b ha hb).1

theorem refBit (s : ByteArray) (a i : Nat) (hs : s.size ≤ 140737488355328) (hi : i < 8 * s.size) : hanaperref06_Reader_bit.f s (a : Int) (i : Int) = some (((sbit s i).toNat : Int), s, (a : Int)) := by
  have e1 : wrap64 (Int.tdiv (i : Int) 8) = ((i / 8 : Nat) : Int) := by rw [Int.tdiv_eq_ediv_of_nonneg (by omega), w64 (by omega)]; omega
  have e2 : Int.tmod (i : Int) 8 = ((i % 8 : Nat) : Int) := by rw [Int.tmod_eq_emod_of_nonneg (by omega)]; omega
  rw [hanaperref06_Reader_bit.f, e1, e2, if_pos (by omega), if_pos (by omega), if_pos (by omega), bt_by8]
  have e3 : shr .u8 (by8 s (i / 8) : Int) ((i % 8 : Nat) : Int) = ((by8 s (i / 8) >>> (i % 8) : Nat) : Int) := by
    unfold shr
    have : min ((i % 8 : Nat) : Int).toNat IntKind.u8.bits = i % 8 := by show min _ 8 = _; omega
    rw [this, Nat.shiftRight_eq_div_pow, Int.natCast_ediv]
    push_cast
    rfl
  have h1 : by8 s (i / 8) >>> (i % 8) < 256 := by rw [Nat.shiftRight_eq_div_pow]; exact Nat.lt_of_le_of_lt (Nat.div_le_self _ _) (by8_lt _ _)
  have e4 := and_u8 h1 (b := 1) (by decide)
  have e5 : by8 s (i / 8) >>> (i % 8) &&& 1 = (sbit s i).toNat := by
    unfold sbit
    rw [Nat.testBit, Nat.and_comm]
    have h2 : (1 : Nat) &&& by8 s (i / 8) >>> (i % 8) < 2 := Nat.lt_of_le_of_lt Nat.and_le_left (by decide)
    generalize (1 : Nat) &&& by8 s (i / 8) >>> (i % 8) = q at h2
    have : q = 0 ∨ q = 1 := by omega
    rcases this with rfl | rfl <;> rfl
  rw [e3]
  have e6 : Go.bits .and .u8 ((by8 s (i / 8) >>> (i % 8) : Nat) : Int) 1 = (((sbit s i).toNat : Nat) : Int) := by rw [← e5]; exact e4
  rw [e6]
  have h3 : (sbit s i).toNat ≤ 1 := Bool.toNat_le _
  congr 2
  omega

theorem shl32 (b j : Nat) (hb : b ≤ 1) (hj : j ≤ 24) : shl .u32 (b : Int) (j : Int) = ((b <<< j : Nat) : Int) ∧ b <<< j < 4294967296 := by
  have hp : 2 ^ j ≤ 2 ^ 24 := Nat.pow_le_pow_right (by decide) hj
  have hm : b * 2 ^ j ≤ 2 ^ 24 := by
    have : b = 0 ∨ b = 1 := by omega
    rcases this with rfl | rfl
    · omega
    · omega
  unfold shl
  have e : min (j : Int).toNat IntKind.u32.bits = j := by show min _ 32 = _; omega
  rw [e, IntKind.wrap_u32, Nat.shiftLeft_eq]
  have e2 : (b : Int) * 2 ^ j = ((b * 2 ^ j : Nat) : Int) := by push_cast; rfl
  rw [e2]
  omega

theorem refTake_loop (s : ByteArray) (a n : Nat) (hs : s.size ≤ 140737488355328) (hn : n ≤ 24) (ha : a + n ≤ 8 * s.size) (d : Nat) : ∀ j, j + d = n →
    Ev fun k => hanaperref06_Reader_Take.l0 k (n : Int) (bitsAt s a j : Int) (j : Int) s (a : Int) = some ((bitsAt s a n : Int), 0, s, ((a + n : Nat) : Int)) := by
  induction d with
  | zero =>
    intro j hj
    have : j = n := by omega
    subst this
    refine Ev.one fun k => ?_
    have e : wrap64 ((a : Int) + j) = ((a + j : Nat) : Int) := by rw [w64 (by omega)]; rfl
    rw [hanaperref06_Reader_Take.l0, if_neg (by omega), e]
  | succ d ih =>
    intro j hj
    have hw : wrap64 ((j : Int) + 1) = ((j + 1 : Nat) : Int) := by rw [w64 (by omega)]; rfl
    refine (ih (j + 1) (by omega)).succ fun k hk => ?_
    have e : wrap64 ((a : Int) + j) = ((a + j : Nat) : Int) := by rw [w64 (by omega)]; rfl
    have hb := Bool.toNat_le (sbit s (a + j))
    obtain ⟨s1, s2⟩ := shl32 (sbit s (a + j)).toNat j hb (by omega)
    have hacc : bitsAt s a j < 4294967296 := Nat.lt_of_lt_of_le (bitsAt_lt s a j) (Nat.le_trans (Nat.pow_le_pow_right (by decide) (show j ≤ 24 by omega)) (by decide))
    rw [hanaperref06_Reader_Take.l0, if_pos (by omega), e, refBit s a (a + j) hs (by omega), Option.bind_some]
    dsimp only
    rw [if_pos (by omega), hw, s1, or_u32 hacc s2]
    exact hk

/-- The document's reader takes bits. -/
theorem refTake_ev (s : ByteArray) (a n : Nat) (hs : s.size ≤ 140737488355328) (hn : n ≤ 24) (ha : a ≤ 8 * s.size) :
    Ev fun k => hanaperref06_Reader_Take.f k s (a : Int) (n : Int) = some (if 8 * s.size < a + n then (0, 40, s, (a : Int)) else ((bitsAt s a n : Int), 0, s, ((a + n : Nat) : Int))) := by
  have hL : hanaperref06_Reader_Left.f s (a : Int) = some (8 * (s.size : Int) - a, s, (a : Int)) := by
    rw [hanaperref06_Reader_Left.f, w64 (x := 8 * (s.size : Int)) (by omega), w64 (by omega)]
  by_cases h : 8 * s.size < a + n
  · refine (Ev.one (q := fun k => hanaperref06_Reader_Take.j0 k (n : Int) false s (a : Int) = some (0, 40, s, (a : Int))) fun k => ?_).imp fun k hk => ?_
    · rw [hanaperref06_Reader_Take.j0, if_neg (by decide), hL, Option.bind_some]
      dsimp only
      rw [if_pos (by omega)]
    · rw [hanaperref06_Reader_Take.f, if_neg (by omega), decide_eq_false (by omega), if_pos h]
      exact hk
  · refine ((refTake_loop s a n hs hn (by omega) n 0 (by omega)).succ (q := fun k => hanaperref06_Reader_Take.j0 k (n : Int) false s (a : Int) = some ((bitsAt s a n : Int), 0, s, ((a + n : Nat) : Int))) fun k hk => ?_).imp fun k hk => ?_
    · rw [hanaperref06_Reader_Take.j0, if_neg (by decide), hL, Option.bind_some]
      dsimp only
      rw [if_neg (by omega)]
      exact hk
    · rw [hanaperref06_Reader_Take.f, if_neg (by omega), decide_eq_false (by omega), if_neg h]
      exact hk

/-! ### what bits go on -/
theorem turnN_or (v b k : Nat) (hb : b ≤ 1) : turnN (2 * v + b) (k + 1) = turnN v k ||| (b <<< k) := by
  apply Nat.eq_of_testBit_eq
  intro j
  have e : 2 * v + b = v <<< 1 ||| b := by
    have := Nat.two_pow_add_eq_or_of_lt (i := 1) (b := b) (by omega) v
    rw [Nat.pow_one] at this
    rw [Nat.shiftLeft_eq, Nat.pow_one, Nat.mul_comm v 2, this]
  rw [turnN_bit, Nat.testBit_or, turnN_bit, Nat.testBit_shiftLeft, e, Nat.testBit_or, Nat.testBit_shiftLeft]
  have hbb : ∀ i, b.testBit i = (decide (i = 0) && decide (b = 1)) := by
    intro i
    have : b = 0 ∨ b = 1 := by omega
    rcases this with rfl | rfl
    · simp
    · cases i with
      | zero => simp
      | succ i => simp [Nat.testBit_succ]
  rw [hbb, hbb]
  by_cases h1 : j < k
  · simp [h1, show j < k + 1 by omega, show ¬ k ≤ j by omega, show k - j ≥ 1 by omega, show ¬ k - j = 0 by omega]
    congr 1
    omega
  · by_cases h2 : j = k
    · subst h2; simp
    · simp [h1, show ¬ j < k + 1 by omega, show k ≤ j by omega, show ¬ j - k = 0 by omega]

/-- What is no word yet begins one, in a whole code. -/
theorem cover {l : List Int} (h : isCode l = true) (hw : Kr l = 32768) (k v : Nat) (hk1 : 1 ≤ k) (d : Nat) : ∀ W u, W + d = 15 → k ≤ W → u / 2 ^ (W - k) = v → Ex l W ≤ u → u < 2 ^ W →
    ∃ i, i < l.length ∧ (k : Int) < l.getD i 0 ∧ wN l i / 2 ^ ((l.getD i 0).toNat - k) = v := by
  induction d with
  | zero =>
    intro W u hW hk _ hE hu
    have : W = 15 := by omega
    subst this
    rw [Ex_whole hw] at hE
    omega
  | succ d ih =>
    intro W u hW hk hv hE hu
    have hF := Fx_succ l W (by omega)
    have hdiv : (2 * u) / 2 ^ (W + 1 - k) = v := by
      rw [show W + 1 - k = (W - k) + 1 by omega, Nat.pow_succ, Nat.mul_comm (2 ^ (W - k)) 2, Nat.mul_div_mul_left _ _ (by decide)]
      exact hv
    by_cases hlt : 2 * u < Ex l (W + 1)
    · have hcn := (cnt_bound ((W + 1 : Nat) : Int) l).1
      obtain ⟨j1, j2, j3⟩ := nthOf_spec l ((W + 1 : Nat) : Int) (2 * u - Fx l (W + 1)) (by
        unfold Ex at hlt
        omega)
      refine ⟨_, j1, by rw [j2]; omega, ?_⟩
      have e : wN l (nthOf l ((W + 1 : Nat) : Int) (2 * u - Fx l (W + 1))) = 2 * u := by
        unfold wN ahead
        rw [j2, j3, Int.toNat_natCast, Int.toNat_natCast]
        omega
      rw [e, j2, Int.toNat_natCast]
      exact hdiv
    · exact ih (W + 1) (2 * u) (by omega) (by omega) hdiv (by omega) (by rw [Nat.pow_succ]; omega)

/-- A code of one symbol has no longer words. -/
theorem tailC_one {l : List Int} (h : isCode l = true) (h1 : cnt l 1 = 1) (h2 : Kr l = 16384) (k : Nat) (hk1 : 1 ≤ k) (hk : k ≤ 15) : tailC l k = 0 := by
  have hz : ∀ w, 1 ≤ w → w < 15 → cnt l ((w + 1 : Nat) : Int) = 0 := by
    intro w hw1 hw2
    have a := Krle_all l
    have m := Krle_mono l (show w + 1 ≤ 15 by omega)
    have m1 := Krle_mono l hw1
    have e := Krle_succ w l
    have e1 : Krle l 1 = 16384 := by
      rw [Krle_succ 0 l, Krle_zero]
      have : cnt l ((0 + 1 : Nat) : Int) = 1 := h1
      rw [this]
      rfl
    have hc := (cnt_bound ((w + 1 : Nat) : Int) l).1
    have hp : 0 < 2 ^ (15 - (w + 1)) := Nat.two_pow_pos _
    have hz : (cnt l ((w + 1 : Nat) : Int)).toNat * 2 ^ (15 - (w + 1)) = 0 := by omega
    rcases Nat.mul_eq_zero.1 hz with hz | hz
    · omega
    · omega
  obtain ⟨d, hd⟩ : ∃ d, k + d = 15 := ⟨15 - k, by omega⟩
  induction d generalizing k with
  | zero =>
    have : k = 15 := by omega
    subst this
    exact tailC_last l
  | succ d ih =>
    rw [tailC_succ l k (by omega), hz k hk1 (by omega), ih (k + 1) (by omega) (by omega) (by omega)]
    rfl

theorem tailC_none {l : List Int} (hok : lensOk l = true) {k : Nat} (hk : k ≤ 15) (h : tailC l k = 0) {i : Nat} (hi : i < l.length) : l.getD i 0 ≤ k := by
  have hb := lensOk_get hok i
  obtain ⟨d, hd⟩ : ∃ d, k + d = 15 := ⟨15 - k, by omega⟩
  induction d generalizing k with
  | zero => omega
  | succ d ih =>
    have h1 := tailC_succ l k (by omega)
    have h2 := tailC_bound l d (k + 1) (by omega)
    have h3 := (cnt_bound ((k + 1 : Nat) : Int) l).1
    have h4 := ih (k := k + 1) (by omega) (by omega) (by omega)
    have h5 : l.getD i 0 ≠ ((k + 1 : Nat) : Int) := by
      intro e
      have := cnt_take_le l (i + 1) ((k + 1 : Nat) : Int)
      rw [take_snoc hi, cnt_snoc, if_pos e] at this
      have := (cnt_bound ((k + 1 : Nat) : Int) (l.take i)).1
      omega
    omega

end Go.Proofs.Ythgijppajindpaa
