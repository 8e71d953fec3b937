/-
  The document's own reader, and which symbol bits are by it, are the plain ones.
-/
import Derived.Test.YthgijppajindpaaNxts
import Derived.Test.YthgijppajindpaaK7x16
set_option linter.unusedVariables false
set_option linter.unusedSimpArgs false
namespace Go.Proofs.Ythgijppajindpaa
open Go.RowKit Go.Proofs.YthgijppajindpaaW.PrintWords Go.Proofs.YthgijppajindpaaW.PrintLast Go.Proofs.YthgijppajindpaaW.PrintMore Go.Proofs.Ythgijppajindpaa.K7

theorem bt_by8 (s : ByteArray) (i : Nat) : bt s (i : Int) = (by8 s i : Int) := by
  unfold bt
  rw [Int.toNat_natCast]
  split
  · rename_i h; rw [by8_get s i h]
  · rename_i h; rw [by8_past s i (by omega)]; rfl

theorem and_u8 {a b : Nat} (ha : a < 256) (hb : b < 256) : Go.bits .and .u8 (a : Int) (b : Int) = ((a &&& b : Nat) : Int) :=
  (bits_nat .u8 8 (by decide) (fun n h0 h1 => by
    have : IntKind.u8.wrap n = n % 256 := by simp [IntKind.wrap, IntKind.bits, IntKind.signed]
    rw [this]; omega) a b ha hb).1

theorem refBit (s : ByteArray) (a i : Nat) (hs : s.size ≤ 140737488355328) (hi : i < 8 * s.size) : hanaperref06_Reader_bit.f s (a : Int) (i : Int) = some (((sbit s i).toNat : Int), s, (a : Int)) := by
  have e1 : wrap64 (Int.tdiv (i : Int) 8) = ((i / 8 : Nat) : Int) := by rw [Int.tdiv_eq_ediv_of_nonneg (by omega), w64 (by omega)]; omega
  have e2 : Int.tmod (i : Int) 8 = ((i % 8 : Nat) : Int) := by rw [Int.tmod_eq_emod_of_nonneg (by omega)]; omega
  rw [hanaperref06_Reader_bit.f, e1, e2, if_pos (by omega), if_pos (by omega), if_pos (by omega), bt_by8]
  have e3 : shr .u8 (by8 s (i / 8) : Int) ((i % 8 : Nat) : Int) = ((by8 s (i / 8) >>> (i % 8) : Nat) : Int) := by
    unfold shr
    have : min ((i % 8 : Nat) : Int).toNat IntKind.u8.bits = i % 8 := by show min _ 8 = _; omega
    rw [this, Nat.shiftRight_eq_div_pow, Int.natCast_ediv]
    push_cast
    rfl
  have h1 : by8 s (i / 8) >>> (i % 8) < 256 := by rw [Nat.shiftRight_eq_div_pow]; exact Nat.lt_of_le_of_lt (Nat.div_le_self _ _) (by8_lt _ _)
  have e4 := and_u8 h1 (b := 1) (by decide)
  have e5 : by8 s (i / 8) >>> (i % 8) &&& 1 = (sbit s i).toNat := by
    unfold sbit
    rw [Nat.testBit, Nat.and_comm]
    have h2 : (1 : Nat) &&& by8 s (i / 8) >>> (i % 8) < 2 := Nat.lt_of_le_of_lt Nat.and_le_left (by decide)
    generalize (1 : Nat) &&& by8 s (i / 8) >>> (i % 8) = q at h2
    have : q = 0 ∨ q = 1 := by omega
    rcases this with rfl | rfl <;> rfl
  rw [e3]
  have e6 : Go.bits .and .u8 ((by8 s (i / 8) >>> (i % 8) : Nat) : Int) 1 = (((sbit s i).toNat : Nat) : Int) := by rw [← e5]; exact e4
  rw [e6]
  have h3 : (sbit s i).toNat ≤ 1 := Bool.toNat_le _
  congr 2
  omega

theorem shl32 (b j : Nat) (hb : b ≤ 1) (hj : j ≤ 24) : shl .u32 (b : Int) (j : Int) = ((b <<< j : Nat) : Int) ∧ b <<< j < 4294967296 := by
  have hp : 2 ^ j ≤ 2 ^ 24 := Nat.pow_le_pow_right (by decide) hj
  have hm : b * 2 ^ j ≤ 2 ^ 24 := by
    have : b = 0 ∨ b = 1 := by omega
    rcases this with rfl | rfl
    · omega
    · omega
  unfold shl
  have e : min (j : Int).toNat IntKind.u32.bits = j := by show min _ 32 = _; omega
  rw [e, IntKind.wrap_u32, Nat.shiftLeft_eq]
  have e2 : (b : Int) * 2 ^ j = ((b * 2 ^ j : Nat) : Int) := by push_cast; rfl
  rw [e2]
  omega

theorem refTake_loop (s : ByteArray) (a n : Nat) (hs : s.size ≤ 140737488355328) (hn : n ≤ 24) (ha : a + n ≤ 8 * s.size) (d : Nat) : ∀ j, j + d = n →
    Ev fun k => hanaperref06_Reader_Take.l0 k (n : Int) (bitsAt s a j : Int) (j : Int) s (a : Int) = some ((bitsAt s a n : Int), 0, s, ((a + n : Nat) : Int)) := by
  induction d with
  | zero =>
    intro j hj
    have : j = n := by omega
    subst this
    refine Ev.one fun k => ?_
    have e : wrap64 ((a : Int) + j) = ((a + j : Nat) : Int) := by rw [w64 (by omega)]; rfl
    rw [hanaperref06_Reader_Take.l0, if_neg (by omega), e]
  | succ d ih =>
    intro j hj
    have hw : wrap64 ((j : Int) + 1) = ((j + 1 : Nat) : Int) := by rw [w64 (by omega)]; rfl
    refine (ih (j + 1) (by omega)).succ fun k hk => ?_
    have e : wrap64 ((a : Int) + j) = ((a + j : Nat) : Int) := by rw [w64 (by omega)]; rfl
    have hb := Bool.toNat_le (sbit s (a + j))
    obtain ⟨s1, s2⟩ := shl32 (sbit s (a + j)).toNat j hb (by omega)
    have hacc : bitsAt s a j < 4294967296 := Nat.lt_of_lt_of_le (bitsAt_lt s a j) (Nat.le_trans (Nat.pow_le_pow_right (by decide) (show j ≤ 24 by omega)) (by decide))
    rw [hanaperref06_Reader_Take.l0, if_pos (by omega), e, refBit s a (a + j) hs (by omega), Option.bind_some]
    dsimp only
    rw [if_pos (by omega), hw, s1, or_u32 hacc s2]
    exact hk

/-- The document's reader takes bits. -/
theorem refTake_ev (s : ByteArray) (a n : Nat) (hs : s.size ≤ 140737488355328) (hn : n ≤ 24) (ha : a ≤ 8 * s.size) :
    Ev fun k => hanaperref06_Reader_Take.f k s (a : Int) (n : Int) = some (if 8 * s.size < a + n then (0, 40, s, (a : Int)) else ((bitsAt s a n : Int), 0, s, ((a + n : Nat) : Int))) := by
  have hL : hanaperref06_Reader_Left.f s (a : Int) = some (8 * (s.size : Int) - a, s, (a : Int)) := by
    rw [hanaperref06_Reader_Left.f, w64 (x := 8 * (s.size : Int)) (by omega), w64 (by omega)]
  by_cases h : 8 * s.size < a + n
  · refine (Ev.one (q := fun k => hanaperref06_Reader_Take.j0 k (n : Int) false s (a : Int) = some (0, 40, s, (a : Int))) fun k => ?_).imp fun k hk => ?_
    · rw [hanaperref06_Reader_Take.j0, if_neg (by decide), hL, Option.bind_some]
      dsimp only
      rw [if_pos (by omega)]
    · rw [hanaperref06_Reader_Take.f, if_neg (by omega), decide_eq_false (by omega), if_pos h]
      exact hk
  · refine ((refTake_loop s a n hs hn (by omega) n 0 (by omega)).succ (q := fun k => hanaperref06_Reader_Take.j0 k (n : Int) false s (a : Int) = some ((bitsAt s a n : Int), 0, s, ((a + n : Nat) : Int))) fun k hk => ?_).imp fun k hk => ?_
    · rw [hanaperref06_Reader_Take.j0, if_neg (by decide), hL, Option.bind_some]
      dsimp only
      rw [if_neg (by omega)]
      exact hk
    · rw [hanaperref06_Reader_Take.f, if_neg (by omega), decide_eq_false (by omega), if_neg h]
      exact hk

/-! ### what bits go on -/
theorem turnN_or (v b k : Nat) (hb : b ≤ 1) : turnN (2 * v + b) (k + 1) = turnN v k ||| (b <<< k) := by
  apply Nat.eq_of_testBit_eq
  intro j
  have e : 2 * v + b = v <<< 1 ||| b := by
    have := Nat.two_pow_add_eq_or_of_lt (i := 1) (b := b) (by omega) v
    rw [Nat.pow_one] at this
    rw [Nat.shiftLeft_eq, Nat.pow_one, Nat.mul_comm v 2, this]
  rw [turnN_bit, Nat.testBit_or, turnN_bit, Nat.testBit_shiftLeft, e, Nat.testBit_or, Nat.testBit_shiftLeft]
  have hbb : ∀ i, b.testBit i = (decide (i = 0) && decide (b = 1)) := by
    intro i
    have : b = 0 ∨ b = 1 := by omega
    rcases this with rfl | rfl
    · simp
    · cases i with
      | zero => simp
      | succ i => simp [Nat.testBit_succ]
  rw [hbb, hbb]
  by_cases h1 : j < k
  · simp [h1, show j < k + 1 by omega, show ¬ k ≤ j by omega, show k - j ≥ 1 by omega, show ¬ k - j = 0 by omega]
    congr 1
    omega
  · by_cases h2 : j = k
    · subst h2; simp
    · simp [h1, show ¬ j < k + 1 by omega, show k ≤ j by omega, show ¬ j - k = 0 by omega]

/-- What is no word yet begins one, in a whole code. -/
theorem cover {l : List Int} (h : isCode l = true) (hw : Kr l = 32768) (k v : Nat) (hk1 : 1 ≤ k) (d : Nat) : ∀ W u, W + d = 15 → k ≤ W → u / 2 ^ (W - k) = v → Ex l W ≤ u → u < 2 ^ W →
    ∃ i, i < l.length ∧ (k : Int) < l.getD i 0 ∧ wN l i / 2 ^ ((l.getD i 0).toNat - k) = v := by
  induction d with
  | zero =>
    intro W u hW hk _ hE hu
    have : W = 15 := by omega
    subst this
    rw [Ex_whole hw] at hE
    omega
  | succ d ih =>
    intro W u hW hk hv hE hu
    have hF := Fx_succ l W (by omega)
    have hdiv : (2 * u) / 2 ^ (W + 1 - k) = v := by
      rw [show W + 1 - k = (W - k) + 1 by omega, Nat.pow_succ, Nat.mul_comm (2 ^ (W - k)) 2, Nat.mul_div_mul_left _ _ (by decide)]
      exact hv
    by_cases hlt : 2 * u < Ex l (W + 1)
    · have hcn := (cnt_bound ((W + 1 : Nat) : Int) l).1
      obtain ⟨j1, j2, j3⟩ := nthOf_spec l ((W + 1 : Nat) : Int) (2 * u - Fx l (W + 1)) (by
        unfold Ex at hlt
        omega)
      refine ⟨_, j1, by rw [j2]; omega, ?_⟩
      have e : wN l (nthOf l ((W + 1 : Nat) : Int) (2 * u - Fx l (W + 1))) = 2 * u := by
        unfold wN ahead
        rw [j2, j3, Int.toNat_natCast, Int.toNat_natCast]
        omega
      rw [e, j2, Int.toNat_natCast]
      exact hdiv
    · exact ih (W + 1) (2 * u) (by omega) (by omega) hdiv (by omega) (by rw [Nat.pow_succ]; omega)

/-- A code of one symbol has no longer words. -/
theorem tailC_one {l : List Int} (h : isCode l = true) (h1 : cnt l 1 = 1) (h2 : Kr l = 16384) (k : Nat) (hk1 : 1 ≤ k) (hk : k ≤ 15) : tailC l k = 0 := by
  have hz : ∀ w, 1 ≤ w → w < 15 → cnt l ((w + 1 : Nat) : Int) = 0 := by
    intro w hw1 hw2
    have a := Krle_all l
    have m := Krle_mono l (show w + 1 ≤ 15 by omega)
    have m1 := Krle_mono l hw1
    have e := Krle_succ w l
    have e1 : Krle l 1 = 16384 := by
      rw [Krle_succ 0 l, Krle_zero]
      have : cnt l ((0 + 1 : Nat) : Int) = 1 := h1
      rw [this]
      rfl
    have hc := (cnt_bound ((w + 1 : Nat) : Int) l).1
    have hp : 0 < 2 ^ (15 - (w + 1)) := Nat.two_pow_pos _
    have hz : (cnt l ((w + 1 : Nat) : Int)).toNat * 2 ^ (15 - (w + 1)) = 0 := by omega
    rcases Nat.mul_eq_zero.1 hz with hz | hz
    · omega
    · omega
  obtain ⟨d, hd⟩ : ∃ d, k + d = 15 := ⟨15 - k, by omega⟩
  induction d generalizing k with
  | zero =>
    have : k = 15 := by omega
    subst this
    exact tailC_last l
  | succ d ih =>
    rw [tailC_succ l k (by omega), hz k hk1 (by omega), ih (k + 1) (by omega) (by omega) (by omega)]
    rfl

theorem tailC_none {l : List Int} (hok : lensOk l = true) {k : Nat} (hk : k ≤ 15) (h : tailC l k = 0) {i : Nat} (hi : i < l.length) : l.getD i 0 ≤ k := by
  have hb := lensOk_get hok i
  obtain ⟨d, hd⟩ : ∃ d, k + d = 15 := ⟨15 - k, by omega⟩
  induction d generalizing k with
  | zero => omega
  | succ d ih =>
    have h1 := tailC_succ l k (by omega)
    have h2 := tailC_bound l d (k + 1) (by omega)
    have h3 := (cnt_bound ((k + 1 : Nat) : Int) l).1
    have h4 := ih (k := k + 1) (by omega) (by omega) (by omega)
    have h5 : l.getD i 0 ≠ ((k + 1 : Nat) : Int) := by
      intro e
      have := cnt_take_le l (i + 1) ((k + 1 : Nat) : Int)
      rw [take_snoc hi, cnt_snoc, if_pos e] at this
      have := (cnt_bound ((k + 1 : Nat) : Int) (l.take i)).1
      omega
    omega

end Go.Proofs.Ythgijppajindpaa

namespace Go.Proofs.Ythgijppajindpaa
open Go.RowKit Go.Proofs.YthgijppajindpaaW.PrintWords Go.Proofs.YthgijppajindpaaW.PrintLast Go.Proofs.YthgijppajindpaaW.PrintMore Go.Proofs.Ythgijppajindpaa.K7

def Ps (l : List Int) : List S41 := (List.range l.length).map (P41 l)
theorem length_Ps (l : List Int) : (Ps l).length = l.length := by simp [Ps]
theorem rd_Ps (l : List Int) {i : Nat} (hi : i < l.length) : rd_T41 (Ps l) (i : Int) = P41 l i := by
  unfold rd_T41 Ps
  rw [Int.toNat_natCast, List.getD_eq_getElem?_getD, List.getElem?_map, List.getElem?_range hi]
  rfl
theorem P41_f1 {l : List Int} (hok : lensOk l = true) (i : Nat) : (P41 l i).f1 = l.getD i 0 := by
  have := lensOk_get hok i
  unfold P41 pcOf
  split
  · rfl
  · show 0 = _
    omega
theorem P41_f0 {l : List Int} (h : isCode l = true) {i : Nat} (hi : i < l.length) (hx : 0 < l.getD i 0) : (P41 l i).f0 = (turnN (wN l i) (l.getD i 0).toNat : Int) := by
  unfold P41
  rw [pcOf_code h hi hx]

theorem shl_two {w : Nat} (h1 : 1 ≤ w) (h2 : w ≤ 15) : shl .u32 1 (w : Int) = ((2 ^ w : Nat) : Int) := by
  have h := (shl32 1 w (by decide) (by omega)).1
  rw [Nat.shiftLeft_eq, Nat.one_mul] at h
  exact h

/-- Is it a longer word that bits begin? -/
def mrAt (l : List Int) (K n : Nat) (i : Nat) : Bool := decide ((K : Int) < l.getD i 0) && (Int.tmod (P41 l i).f0 ((2 ^ K : Nat) : Int) == (n : Int))
def mr (l : List Int) (K n : Nat) : Nat → Bool
  | 0 => false
  | i + 1 => mr l K n i || mrAt l K n i

theorem l1_step {l : List Int} (hok : lensOk l = true) (hl : l.length ≤ 300) (K n : Nat) (h1 : 1 ≤ K) (h15 : K ≤ 15) (i : Nat) (hi : i < l.length) (hno : ¬ (l.getD i 0 = K ∧ (P41 l i).f0 = n)) (k : Nat) (more : Bool) (s : ByteArray) (a : Int) :
    hanaperref07_Next.l1 (k + 1) (Ps l) n K more i s a = hanaperref07_Next.l1 k (Ps l) n K (more || mrAt l K n i) ((i + 1 : Nat) : Int) s a := by
  have hw : wrap64 ((i : Int) + 1) = ((i + 1 : Nat) : Int) := by rw [w64 (by omega)]; rfl
  have hp : ((2 ^ K : Nat) : Int) ≠ 0 := by have := Nat.two_pow_pos K; omega
  have hlen := length_Ps l
  rw [hanaperref07_Next.l1, if_pos (by omega), if_pos (by omega), rd_Ps l hi, P41_f1 hok, hw, shl_two h1 h15]
  have key : (if more = true then hanaperref07_Next.l1 k (Ps l) n K true ((i + 1 : Nat) : Int) s a else (if l.getD i 0 > (K : Int) then (if 0 ≤ (K : Int) then (if ((2 ^ K : Nat) : Int) = 0 then none else hanaperref07_Next.l1 k (Ps l) n K (Int.tmod (P41 l i).f0 ((2 ^ K : Nat) : Int) == (n : Int)) ((i + 1 : Nat) : Int) s a) else none) else hanaperref07_Next.l1 k (Ps l) n K false ((i + 1 : Nat) : Int) s a)) =
      hanaperref07_Next.l1 k (Ps l) n K (more || mrAt l K n i) ((i + 1 : Nat) : Int) s a := by
    cases more with
    | true => rfl
    | false =>
      rw [if_neg (by decide), Bool.false_or]
      unfold mrAt
      by_cases hgt : l.getD i 0 > (K : Int)
      · rw [if_pos hgt, if_pos (by omega), if_neg hp, decide_eq_true (show (K : Int) < l.getD i 0 from hgt), Bool.true_and]
      · rw [if_neg hgt, decide_eq_false (show ¬ (K : Int) < l.getD i 0 from hgt), Bool.false_and]
  by_cases e1 : l.getD i 0 = (K : Int)
  · rw [if_pos e1]
    by_cases e2 : (P41 l i).f0 = n
    · exact absurd ⟨e1, e2⟩ hno
    · rw [if_neg e2]
      exact key
  · rw [if_neg e1]
    exact key

theorem match_word {l : List Int} (h : isCode l = true) {i K v : Nat} (hi : i < l.length) (h1 : 1 ≤ K) (hv : v < 2 ^ K) (hx : l.getD i 0 = K) : (P41 l i).f0 = (turnN v K : Int) ↔ wN l i = v := by
  have hlt := wN_lt_pow h hi (by omega)
  rw [P41_f0 h hi (by omega)]
  rw [hx, Int.toNat_natCast] at hlt ⊢
  constructor
  · intro e
    exact turnN_inj hlt hv (by exact_mod_cast e)
  · intro e
    rw [e]

theorem l1_hit {l : List Int} (h : isCode l = true) (K v : Nat) (h1 : 1 ≤ K) (h15 : K ≤ 15) (hv : v < 2 ^ K) (j : Nat) (hj : j < l.length) (hx : l.getD j 0 = K) (hw : wN l j = v) (s : ByteArray) (a : Int) (d : Nat) : ∀ i more, i + d = j →
    Ev fun k => hanaperref07_Next.l1 k (Ps l) (turnN v K : Int) K more (i : Int) s a = some ((j : Int), 0, s, a) := by
  have hok := isCode_ok h
  have hl := len_code h
  have hlen := length_Ps l
  induction d with
  | zero =>
    intro i more hi
    have : i = j := by omega
    subst this
    refine Ev.one fun k => ?_
    rw [hanaperref07_Next.l1, if_pos (by omega), if_pos (by omega), rd_Ps l hj, P41_f1 hok, if_pos hx, if_pos ((match_word h hj h1 hv hx).2 hw)]
  | succ d ih =>
    intro i more hi
    refine (ih (i + 1) (more || mrAt l K (turnN v K) i) (by omega)).succ fun k hk => ?_
    rw [l1_step hok hl K (turnN v K) h1 h15 i (by omega) ?_ k more s a]
    · exact hk
    · rintro ⟨e1, e2⟩
      have e3 := (match_word h (show i < l.length by omega) h1 hv e1).1 e2
      have e4 := wN_free h (show i < l.length by omega) hj (by omega) (by omega) (by omega)
      rw [e1, hx, Nat.sub_self, Nat.pow_zero, Nat.div_one, hw, e3] at e4
      exact e4 rfl

theorem l1_miss {l : List Int} (h : isCode l = true) (K v : Nat) (h1 : 1 ≤ K) (h15 : K ≤ 15) (hv : v < 2 ^ K) (hE : Ex l K ≤ v) (s : ByteArray) (a : Int) (R : Option (Int × Int × ByteArray × Int))
    (hR : mr l K (turnN v K) l.length = true → Ev fun k => hanaperref07_Next.l0 k (Ps l) (turnN v K : Int) ((K + 1 : Nat) : Int) s a = R) (hR0 : mr l K (turnN v K) l.length = false → R = some (0, 70, s, a)) (d : Nat) : ∀ i, i + d = l.length →
    Ev fun k => hanaperref07_Next.l1 k (Ps l) (turnN v K : Int) K (mr l K (turnN v K) i) (i : Int) s a = R := by
  have hok := isCode_ok h
  have hl := len_code h
  have hlen := length_Ps l
  induction d with
  | zero =>
    intro i hi
    have : i = l.length := by omega
    subst this
    have hw : wrap64 ((K : Int) + 1) = ((K + 1 : Nat) : Int) := by rw [w64 (by omega)]; rfl
    cases hm : mr l K (turnN v K) l.length with
    | true =>
      refine (hR hm).succ fun k hk => ?_
      rw [hanaperref07_Next.l1, if_neg (by omega), if_pos rfl, hw]
      exact hk
    | false =>
      rw [hR0 hm]
      refine Ev.one fun k => ?_
      rw [hanaperref07_Next.l1, if_neg (by omega), if_neg (by decide)]
  | succ d ih =>
    intro i hi
    refine (ih (i + 1) (by omega)).succ fun k hk => ?_
    rw [l1_step hok hl K (turnN v K) h1 h15 i (by omega) ?_ k _ s a]
    · exact hk
    · rintro ⟨e1, e2⟩
      have e3 := (match_word h (show i < l.length by omega) h1 hv e1).1 e2
      have e4 := wN_lt (show i < l.length by omega) (lensOk_get hok i).1
      rw [e1, Int.toNat_natCast, e3] at e4
      omega

theorem mr_true {l : List Int} {K n : Nat} {i : Nat} (h : mrAt l K n i = true) : ∀ m, i < m → mr l K n m = true := by
  intro m
  induction m with
  | zero => intro h; omega
  | succ m ih =>
    intro hm
    rw [mr]
    by_cases e : i = m
    · subst e; rw [h, Bool.or_true]
    · rw [ih (by omega), Bool.true_or]
theorem mr_false {l : List Int} {K n : Nat} : ∀ m, (∀ i, i < m → l.getD i 0 ≤ K) → mr l K n m = false
  | 0, _ => rfl
  | m + 1, h => by
    have h1 := h m (by omega)
    rw [mr, mr_false m (fun i hi => h i (by omega)), mrAt, decide_eq_false (by omega)]
    rfl

theorem mr_tail {l : List Int} (h : isCode l = true) (K v : Nat) (h1 : 1 ≤ K) (h15 : K ≤ 15) (hv : v < 2 ^ K) (hE : Ex l K ≤ v) : mr l K (turnN v K) l.length = decide (tailC l K ≠ 0) := by
  have hok := isCode_ok h
  by_cases ht : tailC l K = 0
  · rw [decide_eq_false (by simpa using ht)]
    exact mr_false _ (fun i hi => tailC_none hok h15 ht hi)
  · rw [decide_eq_true ht]
    have hwh : Kr l = 32768 := by
      rcases Kr_code h with e | ⟨e1, e2⟩
      · exact e
      · exact absurd (tailC_one h e1 e2 K h1 h15) ht
    obtain ⟨i, hi, hgt, hq⟩ := cover h hwh K v h1 (15 - K) K v (by omega) (by omega) (by simp) hE hv
    refine mr_true (i := i) ?_ _ hi
    unfold mrAt
    rw [decide_eq_true hgt, Bool.true_and, P41_f0 h hi (by omega), Int.tmod_eq_emod_of_nonneg (by omega)]
    have e := turnN_mod (wN l i) (l.getD i 0).toNat K (by omega)
    rw [hq] at e
    have e2 : ((turnN (wN l i) (l.getD i 0).toNat : Nat) : Int) % ((2 ^ K : Nat) : Int) = (turnN v K : Int) := by rw [← e]; rfl
    rw [e2]
    simp

theorem l0_ev {l : List Int} (h : isCode l = true) (s : ByteArray) (hs : s.size ≤ 140737488355328) (d : Nat) : ∀ K v a, K + d = 16 → 1 ≤ K → v < 2 ^ (K - 1) → Fx l K ≤ 2 * v → a ≤ 8 * s.size →
    Ev fun k => hanaperref07_Next.l0 k (Ps l) (turnN v (K - 1) : Int) (K : Int) s (a : Int) = some ((nx l s d K v a).1, (nx l s d K v a).2.1, s, ((nx l s d K v a).2.2 : Int)) := by
  induction d with
  | zero =>
    intro K v a hK h1 hv hF ha
    refine Ev.one fun k => ?_
    rw [hanaperref07_Next.l0, if_neg (by omega)]
    rfl
  | succ d ih =>
    intro K v a hK h1 hv hF ha
    have hT := refTake_ev s a 1 hs (by decide) ha
    by_cases hsh : 8 * s.size < a + 1
    · rw [nx, if_pos hsh]
      rw [if_pos hsh] at hT
      refine hT.succ fun k hk => ?_
      have hk' : hanaperref06_Reader_Take.f k s (a : Int) 1 = some (0, 40, s, (a : Int)) := hk
      rw [hanaperref07_Next.l0, if_pos (by omega), hk', Option.bind_some]
      dsimp only
      rw [if_neg (by decide)]
    · rw [if_neg hsh] at hT
      have hb := bitsAt_lt s a 1
      rw [Nat.pow_one] at hb
      have hp : 2 ^ K = 2 * 2 ^ (K - 1) := by
        rw [show K = (K - 1) + 1 by omega, Nat.pow_succ, show K - 1 + 1 - 1 = K - 1 by omega]
        omega
      have hv2 : 2 * v + bitsAt s a 1 < 2 ^ K := by omega
      have ho := turnN_or v (bitsAt s a 1) (K - 1) (by omega)
      rw [show K - 1 + 1 = K by omega] at ho
      obtain ⟨s1, s2⟩ := shl32 (bitsAt s a 1) (K - 1) (by omega) (by omega)
      have hsmall : turnN v (K - 1) < 4294967296 := Nat.lt_of_lt_of_le (turnN_lt v (K - 1)) (Nat.le_trans (Nat.pow_le_pow_right (by decide) (show K - 1 ≤ 15 by omega)) (by decide))
      have hw1 : wrap64 ((K : Int) - 1) = ((K - 1 : Nat) : Int) := by rw [w64 (by omega)]; omega
      -- what the round hands on
      have step : ∀ k R, hanaperref06_Reader_Take.f k s (a : Int) ((1 : Nat) : Int) = some ((bitsAt s a 1 : Int), 0, s, ((a + 1 : Nat) : Int)) → hanaperref07_Next.l1 k (Ps l) (turnN (2 * v + bitsAt s a 1) K : Int) K false 0 s ((a + 1 : Nat) : Int) = R → hanaperref07_Next.l0 (k + 1) (Ps l) (turnN v (K - 1) : Int) (K : Int) s (a : Int) = R := by
        intro k R hk hR
        have hk' : hanaperref06_Reader_Take.f k s (a : Int) 1 = some ((bitsAt s a 1 : Int), 0, s, ((a + 1 : Nat) : Int)) := hk
        rw [hanaperref07_Next.l0, if_pos (by omega), hk', Option.bind_some]
        dsimp only
        rw [if_pos rfl, hw1, if_pos (by omega), s1, or_u32 hsmall s2, ← ho]
        exact hR
      rw [nx, if_neg hsh]
      by_cases hhit : 2 * v + bitsAt s a 1 < Ex l K
      · rw [if_pos hhit]
        have hcn := (cnt_bound (K : Int) l).1
        obtain ⟨j1, j2, j3⟩ := nthOf_spec l (K : Int) (2 * v + bitsAt s a 1 - Fx l K) (by
          unfold Ex at hhit
          omega)
        have hwd : wN l (nthOf l (K : Int) (2 * v + bitsAt s a 1 - Fx l K)) = 2 * v + bitsAt s a 1 := by
          unfold wN ahead
          rw [j2, j3, Int.toNat_natCast, Int.toNat_natCast]
          omega
        refine ((l1_hit h K _ h1 (by omega) hv2 _ j1 j2 hwd s ((a + 1 : Nat) : Int) _ 0 false (Nat.zero_add _)).and hT).succ fun k hk => ?_
        exact step k _ hk.2 hk.1
      · rw [if_neg hhit]
        have hmt := mr_tail h K _ h1 (by omega) hv2 (by omega)
        have hm := l1_miss h K _ h1 (by omega) hv2 (by omega) s ((a + 1 : Nat) : Int)
          (some ((if tailC l K = 0 then ((0 : Int), (70 : Int), a + 1) else nx l s d (K + 1) (2 * v + bitsAt s a 1) (a + 1)).1, (if tailC l K = 0 then ((0 : Int), (70 : Int), a + 1) else nx l s d (K + 1) (2 * v + bitsAt s a 1) (a + 1)).2.1, s, ((if tailC l K = 0 then ((0 : Int), (70 : Int), a + 1) else nx l s d (K + 1) (2 * v + bitsAt s a 1) (a + 1)).2.2 : Int)))
          (fun hm => by
            rw [hmt, decide_eq_true_eq] at hm
            rw [if_neg hm]
            have := ih (K + 1) (2 * v + bitsAt s a 1) (a + 1) (by omega) (by omega) (by rw [Nat.add_sub_cancel]; exact hv2) (by rw [Fx_succ l K h1]; omega) (by omega)
            rw [Nat.add_sub_cancel] at this
            exact this)
          (fun hm => by
            rw [hmt, decide_eq_false_iff_not, Classical.not_not] at hm
            rw [if_pos hm]) l.length 0 (by omega)
        refine (hm.and hT).succ fun k hk => ?_
        exact step k _ hk.2 hk.1

/-- The document's symbol, and what is left, is the plain function. -/
theorem refNext_ev (l : List Int) (hl : l.length < 1000000) (s : ByteArray) (a : Nat) (hs : s.size ≤ 140737488355328) (ha : a ≤ 8 * s.size) :
    Ev fun k => hanaperref07_Next.f k s (a : Int) l = some ((Nx l s a).1, (Nx l s a).2.1, s, ((Nx l s a).2.2 : Int)) := by
  have hC := refCodes_ev l hl
  unfold Nx
  cases h : isCode l with
  | true =>
    rw [h, if_pos rfl] at hC
    refine (hC.and (l0_ev h s hs 15 1 0 a (by omega) (by omega) (by decide) (Nat.le_refl 0) ha)).imp fun k hk => ?_
    rw [hanaperref07_Next.f, hk.1, Option.bind_some]
    dsimp only
    rw [if_pos rfl]
    exact hk.2
  | false =>
    rw [h, if_neg (by decide)] at hC
    refine hC.imp fun k hk => ?_
    rw [hanaperref07_Next.f, hk, Option.bind_some]
    dsimp only
    rw [if_neg (by decide)]
    rfl

end Go.Proofs.Ythgijppajindpaa
