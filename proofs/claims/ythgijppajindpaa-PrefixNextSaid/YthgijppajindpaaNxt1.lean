/-
  Which symbol bits are, plain; the nth symbol of a width is walked.
-/
import Derived.Test.YthgijppajindpaaTake
import Derived.Test.YthgijppajindpaaCanl
set_option linter.unusedVariables false
set_option linter.unusedSimpArgs false
namespace Go.Proofs.Ythgijppajindpaa
open Go.RowKit Go.Proofs.YthgijppajindpaaW.PrintWords

/-- The nth symbol of a width. -/
def nthOf : List Int → Int → Nat → Nat
  | [], _, _ => 0
  | x :: l, k, n => if x = k then (if n = 0 then 0 else nthOf l k (n - 1) + 1) else nthOf l k n + 1
theorem nthOf_spec : ∀ (l : List Int) (k : Int) (n : Nat), (n : Int) < cnt l k → nthOf l k n < l.length ∧ l.getD (nthOf l k n) 0 = k ∧ cnt (l.take (nthOf l k n)) k = n
  | [], k, n, h => by
    have e : cnt [] k = 0 := rfl
    rw [e] at h
    omega
  | x :: l, k, n, h => by
    rw [cnt_cons] at h
    unfold nthOf
    by_cases e : x = k
    · rw [if_pos e]
      rw [if_pos e] at h
      by_cases e0 : n = 0
      · rw [if_pos e0]
        exact ⟨by simp, by simpa using e, by rw [e0]; rfl⟩
      · rw [if_neg e0]
        obtain ⟨h1, h2, h3⟩ := nthOf_spec l k (n - 1) (by omega)
        refine ⟨by simp only [List.length_cons]; omega, by simpa using h2, ?_⟩
        rw [List.take_succ_cons, cnt_cons, if_pos e, h3]
        omega
    · rw [if_neg e]
      rw [if_neg e, Int.zero_add] at h
      obtain ⟨h1, h2, h3⟩ := nthOf_spec l k n h
      refine ⟨by simp only [List.length_cons]; omega, by simpa using h2, ?_⟩
      rw [List.take_succ_cons, cnt_cons, if_neg e, h3]
      omega
/-- It is the only one. -/
theorem nthOf_eq {l : List Int} {k : Int} {n j : Nat} (hj : j < l.length) (hk : l.getD j 0 = k) (hc : cnt (l.take j) k = n) : nthOf l k n = j := by
  have hn : (n : Int) < cnt l k := by
    have := cnt_take_le l (j + 1) k
    rw [take_snoc hj, cnt_snoc, if_pos hk] at this
    omega
  obtain ⟨h1, h2, h3⟩ := nthOf_spec l k n hn
  generalize nthOf l k n = i at *
  rcases Nat.lt_trichotomy i j with h | h | h
  · have := cnt_take_mono l (show i + 1 ≤ j by omega) k
    rw [take_snoc h1, cnt_snoc, if_pos h2] at this
    omega
  · exact h
  · have := cnt_take_mono l (show j + 1 ≤ i by omega) k
    rw [take_snoc hj, cnt_snoc, if_pos hk] at this
    omega

/-- How many have more bits. -/
def tailC (l : List Int) (k : Nat) : Int := ((cnts l).drop (k + 1)).sum
theorem tailC_succ (l : List Int) (k : Nat) (hk : k < 15) : tailC l k = cnt l ((k + 1 : Nat) : Int) + tailC l (k + 1) := by
  unfold tailC
  have hl := length_cnts l
  rw [List.drop_eq_getElem_cons (by omega), List.sum_cons]
  have := cnts_getD l (k + 1) (by omega)
  rw [List.getD_eq_getElem?_getD, List.getElem?_eq_getElem (by omega)] at this
  rw [← this]
  rfl
theorem tailC_last (l : List Int) : tailC l 15 = 0 := by
  unfold tailC
  rw [List.drop_of_length_le (by rw [length_cnts]; omega)]
  rfl
theorem tailC_bound (l : List Int) (d : Nat) : ∀ k, k + d = 15 → 0 ≤ tailC l k ∧ tailC l k ≤ d * l.length := by
  induction d with
  | zero =>
    intro k hk
    have : k = 15 := by omega
    subst this
    rw [tailC_last]
    omega
  | succ d ih =>
    intro k hk
    have h1 := ih (k + 1) (by omega)
    have h2 := cnt_bound ((k + 1 : Nat) : Int) l
    have e : ((d + 1 : Nat) : Int) * (l.length : Int) = (d : Int) * l.length + l.length := by
      rw [Int.natCast_add, Int.add_mul]
      simp
    rw [tailC_succ l k (by omega), e]
    omega

/-- Which symbol bits are: it, an error, and where the reader stands. -/
def nx (l : List Int) (s : ByteArray) : Nat → Nat → Nat → Nat → Int × Int × Nat
  | 0, _, _, a => (0, 70, a)
  | d + 1, k, v, a =>
    if 8 * s.size < a + 1 then (0, 40, a)
    else if 2 * v + bitsAt s a 1 < Ex l k then (nthOf l k (2 * v + bitsAt s a 1 - Fx l k), 0, a + 1)
    else if tailC l k = 0 then (0, 70, a + 1)
    else nx l s d (k + 1) (2 * v + bitsAt s a 1) (a + 1)
/-- P7.4. -/
def Nx (l : List Int) (s : ByteArray) (a : Nat) : Int × Int × Nat := if isCode l then nx l s 15 1 0 a else (0, 70, a)

set_option maxHeartbeats 4000000 in
set_option maxRecDepth 1000000 in
theorem nth_calls (A : Option Addr) (n c : Nat) (l : List Int) (k : Int) (m j : Nat) (w : World) (hn : n ≤ 1000) (hR : Rd w A n l) (hj : j < l.length) (hk : l.getD j 0 = k) (hm : cnt (l.take j) k = m) :
    Calls Try.prog 48 #[.slice A n c, .int .i64 k, .int .i64 (m : Int)] w fun e w' => e = .returned (.int .i64 (j : Int)) ∧ w = w' := by
  obtain ⟨hl, hc⟩ := hR
  have HC : Hid _ := hc
  have HL : Hid (l.length = n) := hl
  have hjn : j < n := by omega
  have HK : Hid (l.getD j 0 = k) := hk
  have HM : Hid (cnt (l.take j) k = m) := hm
  have hmb : (m : Int) ≤ n := by
    have := cnt_bound k (l.take j)
    rw [List.length_take] at this
    omega
  have HP : Hid (∀ i, i ≤ j → cnt (l.take i) k ≤ m) := hid (fun i hi => by
    rw [← hm]
    exact cnt_take_mono l hi k)
  clear hl hc hk hm
  go_enter Try.func48, Try.ntmps48
  go_wp2_with fail
  go_loopg [2, 11] (n + 1) (fun kx s2 s11 wr => ∃ (i t : Nat), s2 = .int .i64 ((m : Int) - t) ∧ s11 = .int .i64 i ∧ i ≤ j ∧ n - i ≤ kx ∧ w = wr ∧ t ≤ m ∧ Hid (cnt (l.take i) k = t))
  case atStart => exact ⟨0, 0, by simp, rfl, by omega, by omega, rfl, by omega, hid rfl⟩
  case round =>
    obtain ⟨i, t, rfl, rfl, hij, hikx, rfl, htm, HT⟩ := hrel
    have hltz : (i : Int) < (n : Int) := by omega
    obtain ⟨b, off, rfl, hb, hcell⟩ := HC.out (by omega)
    obtain ⟨x, hx⟩ : ∃ x, x = l.getD i 0 := ⟨_, rfl⟩
    have hci := hcell i (by omega)
    rw [← hx] at hci
    clear hcell
    have HX : Hid (x = l.getD i 0) := hx
    clear hx
    have HS : Hid (cnt (l.take (i + 1)) k = t + if x = k then 1 else 0) := by
      show _ = _
      rw [take_snoc (by rw [HL.out]; omega), cnt_snoc, HT.out, ← HX.out]
    by_cases hxk : x = k
    · subst hxk
      by_cases h0 : (m : Int) - t = 0
      · have hlast : i = j := by
          refine Nat.le_antisymm hij (Nat.le_of_not_lt (fun hlt => ?_))
          have h1 := HP.out (i + 1) (by omega)
          rw [HS.out, if_pos rfl] at h1
          omega
        subst hlast
        go_wp2_with fail
        go_ret
        exact ⟨rfl, rfl⟩
      · have hne : ((m : Int) - t == 0) = false := by simpa using h0
        have hil : Hid (i ≠ j) := hid (fun e => by
          subst e
          have h1 := HM.out
          rw [HT.out] at h1
          omega)
        go_wp2_with fail
        go_roundg (n - (i + 1))
        case measure => omega
        case rel =>
          have h2 := hil.out
          refine ⟨i + 1, t + 1, ?_, by go_num, by omega, by omega, rfl, by omega, ?_⟩
          · have : (m : Int) - t - 1 = (m : Int) - ((t + 1 : Nat) : Int) := by omega
            rw [this]
          · show _ = _
            exact HS.out.trans (by simp)
    · have hil : Hid (i ≠ j) := hid (fun e => by
        subst e
        exact hxk (HX.out.trans HK.out))
      have hne : (x != k) = true := by simpa using hxk
      go_wp2_with fail
      go_roundg (n - (i + 1))
      case measure => omega
      case rel =>
        have h2 := hil.out
        refine ⟨i + 1, t, rfl, by go_num, by omega, by omega, rfl, htm, ?_⟩
        show _ = _
        rw [HS.out, if_neg hxk, Int.add_zero]

end Go.Proofs.Ythgijppajindpaa
