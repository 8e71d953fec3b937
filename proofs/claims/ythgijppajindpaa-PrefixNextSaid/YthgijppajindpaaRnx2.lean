/-
  Which symbol bits are, by the document, is the plain function.
-/
import Derived.Test.YthgijppajindpaaRnx1
set_option linter.unusedVariables false
set_option linter.unusedSimpArgs false
namespace Go.Proofs.Ythgijppajindpaa
open Go.RowKit Go.Proofs.YthgijppajindpaaW.PrintWords Go.Proofs.YthgijppajindpaaW.PrintLast Go.Proofs.YthgijppajindpaaW.PrintMore Go.Proofs.Ythgijppajindpaa.K7

def Ps (l : List Int) : List S41 := (List.range l.length).map (P41 l)
theorem length_Ps (l : List Int) : (Ps l).length = l.length := by simp [Ps]
theorem rd_Ps (l : List Int) {i : Nat} (hi : i < l.length) : rd_T41 (Ps l) (i : Int) = P41 l i := by
  unfold rd_T41 Ps
  rw [Int.toNat_natCast, List.getD_eq_getElem?_getD, List.getElem?_map, List.getElem?_range hi]
  rfl
theorem P41_f1 {l : List Int} (hok : lensOk l = true) (i : Nat) : (P41 l i).f1 = l.getD i 0 := by
  have := lensOk_get hok i
  unfold P41 pcOf
  split
  · rfl
  · show 0 = _
    omega
theorem P41_f0 {l : List Int} (h : isCode l = true) {i : Nat} (hi : i < l.length) (hx : 0 < l.getD i 0) : (P41 l i).f0 = (turnN (wN l i) (l.getD i 0).toNat : Int) := by
  unfold P41
  rw [pcOf_code h hi hx]

theorem shl_two {w : Nat} (h1 : 1 ≤ w) (h2 : w ≤ 15) : shl .u32 1 (w : Int) = ((2 ^ w : Nat) : Int) := by
  have h := (shl32 1 w (by decide) (by omega)).1
  rw [Nat.shiftLeft_eq, Nat.one_mul] at h
  exact h

/-- Is it a longer word that bits begin? -/
def mrAt (l : List Int) (K n : Nat) (i : Nat) : Bool := decide ((K : Int) < l.getD i 0) && (Int.tmod (P41 l i).f0 ((2 ^ K : Nat) : Int) == (n : Int))
def mr (l : List Int) (K n : Nat) : Nat → Bool
  | 0 => false
  | i + 1 => mr l K n i || mrAt l K n i

theorem l1_step {l : List Int} (hok : lensOk l = true) (hl : l.length ≤ 300) (K n : Nat) (h1 : 1 ≤ K) (h15 : K ≤ 15) (i : Nat) (hi : i < l.length) (hno : ¬ (l.getD i 0 = K ∧ (P41 l i).f0 = n)) (k : Nat) (more : Bool) (s : ByteArray) (a : Int) :
    hanaperref07_Next.l1 (k + 1) (Ps l) n K more i s a = hanaperref07_Next.l1 k (Ps l) n K (more || mrAt l K n i) ((i + 1 : Nat) : Int) s a := by
  have hw : wrap64 ((i : Int) + 1) = ((i + 1 : Nat) : Int) := by rw [w64 (by omega)]; rfl
  have hp : ((2 ^ K : Nat) : Int) ≠ 0 := by have := Nat.two_pow_pos K; omega
  have hlen := length_Ps l
  rw [hanaperref07_Next.l1, if_pos (by omega), if_pos (by omega), rd_Ps l hi, P41_f1 hok, hw, shl_two h1 h15]
  have key : (if more = true then hanaperref07_Next.l1 k (Ps l) n K true ((i + 1 : Nat) : Int) s a else (if l.getD i 0 > (K : Int) then (if 0 ≤ (K : Int) then (if ((2 ^ K : Nat) : Int) = 0 then none else hanaperref07_Next.l1 k (Ps l) n K (Int.tmod (P41 l i).f0 ((2 ^ K : Nat) : Int) == (n : Int)) ((i + 1 : Nat) : Int) s a) else none) else hanaperref07_Next.l1 k (Ps l) n K false ((i + 1 : Nat) : Int) s a)) =
      hanaperref07_Next.l1 k (Ps l) n K (more || mrAt l K n i) ((i + 1 : Nat) : Int) s a := by
    cases more with
    | true => rfl
    | false =>
      rw [if_neg (by decide), Bool.false_or]
      unfold mrAt
      by_cases hgt : l.getD i 0 > (K : Int)
      · rw [if_pos hgt, if_pos (by omega), if_neg hp, decide_eq_true (show (K : Int) < l.getD i 0 from hgt), Bool.true_and]
      · rw [if_neg hgt, decide_eq_false (show ¬ (K : Int) < l.getD i 0 from hgt), Bool.false_and]
  by_cases e1 : l.getD i 0 = (K : Int)
  · rw [if_pos e1]
    by_cases e2 : (P41 l i).f0 = n
    · exact absurd ⟨e1, e2⟩ hno
    · rw [if_neg e2]
      exact key
  · rw [if_neg e1]
    exact key

theorem match_word {l : List Int} (h : isCode l = true) {i K v : Nat} (hi : i < l.length) (h1 : 1 ≤ K) (hv : v < 2 ^ K) (hx : l.getD i 0 = K) : (P41 l i).f0 = (turnN v K : Int) ↔ wN l i = v := by
  have hlt := wN_lt_pow h hi (by omega)
  rw [P41_f0 h hi (by omega)]
  rw [hx, Int.toNat_natCast] at hlt ⊢
  constructor
  · intro e
    exact turnN_inj hlt hv (by exact_mod_cast e)
  · intro e
    rw [e]

theorem l1_hit {l : List Int} (h : isCode l = true) (K v : Nat) (h1 : 1 ≤ K) (h15 : K ≤ 15) (hv : v < 2 ^ K) (j : Nat) (hj : j < l.length) (hx : l.getD j 0 = K) (hw : wN l j = v) (s : ByteArray) (a : Int) (d : Nat) : ∀ i more, i + d = j →
    Ev fun k => hanaperref07_Next.l1 k (Ps l) (turnN v K : Int) K more (i : Int) s a = some ((j : Int), 0, s, a) := by
  have hok := isCode_ok h
  have hl := len_code h
  have hlen := length_Ps l
  induction d with
  | zero =>
    intro i more hi
    have : i = j := by omega
    subst this
    refine Ev.one fun k => ?_
    rw [hanaperref07_Next.l1, if_pos (by omega), if_pos (by omega), rd_Ps l hj, P41_f1 hok, if_pos hx, if_pos ((match_word h hj h1 hv hx).2 hw)]
  | succ d ih =>
    intro i more hi
    refine (ih (i + 1) (more || mrAt l K (turnN v K) i) (by omega)).succ fun k hk => ?_
    rw [l1_step hok hl K (turnN v K) h1 h15 i (by omega) ?_ k more s a]
    · exact hk
    · rintro ⟨e1, e2⟩
      have e3 := (match_word h (show i < l.length by omega) h1 hv e1).1 e2
      have e4 := wN_free h (show i < l.length by omega) hj (by omega) (by omega) (by omega)
      rw [e1, hx, Nat.sub_self, Nat.pow_zero, Nat.div_one, hw, e3] at e4
      exact e4 rfl

theorem l1_miss {l : List Int} (h : isCode l = true) (K v : Nat) (h1 : 1 ≤ K) (h15 : K ≤ 15) (hv : v < 2 ^ K) (hE : Ex l K ≤ v) (s : ByteArray) (a : Int) (R : Option (Int × Int × ByteArray × Int))
    (hR : mr l K (turnN v K) l.length = true → Ev fun k => hanaperref07_Next.l0 k (Ps l) (turnN v K : Int) ((K + 1 : Nat) : Int) s a = R) (hR0 : mr l K (turnN v K) l.length = false → R = some (0, 70, s, a)) (d : Nat) : ∀ i, i + d = l.length →
    Ev fun k => hanaperref07_Next.l1 k (Ps l) (turnN v K : Int) K (mr l K (turnN v K) i) (i : Int) s a = R := by
  have hok := isCode_ok h
  have hl := len_code h
  have hlen := length_Ps l
  induction d with
  | zero =>
    intro i hi
    have : i = l.length := by omega
    subst this
    have hw : wrap64 ((K : Int) + 1) = ((K + 1 : Nat) : Int) := by rw [w64 (by omega)]; rfl
    cases hm : mr l K (turnN v K) l.length with
    | true =>
      refine (hR hm).succ fun k hk => ?_
      rw [hanaperref07_Next.l1, if_neg (by omega), if_pos rfl, hw]
      exact hk
    | false =>
      rw [hR0 hm]
      refine Ev.one fun k => ?_
      rw [hanaperref07_Next.l1, if_neg (by omega), if_neg (by decide)]
  | succ d ih =>
    intro i hi
    refine (ih (i + 1) (by omega)).succ fun k hk => ?_
    rw [l1_step hok hl K (turnN v K) h1 h15 i (by omega) ?_ k _ s a]
    · exact hk
    · rintro ⟨e1, e2⟩
      have e3 := (match_word h (show i < l.length by omega) h1 hv e1).1 e2
      have e4 := wN_lt (show i < l.length by omega) (lensOk_get hok i).1
      rw [e1, Int.toNat_natCast, e3] at e4
      omega

theorem mr_true {l : List Int} {K n : Nat} {i : Nat} (h : mrAt l K n i = true) : ∀ m, i < m → mr l K n m = true := by
  intro m
  induction m with
  | zero => intro h; omega
  | succ m ih =>
    intro hm
    rw [mr]
    by_cases e : i = m
    · subst e; rw [h, Bool.or_true]
    · rw [ih (by omega), Bool.true_or]
theorem mr_false {l : List Int} {K n : Nat} : ∀ m, (∀ i, i < m → l.getD i 0 ≤ K) → mr l K n m = false
  | 0, _ => rfl
  | m + 1, h => by
    have h1 := h m (by omega)
    rw [mr, mr_false m (fun i hi => h i (by omega)), mrAt, decide_eq_false (by omega)]
    rfl

theorem mr_tail {l : List Int} (h : isCode l = true) (K v : Nat) (h1 : 1 ≤ K) (h15 : K ≤ 15) (hv : v < 2 ^ K) (hE : Ex l K ≤ v) : mr l K (turnN v K) l.length = decide (tailC l K ≠ 0) := by
  have hok := isCode_ok h
  by_cases ht : tailC l K = 0
  · rw [decide_eq_false (by simpa using ht)]
    exact mr_false _ (fun i hi => tailC_none hok h15 ht hi)
  · rw [decide_eq_true ht]
    have hwh : Kr l = 32768 := by
      rcases Kr_code h with e | ⟨e1, e2⟩
      · exact e
      · exact absurd (tailC_one h e1 e2 K h1 h15) ht
    obtain ⟨i, hi, hgt, hq⟩ := cover h hwh K v h1 (15 - K) K v (by omega) (by omega) (by simp) hE hv
    refine mr_true (i := i) ?_ _ hi
    unfold mrAt
    rw [decide_eq_true hgt, Bool.true_and, P41_f0 h hi (by omega), Int.tmod_eq_emod_of_nonneg (by omega)]
    have e := turnN_mod (wN l i) (l.getD i 0).toNat K (by omega)
    rw [hq] at e
    have e2 : ((turnN (wN l i) (l.getD i 0).toNat : Nat) : Int) % ((2 ^ K : Nat) : Int) = (turnN v K : Int) := by rw [← e]; rfl
    rw [e2]
    simp

theorem l0_ev {l : List Int} (h : isCode l = true) (s : ByteArray) (hs : s.size ≤ 140737488355328) (d : Nat) : ∀ K v a, K + d = 16 → 1 ≤ K → v < 2 ^ (K - 1) → Fx l K ≤ 2 * v → a ≤ 8 * s.size →
    Ev fun k => hanaperref07_Next.l0 k (Ps l) (turnN v (K - 1) : Int) (K : Int) s (a : Int) = some ((nx l s d K v a).1, (nx l s d K v a).2.1, s, ((nx l s d K v a).2.2 : Int)) := by
  induction d with
  | zero =>
    intro K v a hK h1 hv hF ha
    refine Ev.one fun k => ?_
    rw [hanaperref07_Next.l0, if_neg (by omega)]
    rfl
  | succ d ih =>
    intro K v a hK h1 hv hF ha
    have hT := refTake_ev s a 1 hs (by decide) ha
    by_cases hsh : 8 * s.size < a + 1
    · rw [nx, if_pos hsh]
      rw [if_pos hsh] at hT
      refine hT.succ fun k hk => ?_
      have hk' : hanaperref06_Reader_Take.f k s (a : Int) 1 = some (0, 40, s, (a : Int)) := hk
      rw [hanaperref07_Next.l0, if_pos (by omega), hk', Option.bind_some]
      dsimp only
      rw [if_neg (by decide)]
    · rw [if_neg hsh] at hT
      have hb := bitsAt_lt s a 1
      rw [Nat.pow_one] at hb
      have hp : 2 ^ K = 2 * 2 ^ (K - 1) := by
        rw [show K = (K - 1) + 1 by omega, Nat.pow_succ, show K - 1 + 1 - 1 = K - 1 by omega]
        omega
      have hv2 : 2 * v + bitsAt s a 1 < 2 ^ K := by omega
      have ho := turnN_or v (bitsAt s a 1) (K - 1) (by omega)
      rw [show K - 1 + 1 = K by omega] at ho
      obtain ⟨s1, s2⟩ := shl32 (bitsAt s a 1) (K - 1) (by omega) (by omega)
      have hsmall : turnN v (K - 1) < 4294967296 := Nat.lt_of_lt_of_le (turnN_lt v (K - 1)) (Nat.le_trans (Nat.pow_le_pow_right (by decide) (show K - 1 ≤ 15 by omega)) (by decide))
      have hw1 : wrap64 ((K : Int) - 1) = ((K - 1 : Nat) : Int) := by rw [w64 (by omega)]; omega
      -- what the round hands on
      have step : ∀ k R, hanaperref06_Reader_Take.f k s (a : Int) ((1 : Nat) : Int) = some ((bitsAt s a 1 : Int), 0, s, ((a + 1 : Nat) : Int)) → hanaperref07_Next.l1 k (Ps l) (turnN (2 * v + bitsAt s a 1) K : Int) K false 0 s ((a + 1 : Nat) : Int) = R → hanaperref07_Next.l0 (k + 1) (Ps l) (turnN v (K - 1) : Int) (K : Int) s (a : Int) = R := by
        intro k R hk hR
        have hk' : hanaperref06_Reader_Take.f k s (a : Int) 1 = some ((bitsAt s a 1 : Int), 0, s, ((a + 1 : Nat) : Int)) := hk
        rw [hanaperref07_Next.l0, if_pos (by omega), hk', Option.bind_some]
        dsimp only
        rw [if_pos rfl, hw1, if_pos (by omega), s1, or_u32 hsmall s2, ← ho]
        exact hR
      rw [nx, if_neg hsh]
      by_cases hhit : 2 * v + bitsAt s a 1 < Ex l K
      · rw [if_pos hhit]
        have hcn := (cnt_bound (K : Int) l).1
        obtain ⟨j1, j2, j3⟩ := nthOf_spec l (K : Int) (2 * v + bitsAt s a 1 - Fx l K) (by
          unfold Ex at hhit
          omega)
        have hwd : wN l (nthOf l (K : Int) (2 * v + bitsAt s a 1 - Fx l K)) = 2 * v + bitsAt s a 1 := by
          unfold wN ahead
          rw [j2, j3, Int.toNat_natCast, Int.toNat_natCast]
          omega
        refine ((l1_hit h K _ h1 (by omega) hv2 _ j1 j2 hwd s ((a + 1 : Nat) : Int) _ 0 false (Nat.zero_add _)).and hT).succ fun k hk => ?_
        exact step k _ hk.2 hk.1
      · rw [if_neg hhit]
        have hmt := mr_tail h K _ h1 (by omega) hv2 (by omega)
        have hm := l1_miss h K _ h1 (by omega) hv2 (by omega) s ((a + 1 : Nat) : Int)
          (some ((if tailC l K = 0 then ((0 : Int), (70 : Int), a + 1) else nx l s d (K + 1) (2 * v + bitsAt s a 1) (a + 1)).1, (if tailC l K = 0 then ((0 : Int), (70 : Int), a + 1) else nx l s d (K + 1) (2 * v + bitsAt s a 1) (a + 1)).2.1, s, ((if tailC l K = 0 then ((0 : Int), (70 : Int), a + 1) else nx l s d (K + 1) (2 * v + bitsAt s a 1) (a + 1)).2.2 : Int)))
          (fun hm => by
            rw [hmt, decide_eq_true_eq] at hm
            rw [if_neg hm]
            have := ih (K + 1) (2 * v + bitsAt s a 1) (a + 1) (by omega) (by omega) (by rw [Nat.add_sub_cancel]; exact hv2) (by rw [Fx_succ l K h1]; omega) (by omega)
            rw [Nat.add_sub_cancel] at this
            exact this)
          (fun hm => by
            rw [hmt, decide_eq_false_iff_not, Classical.not_not] at hm
            rw [if_pos hm]) l.length 0 (by omega)
        refine (hm.and hT).succ fun k hk => ?_
        exact step k _ hk.2 hk.1

/-- The document's symbol, and what is left, is the plain function. -/
theorem refNext_ev (l : List Int) (hl : l.length < 1000000) (s : ByteArray) (a : Nat) (hs : s.size ≤ 140737488355328) (ha : a ≤ 8 * s.size) :
    Ev fun k => hanaperref07_Next.f k s (a : Int) l = some ((Nx l s a).1, (Nx l s a).2.1, s, ((Nx l s a).2.2 : Int)) := by
  have hC := refCodes_ev l hl
  unfold Nx
  cases h : isCode l with
  | true =>
    rw [h, if_pos rfl] at hC
    refine (hC.and (l0_ev h s hs 15 1 0 a (by omega) (by omega) (by decide) (Nat.le_refl 0) ha)).imp fun k hk => ?_
    rw [hanaperref07_Next.f, hk.1, Option.bind_some]
    dsimp only
    rw [if_pos rfl]
    exact hk.2
  | false =>
    rw [h, if_neg (by decide)] at hC
    refine hC.imp fun k hk => ?_
    rw [hanaperref07_Next.f, hk, Option.bind_some]
    dsimp only
    rw [if_neg (by decide)]
    rfl

end Go.Proofs.Ythgijppajindpaa
