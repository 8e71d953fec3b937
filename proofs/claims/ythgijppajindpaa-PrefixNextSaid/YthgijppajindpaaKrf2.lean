/-
  The words of lengths, symbol by symbol: the program's and the document's are the same.
-/
import Derived.Test.YthgijppajindpaaKrf1
set_option linter.unusedVariables false
set_option linter.unusedSimpArgs false
namespace Go.Proofs.Ythgijppajindpaa
open Go.RowKit Go.Proofs.YthgijppajindpaaW.PrintWords Go.Proofs.YthgijppajindpaaW.PrintLast Go.Proofs.YthgijppajindpaaW.PrintMore Go.Proofs.Ythgijppajindpaa.K7

/-- A symbol's word. -/
def wdOf (l : List Int) (j : Nat) : Int := (wordAt (cnts l) (l.getD j 0).toNat + cnt (l.take j) (l.getD j 0)) % 4294967296
/-- A symbol's piece. -/
def pcOf (l : List Int) (j : Nat) : Int × Int := if 0 < l.getD j 0 then ((turnN (wdOf l j).toNat (l.getD j 0).toNat : Int), l.getD j 0) else (0, 0)
def P42 (l : List Int) (j : Nat) : S42 := ⟨(pcOf l j).1, (pcOf l j).2⟩
def P41 (l : List Int) (j : Nat) : S41 := ⟨(pcOf l j).1, (pcOf l j).2⟩

/-- The words to come, before symbol i. -/
def Wst (l : List Int) (i : Nat) : List Int := (List.range 17).map fun k : Nat => if k = 0 then 0 else (wordAt (cnts l) k + cnt (l.take i) k) % 4294967296
theorem length_Wst (l : List Int) (i : Nat) : (Wst l i).length = 17 := by simp [Wst]
theorem Wst_getD (l : List Int) (i k : Nat) (hk : k < 17) : (Wst l i).getD k 0 = if k = 0 then 0 else (wordAt (cnts l) k + cnt (l.take i) k) % 4294967296 := by
  unfold Wst
  rw [List.getD_eq_getElem?_getD, List.getElem?_map, List.getElem?_range hk]
  rfl
theorem Wst_zero (l : List Int) : Wst l 0 = wordsTo (cnts l) 16 := by
  refine ext_getD (by rw [length_Wst, length_wordsTo]) (fun k hk => ?_)
  rw [length_Wst] at hk
  rw [Wst_getD _ _ _ hk, wordsTo_getD _ _ _ hk]
  by_cases h : k = 0
  · subst h; rfl
  · have := wordAt_bound (cnts l) k
    have e : cnt (l.take 0) (k : Int) = 0 := rfl
    rw [if_neg h, if_pos (by omega), e]
    omega

theorem codeStep_at {l : List Int} (hok : lensOk l = true) {i : Nat} (hi : i < l.length) : codeStep (Wst l i) (l.getD i 0) = (P42 l i, Wst l (i + 1)) := by
  have hx := lensOk_get hok i
  have hs : ∀ s : Nat, cnt (l.take (i + 1)) (s : Int) = cnt (l.take i) s + if l.getD i 0 = s then 1 else 0 := fun s => by rw [take_snoc hi, cnt_snoc]
  unfold codeStep P42 pcOf
  by_cases h0 : 0 < l.getD i 0
  · have hw : (Wst l i).getD (l.getD i 0).toNat 0 = wdOf l i := by
      rw [Wst_getD _ _ _ (by omega), if_neg (by omega), wdOf, Int.toNat_of_nonneg hx.1]
    rw [if_pos h0, if_pos h0, hw]
    refine Prod.ext rfl ?_
    show (Wst l i).set _ _ = _
    refine ext_getD (by rw [List.length_set, length_Wst, length_Wst]) (fun s hs' => ?_)
    rw [List.length_set, length_Wst] at hs'
    rw [getD_set, length_Wst, Wst_getD _ _ _ hs', Wst_getD _ _ _ hs', hs]
    by_cases e : (l.getD i 0).toNat = s
    · subst e
      rw [if_pos ⟨rfl, hs'⟩, if_neg (by omega), Int.toNat_of_nonneg hx.1, if_pos rfl, wdOf]
      omega
    · rw [if_neg (by omega), if_neg (show ¬ l.getD i 0 = (s : Int) by omega), Int.add_zero]
  · rw [if_neg h0, if_neg h0]
    refine Prod.ext rfl ?_
    show Wst l i = _
    refine ext_getD (by rw [length_Wst, length_Wst]) (fun s hs' => ?_)
    rw [length_Wst] at hs'
    rw [Wst_getD _ _ _ hs', Wst_getD _ _ _ hs', hs]
    by_cases e : s = 0
    · rw [if_pos e, if_pos e]
    · rw [if_neg (show ¬ l.getD i 0 = (s : Int) by omega), Int.add_zero]

theorem codesFrom_eq {l : List Int} (hok : lensOk l = true) (d : Nat) : ∀ i, i + d = l.length → codesFrom (Wst l i) (l.drop i) = (List.range' i d).map (P42 l) := by
  induction d with
  | zero =>
    intro i hi
    rw [List.drop_of_length_le (by omega)]
    rfl
  | succ d ih =>
    intro i hi
    have hil : i < l.length := by omega
    have e : l[i] = l.getD i 0 := by rw [List.getD_eq_getElem?_getD, List.getElem?_eq_getElem hil]; rfl
    rw [List.drop_eq_getElem_cons hil, e, codesFrom, codeStep_at hok hil, List.range'_succ, List.map_cons, ih (i + 1) (by omega)]

theorem isCode_ok {l : List Int} (h : isCode l = true) : lensOk l = true := by
  rw [isCode, Bool.and_eq_true] at h
  exact h.1

/-- The program's words, plain. -/
theorem Codes_eq (l : List Int) : Codes l = if isCode l then ((List.range l.length).map (P42 l), 0) else ([], 70) := by
  unfold Codes
  split
  · rename_i h
    have := codesFrom_eq (isCode_ok h) l.length 0 (by omega)
    rw [Wst_zero, List.drop_zero] at this
    rw [this, List.range_eq_range']
  · rfl

/-! ### the document's -/
def outAt (l : List Int) (n : Int) (i : Nat) : List S41 := (List.range l.length).map fun j => if 0 < l.getD j 0 ∧ (l.getD j 0 < n ∨ (l.getD j 0 = n ∧ j < i)) then P41 l j else ⟨0, 0⟩
theorem length_outAt (l : List Int) (n : Int) (i : Nat) : (outAt l n i).length = l.length := by simp [outAt]
theorem outAt_get (l : List Int) (n : Int) (i j : Nat) (hj : j < l.length) : (outAt l n i)[j]? = some (if 0 < l.getD j 0 ∧ (l.getD j 0 < n ∨ (l.getD j 0 = n ∧ j < i)) then P41 l j else ⟨0, 0⟩) := by
  unfold outAt
  rw [List.getElem?_map, List.getElem?_range hj]
  rfl
theorem outAt_ext (l : List Int) (xs : List S41) (n : Int) (i : Nat) (hl : xs.length = l.length) (h : ∀ j, j < l.length → xs[j]? = some (if 0 < l.getD j 0 ∧ (l.getD j 0 < n ∨ (l.getD j 0 = n ∧ j < i)) then P41 l j else ⟨0, 0⟩)) : xs = outAt l n i := by
  apply List.ext_getElem?
  intro j
  by_cases hj : j < l.length
  · rw [h j hj, outAt_get _ _ _ _ hj]
  · rw [List.getElem?_eq_none (by omega), List.getElem?_eq_none (by rw [length_outAt]; omega)]

theorem outAt_one (l : List Int) : List.replicate l.length (⟨0, 0⟩ : S41) = outAt l 1 0 := by
  refine outAt_ext l _ _ _ (by simp) (fun j hj => ?_)
  rw [List.getElem?_replicate, if_pos hj, if_neg (by omega)]
theorem outAt_next (l : List Int) (n : Int) : outAt l n l.length = outAt l (n + 1) 0 := by
  refine outAt_ext l _ _ _ (length_outAt _ _ _) (fun j hj => ?_)
  rw [outAt_get _ _ _ _ hj]
  congr 1
  by_cases h : 0 < l.getD j 0 ∧ (l.getD j 0 < n ∨ (l.getD j 0 = n ∧ j < l.length))
  · rw [if_pos h, if_pos (by omega)]
  · rw [if_neg h, if_neg (by omega)]
theorem outAt_skip (l : List Int) (n : Int) (i : Nat) (h : l.getD i 0 ≠ n) : outAt l n i = outAt l n (i + 1) := by
  refine outAt_ext l _ _ _ (length_outAt _ _ _) (fun j hj => ?_)
  rw [outAt_get _ _ _ _ hj]
  congr 1
  by_cases e : j = i
  · subst e
    by_cases h1 : 0 < l.getD j 0 ∧ (l.getD j 0 < n ∨ (l.getD j 0 = n ∧ j < j))
    · rw [if_pos h1, if_pos (by omega)]
    · rw [if_neg h1, if_neg (by omega)]
  · by_cases h1 : 0 < l.getD j 0 ∧ (l.getD j 0 < n ∨ (l.getD j 0 = n ∧ j < i))
    · rw [if_pos h1, if_pos (by omega)]
    · rw [if_neg h1, if_neg (by omega)]
theorem outAt_set (l : List Int) (n : Int) (i : Nat) (hi : i < l.length) (h0 : 0 < n) (h : l.getD i 0 = n) : (outAt l n i).set i (P41 l i) = outAt l n (i + 1) := by
  refine outAt_ext l _ _ _ (by rw [List.length_set]; exact length_outAt _ _ _) (fun j hj => ?_)
  rw [List.getElem?_set]
  by_cases e : i = j
  · subst e
    rw [if_pos rfl, if_pos (by rw [length_outAt]; exact hi), if_pos (by omega)]
  · rw [if_neg e, outAt_get _ _ _ _ hj]
    congr 1
    by_cases h1 : 0 < l.getD j 0 ∧ (l.getD j 0 < n ∨ (l.getD j 0 = n ∧ j < i))
    · rw [if_pos h1, if_pos (by omega)]
    · rw [if_neg h1, if_neg (by omega)]
theorem outAt_all {l : List Int} (hok : lensOk l = true) : outAt l 16 0 = (List.range l.length).map (P41 l) := by
  refine (outAt_ext l _ _ _ (by simp) (fun j hj => ?_)).symm
  rw [List.getElem?_map, List.getElem?_range hj]
  have hx := lensOk_get hok j
  show some (P41 l j) = _
  congr 1
  by_cases h : 0 < l.getD j 0
  · rw [if_pos (by omega)]
  · rw [if_neg (by omega)]
    unfold P41 pcOf
    rw [if_neg h]

def wS (l : List Int) (n i : Nat) : Int := (wordAt (cnts l) n + cnt (l.take i) n) % 4294967296

theorem codes_loop2 {l : List Int} (hl : l.length < 1000000) (n : Nat) (h1 : 1 ≤ n) (h15 : n ≤ 15) (R : Option (List S41 × Int)) (h : Ev fun k => hanaperref07_Codes.l1 k l (outAt l (n + 1 : Nat) 0) (wS l n l.length) ((n + 1 : Nat) : Int) = R) (d : Nat) : ∀ i, i + d = l.length →
    Ev fun k => hanaperref07_Codes.l2 k l (outAt l n i) (wS l n i) n i = R := by
  induction d with
  | zero =>
    intro i hi
    have : i = l.length := by omega
    subst this
    refine h.succ fun k hk => ?_
    have hw : wrap64 ((n : Int) + 1) = ((n + 1 : Nat) : Int) := by rw [w64 (by omega)]; rfl
    rw [hanaperref07_Codes.l2, if_neg (by omega), hw, outAt_next]
    exact hk
  | succ d ih =>
    intro i hi
    have hil : i < l.length := by omega
    have hw : wrap64 ((i : Int) + 1) = ((i + 1 : Nat) : Int) := by rw [w64 (by omega)]; rfl
    have e1 : rd l (i : Int) = l.getD i 0 := rfl
    have hs : cnt (l.take (i + 1)) (n : Int) = cnt (l.take i) n + if l.getD i 0 = n then 1 else 0 := by rw [take_snoc hil, cnt_snoc]
    by_cases hx : l.getD i 0 = n
    · have hb : 0 ≤ wS l n i ∧ wS l n i < 4294967296 := by unfold wS; omega
      refine ((ih (i + 1) (by omega)).and (turned_ev (wS l n i) n hb.1 hb.2 (by omega) (by omega))).succ fun k hk => ?_
      obtain ⟨hk, ht⟩ := hk
      rw [hanaperref07_Codes.l2, if_pos (by omega), if_pos (by omega), e1, if_pos hx, ht, Option.bind_some, if_pos (by rw [length_outAt]; omega), hw]
      have e2 : (⟨(turnN (wS l n i).toNat (n : Int).toNat : Int), (n : Int)⟩ : S41) = P41 l i := by
        unfold P41 pcOf wdOf wS
        rw [if_pos (by omega), hx]
        rfl
      have e3 : (wS l n i + 1) % 4294967296 = wS l n (i + 1) := by
        unfold wS
        rw [hs, if_pos hx]
        omega
      rw [e2, e3, Int.toNat_natCast, outAt_set l n i hil (by omega) hx]
      exact hk
    · refine (ih (i + 1) (by omega)).succ fun k hk => ?_
      rw [hanaperref07_Codes.l2, if_pos (by omega), if_pos (by omega), e1, if_neg hx, hw]
      have e3 : wS l n i = wS l n (i + 1) := by
        unfold wS
        rw [hs, if_neg hx, Int.add_zero]
      rw [e3, outAt_skip l n i hx]
      exact hk

theorem wS_double (l : List Int) (n : Nat) (h1 : 1 ≤ n) (h15 : n ≤ 15) : (wS l n l.length * 2) % 4294967296 = wS l (n + 1) 0 := by
  obtain ⟨m, rfl⟩ : ∃ m, n = m + 1 := ⟨n - 1, by omega⟩
  unfold wS
  have e : cnt (l.take 0) ((m + 1 + 1 : Nat) : Int) = 0 := rfl
  rw [e, List.take_length, wordAt, cnts_getD l (m + 1) (by omega)]
  omega

theorem codes_loop1 {l : List Int} (hl : l.length < 1000000) (hok : lensOk l = true) (d : Nat) : ∀ (n : Nat) (x : Int), 1 ≤ n → n + d = 16 → (x * 2) % 4294967296 = wS l n 0 →
    Ev fun k => hanaperref07_Codes.l1 k l (outAt l n 0) x n = some ((List.range l.length).map (P41 l), 0) := by
  induction d with
  | zero =>
    intro n x h1 hn hx
    have : n = 16 := by omega
    subst this
    refine Ev.one fun k => ?_
    rw [hanaperref07_Codes.l1, if_neg (by omega)]
    have := outAt_all hok
    rw [← this]
    rfl
  | succ d ih =>
    intro n x h1 hn hx
    refine (codes_loop2 hl n h1 (by omega) _ (ih (n + 1) _ (by omega) (by omega) (wS_double l n h1 (by omega))) l.length 0 (by omega)).succ fun k hk => ?_
    rw [hanaperref07_Codes.l1, if_pos (by omega), hx]
    exact hk

theorem codes_loop0 {l : List Int} (hl : l.length < 1000000) (hok : lensOk l = true) (d : Nat) : ∀ i, i + d = l.length →
    Ev fun k => hanaperref07_Codes.l0 k l (List.replicate i ⟨0, 0⟩) (i : Int) = some ((List.range l.length).map (P41 l), 0) := by
  induction d with
  | zero =>
    intro i hi
    have : i = l.length := by omega
    subst this
    refine (codes_loop1 hl hok 15 1 0 (by omega) (by omega) (by unfold wS; rfl)).succ fun k hk => ?_
    rw [hanaperref07_Codes.l0, if_neg (by omega), outAt_one]
    exact hk
  | succ d ih =>
    intro i hi
    have hw : wrap64 ((i : Int) + 1) = ((i + 1 : Nat) : Int) := by rw [w64 (by omega)]; rfl
    refine (ih (i + 1) (by omega)).succ fun k hk => ?_
    rw [hanaperref07_Codes.l0, if_pos (by omega), if_pos (by simp; omega), hw]
    rw [List.replicate_succ'] at hk
    exact hk

theorem refCodes_ev (l : List Int) (hl : l.length < 1000000) : Ev fun k => hanaperref07_Codes.f k l = some (if isCode l then ((List.range l.length).map (P41 l), 0) else ([], 70)) := by
  cases h : isCode l with
  | true =>
    refine ((right_ev l hl).and (codes_loop0 hl (isCode_ok h) l.length 0 (by omega))).imp fun k hk => ?_
    rw [hanaperref07_Codes.f, hk.1, Option.bind_some, h, if_pos rfl, if_pos rfl]
    exact hk.2
  | false =>
    refine (right_ev l hl).imp fun k hk => ?_
    rw [hanaperref07_Codes.f, hk, Option.bind_some, h]
    rfl

end Go.Proofs.Ythgijppajindpaa
