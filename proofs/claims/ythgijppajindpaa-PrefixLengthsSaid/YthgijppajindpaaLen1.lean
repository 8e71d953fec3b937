/-
  prefix.Lengths: what the document asks, in plain words; a clone's row.
-/
import Derived.Test.YthgijppajindpaaHuf6
set_option linter.unusedVariables false
set_option linter.unusedSimpArgs false
namespace Go.Proofs.Ythgijppajindpaa
open Go.RowKit Go.Proofs.YthgijppajindpaaW.PrintWords

/-! ### The document -/
def halve (l : List Int) : List Int := l.map fun f => (f + 1) / 2
def used (l : List Int) : Int := (l.map fun f => min f 1).sum
def fits (k : Int) (l : List Int) : Bool := l.all fun d => decide (d ≤ k)
def lens : Nat → Int → List Int → List Int
  | 0, _, l => dpt l
  | n + 1, k, l => if fits k (dpt l) then dpt l else lens n k (halve l)
def freqOk (l : List Int) : Bool := l.all fun f => decide (0 ≤ f ∧ f ≤ 1048576)
/-- P7.1. -/
def Lens (l : List Int) (k : Int) : List Int × Int :=
  if l.length ≤ 300 ∧ 1 ≤ k ∧ k ≤ 15 ∧ freqOk l = true ∧ used l ≤ 2 ^ k.toNat then (lens 20 k l, 0) else ([], 1)

theorem mem_getD {l : List Int} {x : Int} (h : x ∈ l) : ∃ j, j < l.length ∧ l.getD j 0 = x := by
  obtain ⟨j, hj, rfl⟩ := List.getElem_of_mem h
  exact ⟨j, hj, by simp [List.getD_eq_getElem?_getD, List.getElem?_eq_getElem hj]⟩

theorem length_setAll : ∀ (ps : List (Nat × Nat)) (xs : List Int), (setAll ps xs).length = xs.length
  | [], xs => rfl
  | p :: ps, xs => by
    rw [setAll, List.foldl_cons]
    exact (length_setAll ps _).trans (by simp)

theorem length_dpt (l : List Int) : (dpt l).length = l.length := by rw [dpt, length_setAll, List.length_replicate]

theorem length_halve (l : List Int) : (halve l).length = l.length := by simp [halve]

theorem setAll_le (K : Int) : ∀ (ps : List (Nat × Nat)) (xs : List Int), (∀ p, p ∈ ps → max (p.2 : Int) 1 ≤ K) → (∀ x, x ∈ xs → x ≤ K) → ∀ x, x ∈ setAll ps xs → x ≤ K
  | [], xs, _, h, x, hx => h x hx
  | p :: ps, xs, hp, h, x, hx => by
    rw [setAll, List.foldl_cons] at hx
    refine setAll_le K ps _ (fun q hq => hp q (by simp [hq])) (fun y hy => ?_) x hx
    rcases List.mem_or_eq_of_mem_set hy with hy | rfl
    · exact h y hy
    · exact hp p (by simp)

theorem freqOk_iff (l : List Int) : freqOk l = true ↔ ∀ j, 0 ≤ l.getD j 0 ∧ l.getD j 0 ≤ 1048576 := by
  unfold freqOk
  rw [List.all_eq_true]
  constructor
  · intro h j
    by_cases hj : j < l.length
    · have := h _ (List.getElem_mem hj)
      simp only [decide_eq_true_eq] at this
      simpa [List.getD_eq_getElem?_getD, List.getElem?_eq_getElem hj] using this
    · simp [List.getD_eq_getElem?_getD, List.getElem?_eq_none (show l.length ≤ j by omega)]
  · intro h x hx
    obtain ⟨j, _, rfl⟩ := mem_getD hx
    simpa using h j

theorem used_halve : ∀ (l : List Int), (∀ x, x ∈ l → 0 ≤ x) → used (halve l) = used l
  | [], _ => rfl
  | x :: l, h => by
    have ih := used_halve l (fun x hx => h x (by simp [hx]))
    have hx := h x (by simp)
    unfold used halve at *
    simp only [List.map_cons, List.sum_cons]
    rw [ih]
    congr 1
    omega

theorem used_leafs_aux : ∀ (l : List Int) (k : Nat), (∀ x, x ∈ l → 0 ≤ x) → (((l.zipIdx k).filter fun p => decide (0 < p.1)).length : Int) = used l
  | [], k, _ => rfl
  | x :: l, k, h => by
    have ih := used_leafs_aux l (k + 1) (fun x hx => h x (by simp [hx]))
    have hx := h x (by simp)
    unfold used at *
    rw [List.zipIdx_cons, List.map_cons, List.sum_cons, ← ih, List.filter_cons]
    by_cases h0 : 0 < x
    · rw [if_pos (by simpa using h0), List.length_cons]
      omega
    · rw [if_neg (by simpa using h0)]
      omega

theorem used_leafs (l : List Int) (h : ∀ x, x ∈ l → 0 ≤ x) : ((leafs l).length : Int) = used l := by
  unfold leafs
  rw [List.length_map]
  exact used_leafs_aux l 0 h

theorem used_nonneg (l : List Int) (h : ∀ x, x ∈ l → 0 ≤ x) : 0 ≤ used l := by rw [← used_leafs l h]; omega

/-- Where every weight is one the words are short enough. -/
theorem dpt_ones (l : List Int) (K : Nat) (hK : 1 ≤ K) (h : ∀ x, x ∈ l → 0 ≤ x ∧ x ≤ 1) (hu : used l ≤ 2 ^ K) : fits K (dpt l) = true := by
  have h0 := used_leafs l (fun x hx => (h x hx).1)
  have hw : wts l = List.replicate (leafs l).length 1 := by
    rw [List.eq_replicate_iff]
    refine ⟨by simp [wts], fun b hb => ?_⟩
    unfold wts leafs at hb
    rw [List.map_map] at hb
    obtain ⟨p, hp, rfl⟩ := List.mem_map.1 hb
    have h1 := List.mem_filter.1 hp
    have h2 := h p.1 (by
      obtain ⟨x, i⟩ := p
      exact List.fst_mem_of_mem_zipIdx h1.1)
    have h3 := h1.2
    simp only [decide_eq_true_eq] at h3
    show p.1 = 1
    omega
  have hle := leafs_le l
  have hm : (leafs l).length ≤ 2 ^ K := by
    have : ((leafs l).length : Int) ≤ ((2 ^ K : Nat) : Int) := by rw [h0]; exact_mod_cast hu
    exact_mod_cast this
  have ho := ones_le l.length (leafs l).length K (by omega) hm
  unfold fits
  rw [List.all_eq_true]
  intro x hx
  simp only [decide_eq_true_eq]
  refine setAll_le K _ _ (fun p hp => ?_) (fun y hy => ?_) x hx
  · obtain ⟨s, d⟩ := p
    have hd : d ∈ deps l.length (wts l) := (List.of_mem_zip hp).2
    rw [hw] at hd
    obtain ⟨i, hi, rfl⟩ := List.getElem_of_mem hd
    have hz : (1, (deps l.length (List.replicate (leafs l).length 1))[i]) ∈ zd l.length (List.replicate (leafs l).length 1) := by
      have hi2 : i < (zd l.length (List.replicate (leafs l).length 1)).length := by rw [length_zd, ← length_deps l.length]; exact hi
      have := List.getElem_mem hi2
      simpa [zd] using this
    have := ho _ hz
    show max _ _ ≤ _
    dsimp only at this ⊢
    omega
  · have := List.eq_of_mem_replicate hy
    omega

theorem halve_le (l : List Int) (K : Nat) (h : ∀ x, x ∈ l → 0 ≤ x ∧ x ≤ 2 ^ (K + 1)) : ∀ x, x ∈ halve l → 0 ≤ x ∧ x ≤ 2 ^ K := by
  intro x hx
  obtain ⟨y, hy, rfl⟩ := List.mem_map.1 hx
  have := h y hy
  rw [Int.pow_succ] at this
  omega

/-! ### A row in memory -/
/-- The first cells of a block are these whole numbers. -/
def Ints (w : World) (g : Nat) (xs : List Int) : Prop :=
  ∃ cur : Array Value, w.heap[g]? = some (.cells cur 3 (0, 0)) ∧ xs.length ≤ cur.size ∧ ∀ j, j < xs.length → cur[j]? = some (.int .i64 (xs.getD j 0))

theorem Ints.of_row {w : World} {g : Nat} {xs : List Int} (h : IntRow w g xs) : Ints w g xs :=
  ⟨_, h, by simp, fun j hj => by simp [List.getD_eq_getElem?_getD, List.getElem?_eq_getElem hj]⟩
theorem Ints.cell {w : World} {g : Nat} {xs : List Int} (h : Ints w g xs) {j : Nat} (hj : j < xs.length) : w.cell? ⟨g, j, none⟩ = some (.int .i64 (xs.getD j 0)) := by
  obtain ⟨cur, h1, h2, h3⟩ := h
  rw [cell_block h1]
  exact h3 j hj
theorem Ints.frozen {w : World} {g : Nat} {xs : List Int} (h : Ints w g xs) (j : Nat) : w.frozen? ⟨g, j, none⟩ = false := by
  obtain ⟨cur, h1, h2, h3⟩ := h
  exact frozen_block h1 j
theorem Ints.below {w w' : World} {g base : Nat} {xs : List Int} (h : Ints w g xs) (hg : g < base) (hb : Below base w w') : Ints w' g xs := by
  obtain ⟨cur, h1, h2, h3⟩ := h
  exact ⟨cur, (hb.block g hg).trans h1, h2, h3⟩
theorem Ints.lt {w : World} {g : Nat} {xs : List Int} (h : Ints w g xs) : g < w.heap.size := by
  obtain ⟨cur, h1, h2, h3⟩ := h
  exact (Array.getElem?_eq_some_iff.1 h1).1
theorem Ints.set {w : World} {g : Nat} {xs : List Int} (h : Ints w g xs) {j : Nat} (hj : j < xs.length) (x : Int) : Ints (w.setCell ⟨g, j, none⟩ (.int .i64 x)) g (xs.set j x) := by
  obtain ⟨cur, h1, h2, h3⟩ := h
  refine ⟨cur.setIfInBounds j (.int .i64 x), ?_, by simpa using h2, fun i hi => ?_⟩
  · unfold World.setCell
    simp only []
    rw [Array.getElem?_modify, if_pos rfl, h1]
    rfl
  · rw [List.length_set] at hi
    rw [Array.getElem?_setIfInBounds]
    split
    · rename_i e
      subst e
      rw [if_pos (by omega)]
      simp [List.getD_eq_getElem?_getD, List.getElem?_set, hj]
    · rename_i e
      rw [h3 i hi]
      simp [List.getD_eq_getElem?_getD, List.getElem?_set, e]

/-- A row that is read, as the walk wants it. -/
theorem reads_ints {w : World} {A : Option Addr} {n : Nat} {l : List Int} (h : Kd.C (Kd.int .i64) w A n l) : l.length = n ∧ (0 < n → ∃ b off, A = some ⟨b, off, none⟩ ∧ ∀ j, j < n → w.cell? ⟨b, off + j, none⟩ = some (.int .i64 (l.getD j 0))) := by
  obtain ⟨h1, h2, h3⟩ := Kd.reads_of_C (d := (0 : Int)) h
  refine ⟨h1, fun hn => ?_⟩
  obtain ⟨ad, rfl, hc⟩ := h3 hn
  obtain ⟨b, off, sp⟩ := ad
  have hsp : sp = none := by
    have := hc 0 hn
    unfold Addr.add World.cell? at this
    simp only [if_true] at this
    cases sp with
    | none => rfl
    | some q =>
      split at this <;> simp at this
  subst hsp
  refine ⟨b, off, rfl, fun j hj => ?_⟩
  rw [← hc j hj]
  unfold Addr.add
  split
  · rename_i e; subst e; rfl
  · rfl

/-- slices.Clone at []int, whatever its length. -/
theorem clone_calls (A : Option Addr) (n c : Nat) (l : List Int) (w : World) (hl : l.length = n) (h300 : n ≤ 300) (hc : 0 < n → ∃ b off, A = some ⟨b, off, none⟩ ∧ ∀ j, j < n → w.cell? ⟨b, off + j, none⟩ = some (.int .i64 (l.getD j 0))) :
    Calls Try.prog 38 #[.slice A n c] w fun e w' => ∃ A1 c1, e = .returned (.slice A1 n c1) ∧ Below w.heap.size w w' ∧ (0 < n → ∃ g, A1 = some ⟨g, 0, none⟩ ∧ w.heap.size ≤ g ∧ Ints w' g l) := by
  rcases Nat.eq_zero_or_pos n with h0 | h0
  · subst h0
    cases A with
    | none =>
      refine (Try.slices_Clone_int_nil 0 c w).mono ?_
      rintro e w' ⟨rfl, rfl⟩
      exact ⟨none, 0, rfl, Below.refl _ _, fun h => by omega⟩
    | some a =>
      refine (Try.slices_Clone_int_zero a c w).mono ?_
      rintro e w' ⟨v', rfl, ho, _, hb⟩
      rcases ho.2 with ⟨rfl, _⟩ | ⟨g, cap, cur, rfl, _⟩
      · exact ⟨none, 0, rfl, hb, fun h => by omega⟩
      · exact ⟨_, cap, rfl, hb, fun h => by omega⟩
  · obtain ⟨b, off, rfl, hcell⟩ := hc h0
    refine (Try.slices_Clone_int b off n c l w (by omega) (by omega) (fun j hj => hcell j (by omega))).mono ?_
    rintro e w' ⟨v', rfl, ho, hne, hb⟩
    rcases ho.2 with ⟨rfl, h⟩ | ⟨g, cap, cur, rfl, hg, hh, hnc, hm, hcs, ht⟩
    · omega
    · refine ⟨_, cap, rfl, hb, fun _ => ⟨g, rfl, hg, cur, hh, by omega, fun j hj => ?_⟩⟩
      have h1 : (cur.toList.take (n * 1))[j]? = (((l.take n).map (Value.int .i64)))[j]? := by rw [ht]
      rw [List.getElem?_take, if_pos (by omega)] at h1
      rw [Array.getElem?_toList] at h1
      rw [h1, List.getElem?_map, List.getElem?_take, if_pos (by omega)]
      simp [List.getD_eq_getElem?_getD, List.getElem?_eq_getElem hj]

/-- A whole row of the call's own, as the print's contracts want it. -/
theorem row_R {w : World} {g base : Nat} {xs : List Int} (h : IntRow w g xs) (hg : base ≤ g) (hx : xs.length ≤ 300) : Kd.R (Kd.int .i64) 3 w base (fun _ => True) (.slice (some ⟨g, 0, none⟩) xs.length xs.length) xs := by
  refine Kd.R_of_own ⟨by simp [encs], .inr ⟨g, xs.length, _, rfl, hg, h, Nat.le_refl _, ?_, by simp, ?_⟩⟩ (fun _ _ => trivial)
  · unfold maxLen; omega
  · simp only [encs, Nat.mul_one]
    exact List.take_of_length_le (by simp)

theorem maxOf_le (xs : List Int) (hn : 0 < xs.length) (k : Int) : fits k xs = decide (Go.Lib.maxOf (xs.take xs.length) ≤ k) := by
  have key : ∀ m, 0 < m → m ≤ xs.length → fits k (xs.take m) = decide (Go.Lib.maxOf (xs.take m) ≤ k) := by
    intro m
    induction m with
    | zero => intro h; omega
    | succ m ih =>
      intro _ hm
      rcases Nat.eq_zero_or_pos m with h0 | h0
      · subst h0
        rw [Go.Lib.maxOf_one]
        match xs, hm with
        | x :: xs, _ => simp [fits]
      · rw [Go.Lib.maxOf_step xs m h0 (by omega), List.take_succ_eq_append_getElem (by omega)]
        have := ih h0 (by omega)
        unfold fits at this ⊢
        rw [List.all_append, this]
        simp only [List.all_cons, List.all_nil, Bool.and_true]
        rw [← Bool.decide_and]
        apply decide_eq_decide.2
        rw [List.getD_eq_getElem?_getD, List.getElem?_eq_getElem (by omega)]
        simp only [Option.getD_some]
        omega
  have := key xs.length hn (Nat.le_refl _)
  rw [List.take_length] at this ⊢
  exact this

theorem used_snoc (l : List Int) (x : Int) : used (l ++ [x]) = used l + min x 1 := by simp [used]
theorem freqOk_snoc (l : List Int) (x : Int) : freqOk (l ++ [x]) = (freqOk l && decide (0 ≤ x ∧ x ≤ 1048576)) := by simp [freqOk]
theorem take_snoc {l : List Int} {i : Nat} (hi : i < l.length) : l.take (i + 1) = l.take i ++ [l.getD i 0] := by
  rw [List.take_succ_eq_append_getElem hi, List.getD_eq_getElem?_getD, List.getElem?_eq_getElem hi]
  rfl
/-- A row that is being halved. -/
def halfway (i : Nat) (l : List Int) : List Int := halve (l.take i) ++ l.drop i
theorem length_halfway (i : Nat) (l : List Int) : (halfway i l).length = l.length := by simp [halfway, halve]; omega
theorem halfway_zero (l : List Int) : halfway 0 l = l := by simp [halfway, halve]
theorem halfway_all (l : List Int) : halfway l.length l = halve l := by simp [halfway]
theorem halfway_getD (i : Nat) (l : List Int) (hi : i < l.length) : (halfway i l).getD i 0 = l.getD i 0 := by
  unfold halfway
  rw [List.getD_eq_getElem?_getD, List.getElem?_append_right (by simp [halve]; omega)]
  simp [halve, List.getD_eq_getElem?_getD, Nat.min_eq_left (show i ≤ l.length by omega)]
theorem halfway_set (i : Nat) (l : List Int) (hi : i < l.length) : (halfway i l).set i ((l.getD i 0 + 1) / 2) = halfway (i + 1) l := by
  unfold halfway
  rw [take_snoc hi, List.set_append_right _ _ (by simp [halve]; omega)]
  simp only [halve, List.length_map, List.length_take, Nat.min_eq_left (show i ≤ l.length by omega), Nat.sub_self]
  have e : l.drop i = l[i] :: l.drop (i + 1) := List.drop_eq_getElem_cons hi
  rw [e, List.set_cons_zero, List.getD_eq_getElem?_getD, List.getElem?_eq_getElem hi]
  simp only [List.map_append, List.append_assoc, Option.getD_some]
  rfl

end Go.Proofs.Ythgijppajindpaa
