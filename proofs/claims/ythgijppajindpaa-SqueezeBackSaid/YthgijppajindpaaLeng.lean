/-
  prefix.Lengths is walked: it hands back the document's lengths, or its error.
-/
import Derived.Test.YthgijppajindpaaHuff
set_option linter.unusedVariables false
set_option linter.unusedSimpArgs false
namespace Go.Proofs.Ythgijppajindpaa
open Go.RowKit Go.Proofs.YthgijppajindpaaW.PrintWords

/-! ### The document -/
def halve (l : List Int) : List Int := l.map fun f => (f + 1) / 2
def used (l : List Int) : Int := (l.map fun f => min f 1).sum
def fits (k : Int) (l : List Int) : Bool := l.all fun d => decide (d ≤ k)
def lens : Nat → Int → List Int → List Int
  | 0, _, l => dpt l
  | n + 1, k, l => if fits k (dpt l) then dpt l else lens n k (halve l)
def freqOk (l : List Int) : Bool := l.all fun f => decide (0 ≤ f ∧ f ≤ 1048576)
/-- P7.1. -/
def Lens (l : List Int) (k : Int) : List Int × Int :=
  if l.length ≤ 300 ∧ 1 ≤ k ∧ k ≤ 15 ∧ freqOk l = true ∧ used l ≤ 2 ^ k.toNat then (lens 20 k l, 0) else ([], 1)

theorem mem_getD {l : List Int} {x : Int} (h : x ∈ l) : ∃ j, j < l.length ∧ l.getD j 0 = x := by
  obtain ⟨j, hj, rfl⟩ := List.getElem_of_mem h
  exact ⟨j, hj, by simp [List.getD_eq_getElem?_getD, List.getElem?_eq_getElem hj]⟩

theorem length_setAll : ∀ (ps : List (Nat × Nat)) (xs : List Int), (setAll ps xs).length = xs.length
  | [], xs => rfl
  | p :: ps, xs => by
    rw [setAll, List.foldl_cons]
    exact (length_setAll ps _).trans (by simp)

theorem length_dpt (l : List Int) : (dpt l).length = l.length := by rw [dpt, length_setAll, List.length_replicate]

theorem length_halve (l : List Int) : (halve l).length = l.length := by simp [halve]

theorem setAll_le (K : Int) : ∀ (ps : List (Nat × Nat)) (xs : List Int), (∀ p, p ∈ ps → max (p.2 : Int) 1 ≤ K) → (∀ x, x ∈ xs → x ≤ K) → ∀ x, x ∈ setAll ps xs → x ≤ K
  | [], xs, _, h, x, hx => h x hx
  | p :: ps, xs, hp, h, x, hx => by
    rw [setAll, List.foldl_cons] at hx
    refine setAll_le K ps _ (fun q hq => hp q (by simp [hq])) (fun y hy => ?_) x hx
    rcases List.mem_or_eq_of_mem_set hy with hy | rfl
    · exact h y hy
    · exact hp p (by simp)

theorem freqOk_iff (l : List Int) : freqOk l = true ↔ ∀ j, 0 ≤ l.getD j 0 ∧ l.getD j 0 ≤ 1048576 := by
  unfold freqOk
  rw [List.all_eq_true]
  constructor
  · intro h j
    by_cases hj : j < l.length
    · have := h _ (List.getElem_mem hj)
      simp only [decide_eq_true_eq] at this
      simpa [List.getD_eq_getElem?_getD, List.getElem?_eq_getElem hj] using this
    · simp [List.getD_eq_getElem?_getD, List.getElem?_eq_none (show l.length ≤ j by omega)]
  · intro h x hx
    obtain ⟨j, _, rfl⟩ := mem_getD hx
    simpa using h j

theorem used_halve : ∀ (l : List Int), (∀ x, x ∈ l → 0 ≤ x) → used (halve l) = used l
  | [], _ => rfl
  | x :: l, h => by
    have ih := used_halve l (fun x hx => h x (by simp [hx]))
    have hx := h x (by simp)
    unfold used halve at *
    simp only [List.map_cons, List.sum_cons]
    rw [ih]
    congr 1
    omega

theorem used_leafs_aux : ∀ (l : List Int) (k : Nat), (∀ x, x ∈ l → 0 ≤ x) → (((l.zipIdx k).filter fun p => decide (0 < p.1)).length : Int) = used l
  | [], k, _ => rfl
  | x :: l, k, h => by
    have ih := used_leafs_aux l (k + 1) (fun x hx => h x (by simp [hx]))
    have hx := h x (by simp)
    unfold used at *
    rw [List.zipIdx_cons, List.map_cons, List.sum_cons, ← ih, List.filter_cons]
    by_cases h0 : 0 < x
    · rw [if_pos (by simpa using h0), List.length_cons]
      omega
    · rw [if_neg (by simpa using h0)]
      omega

theorem used_leafs (l : List Int) (h : ∀ x, x ∈ l → 0 ≤ x) : ((leafs l).length : Int) = used l := by
  unfold leafs
  rw [List.length_map]
  exact used_leafs_aux l 0 h

theorem used_nonneg (l : List Int) (h : ∀ x, x ∈ l → 0 ≤ x) : 0 ≤ used l := by rw [← used_leafs l h]; omega

/-- Where every weight is one the words are short enough. -/
theorem dpt_ones (l : List Int) (K : Nat) (hK : 1 ≤ K) (h : ∀ x, x ∈ l → 0 ≤ x ∧ x ≤ 1) (hu : used l ≤ 2 ^ K) : fits K (dpt l) = true := by
  have h0 := used_leafs l (fun x hx => (h x hx).1)
  have hw : wts l = List.replicate (leafs l).length 1 := by
    rw [List.eq_replicate_iff]
    refine ⟨by simp [wts], fun b hb => ?_⟩
    unfold wts leafs at hb
    rw [List.map_map] at hb
    obtain ⟨p, hp, rfl⟩ := List.mem_map.1 hb
    have h1 := List.mem_filter.1 hp
    have h2 := h p.1 (by
      obtain ⟨x, i⟩ := p
      exact List.fst_mem_of_mem_zipIdx h1.1)
    have h3 := h1.2
    simp only [decide_eq_true_eq] at h3
    show p.1 = 1
    omega
  have hle := leafs_le l
  have hm : (leafs l).length ≤ 2 ^ K := by
    have : ((leafs l).length : Int) ≤ ((2 ^ K : Nat) : Int) := by rw [h0]; exact_mod_cast hu
    exact_mod_cast this
  have ho := ones_le l.length (leafs l).length K (by omega) hm
  unfold fits
  rw [List.all_eq_true]
  intro x hx
  simp only [decide_eq_true_eq]
  refine setAll_le K _ _ (fun p hp => ?_) (fun y hy => ?_) x hx
  · obtain ⟨s, d⟩ := p
    have hd : d ∈ deps l.length (wts l) := (List.of_mem_zip hp).2
    rw [hw] at hd
    obtain ⟨i, hi, rfl⟩ := List.getElem_of_mem hd
    have hz : (1, (deps l.length (List.replicate (leafs l).length 1))[i]) ∈ zd l.length (List.replicate (leafs l).length 1) := by
      have hi2 : i < (zd l.length (List.replicate (leafs l).length 1)).length := by rw [length_zd, ← length_deps l.length]; exact hi
      have := List.getElem_mem hi2
      simpa [zd] using this
    have := ho _ hz
    show max _ _ ≤ _
    dsimp only at this ⊢
    omega
  · have := List.eq_of_mem_replicate hy
    omega

theorem halve_le (l : List Int) (K : Nat) (h : ∀ x, x ∈ l → 0 ≤ x ∧ x ≤ 2 ^ (K + 1)) : ∀ x, x ∈ halve l → 0 ≤ x ∧ x ≤ 2 ^ K := by
  intro x hx
  obtain ⟨y, hy, rfl⟩ := List.mem_map.1 hx
  have := h y hy
  rw [Int.pow_succ] at this
  omega

/-! ### A row in memory -/
/-- The first cells of a block are these whole numbers. -/
def Ints (w : World) (g : Nat) (xs : List Int) : Prop :=
  ∃ cur : Array Value, w.heap[g]? = some (.cells cur 3 (0, 0)) ∧ xs.length ≤ cur.size ∧ ∀ j, j < xs.length → cur[j]? = some (.int .i64 (xs.getD j 0))

theorem Ints.of_row {w : World} {g : Nat} {xs : List Int} (h : IntRow w g xs) : Ints w g xs :=
  ⟨_, h, by simp, fun j hj => by simp [List.getD_eq_getElem?_getD, List.getElem?_eq_getElem hj]⟩
theorem Ints.cell {w : World} {g : Nat} {xs : List Int} (h : Ints w g xs) {j : Nat} (hj : j < xs.length) : w.cell? ⟨g, j, none⟩ = some (.int .i64 (xs.getD j 0)) := by
  obtain ⟨cur, h1, h2, h3⟩ := h
  rw [cell_block h1]
  exact h3 j hj
theorem Ints.frozen {w : World} {g : Nat} {xs : List Int} (h : Ints w g xs) (j : Nat) : w.frozen? ⟨g, j, none⟩ = false := by
  obtain ⟨cur, h1, h2, h3⟩ := h
  exact frozen_block h1 j
theorem Ints.below {w w' : World} {g base : Nat} {xs : List Int} (h : Ints w g xs) (hg : g < base) (hb : Below base w w') : Ints w' g xs := by
  obtain ⟨cur, h1, h2, h3⟩ := h
  exact ⟨cur, (hb.block g hg).trans h1, h2, h3⟩
theorem Ints.lt {w : World} {g : Nat} {xs : List Int} (h : Ints w g xs) : g < w.heap.size := by
  obtain ⟨cur, h1, h2, h3⟩ := h
  exact (Array.getElem?_eq_some_iff.1 h1).1
theorem Ints.set {w : World} {g : Nat} {xs : List Int} (h : Ints w g xs) {j : Nat} (hj : j < xs.length) (x : Int) : Ints (w.setCell ⟨g, j, none⟩ (.int .i64 x)) g (xs.set j x) := by
  obtain ⟨cur, h1, h2, h3⟩ := h
  refine ⟨cur.setIfInBounds j (.int .i64 x), ?_, by simpa using h2, fun i hi => ?_⟩
  · unfold World.setCell
    simp only []
    rw [Array.getElem?_modify, if_pos rfl, h1]
    rfl
  · rw [List.length_set] at hi
    rw [Array.getElem?_setIfInBounds]
    split
    · rename_i e
      subst e
      rw [if_pos (by omega)]
      simp [List.getD_eq_getElem?_getD, List.getElem?_set, hj]
    · rename_i e
      rw [h3 i hi]
      simp [List.getD_eq_getElem?_getD, List.getElem?_set, e]

/-- A row that is read, as the walk wants it. -/
theorem reads_ints {w : World} {A : Option Addr} {n : Nat} {l : List Int} (h : Kd.C (Kd.int .i64) w A n l) : l.length = n ∧ (0 < n → ∃ b off, A = some ⟨b, off, none⟩ ∧ ∀ j, j < n → w.cell? ⟨b, off + j, none⟩ = some (.int .i64 (l.getD j 0))) := by
  obtain ⟨h1, h2, h3⟩ := Kd.reads_of_C (d := (0 : Int)) h
  refine ⟨h1, fun hn => ?_⟩
  obtain ⟨ad, rfl, hc⟩ := h3 hn
  obtain ⟨b, off, sp⟩ := ad
  have hsp : sp = none := by
    have := hc 0 hn
    unfold Addr.add World.cell? at this
    simp only [if_true] at this
    cases sp with
    | none => rfl
    | some q =>
      split at this <;> simp at this
  subst hsp
  refine ⟨b, off, rfl, fun j hj => ?_⟩
  rw [← hc j hj]
  unfold Addr.add
  split
  · rename_i e; subst e; rfl
  · rfl

/-- slices.Clone at []int, whatever its length. -/
theorem clone_calls (A : Option Addr) (n c : Nat) (l : List Int) (w : World) (hl : l.length = n) (h300 : n ≤ 300) (hc : 0 < n → ∃ b off, A = some ⟨b, off, none⟩ ∧ ∀ j, j < n → w.cell? ⟨b, off + j, none⟩ = some (.int .i64 (l.getD j 0))) :
    Calls Try.prog 38 #[.slice A n c] w fun e w' => ∃ A1 c1, e = .returned (.slice A1 n c1) ∧ Below w.heap.size w w' ∧ (0 < n → ∃ g, A1 = some ⟨g, 0, none⟩ ∧ w.heap.size ≤ g ∧ Ints w' g l) := by
  rcases Nat.eq_zero_or_pos n with h0 | h0
  · subst h0
    cases A with
    | none =>
      refine (Try.slices_Clone_int_nil 0 c w).mono ?_
      rintro e w' ⟨rfl, rfl⟩
      exact ⟨none, 0, rfl, Below.refl _ _, fun h => by omega⟩
    | some a =>
      refine (Try.slices_Clone_int_zero a c w).mono ?_
      rintro e w' ⟨v', rfl, ho, _, hb⟩
      rcases ho.2 with ⟨rfl, _⟩ | ⟨g, cap, cur, rfl, _⟩
      · exact ⟨none, 0, rfl, hb, fun h => by omega⟩
      · exact ⟨_, cap, rfl, hb, fun h => by omega⟩
  · obtain ⟨b, off, rfl, hcell⟩ := hc h0
    refine (Try.slices_Clone_int b off n c l w (by omega) (by omega) (fun j hj => hcell j (by omega))).mono ?_
    rintro e w' ⟨v', rfl, ho, hne, hb⟩
    rcases ho.2 with ⟨rfl, h⟩ | ⟨g, cap, cur, rfl, hg, hh, hnc, hm, hcs, ht⟩
    · omega
    · refine ⟨_, cap, rfl, hb, fun _ => ⟨g, rfl, hg, cur, hh, by omega, fun j hj => ?_⟩⟩
      have h1 : (cur.toList.take (n * 1))[j]? = (((l.take n).map (Value.int .i64)))[j]? := by rw [ht]
      rw [List.getElem?_take, if_pos (by omega)] at h1
      rw [Array.getElem?_toList] at h1
      rw [h1, List.getElem?_map, List.getElem?_take, if_pos (by omega)]
      simp [List.getD_eq_getElem?_getD, List.getElem?_eq_getElem hj]

/-- A whole row of the call's own, as the print's contracts want it. -/
theorem row_R {w : World} {g base : Nat} {xs : List Int} (h : IntRow w g xs) (hg : base ≤ g) (hx : xs.length ≤ 300) : Kd.R (Kd.int .i64) 3 w base (fun _ => True) (.slice (some ⟨g, 0, none⟩) xs.length xs.length) xs := by
  refine Kd.R_of_own ⟨by simp [encs], .inr ⟨g, xs.length, _, rfl, hg, h, Nat.le_refl _, ?_, by simp, ?_⟩⟩ (fun _ _ => trivial)
  · unfold maxLen; omega
  · simp only [encs, Nat.mul_one]
    exact List.take_of_length_le (by simp)

theorem maxOf_le (xs : List Int) (hn : 0 < xs.length) (k : Int) : fits k xs = decide (Go.Lib.maxOf (xs.take xs.length) ≤ k) := by
  have key : ∀ m, 0 < m → m ≤ xs.length → fits k (xs.take m) = decide (Go.Lib.maxOf (xs.take m) ≤ k) := by
    intro m
    induction m with
    | zero => intro h; omega
    | succ m ih =>
      intro _ hm
      rcases Nat.eq_zero_or_pos m with h0 | h0
      · subst h0
        rw [Go.Lib.maxOf_one]
        match xs, hm with
        | x :: xs, _ => simp [fits]
      · rw [Go.Lib.maxOf_step xs m h0 (by omega), List.take_succ_eq_append_getElem (by omega)]
        have := ih h0 (by omega)
        unfold fits at this ⊢
        rw [List.all_append, this]
        simp only [List.all_cons, List.all_nil, Bool.and_true]
        rw [← Bool.decide_and]
        apply decide_eq_decide.2
        rw [List.getD_eq_getElem?_getD, List.getElem?_eq_getElem (by omega)]
        simp only [Option.getD_some]
        omega
  have := key xs.length hn (Nat.le_refl _)
  rw [List.take_length] at this ⊢
  exact this

theorem used_snoc (l : List Int) (x : Int) : used (l ++ [x]) = used l + min x 1 := by simp [used]
theorem freqOk_snoc (l : List Int) (x : Int) : freqOk (l ++ [x]) = (freqOk l && decide (0 ≤ x ∧ x ≤ 1048576)) := by simp [freqOk]
theorem take_snoc {l : List Int} {i : Nat} (hi : i < l.length) : l.take (i + 1) = l.take i ++ [l.getD i 0] := by
  rw [List.take_succ_eq_append_getElem hi, List.getD_eq_getElem?_getD, List.getElem?_eq_getElem hi]
  rfl
/-- A row that is being halved. -/
def halfway (i : Nat) (l : List Int) : List Int := halve (l.take i) ++ l.drop i
theorem length_halfway (i : Nat) (l : List Int) : (halfway i l).length = l.length := by simp [halfway, halve]; omega
theorem halfway_zero (l : List Int) : halfway 0 l = l := by simp [halfway, halve]
theorem halfway_all (l : List Int) : halfway l.length l = halve l := by simp [halfway]
theorem halfway_getD (i : Nat) (l : List Int) (hi : i < l.length) : (halfway i l).getD i 0 = l.getD i 0 := by
  unfold halfway
  rw [List.getD_eq_getElem?_getD, List.getElem?_append_right (by simp [halve]; omega)]
  simp [halve, List.getD_eq_getElem?_getD, Nat.min_eq_left (show i ≤ l.length by omega)]
theorem halfway_set (i : Nat) (l : List Int) (hi : i < l.length) : (halfway i l).set i ((l.getD i 0 + 1) / 2) = halfway (i + 1) l := by
  unfold halfway
  rw [take_snoc hi, List.set_append_right _ _ (by simp [halve]; omega)]
  simp only [halve, List.length_map, List.length_take, Nat.min_eq_left (show i ≤ l.length by omega), Nat.sub_self]
  have e : l.drop i = l[i] :: l.drop (i + 1) := List.drop_eq_getElem_cons hi
  rw [e, List.set_cons_zero, List.getD_eq_getElem?_getD, List.getElem?_eq_getElem hi]
  simp only [List.map_append, List.append_assoc, Option.getD_some]
  rfl

end Go.Proofs.Ythgijppajindpaa

namespace Go.Proofs.Ythgijppajindpaa
open Go.RowKit Go.Proofs.YthgijppajindpaaW.PrintWords

set_option maxHeartbeats 4000000 in
set_option maxRecDepth 1000000 in
theorem lengths_calls (A : Option Addr) (n c : Nat) (l : List Int) (k : Int) (w : World) (hl : l.length = n) (hc : 0 < n → ∃ b off, A = some ⟨b, off, none⟩ ∧ ∀ j, j < n → w.cell? ⟨b, off + j, none⟩ = some (.int .i64 (l.getD j 0))) :
    Calls Try.prog 17 #[.slice A n c, .int .i64 k] w fun e w' => ∃ v, e = .returned (.tuple #[v, .int .i64 (Lens l k).2]) ∧ Kd.R (Kd.int .i64) 3 w' w.heap.size (fun _ => True) v (Lens l k).1 ∧ Below w.heap.size w w' := by
  have HC : Hid _ := hc
  clear hc
  have HL : Hid (l.length = n) := hl
  clear hl
  have BAD : Hid (Lens l k = ([], 1) → ∃ v, Ending.returned (.tuple #[.slice none 0 0, .int .i64 1]) = .returned (.tuple #[v, .int .i64 (Lens l k).2]) ∧ Kd.R (Kd.int .i64) 3 w w.heap.size (fun _ => True) v (Lens l k).1 ∧ Below w.heap.size w w) :=
    hid (fun h => ⟨_, by rw [h], by rw [h]; exact Kd.R_nil _ _ _ _ _, Below.refl _ _⟩)
  by_cases h1 : n ≤ 300 ∧ 1 ≤ k ∧ k ≤ 15
  · obtain ⟨h300, hk1, hk15⟩ := h1
    have t1 : ¬ (300 : Int) < (n : Int) := by omega
    have t2 : ¬ k < 1 := by omega
    have t3 : ¬ 15 < k := by omega
    go_enter Try.func17, Try.ntmps17
    go_wp2_with fail
    go_loopg [6, 25] n (fun kx s6 s25 wr => ∃ (i : Nat) (u : Int), s6 = .int .i64 u ∧ s25 = .int .i64 i ∧ i ≤ n ∧ n - i ≤ kx ∧ w = wr ∧ 0 ≤ u ∧ u ≤ i ∧ Hid (u = used (l.take i) ∧ freqOk (l.take i) = true))
    case atStart => exact ⟨0, 0, rfl, rfl, by omega, by omega, rfl, by omega, by omega, hid ⟨rfl, rfl⟩⟩
    case round =>
      obtain ⟨i, u, rfl, rfl, hin, hikx, rfl, hu0, hu1, HU⟩ := hrel
      by_cases hlt : i < n
      · have hltz : (i : Int) < (n : Int) := by omega
        obtain ⟨b, off, rfl, hcell⟩ := HC.out (by omega)
        obtain ⟨x, hx⟩ : ∃ x, x = l.getD i 0 := ⟨_, rfl⟩
        have hci := hcell i hlt
        rw [← hx] at hci
        clear hcell
        have HX : Hid (x = l.getD i 0) := hx
        clear hx
        by_cases hxok : 0 ≤ x ∧ x ≤ 1048576
        · obtain ⟨hx0, hx1⟩ := hxok
          have t4 : ¬ x < 0 := by omega
          have t5 : ¬ 1048576 < x := by omega
          go_wp2_with fail
          go_roundg (n - (i + 1))
          case measure => omega
          case rel =>
            refine ⟨i + 1, u + min x 1, ?_, by go_num, by omega, by omega, rfl, by omega, by omega, ?_⟩
            · first | rfl | (congr 1; done) | (congr 1; omega)
            · show _ ∧ _
              rw [take_snoc (by rw [HL.out]; exact hlt), used_snoc, freqOk_snoc, ← HX.out, ← HU.out.1, HU.out.2]
              exact ⟨rfl, by simp [hx0, hx1]⟩
        · have ht : x < 0 ∨ 1048576 < x := by omega
          have HB : Hid (Lens l k = ([], 1)) := by
            show _ = _
            rw [Lens, if_neg]
            rintro ⟨_, _, _, h, _⟩
            have := (freqOk_iff l).1 h i
            rw [← HX.out] at this
            exact hxok this
          rcases ht with t4 | t5
          · go_wp2_with fail
            go_ret2
            exact BAD.out HB.out
          · have t4 : ¬ x < 0 := by omega
            go_wp2_with fail
            go_ret2
            exact BAD.out HB.out
      · have hltz : ¬ (i : Int) < (n : Int) := by omega
        have hw : wrap64 (2 ^ k.toNat) = 2 ^ k.toNat := by
          have h1 : (2 : Nat) ^ k.toNat ≤ 2 ^ 15 := Nat.pow_le_pow_right (by omega) (by omega)
          have h2 : (2 : Int) ^ k.toNat = ((2 ^ k.toNat : Nat) : Int) := by push_cast; rfl
          obtain ⟨m, hm⟩ : ∃ m, m = (2 : Nat) ^ k.toNat := ⟨_, rfl⟩
          rw [← hm] at h1 h2
          rw [h2]
          exact IntWalk.wrap64_in _ (by omega)
        have HU2 : Hid (u = used l ∧ freqOk l = true) := by
          show _
          have h := HU.out
          rw [show i = l.length by rw [HL.out]; omega, List.take_length] at h
          exact h
        by_cases hov : u ≤ 2 ^ k.toNat
        · have t6 : ¬ 2 ^ k.toNat < u := by omega
          have HOV : Hid (u ≤ 2 ^ k.toNat) := hov
          have HG : Hid (Lens l k = (lens 20 k l, 0)) := by
            show _ = _
            rw [Lens, if_pos ⟨by rw [HL.out]; exact h300, hk1, hk15, HU2.out.2, by rw [← HU2.out.1]; exact hov⟩]
          clear BAD
          go_wp2_with (go_at_call 38; ((with_reducible refine (clone_calls A n c l _ HL.out h300 HC.out).mono ?_); rintro e w1 ⟨A1, c1, rfl, hb1, hrow1⟩))
          obtain ⟨N, hN⟩ : ∃ N, N = w.heap.size := ⟨_, rfl⟩
          rw [← hN] at hb1 hrow1
          have HN : Hid (N = w.heap.size) := hN
          have B1 : Hid (Below N w w1) := hb1
          have R1 : Hid (0 < n → ∃ g, A1 = some ⟨g, 0, none⟩ ∧ N ≤ g ∧ Ints w1 g l) := hrow1
          clear hN hb1 hrow1 HU HC hw t6 hov
          go_loopg [] 20 (fun kx wr => ∃ f : List Int, f.length = n ∧ Hid (Below N w wr) ∧ Hid (0 < n → ∃ g, A1 = some ⟨g, 0, none⟩ ∧ N ≤ g ∧ Ints wr g f) ∧ Hid (∀ x, x ∈ f → 0 ≤ x ∧ x ≤ 2 ^ kx) ∧ Hid (kx ≤ 20 ∧ used f = u ∧ lens kx k f = lens 20 k l))
          case atStart =>
            refine ⟨l, HL.out, B1, R1, hid (fun x hx => ?_), hid ⟨Nat.le_refl _, HU2.out.1.symm, rfl⟩⟩
            obtain ⟨j, _, rfl⟩ := mem_getD hx
            exact (freqOk_iff l).1 HU2.out.2 j
          case round =>
            obtain ⟨f, hfn, HB, HR, HF, HE⟩ := hrel
            have HFN : Hid (f.length = n) := hfn
            have hgr := grown_one A1 n c1 f wr hfn h300 (fun h => by
              obtain ⟨g, rfl, hg, hi⟩ := HR.out h
              exact ⟨g, rfl, hi.lt, fun j hj => hi.cell (by rw [hfn]; exact hj)⟩) (fun j => by
              by_cases hj : j < f.length
              · have := HF.out (f.getD j 0) (by rw [List.getD_eq_getElem?_getD, List.getElem?_eq_getElem hj]; exact List.getElem_mem hj)
                have h2 : (2 : Int) ^ gk ≤ 2 ^ 20 := by
                  have : (2 : Nat) ^ gk ≤ 2 ^ 20 := Nat.pow_le_pow_right (by omega) HE.out.1
                  exact_mod_cast this
                have h3 : (2 : Int) ^ 20 = 1048576 := by decide
                omega
              · rw [List.getD_eq_getElem?_getD, List.getElem?_eq_none (by omega)]; simp)
            have HGR : Hid _ := hgr
            clear hgr hfn
            go_wp2_with fail
            refine Calls.mono HGR.out ?_
            rintro e w2 ⟨rfl, hb2, xs, hg2, hr2⟩
            have hxs := grown_is hg2
            subst hxs
            have hlen : (dpt f).length = n := by rw [length_dpt]; exact HFN.out
            obtain ⟨H, hH⟩ : ∃ H, H = wr.heap.size := ⟨_, rfl⟩
            rw [← hH] at hb2 hr2 ⊢
            have HH : Hid (H = wr.heap.size) := hH
            have B2 : Hid (Below H wr w2) := hb2
            have R2 : Hid (IntRow w2 H (dpt f)) := hr2
            have HLEN : Hid ((dpt f).length = n) := hlen
            have HNH : Hid (N ≤ H) := by
              have h1 := HB.out.size
              have h2 := HN.out
              have h3 := HH.out
              show _ ≤ _
              omega
            have B3 : Hid (Below N w w2) := by
              have h1 := HNH.out
              have h2 := HH.out
              exact HB.out.trans (B2.out.mono h1)
            have GOOD : Hid (∀ m, m = n → fits k (dpt f) = true → ∃ v, Ending.returned (.tuple #[.slice (some ⟨H, 0, none⟩) m m, .int .i64 0]) = .returned (.tuple #[v, .int .i64 (Lens l k).2]) ∧ Kd.R (Kd.int .i64) 3 w2 w.heap.size (fun _ => True) v (Lens l k).1 ∧ Below w.heap.size w w2) := hid (fun m hm h => by
              subst hm
              have e : lens gk k f = dpt f := by
                cases gk with
                | zero => rfl
                | succ q => rw [lens, if_pos h]
              rw [HG.out, ← HE.out.2.2, e, ← HN.out]
              refine ⟨_, rfl, ?_, B3.out⟩
              have := row_R R2.out HNH.out (by rw [hlen]; exact h300)
              rw [hlen] at this
              exact this)
            clear hg2 hr2 hb2 hH HGR hlen
            rcases Nat.eq_zero_or_pos n with h0 | h0
            · have hz : (n : Int) = 0 := by omega
              go_wp2_with fail
              go_ret2
              refine GOOD.out _ h0.symm ?_
              have := HLEN.out
              rw [h0] at this
              rw [List.eq_nil_of_length_eq_zero this]
              rfl
            · have hz : ¬ (n : Int) = 0 := by omega
              have hmax := Try.slices_Max_int H 0 n n (dpt f) w2 h0 (by rw [HLEN.out]; exact Nat.le_refl _) (by omega) (fun j hj => by rw [Nat.zero_add]; exact (Ints.of_row R2.out).cell hj)
              have HMAX : Hid _ := hmax
              clear hmax
              go_wp2_with fail
              refine Calls.mono HMAX.out ?_
              rintro e w3 ⟨rfl, rfl⟩
              have hfit := maxOf_le (dpt f) (by rw [HLEN.out]; exact h0) k
              rw [HLEN.out] at hfit
              obtain ⟨M, hM⟩ : ∃ M, M = Go.Lib.maxOf (List.take n (dpt f)) := ⟨_, rfl⟩
              rw [← hM] at hfit ⊢
              have HFIT : Hid (fits k (dpt f) = decide (M ≤ k)) := hfit
              clear hfit hM HMAX
              by_cases hmk : M ≤ k
              · go_wp2_with fail
                go_ret2
                exact GOOD.out _ rfl (by rw [HFIT.out]; simpa using hmk)
              · have HNF : Hid (fits k (dpt f) = false) := by
                  show _ = _
                  rw [HFIT.out]; simpa using hmk
                clear GOOD
                have hgk : gk ≠ 0 := fun e => by
                  subst e
                  have hd := dpt_ones f k.toNat (by omega) (fun x hx => by simpa using HF.out x hx) (by rw [HE.out.2.1]; exact HOV.out)
                  rw [show ((k.toNat : Nat) : Int) = k by omega, HNF.out] at hd
                  cases hd
                obtain ⟨q, rfl⟩ : ∃ q, gk = q + 1 := ⟨gk - 1, by omega⟩
                clear hgk
                obtain ⟨g, rfl, hg, hi⟩ := HR.out h0
                have I2 : Hid (Ints w3 g f) := hi.below (by have := hi.lt; have := HH.out; omega) B2.out
                clear hi HR
                go_wp2_with fail
                · rename_i hh
                  exfalso
                  rcases hh with hh | hh
                  · simp at hh; omega
                  · omega
                go_loopg [60] n (fun kx s60 wr => ∃ i : Nat, s60 = .int .i64 i ∧ i ≤ n ∧ n - i ≤ kx ∧ Hid (Ints wr g (halfway i f)) ∧ Hid (Below N w wr))
                case atStart => exact ⟨0, rfl, by omega, by omega, hid (by rw [halfway_zero]; exact I2.out), B3⟩
                case round =>
                  obtain ⟨i, rfl, hin, hikx, HI, HB4⟩ := hrel
                  by_cases hlt : i < n
                  · have hltz : (i : Int) < (n : Int) := by omega
                    obtain ⟨x, hx⟩ : ∃ x, x = f.getD i 0 := ⟨_, rfl⟩
                    have hci := HI.out.cell (j := i) (by rw [length_halfway, HFN.out]; exact hlt)
                    rw [halfway_getD i f (by rw [HFN.out]; exact hlt), ← hx] at hci
                    have hfi := HI.out.frozen i
                    have hx0 : 0 ≤ x ∧ x ≤ 1048576 := by
                      have h3 := HF.out x (by rw [hx, List.getD_eq_getElem?_getD, List.getElem?_eq_getElem (by rw [HFN.out]; exact hlt)]; exact List.getElem_mem _)
                      have h2 : (2 : Int) ^ (q + 1) ≤ 2 ^ 20 := by
                        have : (2 : Nat) ^ (q + 1) ≤ 2 ^ 20 := Nat.pow_le_pow_right (by omega) HE.out.1
                        exact_mod_cast this
                      have h4 : (2 : Int) ^ 20 = 1048576 := by decide
                      omega
                    obtain ⟨hx0, hx1⟩ := hx0
                    have HX : Hid (x = f.getD i 0) := hx
                    clear hx
                    go_wp2_with fail
                    go_roundg (n - (i + 1))
                    case measure => omega
                    case rel =>
                      refine ⟨i + 1, by go_num, by omega, by omega, ?_, hid (HB4.out.setCell hg _)⟩
                      have h1 := HI.out.set (j := i) (by rw [length_halfway, HFN.out]; exact hlt) ((x + 1) / 2)
                      rw [HX.out, halfway_set i f (by rw [HFN.out]; exact hlt)] at h1
                      rw [HX.out]
                      exact h1
                  · have hltz : ¬ (i : Int) < (n : Int) := by omega
                    go_wp2_with fail
                    go_roundg q
                    case measure => omega
                    case rel =>
                      have HI2 : Hid (Ints wr g (halve f)) := by
                        have h1 := HI.out
                        rw [show i = f.length by rw [HFN.out]; omega, halfway_all] at h1
                        exact h1
                      refine ⟨halve f, by rw [length_halve]; exact HFN.out, HB4, hid (fun _ => ⟨g, rfl, hg, HI2.out⟩), hid (halve_le f q HF.out), hid ⟨by have := HE.out.1; omega, ?_, ?_⟩⟩
                      · rw [used_halve f (fun x hx => (HF.out x hx).1)]; exact HE.out.2.1
                      · have h1 := HE.out.2.2
                        rw [lens, if_neg (by rw [HNF.out]; decide)] at h1
                        exact h1
        · have HOV : Hid (2 ^ k.toNat < u) := hid (by omega)
          have t6 : ¬ u ≤ 2 ^ k.toNat := hov
          go_wp2_with fail
          go_ret2
          refine BAD.out ?_
          rw [Lens, if_neg]
          rintro ⟨_, _, _, _, h⟩
          rw [← HU2.out.1] at h
          exact absurd h (Int.not_le.2 HOV.out)
  · have HB : Hid (Lens l k = ([], 1)) := by
      show _ = _
      rw [Lens, if_neg]
      rintro ⟨a, b, c, _⟩
      rw [HL.out] at a
      exact h1 ⟨a, b, c⟩
    go_enter Try.func17, Try.ntmps17
    go_wp2_with fail
    all_goals (first | omega | (go_ret2; exact BAD.out HB.out))

end Go.Proofs.Ythgijppajindpaa

namespace Go.Proofs.Ythgijppajindpaa
open Go.RowKit Go.Proofs.YthgijppajindpaaW.PrintWords

def prefix_Lengths.f (l0 : List Int) (a1 : Int) : Option (List Int × Int) := some (Lens l0 a1)

theorem prefix_Lengths.calls (A0 : Option Addr) (c0 : Nat) (l0 : List Int) (a1 : Int) (r1 : List Int) (r2 : Int) (w : World) (hr0 : Kd.C (Kd.int .i64) w A0 l0.length l0) (hc0 : l0.length ≤ c0) (h : prefix_Lengths.f l0 a1 = some (r1, r2)) :
    Calls Try.prog 17 #[.slice A0 l0.length c0, .int .i64 a1] w fun e w' => ∃ v0_ : Value, e = .returned (.tuple #[v0_, .int .i64 r2]) ∧ Kd.R (Kd.int .i64) 3 w' w.heap.size (fun _ => True) v0_ r1 ∧ Below w.heap.size w w' := by
  have e : Lens l0 a1 = (r1, r2) := Option.some.inj h
  have h1 := lengths_calls A0 l0.length c0 l0 a1 w rfl (reads_ints hr0).2
  rw [e] at h1
  exact h1

end Go.Proofs.Ythgijppajindpaa
