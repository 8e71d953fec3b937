/-
  What the document's lengths are as a code: whole, of the right width, and none where nothing comes.
-/
import Derived.Test.YthgijppajindpaaKrf1
set_option linter.unusedVariables false
set_option linter.unusedSimpArgs false
namespace Go.Proofs.Ythgijppajindpaa
open Go.RowKit Go.Proofs.YthgijppajindpaaW.PrintWords

theorem Kr_set : ∀ (xs : List Int) (i : Nat) (v : Int), i < xs.length → Kr (xs.set i v) = Kr xs - kr (xs.getD i 0) + kr v
  | x :: xs, 0, v, _ => by
    show kr v + Kr xs = kr x + Kr xs - kr x + kr v
    omega
  | x :: xs, i + 1, v, h => by
    have := Kr_set xs i v (by simpa using h)
    show kr x + Kr (xs.set i v) = kr x + Kr xs - kr (xs.getD i 0) + kr v
    omega

theorem Kr_setAll : ∀ (ps : List (Nat × Nat)) (xs : List Int), (ps.map Prod.fst).Nodup → (∀ p, p ∈ ps → p.1 < xs.length ∧ xs.getD p.1 0 = 0) →
    Kr (setAll ps xs) = Kr xs + (ps.map fun p => kr (max (p.2 : Int) 1)).sum
  | [], xs, _, _ => by simp [setAll]
  | p :: ps, xs, hn, h => by
    have e : setAll (p :: ps) xs = setAll ps (xs.set p.1 (max (p.2 : Int) 1)) := rfl
    obtain ⟨n1, n2⟩ := List.nodup_cons.1 (show (p.1 :: ps.map Prod.fst).Nodup from hn)
    have hp := h p (by simp)
    have k0 : kr 0 = 0 := by decide
    rw [e, Kr_setAll ps _ n2 (fun q hq => by
      have h1 := h q (by simp [hq])
      refine ⟨by rw [List.length_set]; exact h1.1, ?_⟩
      rw [getD_set, if_neg, h1.2]
      rintro ⟨e1, _⟩
      exact n1 (e1 ▸ List.mem_map_of_mem hq)), Kr_set xs _ _ hp.1, hp.2, k0, List.map_cons, List.sum_cons]
    omega

theorem Kr_zeros (n : Nat) : Kr (List.replicate n 0) = 0 := by
  induction n with
  | zero => rfl
  | succ n ih =>
    have k0 : kr 0 = 0 := by decide
    show kr 0 + Kr (List.replicate n 0) = 0
    rw [ih, k0]; rfl

/-- The depths' shares. -/
theorem Kr_dpt (l : List Int) : Kr (dpt l) = ((deps l.length (wts l)).map fun d : Nat => kr (max (d : Int) 1)).sum := by
  unfold dpt
  rw [Kr_setAll _ _ (by rw [zip_syms]; exact (leafs_syms l).imp (fun h e => by omega)) (fun p hp => by
    have hs : p.1 ∈ syms l := by
      rw [← zip_syms l]
      exact List.mem_map_of_mem hp
    have := syms_lt l p.1 hs
    exact ⟨by rw [List.length_replicate]; exact this, by simp [List.getD_eq_getElem?_getD, List.getElem?_replicate, this]⟩), Kr_zeros, Int.zero_add]
  congr 1
  have e : ((syms l).zip (deps l.length (wts l))).map Prod.snd = deps l.length (wts l) := by
    rw [List.map_snd_zip]
    rw [length_deps]
    simp [syms, wts]
  conv => rhs; rw [← e, List.map_map]
  rfl

theorem kr_nat {d : Nat} (h1 : 1 ≤ d) (h2 : d ≤ 15) : kr (max (d : Int) 1) = ((2 ^ (15 - d) : Nat) : Int) := by
  have : max (d : Int) 1 = (d : Int) := by omega
  rw [this]
  unfold kr
  rw [if_pos (by omega)]
  have e : (15 - (d : Int)).toNat = 15 - d := by omega
  rw [e]
  push_cast
  rfl

theorem share_deps (K k : Nat) (l : List Int) : share K (zd k l) = ((deps k l).map fun d => 2 ^ (K - d)).sum := by
  unfold share
  have e : (zd k l).map Prod.snd = deps k l := by
    unfold zd
    rw [List.map_snd_zip]
    rw [length_deps]
    exact Nat.le_refl _
  conv => rhs; rw [← e, List.map_map]
  rfl

theorem deps_mem {k : Nat} {l : List Int} {d : Nat} (h : d ∈ deps k l) : ∃ x, (x, d) ∈ zd k l := by
  obtain ⟨i, hi, rfl⟩ := List.getElem_of_mem h
  have hl : i < l.length := by rwa [length_deps] at hi
  refine ⟨l[i], ?_⟩
  have : (zd k l)[i]'(by rw [length_zd]; exact hl) = (l[i], (deps k l)[i]) := by simp only [zd, List.getElem_zip]
  rw [← this]
  exact List.getElem_mem _

theorem sum_kr_nat : ∀ ds : List Nat, (∀ d, d ∈ ds → 1 ≤ d ∧ d ≤ 15) → (ds.map fun d : Nat => kr (max (d : Int) 1)).sum = (((ds.map fun d => 2 ^ (15 - d)).sum : Nat) : Int)
  | [], _ => rfl
  | d :: ds, h => by
    have h1 := h d (by simp)
    rw [List.map_cons, List.sum_cons, List.map_cons, List.sum_cons, kr_nat h1.1 h1.2, sum_kr_nat ds (fun e he => h e (by simp [he]))]
    push_cast
    rfl

theorem dpt_mem (l : List Int) {d : Nat} (h : d ∈ deps l.length (wts l)) : (max (d : Int) 1) ∈ dpt l := by
  obtain ⟨i, hi, rfl⟩ := List.getElem_of_mem h
  have hw : i < (syms l).length := by rw [length_deps] at hi; simpa [syms, wts] using hi
  have hz : ((syms l)[i], (deps l.length (wts l))[i]) ∈ (syms l).zip (deps l.length (wts l)) := by
    have : ((syms l).zip (deps l.length (wts l)))[i]'(by rw [List.length_zip]; omega) = ((syms l)[i], (deps l.length (wts l))[i]) := by simp
    rw [← this]
    exact List.getElem_mem _
  rw [← dpt_get l hz]
  have hs := syms_lt l _ (List.getElem_mem hw)
  rw [List.getD_eq_getElem?_getD, List.getElem?_eq_getElem (by rw [length_dpt]; exact hs)]
  exact List.getElem_mem _

theorem wts_used (l : List Int) (h : ∀ x, x ∈ l → 0 ≤ x) : ((wts l).length : Int) = used l := by
  rw [← used_leafs l h]
  simp [wts]

theorem dpt_whole (l : List Int) (h0 : ∀ x, x ∈ l → 0 ≤ x) (hf : fits 15 (dpt l) = true) (h2 : 2 ≤ used l) : Kr (dpt l) = 32768 := by
  have hu := wts_used l h0
  have hle := wts_len l
  have hd : ∀ d, d ∈ deps l.length (wts l) → 1 ≤ d ∧ d ≤ 15 := by
    intro d hd
    obtain ⟨x, hx⟩ := deps_mem hd
    have h1 := zd_pos l.length (wts l) (by omega) (by omega) _ hx
    have h3 := dpt_mem l hd
    unfold fits at hf
    rw [List.all_eq_true] at hf
    have := hf _ h3
    simp only [decide_eq_true_eq] at this
    dsimp only at h1
    omega
  rw [Kr_dpt, sum_kr_nat _ hd, ← share_deps, zd_share 15 l.length (wts l) (by omega) (by omega) (fun z hz => by
    have : z.2 ∈ deps l.length (wts l) := by
      unfold zd at hz
      exact (List.of_mem_zip (show (z.1, z.2) ∈ _ from hz)).2
    exact (hd _ this).2)]
  rfl

theorem dpt_single (l : List Int) (h0 : ∀ x, x ∈ l → 0 ≤ x) (h1 : used l = 1) : Kr (dpt l) = 16384 := by
  have hu := wts_used l h0
  have hl : (deps l.length (wts l)).length = 1 := by rw [length_deps]; omega
  obtain ⟨d, hd⟩ : ∃ d, deps l.length (wts l) = [d] := by
    match h : deps l.length (wts l) with
    | [d] => exact ⟨d, rfl⟩
    | [] => rw [h] at hl; simp at hl
    | _ :: _ :: _ => rw [h] at hl; simp at hl
  obtain ⟨x, hx⟩ := deps_mem (k := l.length) (l := wts l) (d := d) (by rw [hd]; simp)
  have := zd_one (k := l.length) (l := wts l) (by omega) _ hx
  dsimp only at this
  subst this
  rw [Kr_dpt, hd]
  decide

theorem dpt_empty (l : List Int) (h0 : ∀ x, x ∈ l → 0 ≤ x) (h1 : used l = 0) : Kr (dpt l) = 0 := by
  have hu := wts_used l h0
  have hl : (deps l.length (wts l)).length = 0 := by rw [length_deps]; omega
  rw [Kr_dpt, List.length_eq_zero_iff.1 hl]
  rfl

theorem dpt_nonneg (l : List Int) (j : Nat) : 0 ≤ (dpt l).getD j 0 ∧ (j < l.length → ((dpt l).getD j 0 = 0 ↔ ¬ 0 < l.getD j 0)) := by
  by_cases hm : j ∈ syms l
  · obtain ⟨d, hd⟩ := zip_mem l hm
    rw [dpt_get l hd]
    refine ⟨by omega, fun hj => ?_⟩
    have hz := zip_zd l hd
    have hp := wts_pos l (l.getD j 0) (by
      have h1 := List.mem_map_of_mem (f := Prod.fst) hz
      rwa [zd_fst] at h1)
    constructor
    · intro h; omega
    · intro h; exact absurd hp h
  · rw [dpt_none l hm]
    exact ⟨Int.le_refl _, fun hj => ⟨fun _ hp => hm (mem_syms hj hp), fun _ => rfl⟩⟩

/-- Where something comes, it comes after halving, too. -/
theorem halve_pos (l : List Int) (j : Nat) (hj : j < l.length) (h0 : 0 ≤ l.getD j 0) : (0 < (halve l).getD j 0 ↔ 0 < l.getD j 0) ∧ 0 ≤ (halve l).getD j 0 := by
  unfold halve
  rw [List.getD_eq_getElem?_getD, List.getElem?_map, List.getElem?_eq_getElem hj]
  rw [List.getD_eq_getElem?_getD, List.getElem?_eq_getElem hj] at h0 ⊢
  simp only [Option.map_some, Option.getD_some] at *
  omega

theorem halve_nonneg (l : List Int) (h : ∀ x, x ∈ l → 0 ≤ x) : ∀ x, x ∈ halve l → 0 ≤ x := by
  intro x hx
  obtain ⟨y, hy, rfl⟩ := List.mem_map.1 hx
  have := h y hy
  omega

theorem lens_is (K : Nat) (hK : 1 ≤ K) (n : Nat) : ∀ l : List Int, (∀ x, x ∈ l → 0 ≤ x ∧ x ≤ 2 ^ n) → used l ≤ 2 ^ K →
    ∃ l' : List Int, lens n K l = dpt l' ∧ l'.length = l.length ∧ fits K (dpt l') = true ∧ (∀ x, x ∈ l' → 0 ≤ x) ∧ used l' = used l ∧ ∀ j, j < l.length → (0 < l'.getD j 0 ↔ 0 < l.getD j 0) := by
  induction n with
  | zero =>
    intro l h hu
    refine ⟨l, rfl, rfl, dpt_ones l K hK (fun x hx => by have := h x hx; simpa using this) hu, fun x hx => (h x hx).1, rfl, fun j _ => Iff.rfl⟩
  | succ n ih =>
    intro l h hu
    rw [lens]
    split
    · rename_i hf
      exact ⟨l, rfl, rfl, hf, fun x hx => (h x hx).1, rfl, fun j _ => Iff.rfl⟩
    · have hn : ∀ x, x ∈ l → 0 ≤ x := fun x hx => (h x hx).1
      obtain ⟨l', h1, h2, h3, h4, h5, h6⟩ := ih (halve l) (halve_le l n h) (by rw [used_halve l hn]; exact hu)
      refine ⟨l', h1, by rw [h2, length_halve], h3, h4, by rw [h5, used_halve l hn], fun j hj => ?_⟩
      rw [h6 j (by rw [length_halve]; exact hj)]
      exact (halve_pos l j hj (hn _ (by rw [List.getD_eq_getElem?_getD, List.getElem?_eq_getElem hj]; exact List.getElem_mem _))).1

theorem usedK_cons (x : Int) (l : List Int) : usedK (x :: l) = (if 0 < x then 1 else 0) + usedK l := rfl
theorem used_cons (x : Int) (l : List Int) : used (x :: l) = min x 1 + used l := rfl
theorem usedK_used : ∀ (l m : List Int), l.length = m.length → (∀ x, x ∈ m → 0 ≤ x) → (∀ j, j < m.length → (0 < l.getD j 0 ↔ 0 < m.getD j 0)) → usedK l = used m
  | [], [], _, _, _ => rfl
  | x :: l, y :: m, hl, h0, h => by
    have := usedK_used l m (by simpa using hl) (fun z hz => h0 z (by simp [hz])) (fun j hj => by
      have := h (j + 1) (by simpa using hj)
      simpa using this)
    have hx : 0 < x ↔ 0 < y := by simpa using h 0 (by simp)
    have hy := h0 y (by simp)
    rw [usedK_cons, used_cons, this]
    by_cases e : 0 < x
    · rw [if_pos e]
      have := hx.1 e
      omega
    · rw [if_neg e]
      have : ¬ 0 < y := fun h => e (hx.2 h)
      omega

/-- What lengths are. -/
structure Good (l : List Int) (k : Int) (L : List Int) : Prop where
  len : L.length = l.length
  at_ : ∀ j, j < l.length → 0 ≤ L.getD j 0 ∧ L.getD j 0 ≤ k ∧ (L.getD j 0 = 0 ↔ ¬ 0 < l.getD j 0)
  none : used l = 0 → Kr L = 0 ∧ isCode L = false
  one : used l = 1 → Kr L = 16384 ∧ isCode L = true
  whole : 2 ≤ used l → Kr L = 32768 ∧ isCode L = true

theorem Lens_good (l : List Int) (K : Nat) (h3 : l.length ≤ 300) (hK1 : 1 ≤ K) (hK : K ≤ 15) (hok : freqOk l = true) (hu : used l ≤ 2 ^ K) : Lens l K = (lens 20 K l, 0) ∧ Good l K (lens 20 K l) := by
  have hx : ∀ x, x ∈ l → 0 ≤ x ∧ x ≤ 2 ^ 20 := by
    unfold freqOk at hok
    rw [List.all_eq_true] at hok
    intro x hx
    have := hok x hx
    simpa using this
  refine ⟨by rw [Lens, if_pos ⟨h3, by omega, by omega, hok, by rwa [Int.toNat_natCast]⟩], ?_⟩
  obtain ⟨l', h1, h2, hf, h4, h5, h6⟩ := lens_is K hK1 20 l hx hu
  rw [h1]
  have hf15 : fits 15 (dpt l') = true := by
    unfold fits at *
    rw [List.all_eq_true] at *
    intro x hx
    have := hf x hx
    simp only [decide_eq_true_eq] at *
    omega
  have hat : ∀ j, j < l.length → 0 ≤ (dpt l').getD j 0 ∧ (dpt l').getD j 0 ≤ K ∧ ((dpt l').getD j 0 = 0 ↔ ¬ 0 < l.getD j 0) := by
    intro j hj
    have hd := dpt_nonneg l' j
    refine ⟨hd.1, ?_, ?_⟩
    · unfold fits at hf
      rw [List.all_eq_true] at hf
      have := hf ((dpt l').getD j 0) (by rw [List.getD_eq_getElem?_getD, List.getElem?_eq_getElem (by rw [length_dpt, h2]; exact hj)]; exact List.getElem_mem _)
      simpa using this
    · rw [hd.2 (by rw [h2]; exact hj), h6 j hj]
  have hlo : lensOk (dpt l') = true := by
    unfold lensOk
    rw [List.all_eq_true]
    intro x hx
    obtain ⟨j, hj, rfl⟩ := mem_getD hx
    rw [length_dpt, h2] at hj
    have := hat j hj
    simp only [decide_eq_true_eq]
    omega
  have hln : (dpt l').length ≤ 300 := by rw [length_dpt, h2]; exact h3
  have huk : usedK (dpt l') = used l' := usedK_used _ _ (by rw [length_dpt]) h4 (fun j hj => by
    have := dpt_nonneg l' j
    have h := this.2 hj
    constructor
    · intro h'
      exact Classical.not_not.1 (fun hn => by have := h.2 hn; omega)
    · intro h'
      have : (dpt l').getD j 0 ≠ 0 := fun e => h.1 e h'
      omega)
  have ho := one_code hlo
  refine ⟨by rw [length_dpt, h2], hat, fun hu0 => ?_, fun hu1 => ?_, fun hu2 => ?_⟩
  · have := dpt_empty l' h4 (by omega)
    refine ⟨this, ?_⟩
    unfold isCode
    rw [this]
    simp
  · have := dpt_single l' h4 (by omega)
    refine ⟨this, ?_⟩
    have := ho.1 ⟨by omega, this⟩
    unfold isCode
    rw [hlo, this.1, this.2]
    simp
    exact hln
  · have := dpt_whole l' h4 hf15 (by omega)
    refine ⟨this, ?_⟩
    unfold isCode
    rw [hlo, this]
    simp
    exact hln

end Go.Proofs.Ythgijppajindpaa
