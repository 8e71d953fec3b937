/-
  The document's depths, symbol by symbol; and that what comes more often has no longer word.
-/
import Derived.Test.YthgijppajindpaaLeng
set_option linter.unusedVariables false
set_option linter.unusedSimpArgs false
namespace Go.Proofs.Ythgijppajindpaa
open Go.RowKit Go.Proofs.YthgijppajindpaaW.PrintWords

/-- From some number of rounds on. -/
def Ev (p : Nat → Prop) : Prop := ∃ K, ∀ k, K ≤ k → p k

theorem Ev.mk {p : Nat → Prop} (K : Nat) (h : ∀ k, K ≤ k → p k) : Ev p := ⟨K, h⟩
theorem Ev.and {p q : Nat → Prop} (h : Ev p) (h' : Ev q) : Ev fun k => p k ∧ q k := by
  obtain ⟨a, ha⟩ := h
  obtain ⟨b, hb⟩ := h'
  exact ⟨max a b, fun k hk => ⟨ha k (by omega), hb k (by omega)⟩⟩
/-- One round more. -/
theorem Ev.succ {p q : Nat → Prop} (h : Ev p) (hs : ∀ k, p k → q (k + 1)) : Ev q := by
  obtain ⟨a, ha⟩ := h
  refine ⟨a + 1, fun k hk => ?_⟩
  obtain ⟨k', rfl⟩ : ∃ k', k = k' + 1 := ⟨k - 1, by omega⟩
  exact hs k' (ha k' (by omega))
theorem Ev.imp {p q : Nat → Prop} (h : Ev p) (hs : ∀ k, p k → q k) : Ev q := by
  obtain ⟨a, ha⟩ := h
  exact ⟨a, fun k hk => hs k (ha k hk)⟩
theorem Ev.one {q : Nat → Prop} (hs : ∀ k, q (k + 1)) : Ev q := (Ev.mk (p := fun _ => True) 0 (fun _ _ => trivial)).succ (fun k _ => hs k)
theorem Ev.pure {q : Nat → Prop} (hs : ∀ k, q k) : Ev q := ⟨0, fun k _ => hs k⟩
theorem Ev.ex {p : Nat → Prop} (h : Ev p) : ∃ k, p k := by
  obtain ⟨a, ha⟩ := h
  exact ⟨a, ha a (Nat.le_refl _)⟩

theorem w64 {x : Int} (h : -9223372036854775808 ≤ x ∧ x ≤ 9223372036854775807) : wrap64 x = x := IntWalk.wrap64_in x h

theorem getD_set {xs : List Int} (i j : Nat) (x : Int) : (xs.set i x).getD j 0 = if i = j ∧ i < xs.length then x else xs.getD j 0 := by
  rw [List.getD_eq_getElem?_getD, List.getElem?_set]
  by_cases e : i = j
  · subst e
    by_cases h : i < xs.length
    · simp [h]
    · rw [if_pos rfl, if_neg h, if_neg (by omega), List.getD_eq_getElem?_getD, List.getElem?_eq_none (by omega)]
  · rw [if_neg e, if_neg (by omega), ← List.getD_eq_getElem?_getD]

theorem setAll_other : ∀ (ps : List (Nat × Nat)) (xs : List Int) (s : Nat), s ∉ ps.map Prod.fst → (setAll ps xs).getD s 0 = xs.getD s 0
  | [], xs, s, _ => rfl
  | p :: ps, xs, s, h => by
    have e : setAll (p :: ps) xs = setAll ps (xs.set p.1 (max (p.2 : Int) 1)) := rfl
    simp only [List.map_cons, List.mem_cons, not_or] at h
    rw [e, setAll_other ps _ s h.2, getD_set, if_neg (by omega)]

theorem setAll_get : ∀ (ps : List (Nat × Nat)) (xs : List Int), (ps.map Prod.fst).Nodup → ∀ p, p ∈ ps → p.1 < xs.length → (setAll ps xs).getD p.1 0 = max (p.2 : Int) 1
  | [], xs, _, p, hp, _ => by simp at hp
  | q :: ps, xs, hn, p, hp, hl => by
    have e : setAll (q :: ps) xs = setAll ps (xs.set q.1 (max (q.2 : Int) 1)) := rfl
    obtain ⟨n1, n2⟩ := List.nodup_cons.1 (show (q.1 :: ps.map Prod.fst).Nodup from hn)
    rw [e]
    rcases List.mem_cons.1 hp with rfl | hp
    · rw [setAll_other ps _ _ n1, getD_set, if_pos ⟨rfl, hl⟩]
    · exact setAll_get ps _ n2 p hp (by rw [List.length_set]; exact hl)

theorem ext_getD {xs ys : List Int} (hl : xs.length = ys.length) (h : ∀ s, s < xs.length → xs.getD s 0 = ys.getD s 0) : xs = ys := by
  apply List.ext_getElem hl
  intro i h1 h2
  have := h i h1
  rwa [List.getD_eq_getElem?_getD, List.getD_eq_getElem?_getD, List.getElem?_eq_getElem h1, List.getElem?_eq_getElem h2] at this

theorem syms_lt (l : List Int) : ∀ s, s ∈ syms l → s < l.length := by
  intro s hs
  unfold syms leafs at hs
  rw [List.map_map] at hs
  obtain ⟨p, hp, rfl⟩ := List.mem_map.1 hs
  have h1 := (List.mem_filter.1 hp).1
  obtain ⟨x, i⟩ := p
  have := List.snd_lt_add_of_mem_zipIdx h1
  simpa [symOf] using this

theorem zip_syms (l : List Int) : ((syms l).zip (deps l.length (wts l))).map Prod.fst = syms l := by
  rw [List.map_fst_zip]
  rw [length_deps]
  simp [syms, wts]

theorem wts_pos (l : List Int) : ∀ x, x ∈ wts l → 0 < x := by
  intro x hx
  unfold wts leafs at hx
  rw [List.map_map] at hx
  obtain ⟨p, hp, rfl⟩ := List.mem_map.1 hx
  have := (List.mem_filter.1 hp).2
  simp only [decide_eq_true_eq] at this
  exact this

/-- The depth of a symbol, plain. -/
theorem dpt_get (l : List Int) {s d : Nat} (h : (s, d) ∈ (syms l).zip (deps l.length (wts l))) : (dpt l).getD s 0 = max (d : Int) 1 := by
  have hs : s ∈ syms l := by
    rw [← zip_syms l]
    exact List.mem_map_of_mem h
  exact setAll_get _ _ (by rw [zip_syms]; exact (leafs_syms l).imp (fun h e => by omega)) (s, d) h (by rw [List.length_replicate]; exact syms_lt l s hs)

theorem dpt_none (l : List Int) {s : Nat} (h : s ∉ syms l) : (dpt l).getD s 0 = 0 := by
  unfold dpt
  rw [setAll_other _ _ _ (by rw [zip_syms]; exact h)]
  by_cases hs : s < l.length
  · simp [List.getD_eq_getElem?_getD, List.getElem?_replicate, hs]
  · rw [List.getD_eq_getElem?_getD, List.getElem?_eq_none (by simp; omega)]
    rfl

theorem zip_mem (l : List Int) {s : Nat} (h : s ∈ syms l) : ∃ d, (s, d) ∈ (syms l).zip (deps l.length (wts l)) := by
  rw [← zip_syms l] at h
  obtain ⟨p, hp, rfl⟩ := List.mem_map.1 h
  exact ⟨p.2, hp⟩

/-- A symbol's weight and its depth stand side by side. -/
theorem zip_zd (l : List Int) {s d : Nat} (h : (s, d) ∈ (syms l).zip (deps l.length (wts l))) : (l.getD s 0, d) ∈ zd l.length (wts l) := by
  obtain ⟨i, hi, he⟩ := List.getElem_of_mem h
  rw [List.length_zip, length_deps] at hi
  have hs : i < (syms l).length := by omega
  have hw : i < (wts l).length := by omega
  have hd : i < (deps l.length (wts l)).length := by rw [length_deps]; exact hw
  rw [List.getElem_zip, Prod.mk.injEq] at he
  have e : (wts l)[i] = l.getD s 0 := by
    rw [← he.1]
    have hf : i < (leafs l).length := by simpa [wts] using hw
    have e1 : (wts l)[i] = ((leafs l)[i]).wt := by simp [wts]
    have e2 : (syms l)[i] = symOf (leafs l)[i] := by simp [syms]
    have hm := List.getElem_mem hf
    rw [e1, e2]
    generalize (leafs l)[i] = t at hm
    unfold leafs at hm
    obtain ⟨p, hp, rfl⟩ := List.mem_map.1 hm
    have h1 := (List.mem_filter.1 hp).1
    obtain ⟨x, q⟩ := p
    obtain ⟨hq, hx⟩ := List.getElem?_eq_some_iff.1 (List.mk_mem_zipIdx_iff_getElem?.1 h1)
    show x = l.getD q 0
    rw [List.getD_eq_getElem?_getD, List.getElem?_eq_getElem hq, hx]
    rfl
  have hz : i < (zd l.length (wts l)).length := by rw [length_zd]; exact hw
  have := List.getElem_mem hz
  have e3 : (zd l.length (wts l))[i] = (l.getD s 0, d) := by
    simp only [zd, List.getElem_zip, e, he.2]
  rw [← e3]
  exact this

theorem mem_syms {l : List Int} {s : Nat} (hs : s < l.length) (h : 0 < l.getD s 0) : s ∈ syms l := by
  unfold syms leafs
  rw [List.map_map]
  refine List.mem_map.2 ⟨(l.getD s 0, s), List.mem_filter.2 ⟨?_, by simpa using h⟩, rfl⟩
  rw [List.mk_mem_zipIdx_iff_getElem?, List.getD_eq_getElem?_getD, List.getElem?_eq_getElem hs]
  rfl

theorem wts_len (l : List Int) : (wts l).length ≤ l.length := by simp [wts]; exact leafs_le l

/-- What comes more often has no longer word. -/
theorem dpt_order (l : List Int) {i k : Nat} (hi : i < l.length) (hk : k < l.length) (h : l.getD k 0 < l.getD i 0) (h0 : 0 < l.getD k 0) : (dpt l).getD i 0 ≤ (dpt l).getD k 0 := by
  obtain ⟨a, ha⟩ := zip_mem l (mem_syms hi (by omega))
  obtain ⟨b, hb⟩ := zip_mem l (mem_syms hk h0)
  rw [dpt_get l ha, dpt_get l hb]
  have := zd_lighter (k := l.length) (l := wts l) (by have := wts_len l; omega) (fun x hx => by have := wts_pos l x hx; omega) (zip_zd l hb) (zip_zd l ha) h
  dsimp only at this
  omega

theorem fibo_le : ∀ n, fibo n ≤ fibo (n + 1)
  | 0 => by decide
  | n + 1 => by rw [show fibo (n + 1 + 1) = fibo (n + 1) + fibo n from rfl]; omega

theorem fibo_mono {m n : Nat} (h : m ≤ n) : fibo m ≤ fibo n := by
  induction h with
  | refl => exact Nat.le_refl _
  | step _ ih => exact Nat.le_trans ih (fibo_le _)

/-- So long as the sum is small the words are short. -/
theorem dpt_small (l : List Int) (hsum : (wts l).sum ≤ 1596) : fits 15 (dpt l) = true := by
  unfold fits
  rw [List.all_eq_true]
  intro x hx
  simp only [decide_eq_true_eq]
  obtain ⟨s, hs, rfl⟩ := mem_getD hx
  by_cases hm : s ∈ syms l
  · obtain ⟨d, hd⟩ := zip_mem l hm
    rw [dpt_get l hd]
    have hz := zip_zd l hd
    have hf := zd_fibo l.length (wts l) 0 (by have := wts_len l; omega) (Int.le_refl _) (fun x hx => by have := wts_pos l x hx; omega) _ hz
    have hp := wts_pos l (l.getD s 0) (by
      have h1 := List.mem_map_of_mem (f := Prod.fst) hz
      rwa [zd_fst] at h1)
    dsimp only at hf
    have hd16 : d < 16 := by
      refine Nat.lt_of_not_le (fun h => ?_)
      have h2 : fibo 17 ≤ fibo (d + 1) := fibo_mono (by omega)
      have h3 : fibo 17 = 1597 := by decide +kernel
      have h4 : (1597 : Int) ≤ (fibo (d + 1) : Int) := by omega
      have h5 : (fibo (d + 1) : Int) * 1 ≤ (fibo (d + 1) : Int) * l.getD s 0 := Int.mul_le_mul_of_nonneg_left hp (by omega)
      omega
    omega
  · rw [dpt_none l hm]
    omega

theorem wts_sum (B : Int) (l : List Int) (h : ∀ x, x ∈ l → x ≤ B) (hB : 0 ≤ B) : (wts l).sum ≤ B * l.length := by
  have hle : ∀ x, x ∈ wts l → x ≤ B := by
    intro x hx
    unfold wts leafs at hx
    rw [List.map_map] at hx
    obtain ⟨p, hp, rfl⟩ := List.mem_map.1 hx
    have h1 := (List.mem_filter.1 hp).1
    obtain ⟨x, i⟩ := p
    exact h x (List.fst_mem_of_mem_zipIdx h1)
  have key : ∀ xs : List Int, (∀ x, x ∈ xs → x ≤ B) → xs.sum ≤ B * xs.length := by
    intro xs
    induction xs with
    | nil => intro _; simp
    | cons x xs ih =>
      intro h
      have h1 := h x (by simp)
      have h2 := ih (fun y hy => h y (by simp [hy]))
      rw [List.sum_cons, List.length_cons]
      push_cast
      rw [Int.mul_add]
      omega
  have h1 := key (wts l) hle
  have h2 : B * ((wts l).length : Int) ≤ B * (l.length : Int) := Int.mul_le_mul_of_nonneg_left (by have := wts_len l; omega) hB
  omega

/-- How the words of small weights are told. -/
theorem Lens_small (l : List Int) (hl : l.length ≤ 300) (h : ∀ x, x ∈ l → 0 ≤ x ∧ x ≤ 1048576) (hs : (wts l).sum ≤ 1596) : Lens l 15 = (dpt l, 0) := by
  have hok : freqOk l = true := by
    unfold freqOk
    rw [List.all_eq_true]
    exact fun x hx => by simpa using h x hx
  have hu : used l ≤ l.length := by
    rw [← used_leafs l (fun x hx => (h x hx).1)]
    have := leafs_le l
    omega
  rw [Lens, if_pos ⟨hl, by decide, by decide, hok, by
    have : (2 : Int) ^ (15 : Int).toNat = 32768 := by decide
    omega⟩]
  have : lens 20 15 l = dpt l := by rw [lens, if_pos (dpt_small l hs)]
  rw [this]

end Go.Proofs.Ythgijppajindpaa
