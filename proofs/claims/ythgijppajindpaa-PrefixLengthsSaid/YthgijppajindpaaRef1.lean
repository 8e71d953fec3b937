/-
  The document's own depths, as they are printed, are the plain ones.
-/
import Derived.Test.YthgijppajindpaaLen1
import Derived.Test.YthgijppajindpaaL7x5
set_option linter.unusedVariables false
set_option linter.unusedSimpArgs false
namespace Go.Proofs.Ythgijppajindpaa
open Go.RowKit Go.Proofs.YthgijppajindpaaW.PrintWords Go.Proofs.Ythgijppajindpaa.L7

/-- From some number of rounds on. -/
def Ev (p : Nat → Prop) : Prop := ∃ K, ∀ k, K ≤ k → p k

theorem Ev.mk {p : Nat → Prop} (K : Nat) (h : ∀ k, K ≤ k → p k) : Ev p := ⟨K, h⟩
theorem Ev.and {p q : Nat → Prop} (h : Ev p) (h' : Ev q) : Ev fun k => p k ∧ q k := by
  obtain ⟨a, ha⟩ := h
  obtain ⟨b, hb⟩ := h'
  exact ⟨max a b, fun k hk => ⟨ha k (by omega), hb k (by omega)⟩⟩
/-- One round more. -/
theorem Ev.succ {p q : Nat → Prop} (h : Ev p) (hs : ∀ k, p k → q (k + 1)) : Ev q := by
  obtain ⟨a, ha⟩ := h
  refine ⟨a + 1, fun k hk => ?_⟩
  obtain ⟨k', rfl⟩ : ∃ k', k = k' + 1 := ⟨k - 1, by omega⟩
  exact hs k' (ha k' (by omega))
theorem Ev.imp {p q : Nat → Prop} (h : Ev p) (hs : ∀ k, p k → q k) : Ev q := by
  obtain ⟨a, ha⟩ := h
  exact ⟨a, fun k hk => hs k (ha k hk)⟩
theorem Ev.one {q : Nat → Prop} (hs : ∀ k, q (k + 1)) : Ev q := (Ev.mk (p := fun _ => True) 0 (fun _ _ => trivial)).succ (fun k _ => hs k)
theorem Ev.pure {q : Nat → Prop} (hs : ∀ k, q k) : Ev q := ⟨0, fun k _ => hs k⟩
theorem Ev.ex {p : Nat → Prop} (h : Ev p) : ∃ k, p k := by
  obtain ⟨a, ha⟩ := h
  exact ⟨a, ha a (Nat.le_refl _)⟩

theorem w64 {x : Int} (h : -9223372036854775808 ≤ x ∧ x ≤ 9223372036854775807) : wrap64 x = x := IntWalk.wrap64_in x h

/-! ### the lightest -/
/-- The first of the lightest stands at p. -/
def First (w : Nat → Int) (p n : Nat) : Prop := (∀ q, q < p → w p < w q) ∧ ∀ q, q < n → w p ≤ w q

theorem first_unique {w : Nat → Int} {p q n : Nat} (hp : p < n) (hq : q < n) (h : First w p n) (h' : First w q n) : p = q := by
  rcases Nat.lt_trichotomy p q with e | e | e
  · have := h'.1 p e; have := h.2 q hq; omega
  · exact e
  · have := h.1 q e; have := h'.2 p hp; omega

theorem light_loop (l : List S121) (hn : l.length < 1000000) (d : Nat) : ∀ j at_, j + d = l.length → at_ < l.length → First (fun q => (l.getD q z121).f0) at_ j →
    ∃ p, p < l.length ∧ First (fun q => (l.getD q z121).f0) p l.length ∧ Ev fun k => hanaperref07_lightest.l0 k l at_ j = some (p : Int) := by
  induction d with
  | zero =>
    intro j at_ hj ha hf
    have : j = l.length := by omega
    subst this
    refine ⟨at_, ha, hf, Ev.one fun k => ?_⟩
    rw [hanaperref07_lightest.l0, if_neg (by omega)]
  | succ d ih =>
    intro j at_ hj ha hf
    have hw : wrap64 ((j : Int) + 1) = ((j + 1 : Nat) : Int) := by rw [w64 (by omega)]; rfl
    by_cases h : (l.getD j z121).f0 < (l.getD at_ z121).f0
    · obtain ⟨p, h1, h2, h3⟩ := ih (j + 1) j (by omega) (by omega) ⟨fun q hq => by have := hf.2 q hq; dsimp only at *; omega, fun q hq => by
        by_cases e : q = j
        · subst e; exact Int.le_refl _
        · have := hf.2 q (by omega); dsimp only at *; omega⟩
      refine ⟨p, h1, h2, h3.succ fun k hk => ?_⟩
      rw [hanaperref07_lightest.l0, if_pos (by omega), if_pos (by omega), if_pos (by omega), if_pos (by omega), if_pos (by simpa [rd_T121] using h), hw]
      exact hk
    · obtain ⟨p, h1, h2, h3⟩ := ih (j + 1) at_ (by omega) ha ⟨hf.1, fun q hq => by
        by_cases e : q = j
        · subst e; dsimp only at *; omega
        · exact hf.2 q (by omega)⟩
      refine ⟨p, h1, h2, h3.succ fun k hk => ?_⟩
      rw [hanaperref07_lightest.l0, if_pos (by omega), if_pos (by omega), if_pos (by omega), if_pos (by omega), if_neg (by simpa [rd_T121] using h), hw]
      exact hk

theorem lightest_ev (l : List S121) (hn : l.length < 1000000) {i : Nat} {m : S121} {r : List S121} (h : tm S121.f0 l = some (i, m, r)) :
    Ev fun k => hanaperref07_lightest.f k l = some (i : Int) := by
  obtain ⟨h1, h2, h3, h4⟩ := tm_some h
  have hl := tm_length h
  obtain ⟨p, p1, p2, p3⟩ := light_loop l hn (l.length - 1) 1 0 (by omega) (by omega) ⟨fun q hq => by omega, fun q hq => by
    have : q = 0 := by omega
    subst this; exact Int.le_refl _⟩
  have hm : l.getD i z121 = m := by
    rw [h1, List.getD_eq_getElem?_getD, List.getElem?_insertIdx_self, if_pos h2]
    rfl
  have hi : i < l.length := by omega
  have hf : First (fun q => (l.getD q z121).f0) i l.length := by
    constructor
    · intro q hq
      dsimp only
      rw [hm]
      have e : l.getD q z121 = r.getD q z121 := by
        rw [h1, List.getD_eq_getElem?_getD, List.getElem?_insertIdx_of_lt hq, ← List.getD_eq_getElem?_getD]
      rw [e]
      apply h4
      rw [List.getD_eq_getElem?_getD, List.getElem?_eq_getElem (by omega)]
      rw [List.mem_take_iff_getElem]
      exact ⟨q, by omega, rfl⟩
    · intro q hq
      dsimp only
      rw [hm]
      have hmem : l.getD q z121 ∈ l := by
        rw [List.getD_eq_getElem?_getD, List.getElem?_eq_getElem hq]
        exact List.getElem_mem hq
      rw [h1, List.mem_insertIdx h2, ← h1] at hmem
      rcases hmem with e | e
      · rw [e]; exact Int.le_refl _
      · exact h3 _ e
  rw [first_unique p1 hi p2 hf] at p3
  exact p3.imp fun k hk => hk

/-! ### a tree is taken out -/
theorem take_loop (l : List S121) (hn : l.length < 1000000) (a : Nat) (ha : a < l.length) (d : Nat) : ∀ j, j + d = l.length →
    Ev fun k => hanaperref07_take.l0 k l (a : Int) ((l.take j).eraseIdx a) (j : Int) = some ((l.getD a z121).f0, (l.getD a z121).f1, l.eraseIdx a) := by
  induction d with
  | zero =>
    intro j hj
    have : j = l.length := by omega
    subst this
    refine Ev.one fun k => ?_
    rw [hanaperref07_take.l0, if_neg (by omega), if_pos (by omega), if_pos (by omega), List.take_length]
    rfl
  | succ d ih =>
    intro j hj
    have hw : wrap64 ((j : Int) + 1) = ((j + 1 : Nat) : Int) := by rw [w64 (by omega)]; rfl
    refine (ih (j + 1) (by omega)).succ fun k hk => ?_
    have hjl : j < l.length := by omega
    have hlen : (l.take j).length = j := by rw [List.length_take]; omega
    have hel : ((l.take j).eraseIdx a).length ≤ j := by
      have := List.length_eraseIdx_le (l.take j) a
      omega
    have hg : rd_T121 l (j : Int) = l[j] := by simp [rd_T121, List.getD_eq_getElem?_getD, List.getElem?_eq_getElem hjl]
    rw [hanaperref07_take.l0, if_pos (by omega)]
    rw [List.take_succ_eq_append_getElem hjl] at hk
    by_cases e : j = a
    · subst e
      rw [if_pos rfl, hw]
      rw [List.eraseIdx_append_of_length_le (by omega), hlen, Nat.sub_self] at hk
      rw [List.eraseIdx_of_length_le (by omega)]
      simpa using hk
    · rw [if_neg (by omega), if_pos (by omega), if_pos (by omega), hw, hg]
      by_cases h : j < a
      · rw [List.eraseIdx_of_length_le (by simp; omega)] at hk
        rw [List.eraseIdx_of_length_le (by omega)]
        exact hk
      · rw [List.eraseIdx_append_of_lt_length (by omega)] at hk
        exact hk

theorem take_ev (l : List S121) (hn : l.length < 1000000) {i : Nat} {m : S121} {r : List S121} (h : tm S121.f0 l = some (i, m, r)) :
    Ev fun k => hanaperref07_take.f k l (i : Int) = some (m.f0, m.f1, r) := by
  obtain ⟨h1, h2, h3, h4⟩ := tm_some h
  have hl := tm_length h
  have hm : l.getD i z121 = m := by
    rw [h1, List.getD_eq_getElem?_getD, List.getElem?_insertIdx_self, if_pos h2]
    rfl
  have he : l.eraseIdx i = r := by rw [h1, List.eraseIdx_insertIdx_self]
  have := take_loop l hn i (by omega) l.length 0 (by omega)
  rw [hm, he] at this
  refine this.imp fun k hk => ?_
  rw [hanaperref07_take.f]
  simpa using hk

end Go.Proofs.Ythgijppajindpaa
