/-
  slices.SortStableFunc as plain arrays: what it leaves is in order, by the weights and then by the places.
-/
import Derived.Test.YthgijppajindpaaStb5
set_option linter.unusedVariables false
set_option linter.unusedSimpArgs false
namespace Go.Proofs.Ythgijppajindpaa
open Go.Sort
variable {α : Type} [Inhabited α]

/-! ### The moves, place by place -/
theorem swapLoop_get (a b n : Nat) (k : Nat) : ∀ (i : Nat) (d : Array α), n - i = k → a + n ≤ b → b + n ≤ d.size → ∀ q,
    (swapLoop a b n i d)[q]! = if a + i ≤ q ∧ q < a + n then d[q + (b - a)]! else if b + i ≤ q ∧ q < b + n then d[q - (b - a)]! else d[q]! := by
  induction k with
  | zero =>
    intro i d hk hab hb q
    rw [swapLoop, if_neg (by omega), if_neg (by omega), if_neg (by omega)]
  | succ k ih =>
    intro i d hk hab hb q
    rw [swapLoop, if_pos (by omega), ih (i + 1) _ (by omega) hab (by rw [swp_size]; exact hb)]
    have g := swp_get d (show a + i < d.size by omega) (show b + i < d.size by omega)
    rw [g, g, g]
    by_cases h1 : q = a + i
    · subst h1
      rw [if_neg (by omega), if_neg (by omega), if_neg (by omega), if_pos rfl, if_pos (by omega)]
      congr 1; omega
    · by_cases h2 : q = b + i
      · subst h2
        rw [if_neg (by omega), if_neg (by omega), if_pos rfl, if_neg (by omega), if_pos (by omega)]
        congr 1; omega
      · by_cases h3 : a + i ≤ q ∧ q < a + n
        · rw [if_pos (by omega), if_neg (by omega), if_neg (by omega), if_pos h3]
        · rw [if_neg (by omega), if_neg h3]
          by_cases h4 : b + i ≤ q ∧ q < b + n
          · rw [if_pos (by omega), if_neg (by omega), if_neg (by omega), if_pos h4]
          · rw [if_neg (by omega), if_neg h2, if_neg h1, if_neg h4]

theorem swapLoop_perm (a b n lo hi : Nat) (k : Nat) : ∀ (i : Nat) (d : Array α), n - i = k → lo ≤ a → lo ≤ b → a + n ≤ hi → b + n ≤ hi → hi ≤ d.size → PermIn lo hi d (swapLoop a b n i d) := by
  induction k with
  | zero =>
    intro i d hk h1 h2 h3 h4 h5
    rw [swapLoop, if_neg (by omega)]
    exact permIn_refl _ _ _
  | succ k ih =>
    intro i d hk h1 h2 h3 h4 h5
    rw [swapLoop, if_pos (by omega)]
    exact permIn_trans _ _ _ _ _ (swp_permIn d lo hi (a + i) (b + i) (by omega) (by omega) (by omega) (by omega) h5) (ih (i + 1) _ (by omega) h1 h2 h3 h4 (by rw [swp_size]; exact h5))

theorem rot_get (m : Nat) : ∀ (k i j : Nat) (d : Array α), i + j ≤ k → 0 < i → 0 < j → i ≤ m → m + j ≤ d.size → ∀ q,
    (rot m k i j d)[q]! = if m - i ≤ q ∧ q < m - i + j then d[q + i]! else if m - i + j ≤ q ∧ q < m + j then d[q - j]! else d[q]!
  | 0, i, j, d, hk, hi, hj, him, hs, q => by omega
  | k + 1, i, j, d, hk, hi, hj, him, hs, q => by
    rw [rot]
    split
    · rename_i e
      subst e
      rw [swapLoop_get (m - i) m i i 0 d rfl (by omega) hs]
      by_cases h1 : m - i ≤ q ∧ q < m - i + i
      · rw [if_pos (by omega), if_pos h1]
        congr 1; omega
      · rw [if_neg (by omega), if_neg h1]
        by_cases h2 : m - i + i ≤ q ∧ q < m + i
        · rw [if_pos (by omega), if_pos h2]
          congr 1; omega
        · rw [if_neg (by omega), if_neg h2]
    · split
      · have g := swapLoop_get (m - i) m j j 0 d rfl (by omega) hs
        rw [rot_get m k (i - j) j _ (by omega) (by omega) hj (by omega) (by rw [size_swapLoop]; exact hs), g, g, g]
        by_cases h1 : m - i ≤ q ∧ q < m - i + j
        · rw [if_neg (by omega), if_neg (by omega), if_pos (by omega), if_pos h1]
          congr 1; omega
        · rw [if_neg h1]
          by_cases h2 : m - i + j ≤ q ∧ q < m + j
          · rw [if_pos h2]
            by_cases h3 : q < m - (i - j) + j
            · rw [if_pos (by omega), if_neg (by omega), if_pos (by omega)]
              congr 1; omega
            · rw [if_neg (by omega), if_pos (by omega), if_neg (by omega), if_neg (by omega)]
          · rw [if_neg (by omega), if_neg (by omega), if_neg (by omega), if_neg (by omega), if_neg (by omega)]
      · have g := swapLoop_get (m - i) (m + j - i) i i 0 d rfl (by omega) (by omega)
        rw [rot_get m k i (j - i) _ (by omega) hi (by omega) him (by rw [size_swapLoop]; omega), g, g, g]
        by_cases h1 : m - i ≤ q ∧ q < m - i + j
        · rw [if_pos h1]
          by_cases h3 : q < m - i + (j - i)
          · rw [if_pos (by omega), if_neg (by omega), if_neg (by omega)]
          · rw [if_neg (by omega)]
            by_cases h4 : q < m + (j - i)
            · rw [if_pos (by omega), if_pos (by omega)]
              congr 1; omega
            · omega
        · rw [if_neg h1]
          by_cases h2 : m - i + j ≤ q ∧ q < m + j
          · rw [if_pos h2]
            rw [if_neg (by omega), if_neg (by omega), if_neg (by omega), if_pos (by omega)]
            congr 1; omega
          · rw [if_neg (by omega), if_neg (by omega), if_neg (by omega), if_neg (by omega), if_neg (by omega)]

theorem rot_perm (m lo hi : Nat) : ∀ (k i j : Nat) (d : Array α), 0 < i → 0 < j → lo + i ≤ m → m + j ≤ hi → hi ≤ d.size → PermIn lo hi d (rot m k i j d)
  | 0, i, j, d, hi0, hj, h1, h2, h3 => permIn_refl _ _ _
  | k + 1, i, j, d, hi0, hj, h1, h2, h3 => by
    rw [rot]
    split
    · exact swapLoop_perm _ _ _ _ _ _ 0 d rfl (by omega) (by omega) (by omega) (by omega) h3
    · split
      · exact permIn_trans _ _ _ _ _ (swapLoop_perm _ _ _ _ _ _ 0 d rfl (by omega) (by omega) (by omega) (by omega) h3)
          (rot_perm m lo hi k (i - j) j _ (by omega) hj (by omega) h2 (by rw [size_swapLoop]; exact h3))
      · exact permIn_trans _ _ _ _ _ (swapLoop_perm _ _ _ _ _ _ 0 d rfl (by omega) (by omega) (by omega) (by omega) h3)
          (rot_perm m lo hi k i (j - i) _ hi0 (by omega) h1 (by omega) (by rw [size_swapLoop]; exact h3))

theorem upLoop_get (e : Nat) (n : Nat) : ∀ (k : Nat) (d : Array α), e - k = n → e < d.size → ∀ q,
    (upLoop k e d)[q]! = if k ≤ q ∧ q < e then d[q + 1]! else if k ≤ e ∧ q = e then d[k]! else d[q]! := by
  induction n with
  | zero =>
    intro k d hn he q
    rw [upLoop, if_neg (by omega), if_neg (by omega)]
    split
    · congr 1; omega
    · rfl
  | succ n ih =>
    intro k d hn he q
    rw [upLoop, if_pos (by omega), ih (k + 1) _ (by omega) (by rw [swp_size]; exact he)]
    have g := swp_get d (show k < d.size by omega) (show k + 1 < d.size by omega)
    rw [g, g, g]
    by_cases h1 : k ≤ q ∧ q < e
    · rw [if_pos h1]
      by_cases h2 : q = k
      · subst h2
        rw [if_neg (by omega), if_neg (by omega), if_neg (by omega), if_pos rfl]
      · rw [if_pos (by omega), if_neg (by omega), if_neg (by omega)]
    · rw [if_neg h1, if_neg (by omega)]
      by_cases h2 : q = e
      · rw [if_pos (by omega), if_pos rfl, if_pos (by omega)]
      · rw [if_neg (by omega), if_neg (by omega), if_neg (by omega), if_neg (by omega)]

theorem upLoop_perm (e lo hi : Nat) (n : Nat) : ∀ (k : Nat) (d : Array α), e - k = n → lo ≤ k → e < hi → hi ≤ d.size → PermIn lo hi d (upLoop k e d) := by
  induction n with
  | zero =>
    intro k d hn h1 h2 h3
    rw [upLoop, if_neg (by omega)]
    exact permIn_refl _ _ _
  | succ n ih =>
    intro k d hn h1 h2 h3
    rw [upLoop, if_pos (by omega)]
    exact permIn_trans _ _ _ _ _ (swp_permIn d lo hi k (k + 1) (by omega) (by omega) (by omega) (by omega) h3) (ih (k + 1) _ (by omega) (by omega) h2 (by rw [swp_size]; exact h3))

theorem downLoop_get (i : Nat) : ∀ (k : Nat) (d : Array α), i ≤ k → k < d.size → ∀ q,
    (downLoop i k d)[q]! = if i < q ∧ q ≤ k then d[q - 1]! else if q = i then d[k]! else d[q]!
  | 0, d, hi, hk, q => by
    rw [downLoop, if_neg (by omega)]
    split
    · congr 1; omega
    · rfl
  | k + 1, d, hi, hk, q => by
    rw [downLoop]
    split
    · rw [downLoop_get i k _ (by omega) (by rw [swp_size]; omega)]
      have g := swp_get d (show k + 1 < d.size by omega) (show k < d.size by omega)
      rw [g, g, g]
      by_cases h1 : i < q ∧ q ≤ k + 1
      · rw [if_pos h1]
        by_cases h2 : q = k + 1
        · subst h2
          rw [if_neg (by omega), if_neg (by omega), if_neg (by omega), if_pos rfl]
          rfl
        · rw [if_pos (by omega), if_neg (by omega), if_neg (by omega)]
      · rw [if_neg h1, if_neg (by omega)]
        by_cases h2 : q = i
        · rw [if_pos h2, if_pos rfl, if_pos h2]
        · rw [if_neg h2, if_neg (by omega), if_neg (by omega), if_neg h2]
    · have : i = k + 1 := by omega
      subst this
      rw [if_neg (by omega)]
      split
      · congr 1
      · rfl

theorem downLoop_perm (i lo hi : Nat) : ∀ (k : Nat) (d : Array α), lo ≤ i → k < hi → hi ≤ d.size → PermIn lo hi d (downLoop i k d)
  | 0, d, h1, h2, h3 => permIn_refl _ _ _
  | k + 1, d, h1, h2, h3 => by
    rw [downLoop]
    split
    · exact permIn_trans _ _ _ _ _ (swp_permIn d lo hi (k + 1) k (by omega) (by omega) (by omega) (by omega) h3) (downLoop_perm i lo hi k _ h1 (by omega) (by rw [swp_size]; exact h3))
    · exact permIn_refl _ _ _

theorem bs_edge (p : Nat → Bool) : ∀ (k i j : Nat), i ≤ j → j - i ≤ k → (bs p k i j = i ∨ p (bs p k i j - 1) = true) ∧ (bs p k i j = j ∨ p (bs p k i j) = false)
  | 0, i, j, h, hk => ⟨.inl rfl, .inl (by rw [bs]; omega)⟩
  | k + 1, i, j, h, hk => by
    rw [bs]
    split
    · split
      · rename_i hp
        obtain ⟨h1, h2⟩ := bs_edge p k ((i + j) / 2 + 1) j (by omega) (by omega)
        refine ⟨?_, h2⟩
        rcases h1 with h1 | h1
        · right; rw [h1]; exact hp
        · exact .inr h1
      · rename_i hp
        obtain ⟨h1, h2⟩ := bs_edge p k i ((i + j) / 2) (by omega) (by omega)
        refine ⟨h1, ?_⟩
        rcases h2 with h2 | h2
        · right; rw [h2]; simpa using hp
        · exact .inr h2
    · exact ⟨.inl rfl, .inl (by omega)⟩

/-! ### The order by weights, then by places -/
def lt2 (lt : α → α → Bool) (pos : α → Nat) (x y : α) : Bool := lt x y || (!lt y x && decide (pos x < pos y))

omit [Inhabited α] in
theorem swo_lt2 {lt : α → α → Bool} (h : SWO lt) (pos : α → Nat) : SWO (lt2 lt pos) where
  irrefl x := by simp [lt2, h.irrefl]
  trans x y z h1 h2 := by
    simp only [lt2, Bool.or_eq_true, Bool.and_eq_true, Bool.not_eq_true', decide_eq_true_eq] at *
    rcases h1 with h1 | ⟨h1, h1'⟩ <;> rcases h2 with h2 | ⟨h2, h2'⟩
    · exact .inl (h.trans _ _ _ h1 h2)
    · left
      cases e : lt x z with
      | true => rfl
      | false => have := h.ntrans _ _ _ e h2; rw [h1] at this; cases this
    · left
      cases e : lt x z with
      | true => rfl
      | false => have := h.ntrans _ _ _ h1 e; rw [h2] at this; cases this
    · exact .inr ⟨h.ntrans _ _ _ h2 h1, by omega⟩
  ntrans x y z h1 h2 := by
    simp only [lt2, Bool.or_eq_false_iff, Bool.and_eq_false_iff, Bool.not_eq_false', decide_eq_false_iff_not] at *
    refine ⟨h.ntrans _ _ _ h1.1 h2.1, ?_⟩
    rcases h1.2 with a | a
    · left
      cases e : lt z x with
      | true => rfl
      | false => have := h.ntrans _ _ _ h2.1 e; rw [a] at this; cases this
    · rcases h2.2 with b | b
      · left
        cases e : lt z x with
        | true => rfl
        | false => have := h.ntrans _ _ _ e h1.1; rw [b] at this; cases this
      · right; omega

omit [Inhabited α] in
theorem lt2_pos {lt : α → α → Bool} (h : SWO lt) {pos : α → Nat} {x y : α} (hp : pos x < pos y) : lt2 lt pos y x = lt y x ∧ lt2 lt pos x y = !lt y x := by
  constructor
  · simp [lt2, show ¬ pos y < pos x by omega]
  · cases e : lt y x with
    | true => simp [lt2, h.asymmA e, e]
    | false => simp [lt2, e, hp]

/-- The places of the left run come ahead of those of the right one. -/
def Cross (pos : α → Nat) (a m b : Nat) (d : Array α) : Prop := ∀ p q, a ≤ p → p < m → m ≤ q → q < b → pos d[p]! < pos d[q]!

theorem sortedIn_sub {lt : α → α → Bool} {a b a' b' : Nat} {d d' : Array α} (h : SortedIn lt a b d) (k : Nat) (ha : a ≤ a' + k) (hb : b' + k ≤ b) (he : ∀ p, a' ≤ p → p < b' → d'[p]! = d[p + k]!) : SortedIn lt a' b' d' := by
  intro p q h1 h2 h3
  rw [he p h1 (by omega), he q (by omega) h3]
  exact h (p + k) (q + k) (by omega) (by omega) (by omega)

theorem SortedIn.le {lt : α → α → Bool} (hS : SWO lt) {a b : Nat} {d : Array α} (h : SortedIn lt a b d) {p q : Nat} (h1 : a ≤ p) (h2 : p ≤ q) (h3 : q < b) : lt d[q]! d[p]! = false := by
  by_cases e : p = q
  · subst e; exact hS.irrefl _
  · exact h p q h1 (by omega) h3

theorem permIn_get {a b : Nat} {d d' : Array α} (h : PermIn a b d d') (hb : b ≤ d.size) {q : Nat} (h1 : a ≤ q) (h2 : q < b) : ∃ p, a ≤ p ∧ p < b ∧ d'[q]! = d[p]! :=
  permIn_all d d' a b (fun x => ∃ p, a ≤ p ∧ p < b ∧ x = d[p]!) hb h (fun i h1 h2 => ⟨i, h1, h2, rfl⟩) q h1 h2

section
variable {lt : α → α → Bool} (hS : SWO lt) (pos : α → Nat)
include hS

theorem symM_spec : ∀ (k a m b : Nat) (d : Array α), a < m → m < b → b ≤ d.size → b - a ≤ k → SortedIn (lt2 lt pos) a m d → SortedIn (lt2 lt pos) m b d → Cross pos a m b d →
    PermIn a b d (symM lt k a m b d) ∧ SortedIn (lt2 lt pos) a b (symM lt k a m b d)
  | 0, a, m, b, d, h1, h2, h3, h4, _, _, _ => by omega
  | k + 1, a, m, b, d, h1, h2, h3, h4, sl, sr, hc => by
    have hS2 := swo_lt2 hS pos
    rw [symM]
    split
    · -- one element on the left
      rename_i hm
      obtain ⟨r1, r2⟩ := bs_range (fun h => lt d[h]! d[a]!) (b - m) m b (by omega)
      obtain ⟨e1, e2⟩ := bs_edge (fun h => lt d[h]! d[a]!) (b - m) m b (by omega) (by omega)
      generalize bs (fun h => lt d[h]! d[a]!) (b - m) m b = i at r1 r2 e1 e2 ⊢
      refine ⟨upLoop_perm _ _ _ _ a d rfl (Nat.le_refl _) (by omega) h3, ?_⟩
      have g := upLoop_get (i - 1) (i - 1 - a) a d rfl (by omega)
      have hlow : ∀ q, m ≤ q → q < i → lt2 lt pos d[q]! d[a]! = true := fun q hq1 hq2 => by
        rcases e1 with e1 | e1
        · omega
        · have c1 := (lt2_pos hS (hc a (i - 1) (Nat.le_refl _) h1 (by omega) (by omega))).1
          cases e : lt2 lt pos d[q]! d[a]! with
          | true => rfl
          | false =>
            have := hS2.ntrans _ _ _ (SortedIn.le hS2 sr hq1 (show q ≤ i - 1 by omega) (by omega)) e
            rw [c1, e1] at this; cases this
      have hhigh : ∀ q, i ≤ q → q < b → lt2 lt pos d[a]! d[q]! = true := fun q hq1 hq2 => by
        rcases e2 with e2 | e2
        · omega
        · have c1 := (lt2_pos hS (hc a i (Nat.le_refl _) h1 (by omega) (by omega))).2
          rw [e2] at c1
          cases e : lt2 lt pos d[a]! d[q]! with
          | true => rfl
          | false =>
            have := hS2.ntrans _ _ _ e (SortedIn.le hS2 sr (by omega) hq1 hq2)
            rw [c1] at this; cases this
      intro p q hp hpq hq
      rw [g, g]
      by_cases c1 : a ≤ q ∧ q < i - 1
      · rw [if_pos c1, if_pos (by omega)]
        exact sr _ _ (by omega) (by omega) (by omega)
      · rw [if_neg c1]
        by_cases c2 : q = i - 1
        · rw [if_pos (by omega), if_pos (by omega)]
          exact hS2.asymmA (hlow _ (by omega) (by omega))
        · rw [if_neg (by omega)]
          by_cases c3 : p < i - 1
          · rw [if_pos (by omega)]
            exact SortedIn.le hS2 sr (by omega) (by omega) (by omega)
          · rw [if_neg (by omega)]
            by_cases c4 : p = i - 1
            · rw [if_pos (by omega)]
              exact hS2.asymmA (hhigh _ (by omega) (by omega))
            · rw [if_neg (by omega)]
              exact sr _ _ (by omega) (by omega) (by omega)
    · split
      · -- one element on the right
        rename_i _ hm
        obtain ⟨r1, r2⟩ := bs_range (fun h => !lt d[m]! d[h]!) (m - a) a m (by omega)
        obtain ⟨e1, e2⟩ := bs_edge (fun h => !lt d[m]! d[h]!) (m - a) a m (by omega) (by omega)
        generalize bs (fun h => !lt d[m]! d[h]!) (m - a) a m = i at r1 r2 e1 e2 ⊢
        refine ⟨downLoop_perm _ _ _ m d (by omega) (by omega) h3, ?_⟩
        have g := downLoop_get i m d (by omega) (by omega)
        have hlow : ∀ q, a ≤ q → q < i → lt2 lt pos d[m]! d[q]! = false := fun q hq1 hq2 => by
          rcases e1 with e1 | e1
          · omega
          · have c1 := (lt2_pos hS (hc (i - 1) m (by omega) (by omega) (by omega) (by omega))).1
            simp only [Bool.not_eq_true'] at e1
            rw [e1] at c1
            exact hS2.ntrans _ _ _ c1 (SortedIn.le hS2 sl hq1 (by omega) (by omega))
        have hhigh : ∀ q, i ≤ q → q < m → lt2 lt pos d[m]! d[q]! = true := fun q hq1 hq2 => by
          rcases e2 with e2 | e2
          · omega
          · have c1 := (lt2_pos hS (hc i m (by omega) (by omega) (by omega) (by omega))).1
            simp only [Bool.not_eq_false'] at e2
            cases e : lt2 lt pos d[m]! d[q]! with
            | true => rfl
            | false =>
              have := hS2.ntrans _ _ _ e (SortedIn.le hS2 sl (by omega) hq1 hq2)
              rw [c1, e2] at this; cases this
        intro p q hp hpq hq
        rw [g, g]
        by_cases c1 : i < p
        · rw [if_pos (by omega), if_pos (by omega)]
          exact sl _ _ (by omega) (by omega) (by omega)
        · rw [if_neg (show ¬ (i < p ∧ p ≤ m) by omega)]
          by_cases c2 : p = i
          · rw [if_pos c2, if_pos (by omega)]
            exact hS2.asymmA (hhigh _ (by omega) (by omega))
          · rw [if_neg c2]
            by_cases c3 : i < q
            · rw [if_pos (by omega)]
              exact SortedIn.le hS2 sl (by omega) (by omega) (by omega)
            · rw [if_neg (by omega)]
              by_cases c4 : q = i
              · rw [if_pos c4]
                exact hlow _ (by omega) (by omega)
              · rw [if_neg c4]
                exact sl _ _ (by omega) (by omega) (by omega)
      · rename_i hm1 hm2
        obtain ⟨mid, hmid⟩ : ∃ x, symMid a b = x := ⟨_, rfl⟩
        have hmid2 : mid = (a + b) / 2 := by rw [← hmid]; rfl
        have hs0 : symS0 a m b ≤ symR0 a m b := by unfold symS0 symR0; rw [hmid]; split <;> omega
        obtain ⟨r1, r2⟩ := bs_range (fun c => !lt d[symMid a b + m - 1 - c]! d[c]!) (symR0 a m b - symS0 a m b) (symS0 a m b) (symR0 a m b) hs0
        obtain ⟨e1, e2⟩ := bs_edge (fun c => !lt d[symMid a b + m - 1 - c]! d[c]!) (symR0 a m b - symS0 a m b) (symS0 a m b) (symR0 a m b) hs0 (by omega)
        dsimp only
        rw [show symStart lt a m b d = bs (fun c => !lt d[symMid a b + m - 1 - c]! d[c]!) (symR0 a m b - symS0 a m b) (symS0 a m b) (symR0 a m b) from rfl]
        generalize bs (fun c => !lt d[symMid a b + m - 1 - c]! d[c]!) (symR0 a m b - symS0 a m b) (symS0 a m b) (symR0 a m b) = s at r1 r2 e1 e2 ⊢
        rw [hmid] at e1 e2 ⊢
        obtain ⟨e, he⟩ : ∃ x, mid + m - s = x := ⟨_, rfl⟩
        rw [he]
        have B1 : a ≤ s ∧ s ≤ m ∧ s ≤ mid ∧ m ≤ e ∧ e ≤ b ∧ mid ≤ e := by
          unfold symS0 at r1
          unfold symR0 at r2
          rw [hmid] at r1 r2
          split at r1 <;> rename_i hx
          · rw [if_pos hx] at r2; omega
          · rw [if_neg hx] at r2; omega
        -- the parting
        have F1 : ∀ x y, a ≤ x → x < s → e ≤ y → y < b → lt2 lt pos d[y]! d[x]! = false := fun x y x1 x2 y1 y2 => by
          have hs : s ≠ symS0 a m b := fun h => by
            unfold symS0 at h
            rw [hmid] at h
            split at h <;> omega
          rcases e1 with e1 | e1
          · exact absurd e1 hs
          · simp only [Bool.not_eq_true'] at e1
            rw [show mid + m - 1 - (s - 1) = e by omega] at e1
            have c1 := (lt2_pos hS (hc (s - 1) e (by omega) (by omega) (by omega) (by omega))).1
            rw [e1] at c1
            exact hS2.ntrans _ _ _ (SortedIn.le hS2 sr (by omega) y1 y2) (hS2.ntrans _ _ _ c1 (SortedIn.le hS2 sl x1 (by omega) (by omega)))
        have F2 : ∀ x y, m ≤ x → x < e → s ≤ y → y < m → lt2 lt pos d[y]! d[x]! = false := fun x y x1 x2 y1 y2 => by
          have hs : s ≠ symR0 a m b := fun h => by
            unfold symR0 at h
            rw [hmid] at h
            split at h <;> omega
          rcases e2 with e2 | e2
          · exact absurd e2 hs
          · simp only [Bool.not_eq_false'] at e2
            rw [show mid + m - 1 - s = e - 1 by omega] at e2
            have c1 := (lt2_pos hS (hc s (e - 1) (by omega) (by omega) (by omega) (by omega))).1
            rw [e2] at c1
            exact hS2.ntrans _ _ _ (SortedIn.le hS2 sl (by omega) y1 y2) (hS2.ntrans _ _ _ (hS2.asymmA c1) (SortedIn.le hS2 sr x1 (by omega) (by omega)))
        -- the turned array
        have T : PermIn a b d (symRot m s e d) ∧ (∀ q, (symRot m s e d)[q]! = if s ≤ q ∧ q < mid then d[q + (m - s)]! else if mid ≤ q ∧ q < e then d[q - (e - m)]! else d[q]!) := by
          unfold symRot
          split
          · rename_i hx
            refine ⟨rot_perm _ _ _ _ _ _ d (by omega) (by omega) (by omega) (by omega) h3, fun q => ?_⟩
            rw [rot_get m (e - s) (m - s) (e - m) d (by omega) (by omega) (by omega) (by omega) (by omega)]
            rw [show m - (m - s) = s by omega, show s + (e - m) = mid by omega, show m + (e - m) = e by omega]
          · rename_i hx
            refine ⟨permIn_refl _ _ _, fun q => ?_⟩
            by_cases hsm : s = m
            · split
              · congr 1; omega
              · rw [if_neg (by omega)]
            · rw [if_neg (by omega)]
              split
              · congr 1; omega
              · rfl
        obtain ⟨P1, G1⟩ := T
        generalize symRot m s e d = d1 at P1 G1 ⊢
        have sz1 : d1.size = d.size := P1.1
        have gA : ∀ q, q < s → d1[q]! = d[q]! := fun q h => by rw [G1, if_neg (by omega), if_neg (by omega)]
        have gB : ∀ q, s ≤ q → q < mid → d1[q]! = d[q + (m - s)]! := fun q h h' => by rw [G1, if_pos ⟨h, h'⟩]
        have gC : ∀ q, mid ≤ q → q < e → d1[q]! = d[q - (e - m)]! := fun q h h' => by rw [G1, if_neg (by omega), if_pos ⟨h, h'⟩]
        have gD : ∀ q, e ≤ q → d1[q]! = d[q]! := fun q h => by rw [G1, if_neg (by omega), if_neg (by omega)]
        have L1 : ∀ x, a ≤ x → x < mid → ∀ y, mid ≤ y → y < b → lt2 lt pos d1[y]! d1[x]! = false := fun x x1 x2 y y1 y2 => by
          by_cases c1 : x < s
          · rw [gA x c1]
            by_cases c2 : y < e
            · rw [gC y y1 c2]
              exact sl _ _ (by omega) (by omega) (by omega)
            · rw [gD y (by omega)]
              exact F1 x y x1 c1 (by omega) y2
          · rw [gB x (by omega) x2]
            by_cases c2 : y < e
            · rw [gC y y1 c2]
              exact F2 _ _ (by omega) (by omega) (by omega) (by omega)
            · rw [gD y (by omega)]
              exact sr _ _ (by omega) (by omega) (by omega)
        have S1 : SortedIn (lt2 lt pos) a s d1 := fun p q hp hpq hq => by rw [gA p (by omega), gA q hq]; exact sl _ _ hp hpq (by omega)
        have S2 : SortedIn (lt2 lt pos) s mid d1 := fun p q hp hpq hq => by rw [gB p hp (by omega), gB q (by omega) hq]; exact sr _ _ (by omega) (by omega) (by omega)
        have S3 : SortedIn (lt2 lt pos) mid e d1 := fun p q hp hpq hq => by rw [gC p hp (by omega), gC q (by omega) hq]; exact sl _ _ (by omega) (by omega) (by omega)
        have S4 : SortedIn (lt2 lt pos) e b d1 := fun p q hp hpq hq => by rw [gD p hp, gD q (by omega)]; exact sr _ _ (by omega) (by omega) (by omega)
        have C1 : Cross pos a s mid d1 := fun p q a1 a2 a3 a4 => by rw [gA p a2, gB q a3 a4]; exact hc _ _ a1 (by omega) (by omega) (by omega)
        have C2 : Cross pos mid e b d1 := fun p q a1 a2 a3 a4 => by rw [gC p a1 a2, gD q a3]; exact hc _ _ (by omega) (by omega) (by omega) (by omega)
        -- the left half
        have Q1 : PermIn a mid d1 (if a < s ∧ s < mid then symM lt k a s mid d1 else d1) ∧ SortedIn (lt2 lt pos) a mid (if a < s ∧ s < mid then symM lt k a s mid d1 else d1) := by
          split
          · rename_i hx
            exact symM_spec k a s mid d1 hx.1 hx.2 (by omega) (by omega) S1 S2 C1
          · refine ⟨permIn_refl _ _ _, ?_⟩
            by_cases c : s = mid
            · rw [← c]; exact S1
            · rw [show a = s by omega]; exact S2
        generalize (if a < s ∧ s < mid then symM lt k a s mid d1 else d1) = d2 at Q1 ⊢
        obtain ⟨P2, T2⟩ := Q1
        have sz2 : d2.size = d1.size := P2.1
        have keep2 : ∀ q, mid ≤ q → d2[q]! = d1[q]! := fun q h => P2.2.1 q (.inr h)
        have S3' : SortedIn (lt2 lt pos) mid e d2 := fun p q hp hpq hq => by rw [keep2 p hp, keep2 q (by omega)]; exact S3 _ _ hp hpq hq
        have S4' : SortedIn (lt2 lt pos) e b d2 := fun p q hp hpq hq => by rw [keep2 p (by omega), keep2 q (by omega)]; exact S4 _ _ hp hpq hq
        have C2' : Cross pos mid e b d2 := fun p q a1 a2 a3 a4 => by rw [keep2 p (by omega), keep2 q (by omega)]; exact C2 _ _ a1 a2 a3 a4
        have Q2 : PermIn mid b d2 (if mid < e ∧ e < b then symM lt k mid e b d2 else d2) ∧ SortedIn (lt2 lt pos) mid b (if mid < e ∧ e < b then symM lt k mid e b d2 else d2) := by
          split
          · rename_i hx
            exact symM_spec k mid e b d2 hx.1 hx.2 (by omega) (by omega) S3' S4' C2'
          · refine ⟨permIn_refl _ _ _, ?_⟩
            by_cases c : e = b
            · rw [← c]; exact S3'
            · rw [show mid = e by omega]; exact S4'
        generalize (if mid < e ∧ e < b then symM lt k mid e b d2 else d2) = d3 at Q2 ⊢
        obtain ⟨P3, T3⟩ := Q2
        have keep3 : ∀ q, q < mid → d3[q]! = d2[q]! := fun q h => P3.2.1 q (.inl h)
        refine ⟨permIn_trans _ _ _ _ _ P1 (permIn_trans _ _ _ _ _ (permIn_mono _ _ a mid a b (Nat.le_refl _) (by omega) (by omega) P2) (permIn_mono _ _ mid b a b (by omega) (Nat.le_refl _) (by omega) P3)), ?_⟩
        intro p q hp hpq hq
        by_cases c1 : q < mid
        · rw [keep3 p (by omega), keep3 q c1]
          exact T2 _ _ hp hpq c1
        · by_cases c2 : mid ≤ p
          · exact T3 _ _ c2 hpq hq
          · rw [keep3 p (by omega)]
            obtain ⟨p', p1, p2, pe⟩ := permIn_get P2 (by omega) hp (by omega)
            obtain ⟨q', q1, q2, qe⟩ := permIn_get P3 (by omega) (show mid ≤ q by omega) hq
            rw [pe, qe, keep2 q' q1]
            exact L1 _ p1 p2 _ q1 q2

/-! ### The blocks of twenty -/
omit hS in
theorem insInner_perm (lt : α → α → Bool) (a : Nat) : ∀ (j : Nat) (d : Array α), a ≤ j → j < d.size → PermIn a (j + 1) d (insInner lt a j d)
  | 0, d, _, _ => permIn_refl _ _ _
  | j + 1, d, h1, h2 => by
    rw [insInner]
    split
    · rename_i hc
      simp only [Bool.and_eq_true, decide_eq_true_eq] at hc
      exact permIn_trans _ _ _ _ _ (swp_permIn d a (j + 2) (j + 1) j (by omega) (by omega) (by omega) (by omega) (by omega))
        (permIn_mono _ _ a (j + 1) a (j + 2) (Nat.le_refl _) (by omega) (by rw [swp_size]; omega) (insInner_perm lt a j _ (by omega) (by rw [swp_size]; omega)))
    · exact permIn_refl _ _ _

theorem insInner_eq (a : Nat) : ∀ (j : Nat) (d : Array α), j < d.size → (∀ p, a ≤ p → p < j → pos d[p]! < pos d[j]!) → insInner lt a j d = insInner (lt2 lt pos) a j d
  | 0, d, _, _ => rfl
  | j + 1, d, h1, h2 => by
    rw [insInner, insInner]
    by_cases h : j + 1 > a
    · rw [(lt2_pos hS (h2 j (by omega) (by omega))).1]
      split
      · refine insInner_eq a j _ (by rw [swp_size]; omega) (fun p p1 p2 => ?_)
        have g := swp_get d (show j + 1 < d.size by omega) (show j < d.size by omega)
        rw [g, g, if_neg (by omega), if_neg (by omega), if_pos rfl]
        exact h2 p p1 (by omega)
      · rfl
    · rw [if_neg (by simp [h]), if_neg (by simp [h])]

theorem insOuter_eq (a b : Nat) (n : Nat) : ∀ (i : Nat) (d : Array α), b - i = n → a ≤ i → b ≤ d.size → (∀ p q, a ≤ p → p < q → i ≤ q → q < b → pos d[p]! < pos d[q]!) → insOuter lt a b i d = insOuter (lt2 lt pos) a b i d := by
  induction n with
  | zero =>
    intro i d hn _ _ _
    conv => lhs; rw [insOuter]
    conv => rhs; rw [insOuter]
    rw [if_neg (by omega), if_neg (by omega)]
  | succ n ih =>
    intro i d hn h1 h2 h3
    conv => lhs; rw [insOuter]
    conv => rhs; rw [insOuter]
    rw [if_pos (by omega), if_pos (by omega), insInner_eq hS pos a i d (by omega) (fun p p1 p2 => h3 p i p1 p2 (Nat.le_refl _) (by omega))]
    have P := insInner_perm (lt2 lt pos) a i d h1 (by omega)
    refine ih (i + 1) _ (by omega) (by omega) (by rw [P.1]; exact h2) (fun p q p1 p2 q1 q2 => ?_)
    rw [P.2.1 q (.inr q1)]
    by_cases c : p ≤ i
    · obtain ⟨p', a1, a2, e⟩ := permIn_get P (by omega) p1 (show p < i + 1 by omega)
      rw [e]
      exact h3 _ _ a1 (by omega) (by omega) q2
    · rw [P.2.1 p (.inr (by omega))]
      exact h3 _ _ p1 p2 (by omega) q2

theorem insertionSort_pos (a b : Nat) (d : Array α) (hab : a ≤ b) (hb : b ≤ d.size) (hp : ∀ p q, a ≤ p → p < q → q < b → pos d[p]! < pos d[q]!) :
    PermIn a b d (insertionSort lt d a b) ∧ SortedIn (lt2 lt pos) a b (insertionSort lt d a b) := by
  have e : insertionSort lt d a b = insertionSort (lt2 lt pos) d a b := insOuter_eq hS pos a b _ (a + 1) d rfl (by omega) hb (fun p q p1 p2 q1 q2 => hp p q p1 p2 q2)
  rw [e]
  exact insertionSort_holds (swo_lt2 hS pos) d a b hab hb

/-- A block that begins at c, of B places at most: its elements came from there, and are in order. -/
def Blk (lt : α → α → Bool) (pos : α → Nat) (B c n : Nat) (d : Array α) : Prop :=
  (∀ q, c ≤ q → q < c + B → q < n → c ≤ pos d[q]! ∧ pos d[q]! < c + B) ∧ SortedIn (lt2 lt pos) c (min (c + B) n) d

omit hS in
theorem Blk.congr {B c n : Nat} {d d' : Array α} (h : Blk lt pos B c n d) (he : ∀ q, c ≤ q → q < c + B → q < n → d'[q]! = d[q]!) : Blk lt pos B c n d' :=
  ⟨fun q h1 h2 h3 => by rw [he q h1 h2 h3]; exact h.1 q h1 h2 h3, fun p q h1 h2 h3 => by rw [he p h1 (by omega) (by omega), he q (by omega) (by omega) (by omega)]; exact h.2 p q h1 h2 h3⟩

theorem stIns_spec (n : Nat) : ∀ (k a u : Nat) (d : Array α), n ≤ k + a → a = u * 20 → a ≤ n → n ≤ d.size → (∀ q, a ≤ q → q < n → pos d[q]! = q) → (∀ t, t < u → Blk lt pos 20 (t * 20) n d) →
    PermIn 0 n d (stIns lt n k a d) ∧ ∀ t, Blk lt pos 20 (t * 20) n (stIns lt n k a d) := by
  have last : ∀ (a u : Nat) (d : Array α), ¬ a + 20 ≤ n → a = u * 20 → a ≤ n → n ≤ d.size → (∀ q, a ≤ q → q < n → pos d[q]! = q) → (∀ t, t < u → Blk lt pos 20 (t * 20) n d) →
      PermIn 0 n d (insertionSort lt d a n) ∧ ∀ t, Blk lt pos 20 (t * 20) n (insertionSort lt d a n) := by
    intro a u d h1 h2 h3 h4 h5 h6
    obtain ⟨P, S⟩ := insertionSort_pos hS pos a n d h3 h4 (fun p q p1 p2 q1 => by rw [h5 p p1 (by omega), h5 q (by omega) q1]; exact p2)
    refine ⟨permIn_mono _ _ a n 0 n (by omega) (Nat.le_refl _) h4 P, fun t => ?_⟩
    by_cases c : t < u
    · exact (h6 t c).congr pos (fun q q1 q2 q3 => P.2.1 q (.inl (by omega)))
    · by_cases c2 : t = u
      · subst c2
        refine ⟨fun q q1 q2 q3 => ?_, fun p q q1 q2 q3 => S p q (by omega) q2 (by omega)⟩
        obtain ⟨p, p1, p2, e⟩ := permIn_get P h4 (show a ≤ q by omega) q3
        rw [e, h5 p p1 p2]
        omega
      · exact ⟨fun q q1 q2 q3 => by omega, fun p q q1 q2 q3 => by omega⟩
  intro k
  induction k with
  | zero =>
    intro a u d h1 h2 h3 h4 h5 h6
    exact last a u d (by omega) h2 h3 h4 h5 h6
  | succ k ih =>
    intro a u d h1 h2 h3 h4 h5 h6
    rw [stIns]
    split
    · rename_i hc
      obtain ⟨P, S⟩ := insertionSort_pos hS pos a (a + 20) d (by omega) (by omega) (fun p q p1 p2 q1 => by rw [h5 p p1 (by omega), h5 q (by omega) (by omega)]; exact p2)
      obtain ⟨Q1, Q2⟩ := ih (a + 20) (u + 1) _ (by omega) (by omega) hc (by rw [P.1]; exact h4) (fun q q1 q2 => by rw [P.2.1 q (.inr q1)]; exact h5 q (by omega) q2) (fun t ht => by
        by_cases c : t < u
        · exact (h6 t c).congr pos (fun q q1 q2 q3 => P.2.1 q (.inl (by omega)))
        · have : t = u := by omega
          subst this
          refine ⟨fun q q1 q2 q3 => ?_, fun p q q1 q2 q3 => S p q (by omega) q2 (by omega)⟩
          obtain ⟨p, p1, p2, e⟩ := permIn_get P (by omega) (show a ≤ q by omega) (by omega)
          rw [e, h5 p p1 (by omega)]
          omega)
      exact ⟨permIn_trans _ _ _ _ _ (permIn_mono _ _ a (a + 20) 0 n (by omega) hc h4 P) Q1, Q2⟩
    · rename_i hc
      exact last a u d hc h2 h3 h4 h5 h6

/-- Two blocks become one. -/
theorem sym_blk (n a B : Nat) (hB : 0 < B) (d : Array α) (hn : n ≤ d.size) (h : a + B < n) (h1 : Blk lt pos B a n d) (h2 : Blk lt pos B (a + B) n d) (b : Nat) (hb : b = min (a + 2 * B) n) :
    PermIn a b d (symM lt n a (a + B) b d) ∧ Blk lt pos (2 * B) a n (symM lt n a (a + B) b d) := by
  obtain ⟨P, S⟩ := symM_spec hS pos n a (a + B) b d (by omega) (by omega) (by omega) (by omega) (fun p q p1 p2 q1 => h1.2 p q p1 p2 (by omega)) (fun p q p1 p2 q1 => h2.2 p q p1 p2 (by omega))
    (fun p q p1 p2 q1 q2 => by
      have := h1.1 p p1 p2 (by omega)
      have := h2.1 q q1 (by omega) (by omega)
      omega)
  refine ⟨P, fun q q1 q2 q3 => ?_, fun p q p1 p2 q1 => S p q p1 p2 (by omega)⟩
  obtain ⟨p, p1, p2, e⟩ := permIn_get P (by omega) q1 (show q < b by omega)
  rw [e]
  by_cases c : p < a + B
  · have := h1.1 p p1 c (by omega); omega
  · have := h2.1 p (by omega) (by omega) (by omega); omega

theorem stPass_spec (n B : Nat) (hB : 0 < B) : ∀ (k a u : Nat) (d : Array α), n ≤ k + a → a = u * (2 * B) → n ≤ d.size → (∀ t, t < u → Blk lt pos (2 * B) (t * (2 * B)) n d) → (∀ t, 2 * u ≤ t → Blk lt pos B (t * B) n d) →
    PermIn 0 n d (stPass lt n B k a d) ∧ ∀ t, Blk lt pos (2 * B) (t * (2 * B)) n (stPass lt n B k a d) := by
  have e1 : ∀ u, 2 * u * B = u * (2 * B) := fun u => by rw [Nat.mul_comm 2 u, Nat.mul_assoc]
  have e2 : ∀ u, (2 * u + 1) * B = u * (2 * B) + B := fun u => by rw [Nat.add_mul, e1, Nat.one_mul]
  have mono : ∀ t u, t < u → t * (2 * B) + 2 * B ≤ u * (2 * B) := fun t u h => by
    have := Nat.mul_le_mul_right (2 * B) (show t + 1 ≤ u from h)
    rw [Nat.add_mul, Nat.one_mul] at this
    exact this
  have last : ∀ (a u : Nat) (d : Array α), ¬ a + 2 * B ≤ n → a = u * (2 * B) → n ≤ d.size → (∀ t, t < u → Blk lt pos (2 * B) (t * (2 * B)) n d) → (∀ t, 2 * u ≤ t → Blk lt pos B (t * B) n d) →
      PermIn 0 n d (if a + B < n then symM lt n a (a + B) n d else d) ∧ ∀ t, Blk lt pos (2 * B) (t * (2 * B)) n (if a + B < n then symM lt n a (a + B) n d else d) := by
    intro a u d h1 h2 h4 h5 h6
    have b1 := h6 (2 * u) (Nat.le_refl _)
    have b2 := h6 (2 * u + 1) (by omega)
    rw [e1, ← h2] at b1
    rw [e2, ← h2] at b2
    split
    · rename_i hc
      obtain ⟨P, S⟩ := sym_blk hS pos n a B hB d h4 hc b1 b2 n (by omega)
      refine ⟨permIn_mono _ _ a n 0 n (by omega) (Nat.le_refl _) h4 P, fun t => ?_⟩
      by_cases c : t < u
      · exact (h5 t c).congr pos (fun q q1 q2 q3 => P.2.1 q (.inl (by have := mono t u c; omega)))
      · by_cases c2 : t = u
        · subst c2; rw [← h2]; exact S
        · have := mono u t (by omega)
          exact ⟨fun q q1 q2 q3 => by omega, fun p q q1 q2 q3 => by omega⟩
    · rename_i hc
      refine ⟨permIn_refl _ _ _, fun t => ?_⟩
      by_cases c : t < u
      · exact h5 t c
      · by_cases c2 : t = u
        · subst c2
          rw [← h2]
          exact ⟨fun q q1 q2 q3 => by have := b1.1 q q1 (by omega) q3; omega, fun p q q1 q2 q3 => b1.2 p q q1 q2 (by omega)⟩
        · have := mono u t (by omega)
          exact ⟨fun q q1 q2 q3 => by omega, fun p q q1 q2 q3 => by omega⟩
  intro k
  induction k with
  | zero =>
    intro a u d h1 h2 h4 h5 h6
    exact last a u d (by omega) h2 h4 h5 h6
  | succ k ih =>
    intro a u d h1 h2 h4 h5 h6
    rw [stPass]
    split
    · rename_i hc
      have b1 := h6 (2 * u) (Nat.le_refl _)
      have b2 := h6 (2 * u + 1) (by omega)
      rw [e1, ← h2] at b1
      rw [e2, ← h2] at b2
      obtain ⟨P, S⟩ := sym_blk hS pos n a B hB d h4 (by omega) b1 b2 (a + 2 * B) (by omega)
      obtain ⟨Q1, Q2⟩ := ih (a + 2 * B) (u + 1) _ (by omega) (by rw [Nat.add_mul, Nat.one_mul, h2]) (by rw [P.1]; exact h4) (fun t ht => by
        by_cases c : t < u
        · exact (h5 t c).congr pos (fun q q1 q2 q3 => P.2.1 q (.inl (by have := mono t u c; omega)))
        · have : t = u := by omega
          subst this; rw [← h2]; exact S) (fun t ht => by
        refine (h6 t (by omega)).congr pos (fun q q1 q2 q3 => P.2.1 q (.inr ?_))
        have := Nat.mul_le_mul_right B (show 2 * (u + 1) ≤ t from ht)
        rw [e1, Nat.add_mul, Nat.one_mul] at this
        omega)
      exact ⟨permIn_trans _ _ _ _ _ (permIn_mono _ _ a (a + 2 * B) 0 n (by omega) hc h4 P) Q1, Q2⟩
    · rename_i hc
      exact last a u d hc h2 h4 h5 h6

theorem stLoop_spec (n : Nat) : ∀ (k B : Nat) (d : Array α), n ≤ k + B → 0 < B → n ≤ d.size → (∀ t, Blk lt pos B (t * B) n d) →
    PermIn 0 n d (stLoop lt n k B d) ∧ SortedIn (lt2 lt pos) 0 n (stLoop lt n k B d)
  | 0, B, d, h1, h2, h3, h4 => ⟨permIn_refl _ _ _, by
    have := (h4 0).2
    rw [Nat.zero_mul] at this
    exact fun p q a b c => this p q a b (by omega)⟩
  | k + 1, B, d, h1, h2, h3, h4 => by
    rw [stLoop]
    split
    · obtain ⟨P, S⟩ := stPass_spec hS pos n B h2 n 0 0 d (by omega) (by omega) h3 (fun t h => by omega) (fun t _ => h4 t)
      obtain ⟨Q1, Q2⟩ := stLoop_spec n k (2 * B) _ (by omega) (by omega) (by rw [P.1]; exact h3) S
      exact ⟨permIn_trans _ _ _ _ _ P Q1, Q2⟩
    · refine ⟨permIn_refl _ _ _, ?_⟩
      have := (h4 0).2
      rw [Nat.zero_mul] at this
      exact fun p q a b c => this p q a b (by omega)

/-- WHAT THE STABLE SORT LEAVES. -/
theorem stable_spec (n : Nat) (d : Array α) (hn : n ≤ d.size) (hp : ∀ q, q < n → pos d[q]! = q) : PermIn 0 n d (stable lt n d) ∧ SortedIn (lt2 lt pos) 0 n (stable lt n d) := by
  obtain ⟨P, S⟩ := stIns_spec hS pos n n 0 0 d (by omega) (by omega) (by omega) hn (fun q _ h => hp q h) (fun t h => by omega)
  obtain ⟨Q1, Q2⟩ := stLoop_spec hS pos n n 20 _ (by omega) (by omega) (by rw [P.1]; exact hn) S
  exact ⟨permIn_trans _ _ _ _ _ P Q1, Q2⟩

end

end Go.Proofs.Ythgijppajindpaa
