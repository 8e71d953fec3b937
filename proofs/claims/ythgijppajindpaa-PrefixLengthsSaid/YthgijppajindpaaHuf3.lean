/-
  The document's trees as plain numbers: what weighs one each stands no deeper than it must.
-/
import Derived.Test.YthgijppajindpaaHuf2
set_option linter.unusedVariables false
set_option linter.unusedSimpArgs false
namespace Go.Proofs.Ythgijppajindpaa

theorem tm_head {β : Type} {wt : β → Int} {x : β} : ∀ {l : List β}, (∀ y, y ∈ l → wt x ≤ wt y) → tm wt (x :: l) = some (0, x, l)
  | [], _ => rfl
  | y :: l, h => by
    rw [tm]
    obtain ⟨i, m, r, e⟩ := tm_isSome (wt := wt) (l := y :: l) (by simp)
    rw [e]
    obtain ⟨h1, h2, _⟩ := tm_some e
    dsimp only
    rw [if_pos (h m (by rw [h1, List.mem_insertIdx h2]; exact .inl rfl))]

theorem getLastD_eq (d : List Nat) (h : 0 < d.length) : d.getLastD 0 = d.getD (d.length - 1) 0 := by
  have := eq_dropLast_last 0 d h
  rw [List.getD_eq_getElem?_getD]
  conv => rhs; rw [this]
  rw [List.getElem?_append_right (by simp)]
  simp

/-- One step of a row in order. -/
theorem deps_fifo (k : Nat) (x y : Int) (r : List Int) (h1 : ∀ z, z ∈ y :: r → x ≤ z) (h2 : ∀ z, z ∈ r → y ≤ z) :
    deps (k + 1) (x :: y :: r) = ((deps k (r ++ [x + y])).getD r.length 0 + 1) :: ((deps k (r ++ [x + y])).getD r.length 0 + 1) :: (deps k (r ++ [x + y])).dropLast := by
  rw [deps, tm_head (wt := id) h1]
  dsimp only
  rw [tm_head (wt := id) h2]
  dsimp only
  rw [getLastD_eq _ (by rw [length_deps]; simp), length_deps]
  simp

theorem fifo_le (k : Nat) : ∀ (l : List Int) (a b K : Nat), l.length ≤ k + 1 → l.Pairwise (· ≤ ·) → (∀ x, x ∈ l → 0 ≤ x) → (∀ x y, x ∈ l → y ∈ l → y ≤ 2 * x) → l.length = a + b → a + 2 * b ≤ 2 ^ K →
    ∀ i, i < l.length → (deps k l).getD i 0 ≤ K ∧ (a ≤ i → (deps k l).getD i 0 + 1 ≤ K) := by
  induction k with
  | zero =>
    intro l a b K h1 _ _ _ h2 h3 i hi
    have e : (deps 0 l).getD i 0 = 0 := by
      match l, h1 with
      | [], _ => rfl
      | [x], _ =>
        have : i = 0 := by simpa using hi
        subst this; rfl
    rw [e]
    refine ⟨Nat.zero_le _, fun ha => ?_⟩
    cases K with
    | zero => simp at h3; omega
    | succ K => omega
  | succ k ih =>
    intro l a b K h1 hs h0 hj h2 h3 i hi
    match l, h1, hs, h0, hj, h2, hi with
    | [], _, _, _, _, _, hi => simp at hi
    | [x], _, _, _, _, h2, hi =>
      have : i = 0 := by simpa using hi
      subst this
      have e : (deps (k + 1) [x]).getD 0 0 = 0 := rfl
      rw [e]
      refine ⟨Nat.zero_le _, fun ha => ?_⟩
      have hb : b = 1 := by simp at h2; omega
      subst hb
      cases K with
      | zero => simp at h3
      | succ K => omega
    | x :: y :: r, h1, hs, h0, hj, h2, hi =>
      have hs1 := List.pairwise_cons.1 hs
      have hs2 := List.pairwise_cons.1 hs1.2
      have hstep := deps_fifo k x y r hs1.1 hs2.1
      have hx0 := h0 x (by simp)
      have hy0 := h0 y (by simp)
      have hxy := hs1.1 y (by simp)
      obtain ⟨l', hl'⟩ : ∃ q, q = r ++ [x + y] := ⟨_, rfl⟩
      have hlen' : l'.length = r.length + 1 := by rw [hl']; simp
      have m' : ∀ z, z ∈ l' → z ∈ r ∨ z = x + y := fun z hz => by rw [hl', List.mem_append, List.mem_singleton] at hz; exact hz
      have p1 : l'.length ≤ k + 1 := by rw [hlen']; simp at h1; omega
      have p2 : l'.Pairwise (· ≤ ·) := by
        rw [hl', List.pairwise_append]
        refine ⟨hs2.2, by simp, fun z hz w hw => ?_⟩
        simp at hw
        subst hw
        have := hj x z (by simp) (by simp [hz])
        omega
      have p3 : ∀ z, z ∈ l' → 0 ≤ z := fun z hz => by
        rcases m' z hz with h | rfl
        · exact h0 z (by simp [h])
        · omega
      have p4 : ∀ z w, z ∈ l' → w ∈ l' → w ≤ 2 * z := fun z w hz hw => by
        rcases m' z hz with h | rfl
        · have hyz := hs2.1 z h
          rcases m' w hw with h' | rfl
          · exact hj z w (by simp [h]) (by simp [h'])
          · omega
        · rcases m' w hw with h' | rfl
          · have := hj x w (by simp) (by simp [h']); omega
          · omega
      rw [← hl'] at hstep
      have hdl : (deps k l').length = r.length + 1 := by rw [length_deps, hlen']
      have htl : ∀ j, j < r.length → (deps k l').dropLast.getD j 0 = (deps k l').getD j 0 := fun j hj => by
        rw [List.getD_eq_getElem?_getD, List.getD_eq_getElem?_getD, List.getElem?_dropLast, if_pos (by omega)]
      have g0 : (deps (k + 1) (x :: y :: r)).getD 0 0 = (deps k l').getD r.length 0 + 1 := by rw [hstep]; rfl
      have g1 : (deps (k + 1) (x :: y :: r)).getD 1 0 = (deps k l').getD r.length 0 + 1 := by rw [hstep]; rfl
      have g2 : ∀ j, j < r.length → (deps (k + 1) (x :: y :: r)).getD (j + 2) 0 = (deps k l').getD j 0 := fun j hj => by
        rw [hstep, ← htl j hj]; rfl
      have hlen : r.length + 2 = a + b := by simpa using h2
      have hi' : i < r.length + 2 := by simpa using hi
      -- a is two or more
      have main : ∀ a b K, r.length + 2 = a + b → a + 2 * b ≤ 2 ^ K → 2 ≤ a → (deps (k + 1) (x :: y :: r)).getD i 0 ≤ K ∧ (a ≤ i → (deps (k + 1) (x :: y :: r)).getD i 0 + 1 ≤ K) := by
        intro a b K hab hK ha
        have q := ih l' (a - 2) (b + 1) K p1 p2 p3 p4 (by omega) (by omega)
        have ql := q r.length (by omega)
        match i, hi' with
        | 0, _ => rw [g0]; exact ⟨ql.2 (by omega), fun h => by omega⟩
        | 1, _ => rw [g1]; exact ⟨ql.2 (by omega), fun h => by omega⟩
        | j + 2, hj => rw [g2 j (by omega)]; exact ⟨(q j (by omega)).1, fun h => (q j (by omega)).2 (by omega)⟩
      by_cases ha2 : 2 ≤ a
      · exact main a b K hlen h3 ha2
      · cases K with
        | zero => simp at h3; omega
        | succ K =>
          rw [Nat.pow_succ] at h3
          by_cases ha1 : a = 1
          · have q := ih l' (b - 1) 1 K p1 p2 p3 p4 (by omega) (by omega)
            have ql := q r.length (by omega)
            have qll := ql.2 (by omega)
            match i, hi' with
            | 0, _ => rw [g0]; exact ⟨by omega, fun h => by omega⟩
            | 1, _ => rw [g1]; exact ⟨by omega, fun h => by omega⟩
            | j + 2, hj => rw [g2 j (by omega)]; have := (q j (by omega)).1; exact ⟨by omega, fun h => by omega⟩
          · have := main b 0 K (by omega) (by omega) (by omega)
            exact ⟨by omega, fun h => by omega⟩

/-- Weights of one each. -/
theorem ones_le (k n K : Nat) (hn : n ≤ k + 1) (hK : n ≤ 2 ^ K) : ∀ z, z ∈ zd k (List.replicate n 1) → z.2 ≤ K := by
  intro z hz
  have h := fifo_le k (List.replicate n 1) n 0 K (by simpa using hn) (by simp [List.pairwise_replicate]) (by intro x hx; simp at hx; omega) (by intro x y hx hy; simp at hx hy; omega) (by simp) (by omega)
  obtain ⟨i, hi, rfl⟩ := List.getElem_of_mem hz
  have hi' : i < (List.replicate n (1 : Int)).length := by rw [← length_zd k]; exact hi
  have := (h i hi').1
  rw [List.getD_eq_getElem?_getD, List.getElem?_eq_getElem (by rw [length_deps]; exact hi')] at this
  have e : ((zd k (List.replicate n 1))[i]).2 = (deps k (List.replicate n 1))[i]'(by rw [length_deps]; exact hi') := by
    simp only [zd, List.getElem_zip]
  rw [e]
  exact this

end Go.Proofs.Ythgijppajindpaa
