/-
  The document's trees as plain numbers: how deep each of some weights stands.
-/
set_option linter.unusedVariables false
set_option linter.unusedSimpArgs false
namespace Go.Proofs.Ythgijppajindpaa

/-- The first of the lightest: its place, itself, and the others. -/
def tm {β : Type} (wt : β → Int) : List β → Option (Nat × β × List β)
  | [] => none
  | x :: l =>
    match tm wt l with
    | none => some (0, x, [])
    | some (i, m, r) => if wt x ≤ wt m then some (0, x, l) else some (i + 1, m, x :: r)

theorem tm_none {β : Type} {wt : β → Int} : ∀ {l : List β}, tm wt l = none → l = []
  | [], _ => rfl
  | x :: l, h => by
    simp only [tm] at h
    cases e : tm wt l with
    | none => rw [e] at h; simp at h
    | some q =>
      obtain ⟨i, m, r⟩ := q
      rw [e] at h
      dsimp only at h
      split at h <;> simp at h

/-- What 'tm' tells. -/
theorem tm_some {β : Type} {wt : β → Int} : ∀ {l : List β} {i : Nat} {m : β} {r : List β}, tm wt l = some (i, m, r) →
    l = r.insertIdx i m ∧ i ≤ r.length ∧ (∀ y, y ∈ r → wt m ≤ wt y) ∧ (∀ y, y ∈ r.take i → wt m < wt y)
  | [], _, _, _, h => by simp [tm] at h
  | x :: l, i, m, r, h => by
    simp only [tm] at h
    cases e : tm wt l with
    | none =>
      rw [e] at h
      simp only [Option.some.injEq, Prod.mk.injEq] at h
      obtain ⟨rfl, rfl, rfl⟩ := h
      have := tm_none e
      subst this
      simp
    | some q =>
      obtain ⟨i', m', r'⟩ := q
      have ih := tm_some e
      rw [e] at h
      dsimp only at h
      obtain ⟨h1, h2, h3, h4⟩ := ih
      by_cases hle : wt x ≤ wt m'
      · rw [if_pos hle] at h
        simp only [Option.some.injEq, Prod.mk.injEq] at h
        obtain ⟨rfl, rfl, rfl⟩ := h
        refine ⟨by simp, by simp, fun y hy => ?_, by simp⟩
        rw [h1, List.mem_insertIdx h2] at hy
        rcases hy with rfl | hy
        · exact hle
        · exact Int.le_trans hle (h3 y hy)
      · rw [if_neg hle] at h
        simp only [Option.some.injEq, Prod.mk.injEq] at h
        obtain ⟨rfl, rfl, rfl⟩ := h
        refine ⟨by rw [h1]; simp, by simp; exact h2, fun y hy => ?_, fun y hy => ?_⟩
        · simp only [List.mem_cons] at hy
          rcases hy with rfl | hy
          · omega
          · exact h3 y hy
        · rw [List.take_succ_cons, List.mem_cons] at hy
          rcases hy with rfl | hy
          · omega
          · exact h4 y hy

theorem tm_length {β : Type} {wt : β → Int} {l : List β} {i : Nat} {m : β} {r : List β} (h : tm wt l = some (i, m, r)) : l.length = r.length + 1 := by
  obtain ⟨h1, h2, _⟩ := tm_some h
  rw [h1, List.length_insertIdx_of_le_length h2]

theorem tm_isSome {β : Type} {wt : β → Int} {l : List β} (h : 0 < l.length) : ∃ i m r, tm wt l = some (i, m, r) := by
  cases e : tm wt l with
  | none => rw [tm_none e] at h; simp at h
  | some q => exact ⟨q.1, q.2.1, q.2.2, rfl⟩

theorem tm_map {β γ : Type} {wt : β → Int} {wt' : γ → Int} (f : β → γ) (hf : ∀ x, wt' (f x) = wt x) : ∀ l : List β, tm wt' (l.map f) = (tm wt l).map (fun q => (q.1, f q.2.1, q.2.2.map f))
  | [] => rfl
  | x :: l => by
    simp only [List.map_cons, tm]
    rw [tm_map f hf l]
    cases tm wt l with
    | none => rfl
    | some q =>
      obtain ⟨i, m, r⟩ := q
      simp only [Option.map_some, hf]
      by_cases h : wt x ≤ wt m
      · simp [h]
      · simp [h]

/-- How deep each of these weights stands in the one tree. -/
def deps : Nat → List Int → List Nat
  | 0, l => l.map fun _ => 0
  | k + 1, l =>
    match tm id l with
    | none => []
    | some (i, a, l1) =>
      match tm id l1 with
      | none => [0]
      | some (j, b, l2) => ((deps k (l2 ++ [a + b])).dropLast.insertIdx j ((deps k (l2 ++ [a + b])).getLastD 0 + 1)).insertIdx i ((deps k (l2 ++ [a + b])).getLastD 0 + 1)

theorem length_deps : ∀ (k : Nat) (l : List Int), (deps k l).length = l.length
  | 0, l => by simp [deps]
  | k + 1, l => by
    rw [deps]
    cases e : tm id l with
    | none => rw [tm_none e]; rfl
    | some q =>
      obtain ⟨i, a, l1⟩ := q
      dsimp only
      have h1 := tm_length e
      cases e1 : tm id l1 with
      | none =>
        have := tm_none e1
        subst this
        rw [h1]; rfl
      | some q =>
        obtain ⟨j, b, l2⟩ := q
        dsimp only
        have h2 := tm_length e1
        have h3 := (tm_some e).2.1
        have h4 := (tm_some e1).2.1
        have h5 := length_deps k (l2 ++ [a + b])
        rw [List.length_append, List.length_singleton] at h5
        have h6 : ((deps k (l2 ++ [a + b])).dropLast).length = l2.length := by rw [List.length_dropLast]; omega
        have h7 : (((deps k (l2 ++ [a + b])).dropLast).insertIdx j ((deps k (l2 ++ [a + b])).getLastD 0 + 1)).length = l2.length + 1 := by rw [List.length_insertIdx_of_le_length (by rw [h6]; exact h4), h6]
        rw [List.length_insertIdx_of_le_length (by rw [h7]; omega), h7]
        omega

theorem zip_insertIdx {β γ : Type} (x : β) (y : γ) : ∀ (i : Nat) (l : List β) (m : List γ), l.length = m.length → i ≤ l.length → (l.insertIdx i x).zip (m.insertIdx i y) = (l.zip m).insertIdx i (x, y)
  | 0, l, m, _, _ => by simp
  | i + 1, [], m, h, hi => by simp at hi
  | i + 1, a :: l, [], h, hi => by simp at h
  | i + 1, a :: l, b :: m, h, hi => by
    simp only [List.insertIdx_succ_cons, List.zip_cons_cons]
    rw [zip_insertIdx x y i l m (by simpa using h) (by simpa using hi)]

/-- A list that is not empty, taken apart at its end. -/
theorem eq_dropLast_last {β : Type} (d : β) : ∀ (l : List β), 0 < l.length → l = l.dropLast ++ [l.getLastD d]
  | [], h => by simp at h
  | [x], _ => rfl
  | x :: y :: l, _ => by
    have := eq_dropLast_last d (y :: l) (by simp)
    rw [List.dropLast_cons_of_ne_nil (by simp), List.cons_append]
    congr 1

/-- The weights, each with its depth. -/
def zd (k : Nat) (l : List Int) : List (Int × Nat) := l.zip (deps k l)

theorem length_zd (k : Nat) (l : List Int) : (zd k l).length = l.length := by simp [zd, length_deps]

/-- The step, told of the pairs: a and b are the two lightest, e is how deep their tree stands, Z the others. -/
inductive Step (l : List Int) (Zl Zl' : List (Int × Nat)) (l' : List Int) : Prop where
  | mk (i j : Nat) (a b : Int) (l2 : List Int) (e : Nat) (Z : List (Int × Nat)) (hl' : l' = l2 ++ [a + b]) (hZ' : Zl' = Z ++ [(a + b, e)]) (hZ : Z.map Prod.fst = l2)
      (hl : l = (l2.insertIdx j b).insertIdx i a) (hZl : Zl = (Z.insertIdx j (b, e + 1)).insertIdx i (a, e + 1)) (hi : i ≤ l2.length + 1) (hj : j ≤ l2.length)
      (hab : a ≤ b) (ha : ∀ x, x ∈ l2 → a ≤ x) (hb : ∀ x, x ∈ l2 → b ≤ x) (hai : ∀ z, z ∈ (Z.insertIdx j (b, e + 1)).take i → a < z.1) (hbj : ∀ z, z ∈ Z.take j → b < z.1)

theorem map_fst_insertIdx {β γ : Type} (x : β × γ) : ∀ (i : Nat) (l : List (β × γ)), (l.insertIdx i x).map Prod.fst = (l.map Prod.fst).insertIdx i x.1
  | 0, l => by simp
  | i + 1, [] => by simp
  | i + 1, a :: l => by simp [map_fst_insertIdx x i l]

theorem zd_fst (k : Nat) (l : List Int) : (zd k l).map Prod.fst = l := by
  unfold zd
  rw [List.map_fst_zip]
  rw [length_deps]; exact Nat.le_refl _

theorem zd_step (k : Nat) (l : List Int) (h : 2 ≤ l.length) : ∃ l', l'.length + 1 = l.length ∧ Step l (zd (k + 1) l) (zd k l') l' := by
  obtain ⟨i, a, l1, e⟩ := tm_isSome (wt := id) (show 0 < l.length by omega)
  have h1 := tm_length e
  obtain ⟨j, b, l2, e1⟩ := tm_isSome (wt := id) (show 0 < l1.length by omega)
  have h2 := tm_length e1
  obtain ⟨p1, p2, p3, p4⟩ := tm_some e
  obtain ⟨q1, q2, q3, q4⟩ := tm_some e1
  have hlen := length_deps k (l2 ++ [a + b])
  rw [List.length_append, List.length_singleton] at hlen
  have hdl : ((deps k (l2 ++ [a + b])).dropLast).length = l2.length := by rw [List.length_dropLast]; omega
  have hlast := eq_dropLast_last 0 (deps k (l2 ++ [a + b])) (by omega)
  have hZ' : zd k (l2 ++ [a + b]) = l2.zip (deps k (l2 ++ [a + b])).dropLast ++ [(a + b, (deps k (l2 ++ [a + b])).getLastD 0)] := by
    unfold zd
    conv => lhs; rw [hlast]
    rw [List.zip_append (by rw [hdl])]
    rfl
  have hfst : (l2.zip (deps k (l2 ++ [a + b])).dropLast).map Prod.fst = l2 := by rw [List.map_fst_zip]; omega
  have hall : (l2.zip (deps k (l2 ++ [a + b])).dropLast).length = l2.length := by rw [List.length_zip]; omega
  refine ⟨l2 ++ [a + b], by simp; omega, .mk i j a b l2 ((deps k (l2 ++ [a + b])).getLastD 0) (l2.zip (deps k (l2 ++ [a + b])).dropLast) rfl hZ' hfst (by rw [p1, q1]) ?_ (by omega) q2 ?_ ?_ q3 ?_ ?_⟩
  · unfold zd
    rw [deps, e]
    dsimp only
    rw [e1]
    dsimp only
    conv => lhs; lhs; rw [p1, q1]
    rw [zip_insertIdx _ _ _ _ _ (by rw [List.length_insertIdx_of_le_length q2, List.length_insertIdx_of_le_length (by omega), hdl]) (by rw [List.length_insertIdx_of_le_length q2]; omega),
      zip_insertIdx _ _ _ _ _ (by rw [hdl]) q2]
  · have := p3 b (by rw [q1, List.mem_insertIdx q2]; exact .inl rfl)
    exact this
  · intro x hx
    exact p3 x (by rw [q1, List.mem_insertIdx q2]; exact .inr hx)
  · intro z hz
    have hm : z.1 ∈ l1.take i := by
      have h3 := List.mem_map_of_mem (f := Prod.fst) hz
      rw [List.map_take, map_fst_insertIdx, hfst, ← q1] at h3
      exact h3
    exact p4 _ hm
  · intro z hz
    have hm : z.1 ∈ l2.take j := by
      have h3 := List.mem_map_of_mem (f := Prod.fst) hz
      rw [List.map_take, hfst] at h3
      exact h3
    exact q4 _ hm

/-- Members of the step's pairs. -/
theorem Step.mem {l l' : List Int} {Zl Zl' : List (Int × Nat)} (h : Step l Zl Zl' l') : ∃ (a b : Int) (e : Nat) (Z : List (Int × Nat)), Zl' = Z ++ [(a + b, e)] ∧ (∀ z, z ∈ Zl ↔ z = (a, e + 1) ∨ z = (b, e + 1) ∨ z ∈ Z) ∧
    a ≤ b ∧ (∀ z, z ∈ Z → a ≤ z.1) ∧ (∀ z, z ∈ Z → b ≤ z.1) ∧ Zl.Perm ((a, e + 1) :: (b, e + 1) :: Z) ∧ (∀ x, x ∈ l ↔ x = a ∨ x = b ∨ ∃ z, z ∈ Z ∧ z.1 = x) := by
  obtain ⟨i, j, a, b, l2, e, Z, hl', hZ', hZ, hl, hZl, hi, hj, hab, ha, hb, hai, hbj⟩ := h
  have hlen : Z.length = l2.length := by rw [← hZ, List.length_map]
  have hm : ∀ z, z ∈ Z → z.1 ∈ l2 := fun z hz => by rw [← hZ]; exact List.mem_map_of_mem hz
  refine ⟨a, b, e, Z, hZ', fun z => ?_, hab, fun z hz => ha _ (hm z hz), fun z hz => hb _ (hm z hz), ?_, fun x => ?_⟩
  · rw [hZl, List.mem_insertIdx (by rw [List.length_insertIdx_of_le_length (by omega)]; omega), List.mem_insertIdx (by omega)]
  · rw [hZl]
    refine (List.perm_insertIdx _ _ (by rw [List.length_insertIdx_of_le_length (by omega)]; omega)).trans ?_
    exact List.Perm.cons _ (List.perm_insertIdx _ _ (by omega))
  · rw [hl, List.mem_insertIdx (by rw [List.length_insertIdx_of_le_length hj]; omega), List.mem_insertIdx hj]
    rw [← hZ, List.mem_map]

end Go.Proofs.Ythgijppajindpaa
