/-
  The program's trees are the document's, and what is true of the document's trees.
-/
import Derived.Test.YthgijppajindpaaGrow
import Derived.Test.YthgijppajindpaaStab
set_option linter.unusedVariables false
set_option linter.unusedSimpArgs false
namespace Go.Proofs.Ythgijppajindpaa

/-- The first of the lightest: its place, itself, and the others. -/
def tm {β : Type} (wt : β → Int) : List β → Option (Nat × β × List β)
  | [] => none
  | x :: l =>
    match tm wt l with
    | none => some (0, x, [])
    | some (i, m, r) => if wt x ≤ wt m then some (0, x, l) else some (i + 1, m, x :: r)

theorem tm_none {β : Type} {wt : β → Int} : ∀ {l : List β}, tm wt l = none → l = []
  | [], _ => rfl
  | x :: l, h => by
    simp only [tm] at h
    cases e : tm wt l with
    | none => rw [e] at h; simp at h
    | some q =>
      obtain ⟨i, m, r⟩ := q
      rw [e] at h
      dsimp only at h
      split at h <;> simp at h

/-- What 'tm' tells. -/
theorem tm_some {β : Type} {wt : β → Int} : ∀ {l : List β} {i : Nat} {m : β} {r : List β}, tm wt l = some (i, m, r) →
    l = r.insertIdx i m ∧ i ≤ r.length ∧ (∀ y, y ∈ r → wt m ≤ wt y) ∧ (∀ y, y ∈ r.take i → wt m < wt y)
  | [], _, _, _, h => by simp [tm] at h
  | x :: l, i, m, r, h => by
    simp only [tm] at h
    cases e : tm wt l with
    | none =>
      rw [e] at h
      simp only [Option.some.injEq, Prod.mk.injEq] at h
      obtain ⟨rfl, rfl, rfl⟩ := h
      have := tm_none e
      subst this
      simp
    | some q =>
      obtain ⟨i', m', r'⟩ := q
      have ih := tm_some e
      rw [e] at h
      dsimp only at h
      obtain ⟨h1, h2, h3, h4⟩ := ih
      by_cases hle : wt x ≤ wt m'
      · rw [if_pos hle] at h
        simp only [Option.some.injEq, Prod.mk.injEq] at h
        obtain ⟨rfl, rfl, rfl⟩ := h
        refine ⟨by simp, by simp, fun y hy => ?_, by simp⟩
        rw [h1, List.mem_insertIdx h2] at hy
        rcases hy with rfl | hy
        · exact hle
        · exact Int.le_trans hle (h3 y hy)
      · rw [if_neg hle] at h
        simp only [Option.some.injEq, Prod.mk.injEq] at h
        obtain ⟨rfl, rfl, rfl⟩ := h
        refine ⟨by rw [h1]; simp, by simp; exact h2, fun y hy => ?_, fun y hy => ?_⟩
        · simp only [List.mem_cons] at hy
          rcases hy with rfl | hy
          · omega
          · exact h3 y hy
        · rw [List.take_succ_cons, List.mem_cons] at hy
          rcases hy with rfl | hy
          · omega
          · exact h4 y hy

theorem tm_length {β : Type} {wt : β → Int} {l : List β} {i : Nat} {m : β} {r : List β} (h : tm wt l = some (i, m, r)) : l.length = r.length + 1 := by
  obtain ⟨h1, h2, _⟩ := tm_some h
  rw [h1, List.length_insertIdx_of_le_length h2]

theorem tm_isSome {β : Type} {wt : β → Int} {l : List β} (h : 0 < l.length) : ∃ i m r, tm wt l = some (i, m, r) := by
  cases e : tm wt l with
  | none => rw [tm_none e] at h; simp at h
  | some q => exact ⟨q.1, q.2.1, q.2.2, rfl⟩

theorem tm_map {β γ : Type} {wt : β → Int} {wt' : γ → Int} (f : β → γ) (hf : ∀ x, wt' (f x) = wt x) : ∀ l : List β, tm wt' (l.map f) = (tm wt l).map (fun q => (q.1, f q.2.1, q.2.2.map f))
  | [] => rfl
  | x :: l => by
    simp only [List.map_cons, tm]
    rw [tm_map f hf l]
    cases tm wt l with
    | none => rfl
    | some q =>
      obtain ⟨i, m, r⟩ := q
      simp only [Option.map_some, hf]
      by_cases h : wt x ≤ wt m
      · simp [h]
      · simp [h]

/-- How deep each of these weights stands in the one tree. -/
def deps : Nat → List Int → List Nat
  | 0, l => l.map fun _ => 0
  | k + 1, l =>
    match tm id l with
    | none => []
    | some (i, a, l1) =>
      match tm id l1 with
      | none => [0]
      | some (j, b, l2) => ((deps k (l2 ++ [a + b])).dropLast.insertIdx j ((deps k (l2 ++ [a + b])).getLastD 0 + 1)).insertIdx i ((deps k (l2 ++ [a + b])).getLastD 0 + 1)

theorem length_deps : ∀ (k : Nat) (l : List Int), (deps k l).length = l.length
  | 0, l => by simp [deps]
  | k + 1, l => by
    rw [deps]
    cases e : tm id l with
    | none => rw [tm_none e]; rfl
    | some q =>
      obtain ⟨i, a, l1⟩ := q
      dsimp only
      have h1 := tm_length e
      cases e1 : tm id l1 with
      | none =>
        have := tm_none e1
        subst this
        rw [h1]; rfl
      | some q =>
        obtain ⟨j, b, l2⟩ := q
        dsimp only
        have h2 := tm_length e1
        have h3 := (tm_some e).2.1
        have h4 := (tm_some e1).2.1
        have h5 := length_deps k (l2 ++ [a + b])
        rw [List.length_append, List.length_singleton] at h5
        have h6 : ((deps k (l2 ++ [a + b])).dropLast).length = l2.length := by rw [List.length_dropLast]; omega
        have h7 : (((deps k (l2 ++ [a + b])).dropLast).insertIdx j ((deps k (l2 ++ [a + b])).getLastD 0 + 1)).length = l2.length + 1 := by rw [List.length_insertIdx_of_le_length (by rw [h6]; exact h4), h6]
        rw [List.length_insertIdx_of_le_length (by rw [h7]; omega), h7]
        omega

theorem zip_insertIdx {β γ : Type} (x : β) (y : γ) : ∀ (i : Nat) (l : List β) (m : List γ), l.length = m.length → i ≤ l.length → (l.insertIdx i x).zip (m.insertIdx i y) = (l.zip m).insertIdx i (x, y)
  | 0, l, m, _, _ => by simp
  | i + 1, [], m, h, hi => by simp at hi
  | i + 1, a :: l, [], h, hi => by simp at h
  | i + 1, a :: l, b :: m, h, hi => by
    simp only [List.insertIdx_succ_cons, List.zip_cons_cons]
    rw [zip_insertIdx x y i l m (by simpa using h) (by simpa using hi)]

/-- A list that is not empty, taken apart at its end. -/
theorem eq_dropLast_last {β : Type} (d : β) : ∀ (l : List β), 0 < l.length → l = l.dropLast ++ [l.getLastD d]
  | [], h => by simp at h
  | [x], _ => rfl
  | x :: y :: l, _ => by
    have := eq_dropLast_last d (y :: l) (by simp)
    rw [List.dropLast_cons_of_ne_nil (by simp), List.cons_append]
    congr 1

/-- The weights, each with its depth. -/
def zd (k : Nat) (l : List Int) : List (Int × Nat) := l.zip (deps k l)

theorem length_zd (k : Nat) (l : List Int) : (zd k l).length = l.length := by simp [zd, length_deps]

/-- The step, told of the pairs: a and b are the two lightest, e is how deep their tree stands, Z the others. -/
inductive Step (l : List Int) (Zl Zl' : List (Int × Nat)) (l' : List Int) : Prop where
  | mk (i j : Nat) (a b : Int) (l2 : List Int) (e : Nat) (Z : List (Int × Nat)) (hl' : l' = l2 ++ [a + b]) (hZ' : Zl' = Z ++ [(a + b, e)]) (hZ : Z.map Prod.fst = l2)
      (hl : l = (l2.insertIdx j b).insertIdx i a) (hZl : Zl = (Z.insertIdx j (b, e + 1)).insertIdx i (a, e + 1)) (hi : i ≤ l2.length + 1) (hj : j ≤ l2.length)
      (hab : a ≤ b) (ha : ∀ x, x ∈ l2 → a ≤ x) (hb : ∀ x, x ∈ l2 → b ≤ x) (hai : ∀ z, z ∈ (Z.insertIdx j (b, e + 1)).take i → a < z.1) (hbj : ∀ z, z ∈ Z.take j → b < z.1)

theorem map_fst_insertIdx {β γ : Type} (x : β × γ) : ∀ (i : Nat) (l : List (β × γ)), (l.insertIdx i x).map Prod.fst = (l.map Prod.fst).insertIdx i x.1
  | 0, l => by simp
  | i + 1, [] => by simp
  | i + 1, a :: l => by simp [map_fst_insertIdx x i l]

theorem zd_fst (k : Nat) (l : List Int) : (zd k l).map Prod.fst = l := by
  unfold zd
  rw [List.map_fst_zip]
  rw [length_deps]; exact Nat.le_refl _

theorem zd_step (k : Nat) (l : List Int) (h : 2 ≤ l.length) : ∃ l', l'.length + 1 = l.length ∧ Step l (zd (k + 1) l) (zd k l') l' := by
  obtain ⟨i, a, l1, e⟩ := tm_isSome (wt := id) (show 0 < l.length by omega)
  have h1 := tm_length e
  obtain ⟨j, b, l2, e1⟩ := tm_isSome (wt := id) (show 0 < l1.length by omega)
  have h2 := tm_length e1
  obtain ⟨p1, p2, p3, p4⟩ := tm_some e
  obtain ⟨q1, q2, q3, q4⟩ := tm_some e1
  have hlen := length_deps k (l2 ++ [a + b])
  rw [List.length_append, List.length_singleton] at hlen
  have hdl : ((deps k (l2 ++ [a + b])).dropLast).length = l2.length := by rw [List.length_dropLast]; omega
  have hlast := eq_dropLast_last 0 (deps k (l2 ++ [a + b])) (by omega)
  have hZ' : zd k (l2 ++ [a + b]) = l2.zip (deps k (l2 ++ [a + b])).dropLast ++ [(a + b, (deps k (l2 ++ [a + b])).getLastD 0)] := by
    unfold zd
    conv => lhs; rw [hlast]
    rw [List.zip_append (by rw [hdl])]
    rfl
  have hfst : (l2.zip (deps k (l2 ++ [a + b])).dropLast).map Prod.fst = l2 := by rw [List.map_fst_zip]; omega
  have hall : (l2.zip (deps k (l2 ++ [a + b])).dropLast).length = l2.length := by rw [List.length_zip]; omega
  refine ⟨l2 ++ [a + b], by simp; omega, .mk i j a b l2 ((deps k (l2 ++ [a + b])).getLastD 0) (l2.zip (deps k (l2 ++ [a + b])).dropLast) rfl hZ' hfst (by rw [p1, q1]) ?_ (by omega) q2 ?_ ?_ q3 ?_ ?_⟩
  · unfold zd
    rw [deps, e]
    dsimp only
    rw [e1]
    dsimp only
    conv => lhs; lhs; rw [p1, q1]
    rw [zip_insertIdx _ _ _ _ _ (by rw [List.length_insertIdx_of_le_length q2, List.length_insertIdx_of_le_length (by omega), hdl]) (by rw [List.length_insertIdx_of_le_length q2]; omega),
      zip_insertIdx _ _ _ _ _ (by rw [hdl]) q2]
  · have := p3 b (by rw [q1, List.mem_insertIdx q2]; exact .inl rfl)
    exact this
  · intro x hx
    exact p3 x (by rw [q1, List.mem_insertIdx q2]; exact .inr hx)
  · intro z hz
    have hm : z.1 ∈ l1.take i := by
      have h3 := List.mem_map_of_mem (f := Prod.fst) hz
      rw [List.map_take, map_fst_insertIdx, hfst, ← q1] at h3
      exact h3
    exact p4 _ hm
  · intro z hz
    have hm : z.1 ∈ l2.take j := by
      have h3 := List.mem_map_of_mem (f := Prod.fst) hz
      rw [List.map_take, hfst] at h3
      exact h3
    exact q4 _ hm

/-- Members of the step's pairs. -/
theorem Step.mem {l l' : List Int} {Zl Zl' : List (Int × Nat)} (h : Step l Zl Zl' l') : ∃ (a b : Int) (e : Nat) (Z : List (Int × Nat)), Zl' = Z ++ [(a + b, e)] ∧ (∀ z, z ∈ Zl ↔ z = (a, e + 1) ∨ z = (b, e + 1) ∨ z ∈ Z) ∧
    a ≤ b ∧ (∀ z, z ∈ Z → a ≤ z.1) ∧ (∀ z, z ∈ Z → b ≤ z.1) ∧ Zl.Perm ((a, e + 1) :: (b, e + 1) :: Z) ∧ (∀ x, x ∈ l ↔ x = a ∨ x = b ∨ ∃ z, z ∈ Z ∧ z.1 = x) := by
  obtain ⟨i, j, a, b, l2, e, Z, hl', hZ', hZ, hl, hZl, hi, hj, hab, ha, hb, hai, hbj⟩ := h
  have hlen : Z.length = l2.length := by rw [← hZ, List.length_map]
  have hm : ∀ z, z ∈ Z → z.1 ∈ l2 := fun z hz => by rw [← hZ]; exact List.mem_map_of_mem hz
  refine ⟨a, b, e, Z, hZ', fun z => ?_, hab, fun z hz => ha _ (hm z hz), fun z hz => hb _ (hm z hz), ?_, fun x => ?_⟩
  · rw [hZl, List.mem_insertIdx (by rw [List.length_insertIdx_of_le_length (by omega)]; omega), List.mem_insertIdx (by omega)]
  · rw [hZl]
    refine (List.perm_insertIdx _ _ (by rw [List.length_insertIdx_of_le_length (by omega)]; omega)).trans ?_
    exact List.Perm.cons _ (List.perm_insertIdx _ _ (by omega))
  · rw [hl, List.mem_insertIdx (by rw [List.length_insertIdx_of_le_length hj]; omega), List.mem_insertIdx hj]
    rw [← hZ, List.mem_map]

end Go.Proofs.Ythgijppajindpaa

namespace Go.Proofs.Ythgijppajindpaa

/-- z stands ahead of z': what is not heavier stands no less deep. -/
def Rel (z z' : Int × Nat) : Prop := (z.1 ≤ z'.1 → z'.2 ≤ z.2) ∧ (z'.1 < z.1 → z.2 ≤ z'.2)

theorem pairwise_insertIdx {β : Type} {R : β → β → Prop} {x : β} : ∀ {i : Nat} {l : List β}, i ≤ l.length → l.Pairwise R → (∀ y, y ∈ l.take i → R y x) → (∀ y, y ∈ l.drop i → R x y) → (l.insertIdx i x).Pairwise R
  | 0, l, _, hp, _, h2 => by
    rw [List.insertIdx_zero]
    exact List.Pairwise.cons (by simpa using h2) hp
  | i + 1, [], hi, _, _, _ => by simp at hi
  | i + 1, a :: l, hi, hp, h1, h2 => by
    rw [List.insertIdx_succ_cons]
    have hi' : i ≤ l.length := by simpa using hi
    rw [List.pairwise_cons] at hp
    refine List.Pairwise.cons (fun y hy => ?_) (pairwise_insertIdx hi' hp.2 (fun y hy => h1 y (by simp [hy])) (fun y hy => h2 y (by simpa using hy)))
    rw [List.mem_insertIdx hi'] at hy
    rcases hy with rfl | hy
    · exact h1 a (by simp)
    · exact hp.1 y hy

theorem zd_one {k : Nat} {l : List Int} (h : l.length ≤ 1) : ∀ z, z ∈ zd k l → z.2 = 0 := by
  intro z hz
  match l, h with
  | [], _ => simp [zd] at hz
  | [x], _ =>
    have e : zd k [x] = [(x, 0)] := by
      cases k with
      | zero => rfl
      | succ k => rfl
    rw [e] at hz
    simp at hz
    rw [hz]

/-- The lighter ones stand deeper; and what is there stands at most one deeper than the newest pair. -/
theorem zd_order (k : Nat) : ∀ (l : List Int), l.length ≤ k + 1 → (∀ x, x ∈ l → 0 ≤ x) →
    (zd k l).Pairwise Rel ∧ ∀ (Z : List (Int × Nat)) (q : Int) (e : Nat), zd k l = Z ++ [(q, e)] → (∀ x, x ∈ l → q ≤ 2 * x) → ∀ z, z ∈ zd k l → z.2 ≤ e + 1 := by
  induction k with
  | zero =>
    intro l hl h0
    refine ⟨?_, fun Z q e hZ hq z hz => by rw [zd_one (by omega) z hz]; omega⟩
    have : (zd 0 l).length ≤ 1 := by rw [length_zd]; omega
    match hz : zd 0 l, this with
    | [], _ => exact List.Pairwise.nil
    | [z], _ => simp
  | succ k ih =>
    intro l hl h0
    by_cases h2 : 2 ≤ l.length
    · obtain ⟨l', hl', hs⟩ := zd_step k l h2
      have hs' := hs
      obtain ⟨a, b, e, Z, hZ', hmem, hab, haZ, hbZ, hperm, hlm⟩ := hs'.mem
      have ha0 : 0 ≤ a := h0 a ((hlm a).2 (.inl rfl))
      have hb0 : 0 ≤ b := h0 b ((hlm b).2 (.inr (.inl rfl)))
      have hl'm : ∀ x, x ∈ l' → x = a + b ∨ ∃ z, z ∈ Z ∧ z.1 = x := by
        intro x hx
        rw [← zd_fst k l', hZ', List.map_append, List.mem_append] at hx
        rcases hx with hx | hx
        · obtain ⟨z, hz, rfl⟩ := List.mem_map.1 hx
          exact .inr ⟨z, hz, rfl⟩
        · simp at hx; exact .inl hx
      have h0' : ∀ x, x ∈ l' → 0 ≤ x := fun x hx => by
        rcases hl'm x hx with rfl | ⟨z, hz, rfl⟩
        · omega
        · exact Int.le_trans ha0 (haZ z hz)
      obtain ⟨ih1, ih2⟩ := ih l' (by omega) h0'
      -- all stand at most one deeper than the new pair
      have hE : ∀ z, z ∈ Z → z.2 ≤ e + 1 := fun z hz => by
        refine ih2 Z (a + b) e hZ' (fun x hx => ?_) z (by rw [hZ']; simp [hz])
        rcases hl'm x hx with rfl | ⟨z, hz, rfl⟩
        · omega
        · have := hbZ z hz; have := haZ z hz; omega
      have hpZ : Z.Pairwise Rel := by
        rw [hZ'] at ih1
        exact (List.pairwise_append.1 ih1).1
      have hZlast : ∀ z, z ∈ Z → Rel z (a + b, e) := fun z hz => by
        rw [hZ'] at ih1
        exact (List.pairwise_append.1 ih1).2.2 z hz _ (by simp)
      refine ⟨?_, ?_⟩
      · obtain ⟨i, j, a1, b1, l2, e1, Z1, q1, q2, q3, q4, q5, q6, q7, q8, q9, q10, q11, q12⟩ := hs
        have hZZ : Z1 = Z ∧ a1 + b1 = a + b ∧ e1 = e := by
          rw [hZ'] at q2
          have h1 := (List.append_inj' q2 rfl)
          simp at h1
          exact ⟨h1.1.symm, h1.2.1.symm, h1.2.2.symm⟩
        obtain ⟨rfl, hsum, rfl⟩ := hZZ
        have hlen : Z1.length = l2.length := by rw [← q3, List.length_map]
        have hm : ∀ z, z ∈ Z1 → z.1 ∈ l2 := fun z hz => by rw [← q3]; exact List.mem_map_of_mem hz
        rw [q5]
        have hin : (Z1.insertIdx j (b1, e1 + 1)).Pairwise Rel := by
          refine pairwise_insertIdx (by omega) hpZ (fun y hy => ⟨fun hle => ?_, fun _ => ?_⟩) (fun y hy => ⟨fun _ => ?_, fun hlt => ?_⟩)
          · have := q12 y hy; simp only at hle; omega
          · exact hE y (List.mem_of_mem_take hy)
          · exact hE y (List.mem_of_mem_drop hy)
          · have := q10 y.1 (hm y (List.mem_of_mem_drop hy)); simp only at hlt; omega
        refine pairwise_insertIdx (by rw [List.length_insertIdx_of_le_length (by omega)]; omega) hin (fun y hy => ⟨fun hle => ?_, fun _ => ?_⟩) (fun y hy => ⟨fun _ => ?_, fun hlt => ?_⟩)
        · have := q11 y hy; simp only at hle; omega
        · have hy' := List.mem_of_mem_take hy
          rw [List.mem_insertIdx (by omega)] at hy'
          rcases hy' with rfl | hy'
          · exact Nat.le_refl _
          · exact hE y hy'
        · have hy' := List.mem_of_mem_drop hy
          rw [List.mem_insertIdx (by omega)] at hy'
          rcases hy' with rfl | hy'
          · exact Nat.le_refl _
          · exact hE y hy'
        · have hy' := List.mem_of_mem_drop hy
          rw [List.mem_insertIdx (by omega)] at hy'
          rcases hy' with rfl | hy'
          · exact Nat.le_refl _
          · have := q9 y.1 (hm y hy'); simp only at hlt; omega
      · intro Z0 q e0 hZ0 hq z hz
        -- q's depth against the new pair's
        have hqd : e ≤ e0 := by
          have hqm : (q, e0) ∈ zd (k + 1) l := by rw [hZ0]; simp
          rw [hmem] at hqm
          rcases hqm with h | h | h
          · simp at h; omega
          · simp at h; omega
          · have h1 := hZlast _ h
            have h2 := hq a ((hlm a).2 (.inl rfl))
            exact h1.1 (by show q ≤ a + b; omega)
        rw [hmem] at hz
        rcases hz with rfl | rfl | hz
        · show e + 1 ≤ _; omega
        · show e + 1 ≤ _; omega
        · -- z is an other one
          have := hE z hz
          omega
    · refine ⟨?_, fun Z q e hZ hq z hz => by rw [zd_one (by omega) z hz]; omega⟩
      have : (zd (k + 1) l).length ≤ 1 := by rw [length_zd]; omega
      match hz : zd (k + 1) l, this with
      | [], _ => exact List.Pairwise.nil
      | [z], _ => simp

/-- What weighs more never stands deeper. -/
theorem zd_lighter {k : Nat} {l : List Int} (hl : l.length ≤ k + 1) (h0 : ∀ x, x ∈ l → 0 ≤ x) {z z' : Int × Nat} (hz : z ∈ zd k l) (hz' : z' ∈ zd k l) (h : z.1 < z'.1) : z'.2 ≤ z.2 := by
  have hp := (zd_order k l hl h0).1
  obtain ⟨i, hi, rfl⟩ := List.getElem_of_mem hz
  obtain ⟨j, hj, rfl⟩ := List.getElem_of_mem hz'
  rw [List.pairwise_iff_getElem] at hp
  rcases Nat.lt_trichotomy i j with hij | hij | hij
  · exact (hp i j hi hj hij).1 (by omega)
  · subst hij; omega
  · exact (hp j i hj hi hij).2 h

/-- The numbers of the golden section. -/
def fibo : Nat → Nat
  | 0 => 0
  | 1 => 1
  | n + 2 => fibo (n + 1) + fibo n

theorem sum_perm_fst {L M : List (Int × Nat)} (h : L.Perm M) : (L.map Prod.fst).sum = (M.map Prod.fst).sum := by
  induction h with
  | nil => rfl
  | cons x _ ih => simp [ih]
  | swap x y l => simp; omega
  | trans _ _ ih1 ih2 => exact ih1.trans ih2

/-- How heavy all of it is at least, if something stands that deep. -/
theorem zd_fibo (k : Nat) : ∀ (l : List Int) (m : Int), l.length ≤ k + 1 → 0 ≤ m → (∀ x, x ∈ l → m ≤ x) → ∀ z, z ∈ zd k l → (fibo (z.2 + 1) : Int) * z.1 + fibo z.2 * m ≤ l.sum := by
  induction k with
  | zero =>
    intro l m hl h0 hm z hz
    match l, hl with
    | [], _ => simp [zd] at hz
    | [x], _ =>
      simp [zd, deps] at hz
      subst hz
      simp [fibo]
  | succ k ih =>
    intro l m hl h0 hm z hz
    by_cases h2 : 2 ≤ l.length
    · obtain ⟨l', hl', hs⟩ := zd_step k l h2
      obtain ⟨a, b, e, Z, hZ', hmem, hab, haZ, hbZ, hperm, hlm⟩ := hs.mem
      have hma : m ≤ a := hm a ((hlm a).2 (.inl rfl))
      have hmb : m ≤ b := hm b ((hlm b).2 (.inr (.inl rfl)))
      have hsum : l.sum = a + (b + (Z.map Prod.fst).sum) := by
        rw [← zd_fst (k + 1) l, sum_perm_fst hperm]; simp
      have hsum' : l'.sum = (Z.map Prod.fst).sum + (a + b) := by
        rw [← zd_fst k l', hZ']; simp
      have hl'm : ∀ x, x ∈ l' → x = a + b ∨ ∃ z, z ∈ Z ∧ z.1 = x := by
        intro x hx
        rw [← zd_fst k l', hZ', List.map_append, List.mem_append] at hx
        rcases hx with hx | hx
        · obtain ⟨z, hz, rfl⟩ := List.mem_map.1 hx
          exact .inr ⟨z, hz, rfl⟩
        · simp at hx; exact .inl hx
      have hb' : ∀ x, x ∈ l' → b ≤ x := fun x hx => by
        rcases hl'm x hx with rfl | ⟨z, hz, rfl⟩
        · omega
        · exact hbZ z hz
      have hc : (a + b, e) ∈ zd k l' := by rw [hZ']; simp
      have key := ih l' b (by omega) (by omega) hb' _ hc
      simp only at key
      rw [hmem] at hz
      have hf : (fibo (e + 1 + 1) : Int) = fibo (e + 1) + fibo e := by
        show ((fibo (e + 1) + fibo e : Nat) : Int) = _
        omega
      have p1 : (0 : Int) ≤ fibo (e + 1) := by omega
      have p2 : (0 : Int) ≤ fibo e := by omega
      rcases hz with rfl | rfl | hz
      · simp only
        rw [hf, hsum]
        have e1 := Int.mul_le_mul_of_nonneg_left hmb p1
        have e2 := Int.mul_le_mul_of_nonneg_left hab p2
        rw [Int.add_mul]
        rw [Int.mul_add] at key
        omega
      · simp only
        rw [hf, hsum]
        have e1 := Int.mul_le_mul_of_nonneg_left hma p1
        rw [Int.add_mul]
        rw [Int.mul_add] at key
        omega
      · have h3 := ih l' m (by omega) h0 (fun x hx => Int.le_trans hmb (hb' x hx)) z (by rw [hZ']; simp [hz])
        rw [hsum]; omega
    · match l, h2 with
      | [], _ => simp [zd] at hz
      | [x], _ =>
        have hz0 := zd_one (by simp) z hz
        have hz1 : z.1 ∈ [x] := by rw [← zd_fst (k + 1) [x]]; exact List.mem_map_of_mem hz
        simp at hz1
        rw [hz0, hz1]
        simp [fibo]
      | x :: y :: l, h => simp at h

/-- Two or more: none stands at the root. -/
theorem zd_pos (k : Nat) : ∀ (l : List Int), l.length ≤ k + 1 → 2 ≤ l.length → ∀ z, z ∈ zd k l → 1 ≤ z.2 := by
  induction k with
  | zero => intro l h1 h2; omega
  | succ k ih =>
    intro l h1 h2 z hz
    obtain ⟨l', hl', hs⟩ := zd_step k l h2
    obtain ⟨a, b, e, Z, hZ', hmem, hab, haZ, hbZ, hperm, hlm⟩ := hs.mem
    rw [hmem] at hz
    rcases hz with rfl | rfl | hz
    · simp
    · simp
    · have hne : 1 ≤ Z.length := List.length_pos_of_mem hz
      have := congrArg List.length hZ'
      rw [length_zd, List.length_append] at this
      simp at this
      exact ih l' (by omega) (by omega) z (by rw [hZ']; simp [hz])

/-- The sum of the words' shares. -/
def share (K : Nat) (Z : List (Int × Nat)) : Nat := (Z.map fun z => 2 ^ (K - z.2)).sum

theorem share_perm {K : Nat} {L M : List (Int × Nat)} (h : L.Perm M) : share K L = share K M := by
  unfold share
  induction h with
  | nil => rfl
  | cons x _ ih => simp [ih]
  | swap x y l => simp; omega
  | trans _ _ ih1 ih2 => exact ih1.trans ih2

/-- The words are a whole code. -/
theorem zd_share (K k : Nat) : ∀ (l : List Int), l.length ≤ k + 1 → 1 ≤ l.length → (∀ z, z ∈ zd k l → z.2 ≤ K) → share K (zd k l) = 2 ^ K := by
  induction k with
  | zero =>
    intro l h1 h2 _
    match l, h1, h2 with
    | [x], _, _ => simp [zd, deps, share]
  | succ k ih =>
    intro l h1 h2 hK
    by_cases h3 : 2 ≤ l.length
    · obtain ⟨l', hl', hs⟩ := zd_step k l h3
      obtain ⟨a, b, e, Z, hZ', hmem, hab, haZ, hbZ, hperm, hlm⟩ := hs.mem
      have he : e + 1 ≤ K := hK (a, e + 1) ((hmem _).2 (.inl rfl))
      have h4 := ih l' (by omega) (by omega) (fun z hz => by
        rw [hZ', List.mem_append] at hz
        rcases hz with hz | hz
        · exact hK z ((hmem _).2 (.inr (.inr hz)))
        · simp at hz; rw [hz]; omega)
      rw [share_perm hperm, ← h4, hZ']
      unfold share
      simp only [List.map_cons, List.sum_cons, List.map_append, List.sum_append, List.map_nil, List.sum_nil]
      have : 2 ^ (K - e) = 2 ^ (K - (e + 1)) + 2 ^ (K - (e + 1)) := by
        rw [show K - e = (K - (e + 1)) + 1 by omega, Nat.pow_succ]; omega
      omega
    · match l, h2, h3 with
      | [x], _, _ =>
        have : zd (k + 1) [x] = [(x, 0)] := rfl
        rw [this]; simp [share]
      | x :: y :: l, _, h => simp at h

end Go.Proofs.Ythgijppajindpaa

namespace Go.Proofs.Ythgijppajindpaa

theorem tm_head {β : Type} {wt : β → Int} {x : β} : ∀ {l : List β}, (∀ y, y ∈ l → wt x ≤ wt y) → tm wt (x :: l) = some (0, x, l)
  | [], _ => rfl
  | y :: l, h => by
    rw [tm]
    obtain ⟨i, m, r, e⟩ := tm_isSome (wt := wt) (l := y :: l) (by simp)
    rw [e]
    obtain ⟨h1, h2, _⟩ := tm_some e
    dsimp only
    rw [if_pos (h m (by rw [h1, List.mem_insertIdx h2]; exact .inl rfl))]

theorem getLastD_eq (d : List Nat) (h : 0 < d.length) : d.getLastD 0 = d.getD (d.length - 1) 0 := by
  have := eq_dropLast_last 0 d h
  rw [List.getD_eq_getElem?_getD]
  conv => rhs; rw [this]
  rw [List.getElem?_append_right (by simp)]
  simp

/-- One step of a row in order. -/
theorem deps_fifo (k : Nat) (x y : Int) (r : List Int) (h1 : ∀ z, z ∈ y :: r → x ≤ z) (h2 : ∀ z, z ∈ r → y ≤ z) :
    deps (k + 1) (x :: y :: r) = ((deps k (r ++ [x + y])).getD r.length 0 + 1) :: ((deps k (r ++ [x + y])).getD r.length 0 + 1) :: (deps k (r ++ [x + y])).dropLast := by
  rw [deps, tm_head (wt := id) h1]
  dsimp only
  rw [tm_head (wt := id) h2]
  dsimp only
  rw [getLastD_eq _ (by rw [length_deps]; simp), length_deps]
  simp

theorem fifo_le (k : Nat) : ∀ (l : List Int) (a b K : Nat), l.length ≤ k + 1 → l.Pairwise (· ≤ ·) → (∀ x, x ∈ l → 0 ≤ x) → (∀ x y, x ∈ l → y ∈ l → y ≤ 2 * x) → l.length = a + b → a + 2 * b ≤ 2 ^ K →
    ∀ i, i < l.length → (deps k l).getD i 0 ≤ K ∧ (a ≤ i → (deps k l).getD i 0 + 1 ≤ K) := by
  induction k with
  | zero =>
    intro l a b K h1 _ _ _ h2 h3 i hi
    have e : (deps 0 l).getD i 0 = 0 := by
      match l, h1 with
      | [], _ => rfl
      | [x], _ =>
        have : i = 0 := by simpa using hi
        subst this; rfl
    rw [e]
    refine ⟨Nat.zero_le _, fun ha => ?_⟩
    cases K with
    | zero => simp at h3; omega
    | succ K => omega
  | succ k ih =>
    intro l a b K h1 hs h0 hj h2 h3 i hi
    match l, h1, hs, h0, hj, h2, hi with
    | [], _, _, _, _, _, hi => simp at hi
    | [x], _, _, _, _, h2, hi =>
      have : i = 0 := by simpa using hi
      subst this
      have e : (deps (k + 1) [x]).getD 0 0 = 0 := rfl
      rw [e]
      refine ⟨Nat.zero_le _, fun ha => ?_⟩
      have hb : b = 1 := by simp at h2; omega
      subst hb
      cases K with
      | zero => simp at h3
      | succ K => omega
    | x :: y :: r, h1, hs, h0, hj, h2, hi =>
      have hs1 := List.pairwise_cons.1 hs
      have hs2 := List.pairwise_cons.1 hs1.2
      have hstep := deps_fifo k x y r hs1.1 hs2.1
      have hx0 := h0 x (by simp)
      have hy0 := h0 y (by simp)
      have hxy := hs1.1 y (by simp)
      obtain ⟨l', hl'⟩ : ∃ q, q = r ++ [x + y] := ⟨_, rfl⟩
      have hlen' : l'.length = r.length + 1 := by rw [hl']; simp
      have m' : ∀ z, z ∈ l' → z ∈ r ∨ z = x + y := fun z hz => by rw [hl', List.mem_append, List.mem_singleton] at hz; exact hz
      have p1 : l'.length ≤ k + 1 := by rw [hlen']; simp at h1; omega
      have p2 : l'.Pairwise (· ≤ ·) := by
        rw [hl', List.pairwise_append]
        refine ⟨hs2.2, by simp, fun z hz w hw => ?_⟩
        simp at hw
        subst hw
        have := hj x z (by simp) (by simp [hz])
        omega
      have p3 : ∀ z, z ∈ l' → 0 ≤ z := fun z hz => by
        rcases m' z hz with h | rfl
        · exact h0 z (by simp [h])
        · omega
      have p4 : ∀ z w, z ∈ l' → w ∈ l' → w ≤ 2 * z := fun z w hz hw => by
        rcases m' z hz with h | rfl
        · have hyz := hs2.1 z h
          rcases m' w hw with h' | rfl
          · exact hj z w (by simp [h]) (by simp [h'])
          · omega
        · rcases m' w hw with h' | rfl
          · have := hj x w (by simp) (by simp [h']); omega
          · omega
      rw [← hl'] at hstep
      have hdl : (deps k l').length = r.length + 1 := by rw [length_deps, hlen']
      have htl : ∀ j, j < r.length → (deps k l').dropLast.getD j 0 = (deps k l').getD j 0 := fun j hj => by
        rw [List.getD_eq_getElem?_getD, List.getD_eq_getElem?_getD, List.getElem?_dropLast, if_pos (by omega)]
      have g0 : (deps (k + 1) (x :: y :: r)).getD 0 0 = (deps k l').getD r.length 0 + 1 := by rw [hstep]; rfl
      have g1 : (deps (k + 1) (x :: y :: r)).getD 1 0 = (deps k l').getD r.length 0 + 1 := by rw [hstep]; rfl
      have g2 : ∀ j, j < r.length → (deps (k + 1) (x :: y :: r)).getD (j + 2) 0 = (deps k l').getD j 0 := fun j hj => by
        rw [hstep, ← htl j hj]; rfl
      have hlen : r.length + 2 = a + b := by simpa using h2
      have hi' : i < r.length + 2 := by simpa using hi
      -- a is two or more
      have main : ∀ a b K, r.length + 2 = a + b → a + 2 * b ≤ 2 ^ K → 2 ≤ a → (deps (k + 1) (x :: y :: r)).getD i 0 ≤ K ∧ (a ≤ i → (deps (k + 1) (x :: y :: r)).getD i 0 + 1 ≤ K) := by
        intro a b K hab hK ha
        have q := ih l' (a - 2) (b + 1) K p1 p2 p3 p4 (by omega) (by omega)
        have ql := q r.length (by omega)
        match i, hi' with
        | 0, _ => rw [g0]; exact ⟨ql.2 (by omega), fun h => by omega⟩
        | 1, _ => rw [g1]; exact ⟨ql.2 (by omega), fun h => by omega⟩
        | j + 2, hj => rw [g2 j (by omega)]; exact ⟨(q j (by omega)).1, fun h => (q j (by omega)).2 (by omega)⟩
      by_cases ha2 : 2 ≤ a
      · exact main a b K hlen h3 ha2
      · cases K with
        | zero => simp at h3; omega
        | succ K =>
          rw [Nat.pow_succ] at h3
          by_cases ha1 : a = 1
          · have q := ih l' (b - 1) 1 K p1 p2 p3 p4 (by omega) (by omega)
            have ql := q r.length (by omega)
            have qll := ql.2 (by omega)
            match i, hi' with
            | 0, _ => rw [g0]; exact ⟨by omega, fun h => by omega⟩
            | 1, _ => rw [g1]; exact ⟨by omega, fun h => by omega⟩
            | j + 2, hj => rw [g2 j (by omega)]; have := (q j (by omega)).1; exact ⟨by omega, fun h => by omega⟩
          · have := main b 0 K (by omega) (by omega) (by omega)
            exact ⟨by omega, fun h => by omega⟩

/-- Weights of one each. -/
theorem ones_le (k n K : Nat) (hn : n ≤ k + 1) (hK : n ≤ 2 ^ K) : ∀ z, z ∈ zd k (List.replicate n 1) → z.2 ≤ K := by
  intro z hz
  have h := fifo_le k (List.replicate n 1) n 0 K (by simpa using hn) (by simp [List.pairwise_replicate]) (by intro x hx; simp at hx; omega) (by intro x y hx hy; simp at hx hy; omega) (by simp) (by omega)
  obtain ⟨i, hi, rfl⟩ := List.getElem_of_mem hz
  have hi' : i < (List.replicate n (1 : Int)).length := by rw [← length_zd k]; exact hi
  have := (h i hi').1
  rw [List.getD_eq_getElem?_getD, List.getElem?_eq_getElem (by rw [length_deps]; exact hi')] at this
  have e : ((zd k (List.replicate n 1))[i]).2 = (deps k (List.replicate n 1))[i]'(by rw [length_deps]; exact hi') := by
    simp only [zd, List.getElem_zip]
  rw [e]
  exact this

end Go.Proofs.Ythgijppajindpaa

namespace Go.Proofs.Ythgijppajindpaa

/-- The document's way: the two lightest go, and their tree comes last. -/
def procT : Nat → List Tr → List Tr
  | 0, F => F
  | k + 1, F =>
    match tm Tr.wt F with
    | none => F
    | some (_, a, F1) =>
      match tm Tr.wt F1 with
      | none => F
      | some (_, b, F2) => procT k (F2 ++ [.node (a.wt + b.wt) a b])

/-- The symbols of a tree, each with its depth. -/
def Tr.lay : Tr → Nat → List (Nat × Nat)
  | .leaf _ s, d => [(s, d)]
  | .node _ l r, d => l.lay (d + 1) ++ r.lay (d + 1)

theorem procT_lay (k : Nat) : ∀ F : List Tr, F.length ≤ k + 1 →
    ((procT k F).flatMap fun t => t.lay 0).Perm ((F.zip (deps k (F.map Tr.wt))).flatMap fun p => p.1.lay p.2) := by
  induction k with
  | zero =>
    intro F h
    match F, h with
    | [], _ => exact List.Perm.refl _
    | [t], _ => exact List.Perm.refl _
  | succ k ih =>
    intro F h
    cases e : tm Tr.wt F with
    | none =>
      rw [tm_none e]
      exact List.Perm.refl _
    | some q =>
      obtain ⟨i, a, F1⟩ := q
      cases e1 : tm Tr.wt F1 with
      | none =>
        have h1 := (tm_some e).1
        rw [tm_none e1] at h1
        have hi := (tm_some e).2.1
        rw [tm_none e1] at hi
        have hi0 : i = 0 := by simpa using hi
        subst hi0
        simp at h1
        subst h1
        exact List.Perm.refl _
      | some q =>
        obtain ⟨j, b, F2⟩ := q
        obtain ⟨p1, p2, _, _⟩ := tm_some e
        obtain ⟨q1, q2, _, _⟩ := tm_some e1
        have l1 := tm_length e
        have l2 := tm_length e1
        have hp : procT (k + 1) F = procT k (F2 ++ [.node (a.wt + b.wt) a b]) := by rw [procT, e]; dsimp only; rw [e1]
        rw [hp]
        refine (ih (F2 ++ [.node (a.wt + b.wt) a b]) (by simp; omega)).trans ?_
        have hm : (F2 ++ [Tr.node (a.wt + b.wt) a b]).map Tr.wt = F2.map Tr.wt ++ [a.wt + b.wt] := by simp [Tr.wt]
        rw [hm]
        have hlen := length_deps k (F2.map Tr.wt ++ [a.wt + b.wt])
        rw [List.length_append, List.length_map, List.length_singleton] at hlen
        have hdl : ((deps k (F2.map Tr.wt ++ [a.wt + b.wt])).dropLast).length = F2.length := by rw [List.length_dropLast]; omega
        have hlast := eq_dropLast_last 0 (deps k (F2.map Tr.wt ++ [a.wt + b.wt])) (by omega)
        have hd : deps (k + 1) (F.map Tr.wt) = ((deps k (F2.map Tr.wt ++ [a.wt + b.wt])).dropLast.insertIdx j ((deps k (F2.map Tr.wt ++ [a.wt + b.wt])).getLastD 0 + 1)).insertIdx i ((deps k (F2.map Tr.wt ++ [a.wt + b.wt])).getLastD 0 + 1) := by
          rw [deps, tm_map (wt := Tr.wt) (wt' := id) Tr.wt (fun _ => rfl), e]
          simp only [Option.map_some]
          rw [tm_map (wt := Tr.wt) (wt' := id) Tr.wt (fun _ => rfl), e1]
          rfl
        rw [hd]
        conv => lhs; rw [hlast]
        rw [List.zip_append (by rw [hdl])]
        have hz : F.zip (((deps k (F2.map Tr.wt ++ [a.wt + b.wt])).dropLast.insertIdx j ((deps k (F2.map Tr.wt ++ [a.wt + b.wt])).getLastD 0 + 1)).insertIdx i ((deps k (F2.map Tr.wt ++ [a.wt + b.wt])).getLastD 0 + 1)) =
            ((F2.zip (deps k (F2.map Tr.wt ++ [a.wt + b.wt])).dropLast).insertIdx j (b, (deps k (F2.map Tr.wt ++ [a.wt + b.wt])).getLastD 0 + 1)).insertIdx i (a, (deps k (F2.map Tr.wt ++ [a.wt + b.wt])).getLastD 0 + 1) := by
          conv => lhs; rw [p1, q1]
          rw [zip_insertIdx _ _ _ _ _ (by rw [List.length_insertIdx_of_le_length q2, List.length_insertIdx_of_le_length (by omega), hdl]) (by rw [List.length_insertIdx_of_le_length q2]; omega),
            zip_insertIdx _ _ _ _ _ (by rw [hdl]) q2]
        rw [hz]
        have hzl : (F2.zip (deps k (F2.map Tr.wt ++ [a.wt + b.wt])).dropLast).length = F2.length := by rw [List.length_zip]; omega
        have hperm : (((F2.zip (deps k (F2.map Tr.wt ++ [a.wt + b.wt])).dropLast).insertIdx j (b, (deps k (F2.map Tr.wt ++ [a.wt + b.wt])).getLastD 0 + 1)).insertIdx i (a, (deps k (F2.map Tr.wt ++ [a.wt + b.wt])).getLastD 0 + 1)).Perm
            ((a, (deps k (F2.map Tr.wt ++ [a.wt + b.wt])).getLastD 0 + 1) :: (b, (deps k (F2.map Tr.wt ++ [a.wt + b.wt])).getLastD 0 + 1) :: F2.zip (deps k (F2.map Tr.wt ++ [a.wt + b.wt])).dropLast) :=
          (List.perm_insertIdx _ _ (by rw [List.length_insertIdx_of_le_length (by omega)]; omega)).trans (List.Perm.cons _ (List.perm_insertIdx _ _ (by omega)))
        refine List.Perm.trans ?_ (hperm.flatMap_right _).symm
        simp only [List.flatMap_append, List.flatMap_cons, List.flatMap_nil, List.append_nil, List.zip_cons_cons, List.zip_nil_right, Tr.lay]
        rw [← List.append_assoc (a.lay _)]
        exact List.perm_append_comm

/-- The lengths are laid symbol by symbol. -/
def setAll (ps : List (Nat × Nat)) (xs : List Int) : List Int := ps.foldl (fun xs p => xs.set p.1 (max (p.2 : Int) 1)) xs

theorem dep_setAll : ∀ (t : Tr) (d : Nat) (xs : List Int), t.dep d xs = setAll (t.lay d) xs
  | .leaf _ s, d, xs => rfl
  | .node _ l r, d, xs => by
    rw [Tr.dep, Tr.lay, setAll, List.foldl_append, dep_setAll l, dep_setAll r]
    rfl

theorem foldl_dep : ∀ (F : List Tr) (xs : List Int), F.foldl (fun xs t => t.dep 0 xs) xs = setAll (F.flatMap fun t => t.lay 0) xs
  | [], xs => rfl
  | t :: F, xs => by
    rw [List.foldl_cons, foldl_dep F, List.flatMap_cons, setAll, setAll, List.foldl_append, dep_setAll]
    rfl

theorem setAll_perm {P Q : List (Nat × Nat)} (h : P.Perm Q) (hn : (P.map Prod.fst).Nodup) (xs : List Int) : setAll P xs = setAll Q xs := by
  unfold setAll
  refine List.Perm.foldl_eq' h ?_ xs
  intro x hx y hy z
  by_cases he : x.1 = y.1
  · have : x = y := by
      obtain ⟨i, hi, rfl⟩ := List.getElem_of_mem hx
      obtain ⟨j, hj, rfl⟩ := List.getElem_of_mem hy
      have hij : i = j := by
        have h1 : (P.map Prod.fst)[i]'(by simpa using hi) = (P.map Prod.fst)[j]'(by simpa using hj) := by simpa using he
        have hp := List.pairwise_iff_getElem.1 hn
        rcases Nat.lt_trichotomy i j with h | h | h
        · exact absurd h1 (hp i j _ _ h)
        · exact h
        · exact absurd h1.symm (hp j i _ _ h)
      subst hij; rfl
    rw [this]
  · exact List.set_comm _ _ he

/-! ### The two queues -/

/-- L is what comes out of G, the first of the lightest ahead. -/
inductive SSort : List Tr → List Tr → Prop
  | nil : SSort [] []
  | cons {G G' L : List Tr} {x : Tr} {i : Nat} (h : tm Tr.wt G = some (i, x, G')) (hs : SSort G' L) : SSort G (x :: L)

theorem tm_append {β : Type} {wt : β → Int} : ∀ {G : List β} {i : Nat} {x : β} {G' P : List β}, tm wt G = some (i, x, G') → (∀ y, y ∈ P → wt x ≤ wt y) → tm wt (G ++ P) = some (i, x, G' ++ P)
  | [], _, _, _, _, h, _ => by simp [tm] at h
  | a :: G, i, x, G', P, h, hP => by
    rw [List.cons_append, tm]
    rw [tm] at h
    cases e : tm wt G with
    | none =>
      rw [e] at h
      simp only [Option.some.injEq, Prod.mk.injEq] at h
      obtain ⟨rfl, rfl, rfl⟩ := h
      have := tm_none e
      subst this
      cases e2 : tm wt ([] ++ P) with
      | none =>
        have := tm_none e2
        simp at this
        subst this
        rfl
      | some q =>
        obtain ⟨i', m, r⟩ := q
        dsimp only
        rw [if_pos (hP m (by
          have h1 := tm_some e2
          have : m ∈ [] ++ P := by rw [h1.1, List.mem_insertIdx h1.2.1]; exact .inl rfl
          simpa using this))]
    | some q =>
      obtain ⟨i', m, r⟩ := q
      rw [e] at h
      dsimp only at h
      by_cases hle : wt a ≤ wt m
      · rw [if_pos hle] at h
        simp only [Option.some.injEq, Prod.mk.injEq] at h
        obtain ⟨rfl, rfl, rfl⟩ := h
        obtain ⟨i2, m2, r2, e2⟩ := tm_isSome (wt := wt) (l := G ++ P) (by
          have := tm_length e
          simp; omega)
        rw [e2]
        dsimp only
        have h1 := tm_some e2
        have hm2 : m2 ∈ G ++ P := by rw [h1.1, List.mem_insertIdx h1.2.1]; exact .inl rfl
        have : wt a ≤ wt m2 := by
          rcases List.mem_append.1 hm2 with hg | hp
          · have h3 := tm_some e
            rw [h3.1, List.mem_insertIdx h3.2.1] at hg
            rcases hg with rfl | hg
            · exact hle
            · exact Int.le_trans hle (h3.2.2.1 _ hg)
          · exact hP _ hp
        rw [if_pos this]
      · rw [if_neg hle] at h
        simp only [Option.some.injEq, Prod.mk.injEq] at h
        obtain ⟨rfl, rfl, rfl⟩ := h
        rw [tm_append e hP]
        dsimp only
        rw [if_neg hle]
        rfl

theorem tm_append_right {β : Type} {wt : β → Int} : ∀ {G : List β} {y : β} {P : List β}, (∀ g, g ∈ G → wt y < wt g) → (∀ p, p ∈ P → wt y ≤ wt p) → tm wt (G ++ y :: P) = some (G.length, y, G ++ P)
  | [], y, P, _, hP => tm_head hP
  | a :: G, y, P, hG, hP => by
    rw [List.cons_append, tm, tm_append_right (fun g hg => hG g (by simp [hg])) hP]
    dsimp only
    rw [if_neg (by have := hG a (by simp); omega)]
    rfl

theorem SSort.length : ∀ {G L : List Tr}, SSort G L → L.length = G.length
  | _, _, .nil => rfl
  | _, _, .cons h hs => by rw [List.length_cons, hs.length, tm_length h]

theorem SSort.mem : ∀ {G L : List Tr}, SSort G L → ∀ x, x ∈ L ↔ x ∈ G
  | _, _, .nil, x => Iff.rfl
  | _, _, .cons h hs, x => by
    have h1 := tm_some h
    rw [List.mem_cons, hs.mem, h1.1, List.mem_insertIdx h1.2.1]

theorem SSort.le_one {G L : List Tr} (h : SSort G L) (h1 : G.length ≤ 1) : L = G := by
  cases h with
  | nil => rfl
  | cons h hs =>
    rename_i G' L' z i
    have hl := tm_length h
    have h2 := tm_some h
    have hg : G' = [] := List.eq_nil_of_length_eq_zero (by omega)
    subst hg
    cases hs with
    | nil =>
      have hi : i = 0 := by simpa using h2.2.1
      rw [h2.1, hi]
      simp
    | cons h' _ => simp [tm] at h'

/-- A taking off the queues is the search of the lightest. -/
theorem pop_tm {G L P L1 P1 : List Tr} {x : Tr} (hs : SSort G L) (hP : P.Pairwise fun a b => a.wt ≤ b.wt) (h : pop Tr.wt L P = some (x, L1, P1)) :
    ∃ i G1, tm Tr.wt (G ++ P) = some (i, x, G1 ++ P1) ∧ SSort G1 L1 ∧ P1.Pairwise (fun a b => a.wt ≤ b.wt) ∧ (∀ p, p ∈ P1 → p ∈ P) := by
  cases hs with
  | nil =>
    cases P with
    | nil => simp [pop] at h
    | cons y P =>
      simp only [pop, Option.some.injEq, Prod.mk.injEq] at h
      obtain ⟨rfl, rfl, rfl⟩ := h
      have hp := List.pairwise_cons.1 hP
      exact ⟨0, [], tm_head hp.1, .nil, hp.2, fun p hp => by simp [hp]⟩
  | cons ht hs =>
    rename_i G' L' z i
    cases P with
    | nil =>
      simp only [pop, Option.some.injEq, Prod.mk.injEq] at h
      obtain ⟨rfl, rfl, rfl⟩ := h
      exact ⟨i, G', tm_append ht (by simp), hs, by simp, fun p hp => hp⟩
    | cons y P =>
      have hp := List.pairwise_cons.1 hP
      by_cases hle : z.wt ≤ y.wt
      · simp only [pop, if_pos hle, Option.some.injEq, Prod.mk.injEq] at h
        obtain ⟨rfl, rfl, rfl⟩ := h
        refine ⟨i, G', tm_append ht (fun p hp' => ?_), hs, hP, fun p hp => hp⟩
        simp only [List.mem_cons] at hp'
        rcases hp' with rfl | hp'
        · exact hle
        · exact Int.le_trans hle (hp.1 p hp')
      · simp only [pop, if_neg hle, Option.some.injEq, Prod.mk.injEq] at h
        obtain ⟨rfl, rfl, rfl⟩ := h
        refine ⟨G.length, G, tm_append_right (fun g hg => ?_) hp.1, .cons ht hs, hp.2, fun p hp => by simp [hp]⟩
        have h3 := tm_some ht
        rw [h3.1, List.mem_insertIdx h3.2.1] at hg
        rcases hg with rfl | hg
        · omega
        · have := h3.2.2.1 g hg; omega

/-- THE TWO QUEUES COME TO THE DOCUMENT's TREE. -/
theorem build_proc (k : Nat) : ∀ (G L P : List Tr) (m : Int), SSort G L → 0 ≤ m → (∀ x, x ∈ G ++ P → m ≤ x.wt) → P.Pairwise (fun a b => a.wt ≤ b.wt) → (∀ p, p ∈ P → p.wt ≤ 2 * m) → G.length + P.length ≤ k + 1 →
    (build k L P).1 ++ (build k L P).2 = procT k (G ++ P) := by
  induction k with
  | zero =>
    intro G L P m hs h0 hm hP h2 hlen
    rw [build, procT]
    dsimp only
    rw [hs.le_one (by omega)]
  | succ k ih =>
    intro G L P m hs h0 hm hP h2 hlen
    cases e : pop Tr.wt L P with
    | none =>
      have : L = [] ∧ P = [] := by
        cases L <;> cases P <;> simp [pop] at e ⊢
        split at e <;> simp at e
      obtain ⟨rfl, rfl⟩ := this
      cases hs
      rfl
    | some q =>
      obtain ⟨a, L1, P1⟩ := q
      obtain ⟨i, G1, t1, s1, w1, m1⟩ := pop_tm hs hP e
      cases e1 : pop Tr.wt L1 P1 with
      | none =>
        have : L1 = [] ∧ P1 = [] := by
          cases L1 <;> cases P1 <;> simp [pop] at e1 ⊢
          split at e1 <;> simp at e1
        obtain ⟨rfl, rfl⟩ := this
        cases s1
        have hl := tm_length t1
        rw [build, e]
        dsimp only
        rw [e1, procT, t1]
        dsimp only
        rw [show tm Tr.wt ([] ++ []) = none from rfl]
        dsimp only
        simp at hl
        rw [hs.le_one (by omega)]
      | some q =>
        obtain ⟨b, L2, P2⟩ := q
        obtain ⟨j, G2, t2, s2, w2, m2⟩ := pop_tm s1 w1 e1
        have c1 := tm_some t1
        have c2 := tm_some t2
        have l1 := tm_length t1
        have l2 := tm_length t2
        have ha : m ≤ a.wt := hm a (by rw [c1.1, List.mem_insertIdx c1.2.1]; exact .inl rfl)
        have hsub : ∀ x, x ∈ G2 ++ P2 → x ∈ G ++ P := fun x hx => by
          rw [c1.1, List.mem_insertIdx c1.2.1]; right
          rw [c2.1, List.mem_insertIdx c2.2.1]; exact .inr hx
        have hbm : b ∈ G1 ++ P1 := by rw [c2.1, List.mem_insertIdx c2.2.1]; exact .inl rfl
        have hb : m ≤ b.wt := hm b (by rw [c1.1, List.mem_insertIdx c1.2.1]; exact .inr hbm)
        have hab : a.wt ≤ b.wt := c1.2.2.1 b hbm
        rw [build, e]
        dsimp only
        rw [e1, procT, t1]
        dsimp only
        rw [t2]
        dsimp only
        rw [List.append_assoc]
        simp only [List.length_append] at l1 l2
        refine ih G2 L2 (P2 ++ [.node (a.wt + b.wt) a b]) b.wt s2 (by omega) (fun x hx => ?_) ?_ (fun p hp => ?_) (by simp; omega)
        · rw [← List.append_assoc, List.mem_append, List.mem_singleton] at hx
          rcases hx with hx | rfl
          · exact c2.2.2.1 x hx
          · show b.wt ≤ a.wt + b.wt; omega
        · rw [List.pairwise_append]
          refine ⟨w2, by simp, fun p hp q hq => ?_⟩
          simp at hq
          subst hq
          have := h2 p (m1 p (m2 p hp))
          show p.wt ≤ a.wt + b.wt; omega
        · rw [List.mem_append, List.mem_singleton] at hp
          rcases hp with hp | rfl
          · have := h2 p (m1 p (m2 p hp)); omega
          · show a.wt + b.wt ≤ 2 * b.wt; omega

end Go.Proofs.Ythgijppajindpaa

namespace Go.Proofs.Ythgijppajindpaa
open Go.Sort
variable {α : Type} [Inhabited α]

/-! ### The moves, place by place -/
theorem swapLoop_get (a b n : Nat) (k : Nat) : ∀ (i : Nat) (d : Array α), n - i = k → a + n ≤ b → b + n ≤ d.size → ∀ q,
    (swapLoop a b n i d)[q]! = if a + i ≤ q ∧ q < a + n then d[q + (b - a)]! else if b + i ≤ q ∧ q < b + n then d[q - (b - a)]! else d[q]! := by
  induction k with
  | zero =>
    intro i d hk hab hb q
    rw [swapLoop, if_neg (by omega), if_neg (by omega), if_neg (by omega)]
  | succ k ih =>
    intro i d hk hab hb q
    rw [swapLoop, if_pos (by omega), ih (i + 1) _ (by omega) hab (by rw [swp_size]; exact hb)]
    have g := swp_get d (show a + i < d.size by omega) (show b + i < d.size by omega)
    rw [g, g, g]
    by_cases h1 : q = a + i
    · subst h1
      rw [if_neg (by omega), if_neg (by omega), if_neg (by omega), if_pos rfl, if_pos (by omega)]
      congr 1; omega
    · by_cases h2 : q = b + i
      · subst h2
        rw [if_neg (by omega), if_neg (by omega), if_pos rfl, if_neg (by omega), if_pos (by omega)]
        congr 1; omega
      · by_cases h3 : a + i ≤ q ∧ q < a + n
        · rw [if_pos (by omega), if_neg (by omega), if_neg (by omega), if_pos h3]
        · rw [if_neg (by omega), if_neg h3]
          by_cases h4 : b + i ≤ q ∧ q < b + n
          · rw [if_pos (by omega), if_neg (by omega), if_neg (by omega), if_pos h4]
          · rw [if_neg (by omega), if_neg h2, if_neg h1, if_neg h4]

theorem swapLoop_perm (a b n lo hi : Nat) (k : Nat) : ∀ (i : Nat) (d : Array α), n - i = k → lo ≤ a → lo ≤ b → a + n ≤ hi → b + n ≤ hi → hi ≤ d.size → PermIn lo hi d (swapLoop a b n i d) := by
  induction k with
  | zero =>
    intro i d hk h1 h2 h3 h4 h5
    rw [swapLoop, if_neg (by omega)]
    exact permIn_refl _ _ _
  | succ k ih =>
    intro i d hk h1 h2 h3 h4 h5
    rw [swapLoop, if_pos (by omega)]
    exact permIn_trans _ _ _ _ _ (swp_permIn d lo hi (a + i) (b + i) (by omega) (by omega) (by omega) (by omega) h5) (ih (i + 1) _ (by omega) h1 h2 h3 h4 (by rw [swp_size]; exact h5))

theorem rot_get (m : Nat) : ∀ (k i j : Nat) (d : Array α), i + j ≤ k → 0 < i → 0 < j → i ≤ m → m + j ≤ d.size → ∀ q,
    (rot m k i j d)[q]! = if m - i ≤ q ∧ q < m - i + j then d[q + i]! else if m - i + j ≤ q ∧ q < m + j then d[q - j]! else d[q]!
  | 0, i, j, d, hk, hi, hj, him, hs, q => by omega
  | k + 1, i, j, d, hk, hi, hj, him, hs, q => by
    rw [rot]
    split
    · rename_i e
      subst e
      rw [swapLoop_get (m - i) m i i 0 d rfl (by omega) hs]
      by_cases h1 : m - i ≤ q ∧ q < m - i + i
      · rw [if_pos (by omega), if_pos h1]
        congr 1; omega
      · rw [if_neg (by omega), if_neg h1]
        by_cases h2 : m - i + i ≤ q ∧ q < m + i
        · rw [if_pos (by omega), if_pos h2]
          congr 1; omega
        · rw [if_neg (by omega), if_neg h2]
    · split
      · have g := swapLoop_get (m - i) m j j 0 d rfl (by omega) hs
        rw [rot_get m k (i - j) j _ (by omega) (by omega) hj (by omega) (by rw [size_swapLoop]; exact hs), g, g, g]
        by_cases h1 : m - i ≤ q ∧ q < m - i + j
        · rw [if_neg (by omega), if_neg (by omega), if_pos (by omega), if_pos h1]
          congr 1; omega
        · rw [if_neg h1]
          by_cases h2 : m - i + j ≤ q ∧ q < m + j
          · rw [if_pos h2]
            by_cases h3 : q < m - (i - j) + j
            · rw [if_pos (by omega), if_neg (by omega), if_pos (by omega)]
              congr 1; omega
            · rw [if_neg (by omega), if_pos (by omega), if_neg (by omega), if_neg (by omega)]
          · rw [if_neg (by omega), if_neg (by omega), if_neg (by omega), if_neg (by omega), if_neg (by omega)]
      · have g := swapLoop_get (m - i) (m + j - i) i i 0 d rfl (by omega) (by omega)
        rw [rot_get m k i (j - i) _ (by omega) hi (by omega) him (by rw [size_swapLoop]; omega), g, g, g]
        by_cases h1 : m - i ≤ q ∧ q < m - i + j
        · rw [if_pos h1]
          by_cases h3 : q < m - i + (j - i)
          · rw [if_pos (by omega), if_neg (by omega), if_neg (by omega)]
          · rw [if_neg (by omega)]
            by_cases h4 : q < m + (j - i)
            · rw [if_pos (by omega), if_pos (by omega)]
              congr 1; omega
            · omega
        · rw [if_neg h1]
          by_cases h2 : m - i + j ≤ q ∧ q < m + j
          · rw [if_pos h2]
            rw [if_neg (by omega), if_neg (by omega), if_neg (by omega), if_pos (by omega)]
            congr 1; omega
          · rw [if_neg (by omega), if_neg (by omega), if_neg (by omega), if_neg (by omega), if_neg (by omega)]

theorem rot_perm (m lo hi : Nat) : ∀ (k i j : Nat) (d : Array α), 0 < i → 0 < j → lo + i ≤ m → m + j ≤ hi → hi ≤ d.size → PermIn lo hi d (rot m k i j d)
  | 0, i, j, d, hi0, hj, h1, h2, h3 => permIn_refl _ _ _
  | k + 1, i, j, d, hi0, hj, h1, h2, h3 => by
    rw [rot]
    split
    · exact swapLoop_perm _ _ _ _ _ _ 0 d rfl (by omega) (by omega) (by omega) (by omega) h3
    · split
      · exact permIn_trans _ _ _ _ _ (swapLoop_perm _ _ _ _ _ _ 0 d rfl (by omega) (by omega) (by omega) (by omega) h3)
          (rot_perm m lo hi k (i - j) j _ (by omega) hj (by omega) h2 (by rw [size_swapLoop]; exact h3))
      · exact permIn_trans _ _ _ _ _ (swapLoop_perm _ _ _ _ _ _ 0 d rfl (by omega) (by omega) (by omega) (by omega) h3)
          (rot_perm m lo hi k i (j - i) _ hi0 (by omega) h1 (by omega) (by rw [size_swapLoop]; exact h3))

theorem upLoop_get (e : Nat) (n : Nat) : ∀ (k : Nat) (d : Array α), e - k = n → e < d.size → ∀ q,
    (upLoop k e d)[q]! = if k ≤ q ∧ q < e then d[q + 1]! else if k ≤ e ∧ q = e then d[k]! else d[q]! := by
  induction n with
  | zero =>
    intro k d hn he q
    rw [upLoop, if_neg (by omega), if_neg (by omega)]
    split
    · congr 1; omega
    · rfl
  | succ n ih =>
    intro k d hn he q
    rw [upLoop, if_pos (by omega), ih (k + 1) _ (by omega) (by rw [swp_size]; exact he)]
    have g := swp_get d (show k < d.size by omega) (show k + 1 < d.size by omega)
    rw [g, g, g]
    by_cases h1 : k ≤ q ∧ q < e
    · rw [if_pos h1]
      by_cases h2 : q = k
      · subst h2
        rw [if_neg (by omega), if_neg (by omega), if_neg (by omega), if_pos rfl]
      · rw [if_pos (by omega), if_neg (by omega), if_neg (by omega)]
    · rw [if_neg h1, if_neg (by omega)]
      by_cases h2 : q = e
      · rw [if_pos (by omega), if_pos rfl, if_pos (by omega)]
      · rw [if_neg (by omega), if_neg (by omega), if_neg (by omega), if_neg (by omega)]

theorem upLoop_perm (e lo hi : Nat) (n : Nat) : ∀ (k : Nat) (d : Array α), e - k = n → lo ≤ k → e < hi → hi ≤ d.size → PermIn lo hi d (upLoop k e d) := by
  induction n with
  | zero =>
    intro k d hn h1 h2 h3
    rw [upLoop, if_neg (by omega)]
    exact permIn_refl _ _ _
  | succ n ih =>
    intro k d hn h1 h2 h3
    rw [upLoop, if_pos (by omega)]
    exact permIn_trans _ _ _ _ _ (swp_permIn d lo hi k (k + 1) (by omega) (by omega) (by omega) (by omega) h3) (ih (k + 1) _ (by omega) (by omega) h2 (by rw [swp_size]; exact h3))

theorem downLoop_get (i : Nat) : ∀ (k : Nat) (d : Array α), i ≤ k → k < d.size → ∀ q,
    (downLoop i k d)[q]! = if i < q ∧ q ≤ k then d[q - 1]! else if q = i then d[k]! else d[q]!
  | 0, d, hi, hk, q => by
    rw [downLoop, if_neg (by omega)]
    split
    · congr 1; omega
    · rfl
  | k + 1, d, hi, hk, q => by
    rw [downLoop]
    split
    · rw [downLoop_get i k _ (by omega) (by rw [swp_size]; omega)]
      have g := swp_get d (show k + 1 < d.size by omega) (show k < d.size by omega)
      rw [g, g, g]
      by_cases h1 : i < q ∧ q ≤ k + 1
      · rw [if_pos h1]
        by_cases h2 : q = k + 1
        · subst h2
          rw [if_neg (by omega), if_neg (by omega), if_neg (by omega), if_pos rfl]
          rfl
        · rw [if_pos (by omega), if_neg (by omega), if_neg (by omega)]
      · rw [if_neg h1, if_neg (by omega)]
        by_cases h2 : q = i
        · rw [if_pos h2, if_pos rfl, if_pos h2]
        · rw [if_neg h2, if_neg (by omega), if_neg (by omega), if_neg h2]
    · have : i = k + 1 := by omega
      subst this
      rw [if_neg (by omega)]
      split
      · congr 1
      · rfl

theorem downLoop_perm (i lo hi : Nat) : ∀ (k : Nat) (d : Array α), lo ≤ i → k < hi → hi ≤ d.size → PermIn lo hi d (downLoop i k d)
  | 0, d, h1, h2, h3 => permIn_refl _ _ _
  | k + 1, d, h1, h2, h3 => by
    rw [downLoop]
    split
    · exact permIn_trans _ _ _ _ _ (swp_permIn d lo hi (k + 1) k (by omega) (by omega) (by omega) (by omega) h3) (downLoop_perm i lo hi k _ h1 (by omega) (by rw [swp_size]; exact h3))
    · exact permIn_refl _ _ _

theorem bs_edge (p : Nat → Bool) : ∀ (k i j : Nat), i ≤ j → j - i ≤ k → (bs p k i j = i ∨ p (bs p k i j - 1) = true) ∧ (bs p k i j = j ∨ p (bs p k i j) = false)
  | 0, i, j, h, hk => ⟨.inl rfl, .inl (by rw [bs]; omega)⟩
  | k + 1, i, j, h, hk => by
    rw [bs]
    split
    · split
      · rename_i hp
        obtain ⟨h1, h2⟩ := bs_edge p k ((i + j) / 2 + 1) j (by omega) (by omega)
        refine ⟨?_, h2⟩
        rcases h1 with h1 | h1
        · right; rw [h1]; exact hp
        · exact .inr h1
      · rename_i hp
        obtain ⟨h1, h2⟩ := bs_edge p k i ((i + j) / 2) (by omega) (by omega)
        refine ⟨h1, ?_⟩
        rcases h2 with h2 | h2
        · right; rw [h2]; simpa using hp
        · exact .inr h2
    · exact ⟨.inl rfl, .inl (by omega)⟩

/-! ### The order by weights, then by places -/
def lt2 (lt : α → α → Bool) (pos : α → Nat) (x y : α) : Bool := lt x y || (!lt y x && decide (pos x < pos y))

omit [Inhabited α] in
theorem swo_lt2 {lt : α → α → Bool} (h : SWO lt) (pos : α → Nat) : SWO (lt2 lt pos) where
  irrefl x := by simp [lt2, h.irrefl]
  trans x y z h1 h2 := by
    simp only [lt2, Bool.or_eq_true, Bool.and_eq_true, Bool.not_eq_true', decide_eq_true_eq] at *
    rcases h1 with h1 | ⟨h1, h1'⟩ <;> rcases h2 with h2 | ⟨h2, h2'⟩
    · exact .inl (h.trans _ _ _ h1 h2)
    · left
      cases e : lt x z with
      | true => rfl
      | false => have := h.ntrans _ _ _ e h2; rw [h1] at this; cases this
    · left
      cases e : lt x z with
      | true => rfl
      | false => have := h.ntrans _ _ _ h1 e; rw [h2] at this; cases this
    · exact .inr ⟨h.ntrans _ _ _ h2 h1, by omega⟩
  ntrans x y z h1 h2 := by
    simp only [lt2, Bool.or_eq_false_iff, Bool.and_eq_false_iff, Bool.not_eq_false', decide_eq_false_iff_not] at *
    refine ⟨h.ntrans _ _ _ h1.1 h2.1, ?_⟩
    rcases h1.2 with a | a
    · left
      cases e : lt z x with
      | true => rfl
      | false => have := h.ntrans _ _ _ h2.1 e; rw [a] at this; cases this
    · rcases h2.2 with b | b
      · left
        cases e : lt z x with
        | true => rfl
        | false => have := h.ntrans _ _ _ e h1.1; rw [b] at this; cases this
      · right; omega

omit [Inhabited α] in
theorem lt2_pos {lt : α → α → Bool} (h : SWO lt) {pos : α → Nat} {x y : α} (hp : pos x < pos y) : lt2 lt pos y x = lt y x ∧ lt2 lt pos x y = !lt y x := by
  constructor
  · simp [lt2, show ¬ pos y < pos x by omega]
  · cases e : lt y x with
    | true => simp [lt2, h.asymmA e, e]
    | false => simp [lt2, e, hp]

/-- The places of the left run come ahead of those of the right one. -/
def Cross (pos : α → Nat) (a m b : Nat) (d : Array α) : Prop := ∀ p q, a ≤ p → p < m → m ≤ q → q < b → pos d[p]! < pos d[q]!

theorem sortedIn_sub {lt : α → α → Bool} {a b a' b' : Nat} {d d' : Array α} (h : SortedIn lt a b d) (k : Nat) (ha : a ≤ a' + k) (hb : b' + k ≤ b) (he : ∀ p, a' ≤ p → p < b' → d'[p]! = d[p + k]!) : SortedIn lt a' b' d' := by
  intro p q h1 h2 h3
  rw [he p h1 (by omega), he q (by omega) h3]
  exact h (p + k) (q + k) (by omega) (by omega) (by omega)

theorem SortedIn.le {lt : α → α → Bool} (hS : SWO lt) {a b : Nat} {d : Array α} (h : SortedIn lt a b d) {p q : Nat} (h1 : a ≤ p) (h2 : p ≤ q) (h3 : q < b) : lt d[q]! d[p]! = false := by
  by_cases e : p = q
  · subst e; exact hS.irrefl _
  · exact h p q h1 (by omega) h3

theorem permIn_get {a b : Nat} {d d' : Array α} (h : PermIn a b d d') (hb : b ≤ d.size) {q : Nat} (h1 : a ≤ q) (h2 : q < b) : ∃ p, a ≤ p ∧ p < b ∧ d'[q]! = d[p]! :=
  permIn_all d d' a b (fun x => ∃ p, a ≤ p ∧ p < b ∧ x = d[p]!) hb h (fun i h1 h2 => ⟨i, h1, h2, rfl⟩) q h1 h2

section
variable {lt : α → α → Bool} (hS : SWO lt) (pos : α → Nat)
include hS

theorem symM_spec : ∀ (k a m b : Nat) (d : Array α), a < m → m < b → b ≤ d.size → b - a ≤ k → SortedIn (lt2 lt pos) a m d → SortedIn (lt2 lt pos) m b d → Cross pos a m b d →
    PermIn a b d (symM lt k a m b d) ∧ SortedIn (lt2 lt pos) a b (symM lt k a m b d)
  | 0, a, m, b, d, h1, h2, h3, h4, _, _, _ => by omega
  | k + 1, a, m, b, d, h1, h2, h3, h4, sl, sr, hc => by
    have hS2 := swo_lt2 hS pos
    rw [symM]
    split
    · -- one element on the left
      rename_i hm
      obtain ⟨r1, r2⟩ := bs_range (fun h => lt d[h]! d[a]!) (b - m) m b (by omega)
      obtain ⟨e1, e2⟩ := bs_edge (fun h => lt d[h]! d[a]!) (b - m) m b (by omega) (by omega)
      generalize bs (fun h => lt d[h]! d[a]!) (b - m) m b = i at r1 r2 e1 e2 ⊢
      refine ⟨upLoop_perm _ _ _ _ a d rfl (Nat.le_refl _) (by omega) h3, ?_⟩
      have g := upLoop_get (i - 1) (i - 1 - a) a d rfl (by omega)
      have hlow : ∀ q, m ≤ q → q < i → lt2 lt pos d[q]! d[a]! = true := fun q hq1 hq2 => by
        rcases e1 with e1 | e1
        · omega
        · have c1 := (lt2_pos hS (hc a (i - 1) (Nat.le_refl _) h1 (by omega) (by omega))).1
          cases e : lt2 lt pos d[q]! d[a]! with
          | true => rfl
          | false =>
            have := hS2.ntrans _ _ _ (SortedIn.le hS2 sr hq1 (show q ≤ i - 1 by omega) (by omega)) e
            rw [c1, e1] at this; cases this
      have hhigh : ∀ q, i ≤ q → q < b → lt2 lt pos d[a]! d[q]! = true := fun q hq1 hq2 => by
        rcases e2 with e2 | e2
        · omega
        · have c1 := (lt2_pos hS (hc a i (Nat.le_refl _) h1 (by omega) (by omega))).2
          rw [e2] at c1
          cases e : lt2 lt pos d[a]! d[q]! with
          | true => rfl
          | false =>
            have := hS2.ntrans _ _ _ e (SortedIn.le hS2 sr (by omega) hq1 hq2)
            rw [c1] at this; cases this
      intro p q hp hpq hq
      rw [g, g]
      by_cases c1 : a ≤ q ∧ q < i - 1
      · rw [if_pos c1, if_pos (by omega)]
        exact sr _ _ (by omega) (by omega) (by omega)
      · rw [if_neg c1]
        by_cases c2 : q = i - 1
        · rw [if_pos (by omega), if_pos (by omega)]
          exact hS2.asymmA (hlow _ (by omega) (by omega))
        · rw [if_neg (by omega)]
          by_cases c3 : p < i - 1
          · rw [if_pos (by omega)]
            exact SortedIn.le hS2 sr (by omega) (by omega) (by omega)
          · rw [if_neg (by omega)]
            by_cases c4 : p = i - 1
            · rw [if_pos (by omega)]
              exact hS2.asymmA (hhigh _ (by omega) (by omega))
            · rw [if_neg (by omega)]
              exact sr _ _ (by omega) (by omega) (by omega)
    · split
      · -- one element on the right
        rename_i _ hm
        obtain ⟨r1, r2⟩ := bs_range (fun h => !lt d[m]! d[h]!) (m - a) a m (by omega)
        obtain ⟨e1, e2⟩ := bs_edge (fun h => !lt d[m]! d[h]!) (m - a) a m (by omega) (by omega)
        generalize bs (fun h => !lt d[m]! d[h]!) (m - a) a m = i at r1 r2 e1 e2 ⊢
        refine ⟨downLoop_perm _ _ _ m d (by omega) (by omega) h3, ?_⟩
        have g := downLoop_get i m d (by omega) (by omega)
        have hlow : ∀ q, a ≤ q → q < i → lt2 lt pos d[m]! d[q]! = false := fun q hq1 hq2 => by
          rcases e1 with e1 | e1
          · omega
          · have c1 := (lt2_pos hS (hc (i - 1) m (by omega) (by omega) (by omega) (by omega))).1
            simp only [Bool.not_eq_true'] at e1
            rw [e1] at c1
            exact hS2.ntrans _ _ _ c1 (SortedIn.le hS2 sl hq1 (by omega) (by omega))
        have hhigh : ∀ q, i ≤ q → q < m → lt2 lt pos d[m]! d[q]! = true := fun q hq1 hq2 => by
          rcases e2 with e2 | e2
          · omega
          · have c1 := (lt2_pos hS (hc i m (by omega) (by omega) (by omega) (by omega))).1
            simp only [Bool.not_eq_false'] at e2
            cases e : lt2 lt pos d[m]! d[q]! with
            | true => rfl
            | false =>
              have := hS2.ntrans _ _ _ e (SortedIn.le hS2 sl (by omega) hq1 hq2)
              rw [c1, e2] at this; cases this
        intro p q hp hpq hq
        rw [g, g]
        by_cases c1 : i < p
        · rw [if_pos (by omega), if_pos (by omega)]
          exact sl _ _ (by omega) (by omega) (by omega)
        · rw [if_neg (show ¬ (i < p ∧ p ≤ m) by omega)]
          by_cases c2 : p = i
          · rw [if_pos c2, if_pos (by omega)]
            exact hS2.asymmA (hhigh _ (by omega) (by omega))
          · rw [if_neg c2]
            by_cases c3 : i < q
            · rw [if_pos (by omega)]
              exact SortedIn.le hS2 sl (by omega) (by omega) (by omega)
            · rw [if_neg (by omega)]
              by_cases c4 : q = i
              · rw [if_pos c4]
                exact hlow _ (by omega) (by omega)
              · rw [if_neg c4]
                exact sl _ _ (by omega) (by omega) (by omega)
      · rename_i hm1 hm2
        obtain ⟨mid, hmid⟩ : ∃ x, symMid a b = x := ⟨_, rfl⟩
        have hmid2 : mid = (a + b) / 2 := by rw [← hmid]; rfl
        have hs0 : symS0 a m b ≤ symR0 a m b := by unfold symS0 symR0; rw [hmid]; split <;> omega
        obtain ⟨r1, r2⟩ := bs_range (fun c => !lt d[symMid a b + m - 1 - c]! d[c]!) (symR0 a m b - symS0 a m b) (symS0 a m b) (symR0 a m b) hs0
        obtain ⟨e1, e2⟩ := bs_edge (fun c => !lt d[symMid a b + m - 1 - c]! d[c]!) (symR0 a m b - symS0 a m b) (symS0 a m b) (symR0 a m b) hs0 (by omega)
        dsimp only
        rw [show symStart lt a m b d = bs (fun c => !lt d[symMid a b + m - 1 - c]! d[c]!) (symR0 a m b - symS0 a m b) (symS0 a m b) (symR0 a m b) from rfl]
        generalize bs (fun c => !lt d[symMid a b + m - 1 - c]! d[c]!) (symR0 a m b - symS0 a m b) (symS0 a m b) (symR0 a m b) = s at r1 r2 e1 e2 ⊢
        rw [hmid] at e1 e2 ⊢
        obtain ⟨e, he⟩ : ∃ x, mid + m - s = x := ⟨_, rfl⟩
        rw [he]
        have B1 : a ≤ s ∧ s ≤ m ∧ s ≤ mid ∧ m ≤ e ∧ e ≤ b ∧ mid ≤ e := by
          unfold symS0 at r1
          unfold symR0 at r2
          rw [hmid] at r1 r2
          split at r1 <;> rename_i hx
          · rw [if_pos hx] at r2; omega
          · rw [if_neg hx] at r2; omega
        -- the parting
        have F1 : ∀ x y, a ≤ x → x < s → e ≤ y → y < b → lt2 lt pos d[y]! d[x]! = false := fun x y x1 x2 y1 y2 => by
          have hs : s ≠ symS0 a m b := fun h => by
            unfold symS0 at h
            rw [hmid] at h
            split at h <;> omega
          rcases e1 with e1 | e1
          · exact absurd e1 hs
          · simp only [Bool.not_eq_true'] at e1
            rw [show mid + m - 1 - (s - 1) = e by omega] at e1
            have c1 := (lt2_pos hS (hc (s - 1) e (by omega) (by omega) (by omega) (by omega))).1
            rw [e1] at c1
            exact hS2.ntrans _ _ _ (SortedIn.le hS2 sr (by omega) y1 y2) (hS2.ntrans _ _ _ c1 (SortedIn.le hS2 sl x1 (by omega) (by omega)))
        have F2 : ∀ x y, m ≤ x → x < e → s ≤ y → y < m → lt2 lt pos d[y]! d[x]! = false := fun x y x1 x2 y1 y2 => by
          have hs : s ≠ symR0 a m b := fun h => by
            unfold symR0 at h
            rw [hmid] at h
            split at h <;> omega
          rcases e2 with e2 | e2
          · exact absurd e2 hs
          · simp only [Bool.not_eq_false'] at e2
            rw [show mid + m - 1 - s = e - 1 by omega] at e2
            have c1 := (lt2_pos hS (hc s (e - 1) (by omega) (by omega) (by omega) (by omega))).1
            rw [e2] at c1
            exact hS2.ntrans _ _ _ (SortedIn.le hS2 sl (by omega) y1 y2) (hS2.ntrans _ _ _ (hS2.asymmA c1) (SortedIn.le hS2 sr x1 (by omega) (by omega)))
        -- the turned array
        have T : PermIn a b d (symRot m s e d) ∧ (∀ q, (symRot m s e d)[q]! = if s ≤ q ∧ q < mid then d[q + (m - s)]! else if mid ≤ q ∧ q < e then d[q - (e - m)]! else d[q]!) := by
          unfold symRot
          split
          · rename_i hx
            refine ⟨rot_perm _ _ _ _ _ _ d (by omega) (by omega) (by omega) (by omega) h3, fun q => ?_⟩
            rw [rot_get m (e - s) (m - s) (e - m) d (by omega) (by omega) (by omega) (by omega) (by omega)]
            rw [show m - (m - s) = s by omega, show s + (e - m) = mid by omega, show m + (e - m) = e by omega]
          · rename_i hx
            refine ⟨permIn_refl _ _ _, fun q => ?_⟩
            by_cases hsm : s = m
            · split
              · congr 1; omega
              · rw [if_neg (by omega)]
            · rw [if_neg (by omega)]
              split
              · congr 1; omega
              · rfl
        obtain ⟨P1, G1⟩ := T
        generalize symRot m s e d = d1 at P1 G1 ⊢
        have sz1 : d1.size = d.size := P1.1
        have gA : ∀ q, q < s → d1[q]! = d[q]! := fun q h => by rw [G1, if_neg (by omega), if_neg (by omega)]
        have gB : ∀ q, s ≤ q → q < mid → d1[q]! = d[q + (m - s)]! := fun q h h' => by rw [G1, if_pos ⟨h, h'⟩]
        have gC : ∀ q, mid ≤ q → q < e → d1[q]! = d[q - (e - m)]! := fun q h h' => by rw [G1, if_neg (by omega), if_pos ⟨h, h'⟩]
        have gD : ∀ q, e ≤ q → d1[q]! = d[q]! := fun q h => by rw [G1, if_neg (by omega), if_neg (by omega)]
        have L1 : ∀ x, a ≤ x → x < mid → ∀ y, mid ≤ y → y < b → lt2 lt pos d1[y]! d1[x]! = false := fun x x1 x2 y y1 y2 => by
          by_cases c1 : x < s
          · rw [gA x c1]
            by_cases c2 : y < e
            · rw [gC y y1 c2]
              exact sl _ _ (by omega) (by omega) (by omega)
            · rw [gD y (by omega)]
              exact F1 x y x1 c1 (by omega) y2
          · rw [gB x (by omega) x2]
            by_cases c2 : y < e
            · rw [gC y y1 c2]
              exact F2 _ _ (by omega) (by omega) (by omega) (by omega)
            · rw [gD y (by omega)]
              exact sr _ _ (by omega) (by omega) (by omega)
        have S1 : SortedIn (lt2 lt pos) a s d1 := fun p q hp hpq hq => by rw [gA p (by omega), gA q hq]; exact sl _ _ hp hpq (by omega)
        have S2 : SortedIn (lt2 lt pos) s mid d1 := fun p q hp hpq hq => by rw [gB p hp (by omega), gB q (by omega) hq]; exact sr _ _ (by omega) (by omega) (by omega)
        have S3 : SortedIn (lt2 lt pos) mid e d1 := fun p q hp hpq hq => by rw [gC p hp (by omega), gC q (by omega) hq]; exact sl _ _ (by omega) (by omega) (by omega)
        have S4 : SortedIn (lt2 lt pos) e b d1 := fun p q hp hpq hq => by rw [gD p hp, gD q (by omega)]; exact sr _ _ (by omega) (by omega) (by omega)
        have C1 : Cross pos a s mid d1 := fun p q a1 a2 a3 a4 => by rw [gA p a2, gB q a3 a4]; exact hc _ _ a1 (by omega) (by omega) (by omega)
        have C2 : Cross pos mid e b d1 := fun p q a1 a2 a3 a4 => by rw [gC p a1 a2, gD q a3]; exact hc _ _ (by omega) (by omega) (by omega) (by omega)
        -- the left half
        have Q1 : PermIn a mid d1 (if a < s ∧ s < mid then symM lt k a s mid d1 else d1) ∧ SortedIn (lt2 lt pos) a mid (if a < s ∧ s < mid then symM lt k a s mid d1 else d1) := by
          split
          · rename_i hx
            exact symM_spec k a s mid d1 hx.1 hx.2 (by omega) (by omega) S1 S2 C1
          · refine ⟨permIn_refl _ _ _, ?_⟩
            by_cases c : s = mid
            · rw [← c]; exact S1
            · rw [show a = s by omega]; exact S2
        generalize (if a < s ∧ s < mid then symM lt k a s mid d1 else d1) = d2 at Q1 ⊢
        obtain ⟨P2, T2⟩ := Q1
        have sz2 : d2.size = d1.size := P2.1
        have keep2 : ∀ q, mid ≤ q → d2[q]! = d1[q]! := fun q h => P2.2.1 q (.inr h)
        have S3' : SortedIn (lt2 lt pos) mid e d2 := fun p q hp hpq hq => by rw [keep2 p hp, keep2 q (by omega)]; exact S3 _ _ hp hpq hq
        have S4' : SortedIn (lt2 lt pos) e b d2 := fun p q hp hpq hq => by rw [keep2 p (by omega), keep2 q (by omega)]; exact S4 _ _ hp hpq hq
        have C2' : Cross pos mid e b d2 := fun p q a1 a2 a3 a4 => by rw [keep2 p (by omega), keep2 q (by omega)]; exact C2 _ _ a1 a2 a3 a4
        have Q2 : PermIn mid b d2 (if mid < e ∧ e < b then symM lt k mid e b d2 else d2) ∧ SortedIn (lt2 lt pos) mid b (if mid < e ∧ e < b then symM lt k mid e b d2 else d2) := by
          split
          · rename_i hx
            exact symM_spec k mid e b d2 hx.1 hx.2 (by omega) (by omega) S3' S4' C2'
          · refine ⟨permIn_refl _ _ _, ?_⟩
            by_cases c : e = b
            · rw [← c]; exact S3'
            · rw [show mid = e by omega]; exact S4'
        generalize (if mid < e ∧ e < b then symM lt k mid e b d2 else d2) = d3 at Q2 ⊢
        obtain ⟨P3, T3⟩ := Q2
        have keep3 : ∀ q, q < mid → d3[q]! = d2[q]! := fun q h => P3.2.1 q (.inl h)
        refine ⟨permIn_trans _ _ _ _ _ P1 (permIn_trans _ _ _ _ _ (permIn_mono _ _ a mid a b (Nat.le_refl _) (by omega) (by omega) P2) (permIn_mono _ _ mid b a b (by omega) (Nat.le_refl _) (by omega) P3)), ?_⟩
        intro p q hp hpq hq
        by_cases c1 : q < mid
        · rw [keep3 p (by omega), keep3 q c1]
          exact T2 _ _ hp hpq c1
        · by_cases c2 : mid ≤ p
          · exact T3 _ _ c2 hpq hq
          · rw [keep3 p (by omega)]
            obtain ⟨p', p1, p2, pe⟩ := permIn_get P2 (by omega) hp (by omega)
            obtain ⟨q', q1, q2, qe⟩ := permIn_get P3 (by omega) (show mid ≤ q by omega) hq
            rw [pe, qe, keep2 q' q1]
            exact L1 _ p1 p2 _ q1 q2

/-! ### The blocks of twenty -/
omit hS in
theorem insInner_perm (lt : α → α → Bool) (a : Nat) : ∀ (j : Nat) (d : Array α), a ≤ j → j < d.size → PermIn a (j + 1) d (insInner lt a j d)
  | 0, d, _, _ => permIn_refl _ _ _
  | j + 1, d, h1, h2 => by
    rw [insInner]
    split
    · rename_i hc
      simp only [Bool.and_eq_true, decide_eq_true_eq] at hc
      exact permIn_trans _ _ _ _ _ (swp_permIn d a (j + 2) (j + 1) j (by omega) (by omega) (by omega) (by omega) (by omega))
        (permIn_mono _ _ a (j + 1) a (j + 2) (Nat.le_refl _) (by omega) (by rw [swp_size]; omega) (insInner_perm lt a j _ (by omega) (by rw [swp_size]; omega)))
    · exact permIn_refl _ _ _

theorem insInner_eq (a : Nat) : ∀ (j : Nat) (d : Array α), j < d.size → (∀ p, a ≤ p → p < j → pos d[p]! < pos d[j]!) → insInner lt a j d = insInner (lt2 lt pos) a j d
  | 0, d, _, _ => rfl
  | j + 1, d, h1, h2 => by
    rw [insInner, insInner]
    by_cases h : j + 1 > a
    · rw [(lt2_pos hS (h2 j (by omega) (by omega))).1]
      split
      · refine insInner_eq a j _ (by rw [swp_size]; omega) (fun p p1 p2 => ?_)
        have g := swp_get d (show j + 1 < d.size by omega) (show j < d.size by omega)
        rw [g, g, if_neg (by omega), if_neg (by omega), if_pos rfl]
        exact h2 p p1 (by omega)
      · rfl
    · rw [if_neg (by simp [h]), if_neg (by simp [h])]

theorem insOuter_eq (a b : Nat) (n : Nat) : ∀ (i : Nat) (d : Array α), b - i = n → a ≤ i → b ≤ d.size → (∀ p q, a ≤ p → p < q → i ≤ q → q < b → pos d[p]! < pos d[q]!) → insOuter lt a b i d = insOuter (lt2 lt pos) a b i d := by
  induction n with
  | zero =>
    intro i d hn _ _ _
    conv => lhs; rw [insOuter]
    conv => rhs; rw [insOuter]
    rw [if_neg (by omega), if_neg (by omega)]
  | succ n ih =>
    intro i d hn h1 h2 h3
    conv => lhs; rw [insOuter]
    conv => rhs; rw [insOuter]
    rw [if_pos (by omega), if_pos (by omega), insInner_eq hS pos a i d (by omega) (fun p p1 p2 => h3 p i p1 p2 (Nat.le_refl _) (by omega))]
    have P := insInner_perm (lt2 lt pos) a i d h1 (by omega)
    refine ih (i + 1) _ (by omega) (by omega) (by rw [P.1]; exact h2) (fun p q p1 p2 q1 q2 => ?_)
    rw [P.2.1 q (.inr q1)]
    by_cases c : p ≤ i
    · obtain ⟨p', a1, a2, e⟩ := permIn_get P (by omega) p1 (show p < i + 1 by omega)
      rw [e]
      exact h3 _ _ a1 (by omega) (by omega) q2
    · rw [P.2.1 p (.inr (by omega))]
      exact h3 _ _ p1 p2 (by omega) q2

theorem insertionSort_pos (a b : Nat) (d : Array α) (hab : a ≤ b) (hb : b ≤ d.size) (hp : ∀ p q, a ≤ p → p < q → q < b → pos d[p]! < pos d[q]!) :
    PermIn a b d (insertionSort lt d a b) ∧ SortedIn (lt2 lt pos) a b (insertionSort lt d a b) := by
  have e : insertionSort lt d a b = insertionSort (lt2 lt pos) d a b := insOuter_eq hS pos a b _ (a + 1) d rfl (by omega) hb (fun p q p1 p2 q1 q2 => hp p q p1 p2 q2)
  rw [e]
  exact insertionSort_holds (swo_lt2 hS pos) d a b hab hb

/-- A block that begins at c, of B places at most: its elements came from there, and are in order. -/
def Blk (lt : α → α → Bool) (pos : α → Nat) (B c n : Nat) (d : Array α) : Prop :=
  (∀ q, c ≤ q → q < c + B → q < n → c ≤ pos d[q]! ∧ pos d[q]! < c + B) ∧ SortedIn (lt2 lt pos) c (min (c + B) n) d

omit hS in
theorem Blk.congr {B c n : Nat} {d d' : Array α} (h : Blk lt pos B c n d) (he : ∀ q, c ≤ q → q < c + B → q < n → d'[q]! = d[q]!) : Blk lt pos B c n d' :=
  ⟨fun q h1 h2 h3 => by rw [he q h1 h2 h3]; exact h.1 q h1 h2 h3, fun p q h1 h2 h3 => by rw [he p h1 (by omega) (by omega), he q (by omega) (by omega) (by omega)]; exact h.2 p q h1 h2 h3⟩

theorem stIns_spec (n : Nat) : ∀ (k a u : Nat) (d : Array α), n ≤ k + a → a = u * 20 → a ≤ n → n ≤ d.size → (∀ q, a ≤ q → q < n → pos d[q]! = q) → (∀ t, t < u → Blk lt pos 20 (t * 20) n d) →
    PermIn 0 n d (stIns lt n k a d) ∧ ∀ t, Blk lt pos 20 (t * 20) n (stIns lt n k a d) := by
  have last : ∀ (a u : Nat) (d : Array α), ¬ a + 20 ≤ n → a = u * 20 → a ≤ n → n ≤ d.size → (∀ q, a ≤ q → q < n → pos d[q]! = q) → (∀ t, t < u → Blk lt pos 20 (t * 20) n d) →
      PermIn 0 n d (insertionSort lt d a n) ∧ ∀ t, Blk lt pos 20 (t * 20) n (insertionSort lt d a n) := by
    intro a u d h1 h2 h3 h4 h5 h6
    obtain ⟨P, S⟩ := insertionSort_pos hS pos a n d h3 h4 (fun p q p1 p2 q1 => by rw [h5 p p1 (by omega), h5 q (by omega) q1]; exact p2)
    refine ⟨permIn_mono _ _ a n 0 n (by omega) (Nat.le_refl _) h4 P, fun t => ?_⟩
    by_cases c : t < u
    · exact (h6 t c).congr pos (fun q q1 q2 q3 => P.2.1 q (.inl (by omega)))
    · by_cases c2 : t = u
      · subst c2
        refine ⟨fun q q1 q2 q3 => ?_, fun p q q1 q2 q3 => S p q (by omega) q2 (by omega)⟩
        obtain ⟨p, p1, p2, e⟩ := permIn_get P h4 (show a ≤ q by omega) q3
        rw [e, h5 p p1 p2]
        omega
      · exact ⟨fun q q1 q2 q3 => by omega, fun p q q1 q2 q3 => by omega⟩
  intro k
  induction k with
  | zero =>
    intro a u d h1 h2 h3 h4 h5 h6
    exact last a u d (by omega) h2 h3 h4 h5 h6
  | succ k ih =>
    intro a u d h1 h2 h3 h4 h5 h6
    rw [stIns]
    split
    · rename_i hc
      obtain ⟨P, S⟩ := insertionSort_pos hS pos a (a + 20) d (by omega) (by omega) (fun p q p1 p2 q1 => by rw [h5 p p1 (by omega), h5 q (by omega) (by omega)]; exact p2)
      obtain ⟨Q1, Q2⟩ := ih (a + 20) (u + 1) _ (by omega) (by omega) hc (by rw [P.1]; exact h4) (fun q q1 q2 => by rw [P.2.1 q (.inr q1)]; exact h5 q (by omega) q2) (fun t ht => by
        by_cases c : t < u
        · exact (h6 t c).congr pos (fun q q1 q2 q3 => P.2.1 q (.inl (by omega)))
        · have : t = u := by omega
          subst this
          refine ⟨fun q q1 q2 q3 => ?_, fun p q q1 q2 q3 => S p q (by omega) q2 (by omega)⟩
          obtain ⟨p, p1, p2, e⟩ := permIn_get P (by omega) (show a ≤ q by omega) (by omega)
          rw [e, h5 p p1 (by omega)]
          omega)
      exact ⟨permIn_trans _ _ _ _ _ (permIn_mono _ _ a (a + 20) 0 n (by omega) hc h4 P) Q1, Q2⟩
    · rename_i hc
      exact last a u d hc h2 h3 h4 h5 h6

/-- Two blocks become one. -/
theorem sym_blk (n a B : Nat) (hB : 0 < B) (d : Array α) (hn : n ≤ d.size) (h : a + B < n) (h1 : Blk lt pos B a n d) (h2 : Blk lt pos B (a + B) n d) (b : Nat) (hb : b = min (a + 2 * B) n) :
    PermIn a b d (symM lt n a (a + B) b d) ∧ Blk lt pos (2 * B) a n (symM lt n a (a + B) b d) := by
  obtain ⟨P, S⟩ := symM_spec hS pos n a (a + B) b d (by omega) (by omega) (by omega) (by omega) (fun p q p1 p2 q1 => h1.2 p q p1 p2 (by omega)) (fun p q p1 p2 q1 => h2.2 p q p1 p2 (by omega))
    (fun p q p1 p2 q1 q2 => by
      have := h1.1 p p1 p2 (by omega)
      have := h2.1 q q1 (by omega) (by omega)
      omega)
  refine ⟨P, fun q q1 q2 q3 => ?_, fun p q p1 p2 q1 => S p q p1 p2 (by omega)⟩
  obtain ⟨p, p1, p2, e⟩ := permIn_get P (by omega) q1 (show q < b by omega)
  rw [e]
  by_cases c : p < a + B
  · have := h1.1 p p1 c (by omega); omega
  · have := h2.1 p (by omega) (by omega) (by omega); omega

theorem stPass_spec (n B : Nat) (hB : 0 < B) : ∀ (k a u : Nat) (d : Array α), n ≤ k + a → a = u * (2 * B) → n ≤ d.size → (∀ t, t < u → Blk lt pos (2 * B) (t * (2 * B)) n d) → (∀ t, 2 * u ≤ t → Blk lt pos B (t * B) n d) →
    PermIn 0 n d (stPass lt n B k a d) ∧ ∀ t, Blk lt pos (2 * B) (t * (2 * B)) n (stPass lt n B k a d) := by
  have e1 : ∀ u, 2 * u * B = u * (2 * B) := fun u => by rw [Nat.mul_comm 2 u, Nat.mul_assoc]
  have e2 : ∀ u, (2 * u + 1) * B = u * (2 * B) + B := fun u => by rw [Nat.add_mul, e1, Nat.one_mul]
  have mono : ∀ t u, t < u → t * (2 * B) + 2 * B ≤ u * (2 * B) := fun t u h => by
    have := Nat.mul_le_mul_right (2 * B) (show t + 1 ≤ u from h)
    rw [Nat.add_mul, Nat.one_mul] at this
    exact this
  have last : ∀ (a u : Nat) (d : Array α), ¬ a + 2 * B ≤ n → a = u * (2 * B) → n ≤ d.size → (∀ t, t < u → Blk lt pos (2 * B) (t * (2 * B)) n d) → (∀ t, 2 * u ≤ t → Blk lt pos B (t * B) n d) →
      PermIn 0 n d (if a + B < n then symM lt n a (a + B) n d else d) ∧ ∀ t, Blk lt pos (2 * B) (t * (2 * B)) n (if a + B < n then symM lt n a (a + B) n d else d) := by
    intro a u d h1 h2 h4 h5 h6
    have b1 := h6 (2 * u) (Nat.le_refl _)
    have b2 := h6 (2 * u + 1) (by omega)
    rw [e1, ← h2] at b1
    rw [e2, ← h2] at b2
    split
    · rename_i hc
      obtain ⟨P, S⟩ := sym_blk hS pos n a B hB d h4 hc b1 b2 n (by omega)
      refine ⟨permIn_mono _ _ a n 0 n (by omega) (Nat.le_refl _) h4 P, fun t => ?_⟩
      by_cases c : t < u
      · exact (h5 t c).congr pos (fun q q1 q2 q3 => P.2.1 q (.inl (by have := mono t u c; omega)))
      · by_cases c2 : t = u
        · subst c2; rw [← h2]; exact S
        · have := mono u t (by omega)
          exact ⟨fun q q1 q2 q3 => by omega, fun p q q1 q2 q3 => by omega⟩
    · rename_i hc
      refine ⟨permIn_refl _ _ _, fun t => ?_⟩
      by_cases c : t < u
      · exact h5 t c
      · by_cases c2 : t = u
        · subst c2
          rw [← h2]
          exact ⟨fun q q1 q2 q3 => by have := b1.1 q q1 (by omega) q3; omega, fun p q q1 q2 q3 => b1.2 p q q1 q2 (by omega)⟩
        · have := mono u t (by omega)
          exact ⟨fun q q1 q2 q3 => by omega, fun p q q1 q2 q3 => by omega⟩
  intro k
  induction k with
  | zero =>
    intro a u d h1 h2 h4 h5 h6
    exact last a u d (by omega) h2 h4 h5 h6
  | succ k ih =>
    intro a u d h1 h2 h4 h5 h6
    rw [stPass]
    split
    · rename_i hc
      have b1 := h6 (2 * u) (Nat.le_refl _)
      have b2 := h6 (2 * u + 1) (by omega)
      rw [e1, ← h2] at b1
      rw [e2, ← h2] at b2
      obtain ⟨P, S⟩ := sym_blk hS pos n a B hB d h4 (by omega) b1 b2 (a + 2 * B) (by omega)
      obtain ⟨Q1, Q2⟩ := ih (a + 2 * B) (u + 1) _ (by omega) (by rw [Nat.add_mul, Nat.one_mul, h2]) (by rw [P.1]; exact h4) (fun t ht => by
        by_cases c : t < u
        · exact (h5 t c).congr pos (fun q q1 q2 q3 => P.2.1 q (.inl (by have := mono t u c; omega)))
        · have : t = u := by omega
          subst this; rw [← h2]; exact S) (fun t ht => by
        refine (h6 t (by omega)).congr pos (fun q q1 q2 q3 => P.2.1 q (.inr ?_))
        have := Nat.mul_le_mul_right B (show 2 * (u + 1) ≤ t from ht)
        rw [e1, Nat.add_mul, Nat.one_mul] at this
        omega)
      exact ⟨permIn_trans _ _ _ _ _ (permIn_mono _ _ a (a + 2 * B) 0 n (by omega) hc h4 P) Q1, Q2⟩
    · rename_i hc
      exact last a u d hc h2 h4 h5 h6

theorem stLoop_spec (n : Nat) : ∀ (k B : Nat) (d : Array α), n ≤ k + B → 0 < B → n ≤ d.size → (∀ t, Blk lt pos B (t * B) n d) →
    PermIn 0 n d (stLoop lt n k B d) ∧ SortedIn (lt2 lt pos) 0 n (stLoop lt n k B d)
  | 0, B, d, h1, h2, h3, h4 => ⟨permIn_refl _ _ _, by
    have := (h4 0).2
    rw [Nat.zero_mul] at this
    exact fun p q a b c => this p q a b (by omega)⟩
  | k + 1, B, d, h1, h2, h3, h4 => by
    rw [stLoop]
    split
    · obtain ⟨P, S⟩ := stPass_spec hS pos n B h2 n 0 0 d (by omega) (by omega) h3 (fun t h => by omega) (fun t _ => h4 t)
      obtain ⟨Q1, Q2⟩ := stLoop_spec n k (2 * B) _ (by omega) (by omega) (by rw [P.1]; exact h3) S
      exact ⟨permIn_trans _ _ _ _ _ P Q1, Q2⟩
    · refine ⟨permIn_refl _ _ _, ?_⟩
      have := (h4 0).2
      rw [Nat.zero_mul] at this
      exact fun p q a b c => this p q a b (by omega)

/-- WHAT THE STABLE SORT LEAVES. -/
theorem stable_spec (n : Nat) (d : Array α) (hn : n ≤ d.size) (hp : ∀ q, q < n → pos d[q]! = q) : PermIn 0 n d (stable lt n d) ∧ SortedIn (lt2 lt pos) 0 n (stable lt n d) := by
  obtain ⟨P, S⟩ := stIns_spec hS pos n n 0 0 d (by omega) (by omega) (by omega) hn (fun q _ h => hp q h) (fun t h => by omega)
  obtain ⟨Q1, Q2⟩ := stLoop_spec hS pos n n 20 _ (by omega) (by omega) (by rw [P.1]; exact hn) S
  exact ⟨permIn_trans _ _ _ _ _ P Q1, Q2⟩

end

end Go.Proofs.Ythgijppajindpaa

namespace Go.Proofs.Ythgijppajindpaa
open Go.Sort Go.RowKit

/-- Places in the order of their weights are taken off one by one. -/
theorem ssort_of {β : Type} (W : β → Int) (num : β → Nat) (tr : β → Tr) (hW : ∀ x, (tr x).wt = W x) : ∀ (I J : List β), I.Perm J → J.Pairwise (fun x y => num x < num y) →
    I.Pairwise (fun x y => W x < W y ∨ (W x = W y ∧ num x < num y)) → SSort (J.map tr) (I.map tr)
  | [], J, hp, _, _ => by
    have : J = [] := List.Perm.eq_nil hp.symm
    subst this
    exact .nil
  | x :: I, J, hp, hJ, hI => by
    have hx : x ∈ J := hp.mem_iff.1 (by simp)
    obtain ⟨J1, J2, rfl⟩ := List.append_of_mem hx
    have hp' : I.Perm (J1 ++ J2) := (List.Perm.cons_inv (hp.trans List.perm_middle))
    obtain ⟨c1, c2⟩ := List.pairwise_cons.1 hI
    rw [List.pairwise_append] at hJ
    obtain ⟨j1, j2, j3⟩ := hJ
    obtain ⟨j2a, j2b⟩ := List.pairwise_cons.1 j2
    have t : tm Tr.wt (J1.map tr ++ tr x :: J2.map tr) = some ((J1.map tr).length, tr x, J1.map tr ++ J2.map tr) := by
      refine tm_append_right (fun g hg => ?_) (fun g hg => ?_)
      · obtain ⟨y, hy, rfl⟩ := List.mem_map.1 hg
        rw [hW, hW]
        have h1 := c1 y (hp'.mem_iff.2 (by simp [hy]))
        have h2 := j3 y hy x (by simp)
        omega
      · obtain ⟨y, hy, rfl⟩ := List.mem_map.1 hg
        rw [hW, hW]
        have h1 := c1 y (hp'.mem_iff.2 (by simp [hy]))
        omega
    rw [List.map_append, List.map_cons, List.map_cons]
    refine .cons t ?_
    rw [← List.map_append]
    refine ssort_of W num tr hW I (J1 ++ J2) hp' ?_ c2
    rw [List.pairwise_append]
    exact ⟨j1, j2b, fun a ha b hb => j3 a ha b (by simp [hb])⟩

theorem ltOf_iff (L : List BT) (i j : Fin L.length) : (ltOf (cfF L) i j = true ↔ wtB (L.get i) < wtB (L.get j)) ∧ (ltOf (cfF L) i j = false ↔ wtB (L.get j) ≤ wtB (L.get i)) := by
  have e : ltOf (cfF L) i j = decide (wtB (L.get i) - wtB (L.get j) < 0) := rfl
  rw [e, decide_eq_true_iff, decide_eq_false_iff_not]
  generalize wtB (L.get i) = a
  generalize wtB (L.get j) = b
  omega

theorem swo_ltOf (L : List BT) : SWO (ltOf (cfF L)) where
  irrefl x := (ltOf_iff L x x).2.2 (Int.le_refl _)
  trans x y z h1 h2 := (ltOf_iff L x z).1.2 (Int.lt_trans ((ltOf_iff L x y).1.1 h1) ((ltOf_iff L y z).1.1 h2))
  ntrans x y z h1 h2 := (ltOf_iff L x z).2.2 (Int.le_trans ((ltOf_iff L y z).2.1 h2) ((ltOf_iff L x y).2.1 h1))

theorem idF_get (n : Nat) [Inhabited (Fin n)] (q : Nat) (h : q < n) : (idF n)[q]! = ⟨q, h⟩ := by
  rw [getElem!_pos _ q (by rw [size_idF]; exact h)]
  simp [idF]

theorem ssort_get (M : List BT) [Inhabited (Fin M.length)] (dd : Array (Fin M.length)) (P : PermIn 0 M.length (idF M.length) dd) (S : SortedIn (lt2 (ltOf (cfF M)) fun i => i.1) 0 M.length dd) :
    SSort (M.map Prod.snd) ((dd.toList.map fun i => M.get i).map Prod.snd) := by
  have hsz : dd.size = M.length := by rw [P.1, size_idF]
  have hperm : dd.toList.Perm (idF M.length).toList := by
    have h := P.2.2
    have e1 : dd.extract 0 M.length = dd := by
      have := Array.extract_size (xs := dd)
      rw [hsz] at this
      exact this
    have e2 : (idF M.length).extract 0 M.length = idF M.length := by
      have := Array.extract_size (xs := idF M.length)
      rw [size_idF] at this
      exact this
    rw [e1, e2] at h
    exact h
  have hid : (idF M.length).toList = List.ofFn (fun i => i) := by simp [idF]
  rw [hid] at hperm
  have hJ : (List.ofFn (fun i : Fin M.length => i)).Pairwise (fun a b => a.1 < b.1) := by
    rw [List.pairwise_iff_getElem]
    intro i j hi hj hij
    simpa using hij
  have hnd : dd.toList.Nodup := by
    refine hperm.nodup_iff.2 ?_
    exact hJ.imp (fun h e => by rw [e] at h; exact absurd h (Nat.lt_irrefl _))
  have hI : dd.toList.Pairwise (fun a b => wtB (M.get a) < wtB (M.get b) ∨ (wtB (M.get a) = wtB (M.get b) ∧ a.1 < b.1)) := by
    rw [List.pairwise_iff_getElem]
    intro i j hi hj hij
    have hi' : i < dd.size := by simpa using hi
    have hj' : j < dd.size := by simpa using hj
    have h := S i j (Nat.zero_le _) hij (by omega)
    rw [getElem!_pos dd j hj', getElem!_pos dd i hi'] at h
    have hne : dd.toList[i] ≠ dd.toList[j] := (List.pairwise_iff_getElem.1 hnd) i j hi hj hij
    rw [Array.getElem_toList, Array.getElem_toList] at hne ⊢
    have hne2 : (dd[i]'hi').1 ≠ (dd[j]'hj').1 := fun e => hne (Fin.ext e)
    simp only [lt2, Bool.or_eq_false_iff, Bool.and_eq_false_iff, Bool.not_eq_false', decide_eq_false_iff_not] at h
    obtain ⟨h1, h2⟩ := h
    have h1 := (ltOf_iff M _ _).2.1 h1
    rcases h2 with h2 | h2
    · exact .inl ((ltOf_iff M _ _).1.1 h2)
    · rcases Int.lt_or_eq_of_le h1 with h1 | h1
      · exact .inl h1
      · exact .inr ⟨h1, by omega⟩
  have h := ssort_of (fun i : Fin M.length => wtB (M.get i)) (fun i => i.1) (fun i => (M.get i).2) (fun i => rfl) _ _ hperm hJ hI
  have e1 : (List.ofFn (fun i : Fin M.length => i)).map (fun i => (M.get i).2) = M.map Prod.snd := by
    rw [List.map_ofFn]
    apply List.ext_getElem
    · simp
    · intro i h1 h2
      simp
  rw [e1] at h
  rw [List.map_map]
  exact h

/-- The sorted leaves are the leaves, taken off in order. -/
theorem sortAll_ssort : ∀ L : List BT, SSort (L.map Prod.snd) ((sortAll L).map Prod.snd)
  | [] => .nil
  | x :: L => by
    obtain ⟨P, S⟩ := stable_spec (swo_ltOf (x :: L)) (fun i => i.1) (L.length + 1) (idF (L.length + 1)) (by rw [size_idF]; exact Nat.le_refl _) (fun q h => congrArg (fun i => i.1) (idF_get (x :: L).length q h))
    exact ssort_get (x :: L) _ P S

/-- Where the positive ones stand, and what they are. -/
def wts (l : List Int) : List Int := (leafs l).map Tr.wt
def symOf : Tr → Nat
  | .leaf _ s => s
  | .node _ _ _ => 0
def syms (l : List Int) : List Nat := (leafs l).map symOf

theorem leafs_syms (l : List Int) : (syms l).Pairwise (· < ·) := by
  unfold syms leafs
  rw [List.map_map, List.pairwise_map]
  refine List.Pairwise.filter _ ?_
  rw [List.pairwise_iff_getElem]
  intro i j hi hj hij
  simp [symOf]
  exact hij

theorem leafs_lay (l : List Int) : ∀ (ds : List Nat), (((leafs l).zip ds).flatMap fun p => p.1.lay p.2) = (syms l).zip ds := by
  unfold syms
  have : ∀ t, t ∈ leafs l → ∃ w s, t = .leaf w s := fun t ht => by
    unfold leafs at ht
    obtain ⟨p, _, rfl⟩ := List.mem_map.1 ht
    exact ⟨_, _, rfl⟩
  generalize leafs l = F at this
  induction F with
  | nil => intro ds; rfl
  | cons t F ih =>
    intro ds
    cases ds with
    | nil => rfl
    | cons d ds =>
      obtain ⟨w, s, rfl⟩ := this t (by simp)
      rw [List.zip_cons_cons, List.flatMap_cons, ih (fun t ht => this t (by simp [ht]))]
      rfl

/-- The document's depths. -/
def dpt (l : List Int) : List Int := setAll ((syms l).zip (deps l.length (wts l))) (List.replicate l.length 0)

theorem grown_is {l xs : List Int} (h : GrownOut l xs) : xs = dpt l := by
  obtain ⟨L, hL, rfl⟩ := h
  have hs := sortAll_ssort L
  rw [hL] at hs
  have hpos : ∀ x, x ∈ leafs l ++ [] → (0 : Int) ≤ x.wt := fun x hx => by
    rw [List.append_nil] at hx
    unfold leafs at hx
    obtain ⟨p, hp, rfl⟩ := List.mem_map.1 hx
    have := (List.mem_filter.1 hp).2
    simp only [decide_eq_true_eq] at this
    show (0 : Int) ≤ p.1
    omega
  have hlen := leafs_le l
  have hb := build_proc l.length (leafs l) _ [] 0 hs (Int.le_refl _) hpos List.Pairwise.nil (by simp) (by simp; omega)
  unfold finish
  rw [hb, foldl_dep, List.append_nil]
  have hp := procT_lay l.length (leafs l) (by omega)
  have e : (((leafs l).zip (deps l.length ((leafs l).map Tr.wt))).flatMap fun p => p.1.lay p.2) = (syms l).zip (deps l.length (wts l)) := leafs_lay l _
  rw [e] at hp
  unfold dpt
  refine (setAll_perm hp.symm ?_ _).symm
  have hsub : ((syms l).zip (deps l.length (wts l))).map Prod.fst = syms l := by
    rw [List.map_fst_zip]
    rw [length_deps]
    simp [syms, wts]
  rw [hsub]
  exact (leafs_syms l).imp (fun h e => by omega)

end Go.Proofs.Ythgijppajindpaa
