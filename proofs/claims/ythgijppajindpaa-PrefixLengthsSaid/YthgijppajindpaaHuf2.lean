/-
  The document's trees as plain numbers: the lighter ones stand deeper; the sum of the words; how deep at most.
-/
import Derived.Test.YthgijppajindpaaHuf1
set_option linter.unusedVariables false
set_option linter.unusedSimpArgs false
namespace Go.Proofs.Ythgijppajindpaa

/-- z stands ahead of z': what is not heavier stands no less deep. -/
def Rel (z z' : Int × Nat) : Prop := (z.1 ≤ z'.1 → z'.2 ≤ z.2) ∧ (z'.1 < z.1 → z.2 ≤ z'.2)

theorem pairwise_insertIdx {β : Type} {R : β → β → Prop} {x : β} : ∀ {i : Nat} {l : List β}, i ≤ l.length → l.Pairwise R → (∀ y, y ∈ l.take i → R y x) → (∀ y, y ∈ l.drop i → R x y) → (l.insertIdx i x).Pairwise R
  | 0, l, _, hp, _, h2 => by
    rw [List.insertIdx_zero]
    exact List.Pairwise.cons (by simpa using h2) hp
  | i + 1, [], hi, _, _, _ => by simp at hi
  | i + 1, a :: l, hi, hp, h1, h2 => by
    rw [List.insertIdx_succ_cons]
    have hi' : i ≤ l.length := by simpa using hi
    rw [List.pairwise_cons] at hp
    refine List.Pairwise.cons (fun y hy => ?_) (pairwise_insertIdx hi' hp.2 (fun y hy => h1 y (by simp [hy])) (fun y hy => h2 y (by simpa using hy)))
    rw [List.mem_insertIdx hi'] at hy
    rcases hy with rfl | hy
    · exact h1 a (by simp)
    · exact hp.1 y hy

theorem zd_one {k : Nat} {l : List Int} (h : l.length ≤ 1) : ∀ z, z ∈ zd k l → z.2 = 0 := by
  intro z hz
  match l, h with
  | [], _ => simp [zd] at hz
  | [x], _ =>
    have e : zd k [x] = [(x, 0)] := by
      cases k with
      | zero => rfl
      | succ k => rfl
    rw [e] at hz
    simp at hz
    rw [hz]

/-- The lighter ones stand deeper; and what is there stands at most one deeper than the newest pair. -/
theorem zd_order (k : Nat) : ∀ (l : List Int), l.length ≤ k + 1 → (∀ x, x ∈ l → 0 ≤ x) →
    (zd k l).Pairwise Rel ∧ ∀ (Z : List (Int × Nat)) (q : Int) (e : Nat), zd k l = Z ++ [(q, e)] → (∀ x, x ∈ l → q ≤ 2 * x) → ∀ z, z ∈ zd k l → z.2 ≤ e + 1 := by
  induction k with
  | zero =>
    intro l hl h0
    refine ⟨?_, fun Z q e hZ hq z hz => by rw [zd_one (by omega) z hz]; omega⟩
    have : (zd 0 l).length ≤ 1 := by rw [length_zd]; omega
    match hz : zd 0 l, this with
    | [], _ => exact List.Pairwise.nil
    | [z], _ => simp
  | succ k ih =>
    intro l hl h0
    by_cases h2 : 2 ≤ l.length
    · obtain ⟨l', hl', hs⟩ := zd_step k l h2
      have hs' := hs
      obtain ⟨a, b, e, Z, hZ', hmem, hab, haZ, hbZ, hperm, hlm⟩ := hs'.mem
      have ha0 : 0 ≤ a := h0 a ((hlm a).2 (.inl rfl))
      have hb0 : 0 ≤ b := h0 b ((hlm b).2 (.inr (.inl rfl)))
      have hl'm : ∀ x, x ∈ l' → x = a + b ∨ ∃ z, z ∈ Z ∧ z.1 = x := by
        intro x hx
        rw [← zd_fst k l', hZ', List.map_append, List.mem_append] at hx
        rcases hx with hx | hx
        · obtain ⟨z, hz, rfl⟩ := List.mem_map.1 hx
          exact .inr ⟨z, hz, rfl⟩
        · simp at hx; exact .inl hx
      have h0' : ∀ x, x ∈ l' → 0 ≤ x := fun x hx => by
        rcases hl'm x hx with rfl | ⟨z, hz, rfl⟩
        · omega
        · exact Int.le_trans ha0 (haZ z hz)
      obtain ⟨ih1, ih2⟩ := ih l' (by omega) h0'
      -- all stand at most one deeper than the new pair
      have hE : ∀ z, z ∈ Z → z.2 ≤ e + 1 := fun z hz => by
        refine ih2 Z (a + b) e hZ' (fun x hx => ?_) z (by rw [hZ']; simp [hz])
        rcases hl'm x hx with rfl | ⟨z, hz, rfl⟩
        · omega
        · have := hbZ z hz; have := haZ z hz; omega
      have hpZ : Z.Pairwise Rel := by
        rw [hZ'] at ih1
        exact (List.pairwise_append.1 ih1).1
      have hZlast : ∀ z, z ∈ Z → Rel z (a + b, e) := fun z hz => by
        rw [hZ'] at ih1
        exact (List.pairwise_append.1 ih1).2.2 z hz _ (by simp)
      refine ⟨?_, ?_⟩
      · obtain ⟨i, j, a1, b1, l2, e1, Z1, q1, q2, q3, q4, q5, q6, q7, q8, q9, q10, q11, q12⟩ := hs
        have hZZ : Z1 = Z ∧ a1 + b1 = a + b ∧ e1 = e := by
          rw [hZ'] at q2
          have h1 := (List.append_inj' q2 rfl)
          simp at h1
          exact ⟨h1.1.symm, h1.2.1.symm, h1.2.2.symm⟩
        obtain ⟨rfl, hsum, rfl⟩ := hZZ
        have hlen : Z1.length = l2.length := by rw [← q3, List.length_map]
        have hm : ∀ z, z ∈ Z1 → z.1 ∈ l2 := fun z hz => by rw [← q3]; exact List.mem_map_of_mem hz
        rw [q5]
        have hin : (Z1.insertIdx j (b1, e1 + 1)).Pairwise Rel := by
          refine pairwise_insertIdx (by omega) hpZ (fun y hy => ⟨fun hle => ?_, fun _ => ?_⟩) (fun y hy => ⟨fun _ => ?_, fun hlt => ?_⟩)
          · have := q12 y hy; simp only at hle; omega
          · exact hE y (List.mem_of_mem_take hy)
          · exact hE y (List.mem_of_mem_drop hy)
          · have := q10 y.1 (hm y (List.mem_of_mem_drop hy)); simp only at hlt; omega
        refine pairwise_insertIdx (by rw [List.length_insertIdx_of_le_length (by omega)]; omega) hin (fun y hy => ⟨fun hle => ?_, fun _ => ?_⟩) (fun y hy => ⟨fun _ => ?_, fun hlt => ?_⟩)
        · have := q11 y hy; simp only at hle; omega
        · have hy' := List.mem_of_mem_take hy
          rw [List.mem_insertIdx (by omega)] at hy'
          rcases hy' with rfl | hy'
          · exact Nat.le_refl _
          · exact hE y hy'
        · have hy' := List.mem_of_mem_drop hy
          rw [List.mem_insertIdx (by omega)] at hy'
          rcases hy' with rfl | hy'
          · exact Nat.le_refl _
          · exact hE y hy'
        · have hy' := List.mem_of_mem_drop hy
          rw [List.mem_insertIdx (by omega)] at hy'
          rcases hy' with rfl | hy'
          · exact Nat.le_refl _
          · have := q9 y.1 (hm y hy'); simp only at hlt; omega
      · intro Z0 q e0 hZ0 hq z hz
        -- q's depth against the new pair's
        have hqd : e ≤ e0 := by
          have hqm : (q, e0) ∈ zd (k + 1) l := by rw [hZ0]; simp
          rw [hmem] at hqm
          rcases hqm with h | h | h
          · simp at h; omega
          · simp at h; omega
          · have h1 := hZlast _ h
            have h2 := hq a ((hlm a).2 (.inl rfl))
            exact h1.1 (by show q ≤ a + b; omega)
        rw [hmem] at hz
        rcases hz with rfl | rfl | hz
        · show e + 1 ≤ _; omega
        · show e + 1 ≤ _; omega
        · -- z is an other one
          have := hE z hz
          omega
    · refine ⟨?_, fun Z q e hZ hq z hz => by rw [zd_one (by omega) z hz]; omega⟩
      have : (zd (k + 1) l).length ≤ 1 := by rw [length_zd]; omega
      match hz : zd (k + 1) l, this with
      | [], _ => exact List.Pairwise.nil
      | [z], _ => simp

/-- What weighs more never stands deeper. -/
theorem zd_lighter {k : Nat} {l : List Int} (hl : l.length ≤ k + 1) (h0 : ∀ x, x ∈ l → 0 ≤ x) {z z' : Int × Nat} (hz : z ∈ zd k l) (hz' : z' ∈ zd k l) (h : z.1 < z'.1) : z'.2 ≤ z.2 := by
  have hp := (zd_order k l hl h0).1
  obtain ⟨i, hi, rfl⟩ := List.getElem_of_mem hz
  obtain ⟨j, hj, rfl⟩ := List.getElem_of_mem hz'
  rw [List.pairwise_iff_getElem] at hp
  rcases Nat.lt_trichotomy i j with hij | hij | hij
  · exact (hp i j hi hj hij).1 (by omega)
  · subst hij; omega
  · exact (hp j i hj hi hij).2 h

/-- The numbers of the golden section. -/
def fibo : Nat → Nat
  | 0 => 0
  | 1 => 1
  | n + 2 => fibo (n + 1) + fibo n

theorem sum_perm_fst {L M : List (Int × Nat)} (h : L.Perm M) : (L.map Prod.fst).sum = (M.map Prod.fst).sum := by
  induction h with
  | nil => rfl
  | cons x _ ih => simp [ih]
  | swap x y l => simp; omega
  | trans _ _ ih1 ih2 => exact ih1.trans ih2

/-- How heavy all of it is at least, if something stands that deep. -/
theorem zd_fibo (k : Nat) : ∀ (l : List Int) (m : Int), l.length ≤ k + 1 → 0 ≤ m → (∀ x, x ∈ l → m ≤ x) → ∀ z, z ∈ zd k l → (fibo (z.2 + 1) : Int) * z.1 + fibo z.2 * m ≤ l.sum := by
  induction k with
  | zero =>
    intro l m hl h0 hm z hz
    match l, hl with
    | [], _ => simp [zd] at hz
    | [x], _ =>
      simp [zd, deps] at hz
      subst hz
      simp [fibo]
  | succ k ih =>
    intro l m hl h0 hm z hz
    by_cases h2 : 2 ≤ l.length
    · obtain ⟨l', hl', hs⟩ := zd_step k l h2
      obtain ⟨a, b, e, Z, hZ', hmem, hab, haZ, hbZ, hperm, hlm⟩ := hs.mem
      have hma : m ≤ a := hm a ((hlm a).2 (.inl rfl))
      have hmb : m ≤ b := hm b ((hlm b).2 (.inr (.inl rfl)))
      have hsum : l.sum = a + (b + (Z.map Prod.fst).sum) := by
        rw [← zd_fst (k + 1) l, sum_perm_fst hperm]; simp
      have hsum' : l'.sum = (Z.map Prod.fst).sum + (a + b) := by
        rw [← zd_fst k l', hZ']; simp
      have hl'm : ∀ x, x ∈ l' → x = a + b ∨ ∃ z, z ∈ Z ∧ z.1 = x := by
        intro x hx
        rw [← zd_fst k l', hZ', List.map_append, List.mem_append] at hx
        rcases hx with hx | hx
        · obtain ⟨z, hz, rfl⟩ := List.mem_map.1 hx
          exact .inr ⟨z, hz, rfl⟩
        · simp at hx; exact .inl hx
      have hb' : ∀ x, x ∈ l' → b ≤ x := fun x hx => by
        rcases hl'm x hx with rfl | ⟨z, hz, rfl⟩
        · omega
        · exact hbZ z hz
      have hc : (a + b, e) ∈ zd k l' := by rw [hZ']; simp
      have key := ih l' b (by omega) (by omega) hb' _ hc
      simp only at key
      rw [hmem] at hz
      have hf : (fibo (e + 1 + 1) : Int) = fibo (e + 1) + fibo e := by
        show ((fibo (e + 1) + fibo e : Nat) : Int) = _
        omega
      have p1 : (0 : Int) ≤ fibo (e + 1) := by omega
      have p2 : (0 : Int) ≤ fibo e := by omega
      rcases hz with rfl | rfl | hz
      · simp only
        rw [hf, hsum]
        have e1 := Int.mul_le_mul_of_nonneg_left hmb p1
        have e2 := Int.mul_le_mul_of_nonneg_left hab p2
        rw [Int.add_mul]
        rw [Int.mul_add] at key
        omega
      · simp only
        rw [hf, hsum]
        have e1 := Int.mul_le_mul_of_nonneg_left hma p1
        rw [Int.add_mul]
        rw [Int.mul_add] at key
        omega
      · have h3 := ih l' m (by omega) h0 (fun x hx => Int.le_trans hmb (hb' x hx)) z (by rw [hZ']; simp [hz])
        rw [hsum]; omega
    · match l, h2 with
      | [], _ => simp [zd] at hz
      | [x], _ =>
        have hz0 := zd_one (by simp) z hz
        have hz1 : z.1 ∈ [x] := by rw [← zd_fst (k + 1) [x]]; exact List.mem_map_of_mem hz
        simp at hz1
        rw [hz0, hz1]
        simp [fibo]
      | x :: y :: l, h => simp at h

/-- Two or more: none stands at the root. -/
theorem zd_pos (k : Nat) : ∀ (l : List Int), l.length ≤ k + 1 → 2 ≤ l.length → ∀ z, z ∈ zd k l → 1 ≤ z.2 := by
  induction k with
  | zero => intro l h1 h2; omega
  | succ k ih =>
    intro l h1 h2 z hz
    obtain ⟨l', hl', hs⟩ := zd_step k l h2
    obtain ⟨a, b, e, Z, hZ', hmem, hab, haZ, hbZ, hperm, hlm⟩ := hs.mem
    rw [hmem] at hz
    rcases hz with rfl | rfl | hz
    · simp
    · simp
    · have hne : 1 ≤ Z.length := List.length_pos_of_mem hz
      have := congrArg List.length hZ'
      rw [length_zd, List.length_append] at this
      simp at this
      exact ih l' (by omega) (by omega) z (by rw [hZ']; simp [hz])

/-- The sum of the words' shares. -/
def share (K : Nat) (Z : List (Int × Nat)) : Nat := (Z.map fun z => 2 ^ (K - z.2)).sum

theorem share_perm {K : Nat} {L M : List (Int × Nat)} (h : L.Perm M) : share K L = share K M := by
  unfold share
  induction h with
  | nil => rfl
  | cons x _ ih => simp [ih]
  | swap x y l => simp; omega
  | trans _ _ ih1 ih2 => exact ih1.trans ih2

/-- The words are a whole code. -/
theorem zd_share (K k : Nat) : ∀ (l : List Int), l.length ≤ k + 1 → 1 ≤ l.length → (∀ z, z ∈ zd k l → z.2 ≤ K) → share K (zd k l) = 2 ^ K := by
  induction k with
  | zero =>
    intro l h1 h2 _
    match l, h1, h2 with
    | [x], _, _ => simp [zd, deps, share]
  | succ k ih =>
    intro l h1 h2 hK
    by_cases h3 : 2 ≤ l.length
    · obtain ⟨l', hl', hs⟩ := zd_step k l h3
      obtain ⟨a, b, e, Z, hZ', hmem, hab, haZ, hbZ, hperm, hlm⟩ := hs.mem
      have he : e + 1 ≤ K := hK (a, e + 1) ((hmem _).2 (.inl rfl))
      have h4 := ih l' (by omega) (by omega) (fun z hz => by
        rw [hZ', List.mem_append] at hz
        rcases hz with hz | hz
        · exact hK z ((hmem _).2 (.inr (.inr hz)))
        · simp at hz; rw [hz]; omega)
      rw [share_perm hperm, ← h4, hZ']
      unfold share
      simp only [List.map_cons, List.sum_cons, List.map_append, List.sum_append, List.map_nil, List.sum_nil]
      have : 2 ^ (K - e) = 2 ^ (K - (e + 1)) + 2 ^ (K - (e + 1)) := by
        rw [show K - e = (K - (e + 1)) + 1 by omega, Nat.pow_succ]; omega
      omega
    · match l, h2, h3 with
      | [x], _, _ =>
        have : zd (k + 1) [x] = [(x, 0)] := rfl
        rw [this]; simp [share]
      | x :: y :: l, _, h => simp at h

end Go.Proofs.Ythgijppajindpaa
