/-
  What was squeezed is expanded, plain.
-/
import Derived.Test.YthgijppajindpaaSqzC
set_option linter.unusedVariables false
set_option linter.unusedSimpArgs false
namespace Go.Proofs.Ythgijppajindpaa
open Go.RowKit Go.Proofs.YthgijppajindpaaW.PrintWords Go.Proofs.Ythgijppajindpaa.K7

/-! ### pieces are read back -/
def PkT (ps : List S42) : ByteArray := strOfNums (packed (ps.map mp))
theorem PkT_size {ps : List S42} (h : ∀ p, p ∈ ps → okP p) : (PkT ps).size = (Wd ps + 7) / 8 := by
  unfold PkT
  rw [packed_size, catT_Wd _ h]
theorem PkT_bit {ps a b : List S42} {v w : Nat} (h : ∀ p, p ∈ ps → okP p) (e : ps = a ++ ⟨(v : Int), (w : Int)⟩ :: b) (j : Nat) (hj : j < w) : sbit (PkT ps) (Wd a + j) = v.testBit j := by
  subst e
  have ha : ∀ p, p ∈ a → okP p := fun p hp => h p (by simp [hp])
  have hx : (mp ⟨(v : Int), (w : Int)⟩).1 = ⟨(v : Int), (w : Int)⟩ := mp_val (h _ (by simp))
  have := packed_at (a.map mp) (b.map mp) (mp ⟨(v : Int), (w : Int)⟩) j (by rw [hx]; exact hj)
  rw [catT_Wd a ha, hx] at this
  unfold PkT
  rw [List.map_append, List.map_cons]
  exact this
theorem PkT_read {ps a b : List S42} {v w : Nat} (h : ∀ p, p ∈ ps → okP p) (e : ps = a ++ ⟨(v : Int), (w : Int)⟩ :: b) : bitsAt (PkT ps) (Wd a) w = v := by
  have hv : v < 2 ^ w := by
    have h3 := (h ⟨(v : Int), (w : Int)⟩ (by rw [e]; simp)).2.2.2
    have h4 : (v : Int) < 2 ^ w := h3
    exact_mod_cast h4
  apply Nat.eq_of_testBit_eq
  intro j
  rw [bitsAt_bit]
  by_cases hj : j < w
  · rw [decide_eq_true hj, Bool.true_and, PkT_bit h e j hj]
  · rw [decide_eq_false hj, Bool.false_and]
    exact (Nat.testBit_lt_two_pow (Nat.lt_of_lt_of_le hv (Nat.pow_le_pow_right (by decide) (by omega)))).symm
theorem Wd_split {ps a b : List S42} {p : S42} (e : ps = a ++ p :: b) : Wd ps = Wd a + p.f1.toNat + Wd b := by rw [e, Wd_append, Wd_cons]; omega

/-- A text that begins with these pieces. -/
structure Ag (T : ByteArray) (ps : List S42) : Prop where
  size : (Wd ps + 7) / 8 ≤ T.size
  bit : ∀ i, i < Wd ps → sbit T i = sbit (PkT ps) i
theorem Ag.self {ps : List S42} (h : ∀ p, p ∈ ps → okP p) : Ag (PkT ps) ps := ⟨by rw [PkT_size h]; exact Nat.le_refl _, fun _ _ => rfl⟩
theorem AgT_bit {T : ByteArray} {ps a b : List S42} {v w : Nat} (hA : Ag T ps) (h : ∀ p, p ∈ ps → okP p) (e : ps = a ++ ⟨(v : Int), (w : Int)⟩ :: b) (j : Nat) (hj : j < w) : sbit T (Wd a + j) = v.testBit j := by
  have hW := Wd_split e
  have e2 : ((w : Int)).toNat = w := Int.toNat_natCast w
  simp only [e2] at hW
  rw [hA.bit _ (by omega)]
  exact PkT_bit h e j hj
theorem AgT_read {T : ByteArray} {ps a b : List S42} {v w : Nat} (hA : Ag T ps) (h : ∀ p, p ∈ ps → okP p) (e : ps = a ++ ⟨(v : Int), (w : Int)⟩ :: b) : bitsAt T (Wd a) w = v := by
  rw [← PkT_read h e]
  apply Nat.eq_of_testBit_eq
  intro j
  rw [bitsAt_bit, bitsAt_bit]
  by_cases hj : j < w
  · rw [AgT_bit hA h e j hj, PkT_bit h e j hj]
  · rw [decide_eq_false hj, Bool.false_and, Bool.false_and]

/-! ### what comes has a word -/
theorem bump_mono (xs : List Int) (t : Tok) (j : Nat) : xs.getD j 0 ≤ (bump xs t).getD j 0 := by
  unfold bump
  split
  · rw [List.getD_eq_getElem?_getD (l := xs.set _ _), List.getElem?_set]
    split
    · rename_i e
      subst e
      split
      · show _ ≤ xs.getD _ 0 + 1; omega
      · rename_i hl
        rw [List.getD_eq_getElem?_getD, List.getElem?_eq_none (by omega)]
        exact Int.le_refl _
    · rw [← List.getD_eq_getElem?_getD]; exact Int.le_refl _
  · exact Int.le_refl _
theorem bumps_mono : ∀ (ts : List Tok) (xs : List Int) (j : Nat), xs.getD j 0 ≤ (ts.foldl bump xs).getD j 0
  | [], xs, j => Int.le_refl _
  | t :: ts, xs, j => Int.le_trans (bump_mono xs t j) (bumps_mono ts (bump xs t) j)
theorem symK_true {t : Tok} (h : TokOk t) : (symK t).2 = true ∧ 0 ≤ (symK t).1 ∧ (symK t).1 < 288 := by
  refine ⟨?_, symK_bound h.byte.1 h.byte.2⟩
  unfold symK
  unfold TokOk at h
  split
  · rfl
  · rw [if_neg (by omega)]
theorem bumps_pos : ∀ (ts : List Tok) (xs : List Int) (t : Tok), t ∈ ts → TokOk t → xs.length = 289 → (∀ j, 0 ≤ xs.getD j 0) → 0 < (ts.foldl bump xs).getD (symK t).1.toNat 0
  | [], xs, t, h, _, _, _ => by cases h
  | u :: ts, xs, t, h, ht, hl, hx => by
    rw [List.foldl_cons]
    rcases List.mem_cons.1 h with rfl | h
    · obtain ⟨h1, h2, h3⟩ := symK_true ht
      have := bumps_mono ts (bump xs t) (symK t).1.toNat
      have e : (bump xs t).getD (symK t).1.toNat 0 = xs.getD (symK t).1.toNat 0 + 1 := by
        unfold bump
        rw [if_pos h1, List.getD_eq_getElem?_getD, List.getElem?_set, if_pos rfl, if_pos (by omega)]
        rfl
      have := hx (symK t).1.toNat
      omega
    · exact bumps_pos ts (bump xs u) t h ht (by rw [length_bump, hl]) (fun j => Int.le_trans (hx j) (bump_mono xs u j))
theorem LenT_sym {ts : List Tok} (hn : ts.length ≤ 1000000) {t : Tok} (ht : t ∈ ts) (hok : TokOk t) : 0 < (LenT ts).getD (symK t).1.toNat 0 := by
  obtain ⟨_, hl, hc, hb, hz⟩ := LenT_good ts hn
  obtain ⟨h1, h2, h3⟩ := symK_true hok
  have hp := bumps_pos ts (List.replicate 289 0) t ht hok List.length_replicate (fun j => by rw [List.getD_eq_getElem?_getD, List.getElem?_replicate]; split <;> simp)
  have hf : 0 < (FreqT ts).getD (symK t).1.toNat 0 := by
    unfold FreqT
    rw [List.getD_eq_getElem?_getD, List.getElem?_set, if_neg (by omega), ← List.getD_eq_getElem?_getD]
    exact hp
  have h4 := hz (symK t).1.toNat (by omega)
  have h5 := (hb (symK t).1.toNat).1
  rcases Int.lt_or_le 0 ((LenT ts).getD (symK t).1.toNat 0) with h | h
  · exact h
  · exact absurd hf (h4.1 (by omega))

/-- A symbol's word is read. -/
theorem Nx_piece {T : ByteArray} {ps a b : List S42} {L : List Int} {i : Nat} (hA : Ag T ps) (h : ∀ p, p ∈ ps → okP p) (hc : isCode L = true) (hi : i < L.length) (hx : 0 < L.getD i 0) (e : ps = a ++ P42 L i :: b) : Nx L T (Wd a) = ((i : Int), 0, Wd a + (L.getD i 0).toNat) := by
  obtain ⟨w, hw⟩ : ∃ w : Nat, L.getD i 0 = w := ⟨(L.getD i 0).toNat, by omega⟩
  have hP : P42 L i = ⟨((turnN (wN L i) w : Nat) : Int), (w : Int)⟩ := by
    unfold P42
    rw [pcOf_code hc hi hx, hw]
    rfl
  rw [hP] at e
  have hs := hA.size
  have hW := Wd_split e
  have e2 : ((w : Int)).toNat = w := Int.toNat_natCast w
  simp only [e2] at hW
  rw [hw, Int.toNat_natCast]
  exact Nx_word hc T hi hw (by omega) (Wd a) (by omega) (fun j hj => AgT_bit hA h e j hj)

/-! ### the table -/
theorem usedK_drop {L : List Int} {k : Nat} (hk : k < L.length) : usedK (L.drop k) = (if 0 < L.getD k 0 then 1 else 0) + usedK (L.drop (k + 1)) := by
  rw [List.drop_eq_getElem_cons hk, usedK_cons, List.getD_eq_getElem?_getD, List.getElem?_eq_getElem hk]
  rfl
theorem set_grow {L : List Int} {k : Nat} (hL : L.length = 289) (hk : k < 289) : (L.take k ++ List.replicate (289 - k) 0).set k (L.getD k 0) = L.take (k + 1) ++ List.replicate (289 - (k + 1)) 0 := by
  have h1 : (L.take k).length = k := by rw [List.length_take]; omega
  rw [List.set_append_right _ _ (by omega), h1, Nat.sub_self, show 289 - k = (289 - (k + 1)) + 1 by omega, List.replicate_succ, List.set_cons_zero]
  rw [take_snoc (by omega), List.append_assoc]
  rfl
theorem same_grow {L : List Int} {k : Nat} (hL : L.length = 289) (hk : k < 289) (h0 : L.getD k 0 = 0) : L.take k ++ List.replicate (289 - k) 0 = L.take (k + 1) ++ List.replicate (289 - (k + 1)) 0 := by
  rw [show 289 - k = (289 - (k + 1)) + 1 by omega, List.replicate_succ, take_snoc (by omega), h0, List.append_assoc]
  rfl
theorem tab_read {T : ByteArray} {ps a b : List S42} {L : List Int} (hA : Ag T ps) (h : ∀ p, p ∈ ps → okP p) (hL : L.length = 289) (hb : ∀ j, 0 ≤ L.getD j 0 ∧ L.getD j 0 ≤ 15) (e : ps = a ++ tabTo L 289 ++ b) (d : Nat) : ∀ (k : Nat) (bf : Int), k + d = 289 → -1 ≤ bf → bf < (k : Int) →
    tabGo T (usedK (L.drop k)).toNat (L.take k ++ List.replicate (289 - k) 0) bf (Wd a + Wd (tabTo L k)) = .ok L (Wd a + Wd (tabTo L 289)) := by
  induction d with
  | zero =>
    intro k bf hk _ _
    have : k = 289 := by omega
    subst this
    rw [List.drop_of_length_le (by omega), List.take_of_length_le (by omega)]
    simp [usedK, tabGo]
  | succ d ih =>
    intro k bf hk h1 h2
    have hu := usedK_drop (L := L) (k := k) (by omega)
    have hun := usedK_bound (L.drop (k + 1))
    by_cases hx : 0 < L.getD k 0
    · rw [if_pos hx] at hu
      obtain ⟨m, hm⟩ : ∃ m : Nat, L.getD k 0 = m := ⟨(L.getD k 0).toNat, by omega⟩
      obtain ⟨r, hr⟩ : ∃ r, tabTo L 289 = tabTo L (k + 1) ++ r := by
        have hg : ∀ d k, k + d = 289 → ∃ r, tabTo L 289 = tabTo L k ++ r := by
          intro d
          induction d with
          | zero => intro k hk; have : k = 289 := by omega
                    subst this; exact ⟨[], by simp⟩
          | succ d ih2 =>
            intro k hk
            obtain ⟨r, hr⟩ := ih2 (k + 1) (by omega)
            exact ⟨_, by rw [hr, tabTo_succ, List.append_assoc]⟩
        exact hg d (k + 1) (by omega)
      have ht : tabTo L (k + 1) = tabTo L k ++ [⟨(k : Int), 9⟩, ⟨(m : Int), 4⟩] := by rw [tabTo_succ, if_pos hx, hm]
      have e1 : ps = (a ++ tabTo L k) ++ (⟨(k : Int), ((9 : Nat) : Int)⟩ : S42) :: ((⟨(m : Int), 4⟩ : S42) :: (r ++ b)) := by
        rw [e, hr, ht]
        simp
      have e2 : ps = (a ++ tabTo L k ++ [⟨(k : Int), 9⟩]) ++ (⟨(m : Int), ((4 : Nat) : Int)⟩ : S42) :: (r ++ b) := by
        rw [e, hr, ht]
        simp
      have r1 := AgT_read hA h e1
      have r2 := AgT_read hA h e2
      have w0 : Wd (a ++ tabTo L k) = Wd a + Wd (tabTo L k) := Wd_append _ _
      have w1 : Wd (a ++ tabTo L k ++ [⟨(k : Int), 9⟩]) = Wd a + Wd (tabTo L k) + 9 := by rw [Wd_append, w0]; rfl
      have w2 : Wd (tabTo L (k + 1)) = Wd (tabTo L k) + 13 := by rw [ht, Wd_append]; rfl
      have hs := hA.size
      have hW := Wd_split e2
      have e4 : (((4 : Nat) : Int)).toNat = 4 := rfl
      simp only [e4, w1] at hW
      rw [w0] at r1
      rw [w1] at r2
      rw [show (usedK (L.drop k)).toNat = (usedK (L.drop (k + 1))).toNat + 1 by omega, tabGo, if_neg (by omega), r1, r2, if_neg (by omega)]
      have hset := set_grow (L := L) (k := k) hL (by omega)
      rw [hm] at hset
      rw [hset]
      have := ih (k + 1) (k : Int) (by omega) (by omega) (by omega)
      rw [w2] at this
      rw [Nat.add_assoc]
      exact this
    · rw [if_neg hx, Int.zero_add] at hu
      have h0 : L.getD k 0 = 0 := by have := (hb k).1; omega
      have ht : tabTo L (k + 1) = tabTo L k := by rw [tabTo_succ, if_neg hx, List.append_nil]
      rw [hu, same_grow hL (by omega) h0, ← ht]
      exact ih (k + 1) bf (by omega) h1 (by omega)

/-- The table is read. -/
theorem tabR_read {T : ByteArray} {ts : List Tok} (hA : Ag T (sqP ts)) (hn : ts.length ≤ 1000000) (hok : ∀ t, t ∈ ts → TokOk t) : tabR T = .ok (LenT ts) (9 + Wd (tabTo (LenT ts) 289)) := by
  obtain ⟨_, hl, hc, hb, _⟩ := LenT_good ts hn
  have hu := usedK_289 hl
  have hp := sqP_ok hn hok
  obtain ⟨u, hue⟩ : ∃ u : Nat, usedK (LenT ts) = u := ⟨(usedK (LenT ts)).toNat, by omega⟩
  have e1 : sqP ts = [] ++ (⟨(u : Int), ((9 : Nat) : Int)⟩ : S42) :: (tabTo (LenT ts) 289 ++ ts.flatMap (bodyT (LenT ts)) ++ [P42 (LenT ts) 288]) := by
    unfold sqP
    rw [hue]
    simp
  have r1 := AgT_read hA hp e1
  have hs := hA.size
  have hW := Wd_split e1
  have e9 : (((9 : Nat) : Int)).toNat = 9 := rfl
  have w0 : Wd [] = 0 := rfl
  simp only [e9, w0] at hW
  rw [w0] at r1
  have e2 : sqP ts = [⟨usedK (LenT ts), 9⟩] ++ tabTo (LenT ts) 289 ++ (ts.flatMap (bodyT (LenT ts)) ++ [P42 (LenT ts) 288]) := by
    unfold sqP
    simp
  have ht := tab_read hA hp hl hb e2 289 0 (-1) (by omega) (by omega) (by omega)
  have w1 : Wd [⟨usedK (LenT ts), 9⟩] = 9 := rfl
  have w2 : Wd (tabTo (LenT ts) 0) = 0 := rfl
  rw [w1, w2, List.drop_zero, List.take_zero, List.nil_append, Nat.add_zero] at ht
  have hend := LenT_end ts hn
  rw [tabR, if_neg (by omega), r1, if_neg (by omega)]
  rw [hue, Int.toNat_natCast] at ht
  rw [show (289 - 0) = 289 from rfl] at ht
  rw [ht, tabEnd, if_neg (fun h => h.elim (fun h => by rw [hc] at h; cases h) (fun h => by omega))]

end Go.Proofs.Ythgijppajindpaa
