/-
  How long a squeezed text is; texts that are one run.
-/
import Derived.Test.YthgijppajindpaaSqzF
set_option linter.unusedVariables false
set_option linter.unusedSimpArgs false
namespace Go.Proofs.Ythgijppajindpaa
open Go.RowKit Go.Proofs.YthgijppajindpaaW.PrintWords Go.Proofs.Ythgijppajindpaa.K7

/-! ### the pieces may be; how many bits they are -/
theorem okP_any {L : List Int} (hc : isCode L = true) (i : Nat) : okP (P42 L i) ∧ (P42 L i).f1 ≤ 15 := by
  by_cases hi : i < L.length ∧ 0 < L.getD i 0
  · refine ⟨okP_P42 hc hi.1 hi.2, ?_⟩
    have := lensOk_get (isCode_ok hc) i
    unfold P42 pcOf
    rw [if_pos hi.2]
    exact this.2
  · have e : P42 L i = ⟨0, 0⟩ := by
      unfold P42 pcOf
      rw [if_neg (fun h0 => hi ⟨by
        rcases Nat.lt_or_ge i L.length with h | h
        · exact h
        · rw [List.getD_eq_getElem?_getD, List.getElem?_eq_none h] at h0
          exact absurd h0 (by decide), h0⟩)]
    rw [e]
    exact ⟨⟨by decide, by decide, by decide, by decide⟩, by decide⟩
theorem okP_nine {x : Int} (h0 : 0 ≤ x) (h1 : x < 512) : okP ⟨x, 9⟩ := ⟨h0, by show (0 : Int) ≤ 9; decide, by show (9 : Int) ≤ 24; decide, by show x < 2 ^ 9; omega⟩
theorem okP_four {x : Int} (h0 : 0 ≤ x) (h1 : x ≤ 15) : okP ⟨x, 4⟩ := ⟨h0, by show (0 : Int) ≤ 4; decide, by show (4 : Int) ≤ 24; decide, by show x < 2 ^ 4; omega⟩
theorem sqP_ok {ts : List Tok} (hn : ts.length ≤ 1000000) (hok : ∀ t, t ∈ ts → TokOk t) : ∀ p, p ∈ sqP ts → okP p := by
  intro p hp
  obtain ⟨_, hl, hc, hb, _⟩ := LenT_good ts hn
  have hu := usedK_289 hl
  unfold sqP at hp
  simp only [List.mem_append, List.mem_cons, List.not_mem_nil, or_false] at hp
  rcases hp with ((rfl | hp) | hp) | rfl
  · exact okP_nine hu.1 (by omega)
  · obtain ⟨i, hi, h0, rfl | rfl⟩ := mem_tabTo hp
    · exact okP_nine (by omega) (by omega)
    · exact okP_four (hb i).1 (hb i).2
  · obtain ⟨t, ht, hp⟩ := List.mem_flatMap.1 hp
    unfold bodyT at hp
    rcases List.mem_cons.1 hp with rfl | hp
    · exact (okP_any hc _).1
    · split at hp
      · rename_i hk
        have := sym_copy (hok t ht) hk
        rcases List.mem_cons.1 hp with rfl | hp
        · exact okP_nine (by omega) (by omega)
        · cases hp
      · cases hp
  · exact (okP_any hc _).1

def Wd (ps : List S42) : Nat := (ps.map fun p => p.f1.toNat).sum
theorem Wd_append (a b : List S42) : Wd (a ++ b) = Wd a + Wd b := by simp [Wd]
theorem Wd_cons (p : S42) (b : List S42) : Wd (p :: b) = p.f1.toNat + Wd b := by simp [Wd]
theorem catT_Wd : ∀ ps : List S42, (∀ p, p ∈ ps → okP p) → catT (ps.map mp) = Wd ps
  | [], _ => rfl
  | p :: ps, h => by
    rw [List.map_cons, catT_cons, Wd_cons, catT_Wd ps (fun q hq => h q (by simp [hq])), mp_val (h p (by simp))]
theorem Wd_tab (L : List Int) : ∀ k, Wd (tabTo L k) ≤ 13 * k
  | 0 => by simp [tabTo, Wd]
  | k + 1 => by
    rw [tabTo_succ, Wd_append]
    have := Wd_tab L k
    split
    · have e : Wd [⟨(k : Int), 9⟩, ⟨L.getD k 0, 4⟩] = 13 := rfl
      rw [e]; omega
    · have e : Wd [] = 0 := rfl
      rw [e]; omega
theorem Wd_body {L : List Int} (hc : isCode L = true) : ∀ ts : List Tok, Wd (ts.flatMap (bodyT L)) ≤ 24 * ts.length
  | [] => by simp [Wd]
  | t :: ts => by
    rw [List.flatMap_cons, Wd_append, List.length_cons]
    have h1 := Wd_body hc ts
    have h2 : Wd (bodyT L t) ≤ 24 := by
      unfold bodyT
      rw [Wd_cons]
      obtain ⟨h3, h4⟩ := okP_any hc (symK t).1.toNat
      have h5 := h3.2.1
      split
      · have e : Wd [⟨t.b - 1, 9⟩] = 9 := rfl
        rw [e]; omega
      · have e : Wd [] = 0 := rfl
        rw [e]; omega
    omega

theorem Pack_ok {ps : List S42} (h : ∀ p, p ∈ ps → okP p) : Pack ps = (strOfNums (packed (ps.map mp)), 0) := by
  have e := pick_all ps h
  unfold Pack
  rw [if_neg (by rw [e, List.length_map]; omega), e]
/-- What a text is squeezed to. -/
theorem Sqz_ok {s : ByteArray} (h : s.size ≤ 4096) : Sqz s = (strOfNums (packed ((sqP (SplitT s)).map mp)), 0) ∧ (strOfNums (packed ((sqP (SplitT s)).map mp))).size = (Wd (sqP (SplitT s)) + 7) / 8 := by
  have hl := SplitT_len s
  have hok := sqP_ok (ts := SplitT s) (by omega) (SplitT_ok s)
  refine ⟨by rw [Sqz, if_neg (by omega), Pack_ok hok], ?_⟩
  rw [packed_size, catT_Wd _ hok]

/-! ### runs -/
theorem runGo_ge {s : ByteArray} {a b m : Nat} (h : ∀ j, j < m → b + j < s.size ∧ by8 s (a + j) = by8 s (b + j)) : ∀ f n, n ≤ m → min (n + f) m ≤ runGo s a b f n
  | 0, n, hn => by rw [runGo]; omega
  | f + 1, n, hn => by
    rw [runGo]
    by_cases e : n = m
    · subst e
      split
      · have := (runGo_le s a b f (n + 1)).1; omega
      · omega
    · rw [if_pos (h n (by omega))]
      have := runGo_ge h f (n + 1) (by omega)
      omega
theorem mt_ge {s : ByteArray} {a : Nat} : ∀ k j, 1 ≤ j → j ≤ k → runN s (a - j) a ≤ (mt s a k).1
  | 0, j, h1, h2 => by omega
  | k + 1, j, h1, h2 => by
    rw [mt]
    by_cases e : j = k + 1
    · subst e
      split
      · exact Nat.le_refl _
      · omega
    · have := mt_ge (s := s) (a := a) k j h1 (by omega)
      split
      · show _ ≤ runN s (a - (k + 1)) a; omega
      · exact this
theorem Mt_run {s : ByteArray} (hrun : ∀ i j, i < s.size → j < s.size → by8 s i = by8 s j) {a : Nat} (ha : 1 ≤ a) (h3 : a + 3 ≤ s.size) : min 34 (s.size - a) ≤ (Mt s a).1 := by
  have h1 : min 34 (s.size - a) ≤ runN s (a - 1) a := by
    have := runGo_ge (s := s) (a := a - 1) (b := a) (m := s.size - a) (fun j hj => ⟨by omega, hrun _ _ (by omega) (by omega)⟩) 34 0 (Nat.zero_le _)
    unfold runN
    omega
  have h2 := mt_ge (s := s) (a := a) (min a 512) 1 (Nat.le_refl _) (by omega)
  unfold Mt
  rcases fin3_cases (mt s a (min a 512)) with ⟨h4, _⟩ | ⟨_, e⟩
  · omega
  · rw [e]; omega
theorem split_run {s : ByteArray} (hrun : ∀ i j, i < s.size → j < s.size → by8 s i = by8 s j) : ∀ f a, 1 ≤ a → (splitGo s f a).length ≤ (s.size - a) / 34 + 3 ∧ (s.size - a < 3 → (splitGo s f a).length ≤ s.size - a)
  | 0, a, _ => by simp [splitGo]
  | f + 1, a, ha => by
    rw [splitGo]
    by_cases h : a < s.size
    · rw [if_pos h]
      by_cases h3 : a + 3 ≤ s.size
      · have hm := Mt_run hrun ha h3
        have h0 : ¬ (Mt s a).1 = 0 := by omega
        rw [if_neg h0, List.length_cons]
        have h1 := split_run hrun f (a + (Mt s a).1) (by omega)
        refine ⟨?_, fun h => by omega⟩
        by_cases h34 : 34 ≤ s.size - a
        · have : 34 ≤ (Mt s a).1 := by omega
          have h2 : (Mt s a).1 ≤ 34 := by
            rcases Mt_spec s a with e | ⟨_, h2, _⟩
            · rw [e] at h0; exact absurd rfl h0
            · exact h2
          have e : (Mt s a).1 = 34 := by omega
          rw [e] at h1 ⊢
          omega
        · have h4 : s.size - (a + (Mt s a).1) = 0 := by omega
          have := h1.2 (by omega)
          omega
      · have e : Mt s a = (0, 0) := Mt_short (by omega)
        rw [e, if_pos rfl, List.length_cons]
        have h1 := split_run hrun f (a + 1) (by omega)
        have := h1.2 (by omega)
        omega
    · rw [if_neg h]
      simp
theorem SplitT_run {s : ByteArray} (hrun : ∀ i j, i < s.size → j < s.size → by8 s i = by8 s j) : (SplitT s).length ≤ s.size / 34 + 4 := by
  unfold SplitT
  cases hs : s.size with
  | zero => simp [splitGo]
  | succ n =>
    rw [splitGo, if_pos (by omega)]
    have e : Mt s 0 = (0, 0) := rfl
    rw [e, if_pos rfl, List.length_cons]
    have := (split_run hrun n (0 + 1) (by omega)).1
    omega

theorem by8_run (c : Int) (h0 : 0 ≤ c) (h1 : c < 256) (n : Nat) : (strOfNums (List.replicate n c)).size = n ∧ ∀ i j, i < (strOfNums (List.replicate n c)).size → j < (strOfNums (List.replicate n c)).size → by8 (strOfNums (List.replicate n c)) i = by8 (strOfNums (List.replicate n c)) j := by
  have hs : (strOfNums (List.replicate n c)).size = n := by rw [size_nums, List.length_replicate]
  refine ⟨hs, fun i j hi hj => ?_⟩
  rw [hs] at hi hj
  have hb : ∀ x, x ∈ List.replicate n c → 0 ≤ x ∧ x < 256 := fun x hx => by rw [List.eq_of_mem_replicate hx]; exact ⟨h0, h1⟩
  rw [by8_nums _ hb, by8_nums _ hb, List.getD_eq_getElem?_getD, List.getD_eq_getElem?_getD, List.getElem?_replicate, List.getElem?_replicate, if_pos hi, if_pos hj]

/-- A run is squeezed to few bits. -/
theorem Wd_run {s : ByteArray} (hs : s.size ≤ 4096) (hrun : ∀ i j, i < s.size → j < s.size → by8 s i = by8 s j) : Wd (sqP (SplitT s)) ≤ 3781 + 24 * (s.size / 34 + 4) := by
  have hl := SplitT_run hrun
  obtain ⟨_, hL, hc, _, _⟩ := LenT_good (SplitT s) (by omega)
  unfold sqP
  rw [Wd_append, Wd_append, Wd_cons]
  have h1 := Wd_tab (LenT (SplitT s)) 289
  have h2 := Wd_body hc (SplitT s)
  have h3 : Wd [P42 (LenT (SplitT s)) 288] ≤ 15 := by
    obtain ⟨h3, h4⟩ := okP_any hc 288
    have := h3.2.1
    rw [Wd_cons]
    have e : Wd [] = 0 := rfl
    rw [e]; omega
  have h4 : (9 : Int).toNat = 9 := rfl
  show (9 : Int).toNat + Wd _ + Wd _ + Wd _ ≤ _
  omega

end Go.Proofs.Ythgijppajindpaa
