/-
  What was squeezed is expanded, plain: the tokens.
-/
import Derived.Test.YthgijppajindpaaSqzD
set_option linter.unusedVariables false
set_option linter.unusedSimpArgs false
namespace Go.Proofs.Ythgijppajindpaa
open Go.RowKit Go.Proofs.YthgijppajindpaaW.PrintWords Go.Proofs.Ythgijppajindpaa.K7

def bytesS (s : ByteArray) : List Int := (List.range s.size).map fun i => ((by8 s i : Nat) : Int)
theorem bytesS_len (s : ByteArray) : (bytesS s).length = s.size := by simp [bytesS]
theorem bytesS_get {s : ByteArray} {i : Nat} (h : i < s.size) : (bytesS s)[i]? = some ((by8 s i : Nat) : Int) := by
  unfold bytesS
  rw [List.getElem?_map, List.getElem?_range h]
  rfl
theorem bytesS_snoc {s : ByteArray} {q : Nat} (h : q < s.size) : (bytesS s).take (q + 1) = (bytesS s).take q ++ [((by8 s q : Nat) : Int)] := by
  rw [List.take_add_one, bytesS_get h]
  rfl
theorem copy_take {s : ByteArray} {q n k : Nat} (hk1 : 1 ≤ k) (hkq : k ≤ q) (hq : q + n ≤ s.size) (he : ∀ j, j < n → by8 s (q - k + j) = by8 s (q + j)) (m : Nat) : ∀ i, i + m = n → copyN m (k : Int) ((bytesS s).take (q + i)) = (bytesS s).take (q + n) := by
  induction m with
  | zero => intro i hi; rw [copyN, show i = n by omega]
  | succ m ih =>
    intro i hi
    have hl : ((bytesS s).take (q + i)).length = q + i := by rw [List.length_take, bytesS_len]; omega
    have hg : ((bytesS s).take (q + i)).getD (q + i - k) 0 = ((by8 s (q + i) : Nat) : Int) := by
      rw [List.getD_eq_getElem?_getD, List.getElem?_take, if_pos (by omega), bytesS_get (by omega), show q + i - k = q - k + i by omega, he i (by omega)]
      rfl
    rw [copyN, hl, Int.toNat_natCast, hg, ← bytesS_snoc (by omega)]
    exact ih (i + 1) (by omega)

/-- What stands ahead of the tokens' pieces. -/
def pre0 (ts : List Tok) : List S42 := ⟨usedK (LenT ts), 9⟩ :: tabTo (LenT ts) 289
theorem sqP_eq (ts : List Tok) : sqP ts = pre0 ts ++ ts.flatMap (bodyT (LenT ts)) ++ [P42 (LenT ts) 288] := rfl
theorem Wd_pre0 (ts : List Tok) : Wd (pre0 ts) = 9 + Wd (tabTo (LenT ts) 289) := by
  unfold pre0
  rw [Wd_cons]
  rfl
theorem P42_wd {L : List Int} (hc : isCode L = true) {i : Nat} (hi : i < L.length) (hx : 0 < L.getD i 0) : (P42 L i).f1.toNat = (L.getD i 0).toNat := by
  unfold P42
  rw [pcOf_code hc hi hx]

theorem fin_read {ts : List Tok} (hn : ts.length ≤ 4096) (hok : ∀ t, t ∈ ts → TokOk t) (most : Int) (F : Nat) (b : List Int) :
    expGo (PkT (sqP ts)) (LenT ts) most (F + 1) b (Wd (pre0 ts ++ ts.flatMap (bodyT (LenT ts)))) = some (b, 0) := by
  obtain ⟨_, hl, hc, hb, _⟩ := LenT_good ts (by omega)
  have hp := sqP_ok (by omega) hok
  have hx := LenT_end ts (by omega)
  have hnx := Nx_piece (Ag.self hp) hp hc (i := 288) (by omega) hx (by rw [sqP_eq])
  have hT : tokR (PkT (sqP ts)) (LenT ts) (Wd (pre0 ts ++ ts.flatMap (bodyT (LenT ts)))) = .fin (Wd (pre0 ts ++ ts.flatMap (bodyT (LenT ts))) + ((LenT ts).getD 288 0).toNat) := by
    rw [tokR, hnx]
    rfl
  have hw : Wd (sqP ts) = Wd (pre0 ts ++ ts.flatMap (bodyT (LenT ts))) + ((LenT ts).getD 288 0).toNat := by
    rw [sqP_eq, Wd_append, Wd_cons, P42_wd hc (by omega) hx]
    rfl
  have hW : Wd (sqP ts) ≤ 1000000 := by
    have h1 := Wd_tab (LenT ts) 289
    have h2 := Wd_body hc ts
    have h3 := (hb 288).2
    rw [hw, Wd_append, Wd_pre0]
    omega
  have he := end_packed ((sqP ts).map mp) (by rw [catT_Wd _ hp]; exact hW)
  rw [catT_Wd _ hp, hw] at he
  rw [expGo, hT]
  dsimp only
  have he' : bitio_Reader_End.f (PkT (sqP ts)) ((Wd (pre0 ts ++ ts.flatMap (bodyT (LenT ts))) + ((LenT ts).getD 288 0).toNat : Nat) : Int) = some (0, PkT (sqP ts), ((Wd (pre0 ts ++ ts.flatMap (bodyT (LenT ts))) + ((LenT ts).getD 288 0).toNat : Nat) : Int)) := he
  rw [he']
  rfl

set_option maxHeartbeats 4000000 in
theorem exp_read {T : ByteArray} {s : ByteArray} {ts : List Tok} {R : List Int → Option (List Int × Int)} (hA : Ag T (sqP ts)) (hts : ts = SplitT s) (hs : s.size ≤ 4096) (most : Int) (hm : (s.size : Int) - 1 ≤ most)
    (hfin : ∀ F b, expGo T (LenT ts) most (F + 1) b (Wd (pre0 ts ++ ts.flatMap (bodyT (LenT ts)))) = R b) : ∀ (f q : Nat) (pre : List Tok) (F : Nat), s.size - q ≤ f → q ≤ s.size → ts = pre ++ splitGo s f q → f < F → (q < s.size ∨ (s.size : Int) ≤ most) →
    expGo T (LenT ts) most F ((bytesS s).take q) (Wd (pre0 ts ++ pre.flatMap (bodyT (LenT ts)))) = if (s.size : Int) ≤ most then R (bytesS s) else some ([], 90) := by
  have hok : ∀ t, t ∈ ts → TokOk t := by rw [hts]; exact SplitT_ok s
  have hn : ts.length ≤ 4096 := by rw [hts]; exact Nat.le_trans (SplitT_len s) hs
  obtain ⟨_, hl, hc, hb, _⟩ := LenT_good ts (by omega)
  have hp := sqP_ok (by omega) hok
  have done : ∀ (q : Nat) (pre : List Tok) (F : Nat), q = s.size → ts = pre → 0 < F → (q < s.size ∨ (s.size : Int) ≤ most) → expGo T (LenT ts) most F ((bytesS s).take q) (Wd (pre0 ts ++ pre.flatMap (bodyT (LenT ts)))) = if (s.size : Int) ≤ most then R (bytesS s) else some ([], 90) := by
    intro q pre F hq hpre hF hqm
    rw [if_pos (by omega)]
    obtain ⟨F', rfl⟩ : ∃ F', F = F' + 1 := ⟨F - 1, by omega⟩
    rw [← hpre, hq, List.take_of_length_le (by rw [bytesS_len]; exact Nat.le_refl _)]
    exact hfin F' _
  intro f
  induction f with
  | zero =>
    intro q pre F h1 h2 h3 h4 hqm
    exact done q pre F (by omega) (by rw [h3, splitGo, List.append_nil]) h4 hqm
  | succ f ih =>
    intro q pre F h1 h2 h3 h4 hqm
    obtain ⟨F', rfl⟩ : ∃ F', F = F' + 1 := ⟨F - 1, by omega⟩
    have h30 := h3
    rw [splitGo] at h3
    by_cases hq : q < s.size
    · rw [if_pos hq] at h3
      have hbl : ((bytesS s).take q).length = q := by rw [List.length_take, bytesS_len]; omega
      by_cases h0 : (Mt s q).1 = 0
      · rw [if_pos h0] at h3
        obtain ⟨t, ht⟩ : ∃ t : Tok, t = ⟨((by8 s q : Nat) : Int), 0, 0⟩ := ⟨_, rfl⟩
        rw [← ht] at h3
        have htm : t ∈ ts := by rw [h3]; simp
        have hsk : symK t = (((by8 s q : Nat) : Int), true) := by rw [ht]; rfl
        have hx := LenT_sym (by omega) htm (hok t htm)
        rw [hsk, Int.toNat_natCast] at hx
        have hb8 := by8_lt s q
        have hbo : bodyT (LenT ts) t = [P42 (LenT ts) (by8 s q)] := by
          unfold bodyT
          rw [hsk, if_neg (by show ¬ (256 : Int) ≤ ((by8 s q : Nat) : Int); omega)]
          rfl
        have e1 : sqP ts = (pre0 ts ++ pre.flatMap (bodyT (LenT ts))) ++ P42 (LenT ts) (by8 s q) :: ((splitGo s f (q + 1)).flatMap (bodyT (LenT ts)) ++ [P42 (LenT ts) 288]) := by
          have : ts.flatMap (bodyT (LenT ts)) = pre.flatMap (bodyT (LenT ts)) ++ (P42 (LenT ts) (by8 s q) :: (splitGo s f (q + 1)).flatMap (bodyT (LenT ts))) := by
            have hg : ∀ L', ts.flatMap (bodyT L') = pre.flatMap (bodyT L') ++ (bodyT L' t ++ (splitGo s f (q + 1)).flatMap (bodyT L')) := fun L' => by rw [h3, List.flatMap_append, List.flatMap_cons]
            rw [hg, hbo]
            rfl
          rw [sqP_eq, this]
          simp
        have hnx := Nx_piece hA hp hc (by omega) hx e1
        have hT : tokR T (LenT ts) (Wd (pre0 ts ++ pre.flatMap (bodyT (LenT ts)))) = .tok ⟨((by8 s q : Nat) : Int), 0, 0⟩ (Wd (pre0 ts ++ pre.flatMap (bodyT (LenT ts))) + ((LenT ts).getD (by8 s q) 0).toNat) := by
          rw [tokR, hnx]
          dsimp only
          rw [if_neg (fun h => h rfl), if_neg (by omega), if_pos (by omega)]
        rw [expGo, hT]
        dsimp only
        rw [if_pos rfl, hbl]
        by_cases hcap : most < ((q + 1 : Nat) : Int)
        · rw [if_pos hcap, if_neg (by omega)]
        rw [if_neg hcap, ← bytesS_snoc hq]
        have := ih (q + 1) (pre ++ [t]) F' (by omega) (by omega) (by rw [List.append_assoc]; exact h3) (by omega) (by omega)
        rw [List.flatMap_append, List.flatMap_cons, List.flatMap_nil, hbo, ← List.append_assoc, Wd_append, List.append_nil, Wd_cons, P42_wd hc (by omega) hx] at this
        exact this
      · rw [if_neg h0] at h3
        rcases Mt_spec s q with e | ⟨m1, m2, m3, m4, m5, m6, m7⟩
        · exact absurd (by rw [e]) h0
        obtain ⟨n, hnn⟩ : ∃ n, n = (Mt s q).1 := ⟨_, rfl⟩
        obtain ⟨k, hkk⟩ : ∃ k, k = (Mt s q).2 := ⟨_, rfl⟩
        rw [← hnn, ← hkk] at h3
        rw [← hnn] at m1 m2 m6
        rw [← hkk] at m3 m4 m5
        simp only [← hnn, ← hkk] at m7
        obtain ⟨t, ht⟩ : ∃ t : Tok, t = ⟨0, (n : Int), (k : Int)⟩ := ⟨_, rfl⟩
        rw [← ht] at h3
        have htm : t ∈ ts := by rw [h3]; simp
        have hsk : symK t = (((253 + n : Nat) : Int), true) := by
          rw [ht]
          unfold symK
          dsimp only
          rw [if_neg (by omega), if_neg (by omega)]
          congr 1
          omega
        have hx := LenT_sym (by omega) htm (hok t htm)
        rw [hsk, Int.toNat_natCast] at hx
        have hbo : bodyT (LenT ts) t = [P42 (LenT ts) (253 + n), ⟨((k - 1 : Nat) : Int), ((9 : Nat) : Int)⟩] := by
          unfold bodyT
          rw [hsk, if_pos (by show (256 : Int) ≤ ((253 + n : Nat) : Int); omega), ht]
          have e : (k : Int) - 1 = ((k - 1 : Nat) : Int) := by omega
          dsimp only
          rw [e]
          rfl
        have e0 : ts.flatMap (bodyT (LenT ts)) = pre.flatMap (bodyT (LenT ts)) ++ (P42 (LenT ts) (253 + n) :: (⟨((k - 1 : Nat) : Int), ((9 : Nat) : Int)⟩ : S42) :: (splitGo s f (q + n)).flatMap (bodyT (LenT ts))) := by
          have hg : ∀ L', ts.flatMap (bodyT L') = pre.flatMap (bodyT L') ++ (bodyT L' t ++ (splitGo s f (q + n)).flatMap (bodyT L')) := fun L' => by rw [h3, List.flatMap_append, List.flatMap_cons]
          rw [hg, hbo]
          rfl
        have e1 : sqP ts = (pre0 ts ++ pre.flatMap (bodyT (LenT ts))) ++ P42 (LenT ts) (253 + n) :: ((⟨((k - 1 : Nat) : Int), ((9 : Nat) : Int)⟩ : S42) :: ((splitGo s f (q + n)).flatMap (bodyT (LenT ts)) ++ [P42 (LenT ts) 288])) := by
          rw [sqP_eq, e0]
          simp
        have e2 : sqP ts = (pre0 ts ++ pre.flatMap (bodyT (LenT ts)) ++ [P42 (LenT ts) (253 + n)]) ++ (⟨((k - 1 : Nat) : Int), ((9 : Nat) : Int)⟩ : S42) :: ((splitGo s f (q + n)).flatMap (bodyT (LenT ts)) ++ [P42 (LenT ts) 288]) := by
          rw [sqP_eq, e0]
          simp
        have hnx := Nx_piece hA hp hc (by omega) hx e1
        have hrd := AgT_read hA hp e2
        have hsz := hA.size
        have hW := Wd_split e2
        have e9 : (((9 : Nat) : Int)).toNat = 9 := rfl
        have w1 : Wd (pre0 ts ++ pre.flatMap (bodyT (LenT ts)) ++ [P42 (LenT ts) (253 + n)]) = Wd (pre0 ts ++ pre.flatMap (bodyT (LenT ts))) + ((LenT ts).getD (253 + n) 0).toNat := by
          rw [Wd_append, Wd_cons, P42_wd hc (by omega) hx]
          rfl
        simp only [e9, w1] at hW
        rw [w1] at hrd
        have hT : tokR T (LenT ts) (Wd (pre0 ts ++ pre.flatMap (bodyT (LenT ts)))) = .tok ⟨0, (n : Int), (k : Int)⟩ (Wd (pre0 ts ++ pre.flatMap (bodyT (LenT ts))) + ((LenT ts).getD (253 + n) 0).toNat + 9) := by
          rw [tokR, hnx]
          dsimp only
          rw [if_neg (fun h => h rfl), if_neg (by omega), if_neg (by omega), if_neg (by omega), hrd]
          have e3 : ((253 + n : Nat) : Int) - 256 + 3 = (n : Int) := by omega
          have e4 : ((k - 1 : Nat) : Int) + 1 = (k : Int) := by omega
          rw [e3, e4]
        rw [expGo, hT]
        dsimp only
        have hcp := copy_take (s := s) m3 m5 m6 m7 n 0 (by omega)
        rw [Nat.add_zero] at hcp
        have hl2 : ((bytesS s).take (q + n)).length = q + n := by rw [List.length_take, bytesS_len]; omega
        rw [if_neg (by omega), hbl, if_neg (by omega), Int.toNat_natCast, hcp, hl2]
        by_cases hcap : most < ((q + n : Nat) : Int)
        · rw [if_pos hcap, if_neg (by omega)]
        rw [if_neg hcap]
        have := ih (q + n) (pre ++ [t]) F' (by omega) (by omega) (by rw [List.append_assoc]; exact h3) (by omega) (by omega)
        rw [List.flatMap_append, List.flatMap_cons, List.flatMap_nil, hbo, ← List.append_assoc, Wd_append, List.append_nil, Wd_cons, P42_wd hc (by omega) hx] at this
        exact this
    · rw [if_neg hq, List.append_nil] at h3
      exact done q pre (F' + 1) (by omega) h3 (by omega) hqm

/-- P9.4: with room it is the text, with one byte less it is too much. -/
theorem expand_most {s : ByteArray} (hs : s.size ≤ 4096) (most : Int) (hm : (s.size : Int) - 1 ≤ most) (h0 : 0 < s.size ∨ (s.size : Int) ≤ most) (F : Nat) (hF : s.size < F) :
    ExpR (Sqz s).1 most F = if (s.size : Int) ≤ most then some (strOfNums (bytesS s), 0) else some (strOfNums [], 90) := by
  have hn : (SplitT s).length ≤ 4096 := Nat.le_trans (SplitT_len s) hs
  have e : (Sqz s).1 = PkT (sqP (SplitT s)) := by rw [(Sqz_ok hs).1]; rfl
  have hp := sqP_ok (ts := SplitT s) (by omega) (SplitT_ok s)
  have h := exp_read (R := fun b => some (b, 0)) (Ag.self hp) rfl hs most hm (fun F b => fin_read hn (SplitT_ok s) most F b) s.size 0 [] F (by omega) (by omega) rfl hF h0
  rw [List.flatMap_nil, List.append_nil, Wd_pre0, List.take_zero] at h
  rw [e, ExpR, tabR_read (Ag.self hp) (by omega) (SplitT_ok s)]
  dsimp only
  rw [h]
  split <;> rfl
theorem expand_back {s : ByteArray} (hs : s.size ≤ 4096) (most : Int) (hm : (s.size : Int) ≤ most) (F : Nat) (hF : s.size < F) : ExpR (Sqz s).1 most F = some (strOfNums (bytesS s), 0) := by
  rw [expand_most hs most (by omega) (.inr hm) F hF, if_pos hm]

end Go.Proofs.Ythgijppajindpaa
