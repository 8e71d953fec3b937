/-
  A beginning of a squeezed text: it is too short, plain.
-/
import Derived.Test.YthgijppajindpaaSqzE
set_option linter.unusedVariables false
set_option linter.unusedSimpArgs false
namespace Go.Proofs.Ythgijppajindpaa
open Go.RowKit Go.Proofs.YthgijppajindpaaW.PrintWords Go.Proofs.Ythgijppajindpaa.K7

/-- A word of which the end is cut away. -/
theorem nx_cut {l : List Int} (h : isCode l = true) (T : ByteArray) {i w : Nat} (hi : i < l.length) (hw : l.getD i 0 = (w : Int)) (a : Nat) (hs : 8 * T.size < a + w)
    (hb : ∀ j, j < w → a + j < 8 * T.size → sbit T (a + j) = (wN l i).testBit (w - 1 - j)) (d : Nat) : ∀ k, k + d = w → a + k ≤ 8 * T.size → (nx l T (15 - k) (k + 1) (wN l i / 2 ^ (w - k)) (a + k)).2.1 = 40 := by
  have hok := lensOk_get (isCode_ok h) i
  induction d with
  | zero => intro k hk hk2; omega
  | succ d ih =>
    intro k hk hk2
    rw [show 15 - k = (15 - (k + 1)) + 1 by omega, nx]
    by_cases hsh : 8 * T.size < a + k + 1
    · rw [if_pos hsh]
    have hbit : bitsAt T (a + k) 1 = (wN l i / 2 ^ (w - (k + 1))) % 2 := by
      have e1 : bitsAt T (a + k) 1 = (sbit T (a + k)).toNat := by
        show 0 ||| ((sbit T (a + k + 0)).toNat <<< 0) = _
        simp
      rw [e1, hb k (by omega) (by omega), Nat.testBit_eq_decide_div_mod_eq, show w - 1 - k = w - (k + 1) by omega]
      generalize wN l i / 2 ^ (w - (k + 1)) = q
      by_cases e : q % 2 = 1
      · rw [e]; rfl
      · have : q % 2 = 0 := by omega
        rw [this]; rfl
    have hv : 2 * (wN l i / 2 ^ (w - k)) + bitsAt T (a + k) 1 = wN l i / 2 ^ (w - (k + 1)) := by
      rw [hbit]
      have : wN l i / 2 ^ (w - k) = wN l i / 2 ^ (w - (k + 1)) / 2 := by
        rw [Nat.div_div_eq_div_mul, ← Nat.pow_succ]
        congr 2
        omega
      rw [this]
      omega
    rw [if_neg hsh, hv]
    obtain ⟨d', hd'⟩ : ∃ d', w = (k + 1) + d' + 1 := ⟨w - (k + 1) - 1, by omega⟩
    have hge : Ex l (k + 1) ≤ wN l i / 2 ^ (w - (k + 1)) := by
      have h1 := Fx_ge l (k + 1) d' (by omega)
      rw [← hd'] at h1
      rw [Nat.le_div_iff_mul_le (Nat.two_pow_pos _), Nat.mul_comm, show w - (k + 1) = d' + 1 by omega]
      refine Nat.le_trans h1 ?_
      unfold wN
      rw [hw, Int.toNat_natCast]
      exact Nat.le_add_right _ _
    have ht : tailC l (k + 1) ≠ 0 := fun e => by
      have := tailC_none (isCode_ok h) (show k + 1 ≤ 15 by omega) e hi
      omega
    rw [if_neg (by omega), if_neg ht]
    exact ih (k + 1) (by omega) (by omega)

/-- A text that is a beginning of these pieces' bits. -/
def AgC (T : ByteArray) (ps : List S42) : Prop := ∀ i, i < 8 * T.size → i < Wd ps → sbit T i = sbit (PkT ps) i

theorem AgC_read {T : ByteArray} {ps a b : List S42} {v w : Nat} (hA : AgC T ps) (h : ∀ p, p ∈ ps → okP p) (e : ps = a ++ ⟨(v : Int), (w : Int)⟩ :: b) (hs : Wd a + w ≤ 8 * T.size) : bitsAt T (Wd a) w = v := by
  have hW := Wd_split e
  have e2 : ((w : Int)).toNat = w := Int.toNat_natCast w
  simp only [e2] at hW
  rw [← PkT_read h e]
  apply Nat.eq_of_testBit_eq
  intro j
  rw [bitsAt_bit, bitsAt_bit]
  by_cases hj : j < w
  · rw [hA _ (by omega) (by omega)]
  · rw [decide_eq_false hj, Bool.false_and, Bool.false_and]

/-- A symbol's word is read, or it is cut. -/
theorem Nx_cut {T : ByteArray} {ps a b : List S42} {L : List Int} {i : Nat} (hA : AgC T ps) (h : ∀ p, p ∈ ps → okP p) (hc : isCode L = true) (hi : i < L.length) (hx : 0 < L.getD i 0) (e : ps = a ++ P42 L i :: b) (ha : Wd a ≤ 8 * T.size) :
    (Wd a + (L.getD i 0).toNat ≤ 8 * T.size ∧ Nx L T (Wd a) = ((i : Int), 0, Wd a + (L.getD i 0).toNat)) ∨ (8 * T.size < Wd a + (L.getD i 0).toNat ∧ (Nx L T (Wd a)).2.1 = 40) := by
  obtain ⟨w, hw⟩ : ∃ w : Nat, L.getD i 0 = w := ⟨(L.getD i 0).toNat, by omega⟩
  have hP : P42 L i = ⟨((turnN (wN L i) w : Nat) : Int), (w : Int)⟩ := by
    unfold P42
    rw [pcOf_code hc hi hx, hw]
    rfl
  rw [hP] at e
  have hW := Wd_split e
  have e2 : ((w : Int)).toNat = w := Int.toNat_natCast w
  simp only [e2] at hW
  rw [hw, Int.toNat_natCast]
  by_cases hs : Wd a + w ≤ 8 * T.size
  · exact .inl ⟨hs, Nx_word hc T hi hw (by omega) (Wd a) hs (fun j hj => by rw [hA _ (by omega) (by omega)]; exact PkT_bit h e j hj)⟩
  · refine .inr ⟨by omega, ?_⟩
    have hlt := wN_lt_pow hc hi hx
    rw [hw, Int.toNat_natCast] at hlt
    have := nx_cut hc T hi hw (Wd a) (by omega) (fun j hj hj2 => by
      rw [hA _ (by omega) (by omega), PkT_bit h e j hj, turnN_bit, decide_eq_true hj, Bool.true_and]) w 0 (by omega) (by omega)
    unfold Nx
    rw [hc, if_pos rfl]
    rw [Nat.sub_zero, Nat.sub_zero, Nat.div_eq_of_lt hlt, Nat.add_zero] at this
    exact this

theorem tab_cut {T : ByteArray} {ps a b : List S42} {L : List Int} (hA : AgC T ps) (h : ∀ p, p ∈ ps → okP p) (hL : L.length = 289) (hb : ∀ j, 0 ≤ L.getD j 0 ∧ L.getD j 0 ≤ 15) (e : ps = a ++ tabTo L 289 ++ b) (d : Nat) : ∀ (k : Nat) (bf : Int), k + d = 289 → -1 ≤ bf → bf < (k : Int) → Wd a + Wd (tabTo L k) ≤ 8 * T.size →
    tabGo T (usedK (L.drop k)).toNat (L.take k ++ List.replicate (289 - k) 0) bf (Wd a + Wd (tabTo L k)) = if Wd a + Wd (tabTo L 289) ≤ 8 * T.size then .ok L (Wd a + Wd (tabTo L 289)) else .bad 40 := by
  induction d with
  | zero =>
    intro k bf hk _ _ hpos
    have : k = 289 := by omega
    subst this
    rw [if_pos hpos]
    rw [List.drop_of_length_le (by omega), List.take_of_length_le (by omega)]
    simp [usedK, tabGo]
  | succ d ih =>
    intro k bf hk h1 h2 hpos
    have hu := usedK_drop (L := L) (k := k) (by omega)
    have hun := usedK_bound (L.drop (k + 1))
    by_cases hx : 0 < L.getD k 0
    · rw [if_pos hx] at hu
      obtain ⟨m, hm⟩ : ∃ m : Nat, L.getD k 0 = m := ⟨(L.getD k 0).toNat, by omega⟩
      obtain ⟨r, hr⟩ : ∃ r, tabTo L 289 = tabTo L (k + 1) ++ r := by
        have hg : ∀ d k, k + d = 289 → ∃ r, tabTo L 289 = tabTo L k ++ r := by
          intro d
          induction d with
          | zero => intro k hk; have : k = 289 := by omega
                    subst this; exact ⟨[], by simp⟩
          | succ d ih2 =>
            intro k hk
            obtain ⟨r, hr⟩ := ih2 (k + 1) (by omega)
            exact ⟨_, by rw [hr, tabTo_succ, List.append_assoc]⟩
        exact hg d (k + 1) (by omega)
      have ht : tabTo L (k + 1) = tabTo L k ++ [⟨(k : Int), 9⟩, ⟨(m : Int), 4⟩] := by rw [tabTo_succ, if_pos hx, hm]
      have e1 : ps = (a ++ tabTo L k) ++ (⟨(k : Int), ((9 : Nat) : Int)⟩ : S42) :: ((⟨(m : Int), 4⟩ : S42) :: (r ++ b)) := by
        rw [e, hr, ht]
        simp
      have e2 : ps = (a ++ tabTo L k ++ [⟨(k : Int), 9⟩]) ++ (⟨(m : Int), ((4 : Nat) : Int)⟩ : S42) :: (r ++ b) := by
        rw [e, hr, ht]
        simp
      have w0 : Wd (a ++ tabTo L k) = Wd a + Wd (tabTo L k) := Wd_append _ _
      have w1 : Wd (a ++ tabTo L k ++ [⟨(k : Int), 9⟩]) = Wd a + Wd (tabTo L k) + 9 := by rw [Wd_append, w0]; rfl
      have w2 : Wd (tabTo L (k + 1)) = Wd (tabTo L k) + 13 := by rw [ht, Wd_append]; rfl
      have w3 : Wd (tabTo L 289) = Wd (tabTo L (k + 1)) + Wd r := by rw [hr, Wd_append]
      rw [show (usedK (L.drop k)).toNat = (usedK (L.drop (k + 1))).toNat + 1 by omega, tabGo]
      by_cases hsh : 8 * T.size < Wd a + Wd (tabTo L k) + 13
      · rw [if_pos hsh, if_neg (by omega)]
      have r1 := AgC_read hA h e1 (by omega)
      have r2 := AgC_read hA h e2 (by omega)
      rw [w0] at r1
      rw [w1] at r2
      rw [if_neg hsh, r1, r2, if_neg (by omega)]
      have hset := set_grow (L := L) (k := k) hL (by omega)
      rw [hm] at hset
      rw [hset]
      have := ih (k + 1) (k : Int) (by omega) (by omega) (by omega) (by omega)
      rw [w2] at this
      rw [Nat.add_assoc]
      exact this
    · rw [if_neg hx, Int.zero_add] at hu
      have h0 : L.getD k 0 = 0 := by have := (hb k).1; omega
      have ht : tabTo L (k + 1) = tabTo L k := by rw [tabTo_succ, if_neg hx, List.append_nil]
      rw [hu, same_grow hL (by omega) h0, ← ht]
      exact ih (k + 1) bf (by omega) h1 (by omega) (by rw [ht]; exact hpos)

/-- The table is read, or it is cut. -/
theorem tabR_cut {T : ByteArray} {ts : List Tok} (hA : AgC T (sqP ts)) (hn : ts.length ≤ 1000000) (hok : ∀ t, t ∈ ts → TokOk t) : tabR T = .bad 40 ∨ (9 + Wd (tabTo (LenT ts) 289) ≤ 8 * T.size ∧ tabR T = .ok (LenT ts) (9 + Wd (tabTo (LenT ts) 289))) := by
  obtain ⟨_, hl, hc, hb, _⟩ := LenT_good ts hn
  have hu := usedK_289 hl
  have hp := sqP_ok hn hok
  by_cases h9 : 8 * T.size < 9
  · left
    rw [tabR, if_pos h9]
  obtain ⟨u, hue⟩ : ∃ u : Nat, usedK (LenT ts) = u := ⟨(usedK (LenT ts)).toNat, by omega⟩
  have e1 : sqP ts = [] ++ (⟨(u : Int), ((9 : Nat) : Int)⟩ : S42) :: (tabTo (LenT ts) 289 ++ ts.flatMap (bodyT (LenT ts)) ++ [P42 (LenT ts) 288]) := by
    unfold sqP
    rw [hue]
    simp
  have w0 : Wd [] = 0 := rfl
  have r1 := AgC_read hA hp e1 (by rw [w0]; omega)
  rw [w0] at r1
  have e2 : sqP ts = [⟨usedK (LenT ts), 9⟩] ++ tabTo (LenT ts) 289 ++ (ts.flatMap (bodyT (LenT ts)) ++ [P42 (LenT ts) 288]) := by
    unfold sqP
    simp
  have w1 : Wd [⟨usedK (LenT ts), 9⟩] = 9 := rfl
  have w2 : Wd (tabTo (LenT ts) 0) = 0 := rfl
  have ht := tab_cut hA hp hl hb e2 289 0 (-1) (by omega) (by omega) (by omega) (by rw [w1, w2]; omega)
  rw [w1, w2, List.drop_zero, List.take_zero, List.nil_append, Nat.add_zero, hue, Int.toNat_natCast, show (289 - 0) = 289 from rfl] at ht
  have hend := LenT_end ts hn
  rw [tabR, if_neg h9, r1, if_neg (by omega), ht]
  by_cases hfit : 9 + Wd (tabTo (LenT ts) 289) ≤ 8 * T.size
  · right
    rw [if_pos hfit, tabEnd, if_neg (fun h => h.elim (fun h => by rw [hc] at h; cases h) (fun h => by omega))]
    exact ⟨hfit, rfl⟩
  · left
    rw [if_neg hfit]
    rfl

set_option maxHeartbeats 4000000 in
theorem exp_cut {T : ByteArray} {s : ByteArray} {ts : List Tok} (hA : AgC T (sqP ts)) (hcut : 8 * T.size < Wd (sqP ts)) (hts : ts = SplitT s) (hs : s.size ≤ 4096) (most : Int) (hm : (s.size : Int) ≤ most) : ∀ (f q : Nat) (pre : List Tok) (F : Nat), s.size - q ≤ f → q ≤ s.size → ts = pre ++ splitGo s f q → f < F → Wd (pre0 ts ++ pre.flatMap (bodyT (LenT ts))) ≤ 8 * T.size →
    expGo T (LenT ts) most F ((bytesS s).take q) (Wd (pre0 ts ++ pre.flatMap (bodyT (LenT ts)))) = some ([], 40) := by
  have hok : ∀ t, t ∈ ts → TokOk t := by rw [hts]; exact SplitT_ok s
  have hn : ts.length ≤ 4096 := by rw [hts]; exact Nat.le_trans (SplitT_len s) hs
  obtain ⟨_, hl, hc, hb, _⟩ := LenT_good ts (by omega)
  have hp := sqP_ok (by omega) hok
  have bad : ∀ (q F' a : Nat), tokR T (LenT ts) a = .bad 40 → expGo T (LenT ts) most (F' + 1) ((bytesS s).take q) a = some ([], 40) := fun q F' a h => by rw [expGo, h]
  have cutR : ∀ a, (Nx (LenT ts) T a).2.1 = 40 → tokR T (LenT ts) a = .bad 40 := fun a h => by rw [tokR, h, if_pos (by decide)]
  have done : ∀ (q : Nat) (pre : List Tok) (F : Nat), ts = pre → 0 < F → Wd (pre0 ts ++ pre.flatMap (bodyT (LenT ts))) ≤ 8 * T.size → expGo T (LenT ts) most F ((bytesS s).take q) (Wd (pre0 ts ++ pre.flatMap (bodyT (LenT ts)))) = some ([], 40) := by
    intro q pre F hpre hF hpos
    obtain ⟨F', rfl⟩ : ∃ F', F = F' + 1 := ⟨F - 1, by omega⟩
    rw [← hpre] at hpos ⊢
    have hx := LenT_end ts (by omega)
    have hw : Wd (sqP ts) = Wd (pre0 ts ++ ts.flatMap (bodyT (LenT ts))) + ((LenT ts).getD 288 0).toNat := by
      rw [sqP_eq, Wd_append, Wd_cons, P42_wd hc (by omega) hx]
      rfl
    rcases Nx_cut hA hp hc (i := 288) (by omega) hx (by rw [sqP_eq]) hpos with ⟨h1, _⟩ | ⟨_, h2⟩
    · omega
    · exact bad q F' _ (cutR _ h2)
  intro f
  induction f with
  | zero =>
    intro q pre F h1 h2 h3 h4 hpos
    exact done q pre F (by rw [h3, splitGo, List.append_nil]) (by omega) hpos
  | succ f ih =>
    intro q pre F h1 h2 h3 h4 hpos
    obtain ⟨F', rfl⟩ : ∃ F', F = F' + 1 := ⟨F - 1, by omega⟩
    have h30 := h3
    rw [splitGo] at h3
    by_cases hq : q < s.size
    · rw [if_pos hq] at h3
      have hbl : ((bytesS s).take q).length = q := by rw [List.length_take, bytesS_len]; omega
      by_cases h0 : (Mt s q).1 = 0
      · rw [if_pos h0] at h3
        obtain ⟨t, ht⟩ : ∃ t : Tok, t = ⟨((by8 s q : Nat) : Int), 0, 0⟩ := ⟨_, rfl⟩
        rw [← ht] at h3
        have htm : t ∈ ts := by rw [h3]; simp
        have hsk : symK t = (((by8 s q : Nat) : Int), true) := by rw [ht]; rfl
        have hx := LenT_sym (by omega) htm (hok t htm)
        rw [hsk, Int.toNat_natCast] at hx
        have hb8 := by8_lt s q
        have hbo : bodyT (LenT ts) t = [P42 (LenT ts) (by8 s q)] := by
          unfold bodyT
          rw [hsk, if_neg (by show ¬ (256 : Int) ≤ ((by8 s q : Nat) : Int); omega)]
          rfl
        have e1 : sqP ts = (pre0 ts ++ pre.flatMap (bodyT (LenT ts))) ++ P42 (LenT ts) (by8 s q) :: ((splitGo s f (q + 1)).flatMap (bodyT (LenT ts)) ++ [P42 (LenT ts) 288]) := by
          have : ts.flatMap (bodyT (LenT ts)) = pre.flatMap (bodyT (LenT ts)) ++ (P42 (LenT ts) (by8 s q) :: (splitGo s f (q + 1)).flatMap (bodyT (LenT ts))) := by
            have hg : ∀ L', ts.flatMap (bodyT L') = pre.flatMap (bodyT L') ++ (bodyT L' t ++ (splitGo s f (q + 1)).flatMap (bodyT L')) := fun L' => by rw [h3, List.flatMap_append, List.flatMap_cons]
            rw [hg, hbo]
            rfl
          rw [sqP_eq, this]
          simp
        rcases (Nx_cut hA hp hc (by omega) hx e1 hpos).symm with ⟨_, hc2⟩ | ⟨hfit, hnx⟩
        · exact bad q F' _ (cutR _ hc2)
        have hT : tokR T (LenT ts) (Wd (pre0 ts ++ pre.flatMap (bodyT (LenT ts)))) = .tok ⟨((by8 s q : Nat) : Int), 0, 0⟩ (Wd (pre0 ts ++ pre.flatMap (bodyT (LenT ts))) + ((LenT ts).getD (by8 s q) 0).toNat) := by
          rw [tokR, hnx]
          dsimp only
          rw [if_neg (fun h => h rfl), if_neg (by omega), if_pos (by omega)]
        rw [expGo, hT]
        dsimp only
        rw [if_pos rfl, hbl]
        rw [if_neg (by omega), ← bytesS_snoc hq]
        have hwn : Wd (pre0 ts ++ (pre ++ [t]).flatMap (bodyT (LenT ts))) = Wd (pre0 ts ++ pre.flatMap (bodyT (LenT ts))) + ((LenT ts).getD (by8 s q) 0).toNat := by
          rw [List.flatMap_append, List.flatMap_cons, List.flatMap_nil, hbo, ← List.append_assoc, Wd_append, List.append_nil, Wd_cons, P42_wd hc (by omega) hx]
          rfl
        have := ih (q + 1) (pre ++ [t]) F' (by omega) (by omega) (by rw [List.append_assoc]; exact h3) (by omega) (by rw [hwn]; exact hfit)
        rw [hwn] at this
        exact this
      · rw [if_neg h0] at h3
        rcases Mt_spec s q with e | ⟨m1, m2, m3, m4, m5, m6, m7⟩
        · exact absurd (by rw [e]) h0
        obtain ⟨n, hnn⟩ : ∃ n, n = (Mt s q).1 := ⟨_, rfl⟩
        obtain ⟨k, hkk⟩ : ∃ k, k = (Mt s q).2 := ⟨_, rfl⟩
        rw [← hnn, ← hkk] at h3
        rw [← hnn] at m1 m2 m6
        rw [← hkk] at m3 m4 m5
        simp only [← hnn, ← hkk] at m7
        obtain ⟨t, ht⟩ : ∃ t : Tok, t = ⟨0, (n : Int), (k : Int)⟩ := ⟨_, rfl⟩
        rw [← ht] at h3
        have htm : t ∈ ts := by rw [h3]; simp
        have hsk : symK t = (((253 + n : Nat) : Int), true) := by
          rw [ht]
          unfold symK
          dsimp only
          rw [if_neg (by omega), if_neg (by omega)]
          congr 1
          omega
        have hx := LenT_sym (by omega) htm (hok t htm)
        rw [hsk, Int.toNat_natCast] at hx
        have hbo : bodyT (LenT ts) t = [P42 (LenT ts) (253 + n), ⟨((k - 1 : Nat) : Int), ((9 : Nat) : Int)⟩] := by
          unfold bodyT
          rw [hsk, if_pos (by show (256 : Int) ≤ ((253 + n : Nat) : Int); omega), ht]
          have e : (k : Int) - 1 = ((k - 1 : Nat) : Int) := by omega
          dsimp only
          rw [e]
          rfl
        have e0 : ts.flatMap (bodyT (LenT ts)) = pre.flatMap (bodyT (LenT ts)) ++ (P42 (LenT ts) (253 + n) :: (⟨((k - 1 : Nat) : Int), ((9 : Nat) : Int)⟩ : S42) :: (splitGo s f (q + n)).flatMap (bodyT (LenT ts))) := by
          have hg : ∀ L', ts.flatMap (bodyT L') = pre.flatMap (bodyT L') ++ (bodyT L' t ++ (splitGo s f (q + n)).flatMap (bodyT L')) := fun L' => by rw [h3, List.flatMap_append, List.flatMap_cons]
          rw [hg, hbo]
          rfl
        have e1 : sqP ts = (pre0 ts ++ pre.flatMap (bodyT (LenT ts))) ++ P42 (LenT ts) (253 + n) :: ((⟨((k - 1 : Nat) : Int), ((9 : Nat) : Int)⟩ : S42) :: ((splitGo s f (q + n)).flatMap (bodyT (LenT ts)) ++ [P42 (LenT ts) 288])) := by
          rw [sqP_eq, e0]
          simp
        have e2 : sqP ts = (pre0 ts ++ pre.flatMap (bodyT (LenT ts)) ++ [P42 (LenT ts) (253 + n)]) ++ (⟨((k - 1 : Nat) : Int), ((9 : Nat) : Int)⟩ : S42) :: ((splitGo s f (q + n)).flatMap (bodyT (LenT ts)) ++ [P42 (LenT ts) 288]) := by
          rw [sqP_eq, e0]
          simp
        rcases (Nx_cut hA hp hc (by omega) hx e1 hpos).symm with ⟨_, hc2⟩ | ⟨hfit, hnx⟩
        · exact bad q F' _ (cutR _ hc2)
        have w1 : Wd (pre0 ts ++ pre.flatMap (bodyT (LenT ts)) ++ [P42 (LenT ts) (253 + n)]) = Wd (pre0 ts ++ pre.flatMap (bodyT (LenT ts))) + ((LenT ts).getD (253 + n) 0).toNat := by
          rw [Wd_append, Wd_cons, P42_wd hc (by omega) hx]
          rfl
        by_cases h40 : 8 * T.size < Wd (pre0 ts ++ pre.flatMap (bodyT (LenT ts))) + ((LenT ts).getD (253 + n) 0).toNat + 9
        · refine bad q F' _ ?_
          rw [tokR, hnx]
          dsimp only
          rw [if_neg (fun h => h rfl), if_neg (by omega), if_neg (by omega), if_pos h40]
        have hrd := AgC_read hA hp e2 (by rw [w1]; omega)
        rw [w1] at hrd
        have hT : tokR T (LenT ts) (Wd (pre0 ts ++ pre.flatMap (bodyT (LenT ts)))) = .tok ⟨0, (n : Int), (k : Int)⟩ (Wd (pre0 ts ++ pre.flatMap (bodyT (LenT ts))) + ((LenT ts).getD (253 + n) 0).toNat + 9) := by
          rw [tokR, hnx]
          dsimp only
          rw [if_neg (fun h => h rfl), if_neg (by omega), if_neg (by omega), if_neg (by omega), hrd]
          have e3 : ((253 + n : Nat) : Int) - 256 + 3 = (n : Int) := by omega
          have e4 : ((k - 1 : Nat) : Int) + 1 = (k : Int) := by omega
          rw [e3, e4]
        rw [expGo, hT]
        dsimp only
        have hcp := copy_take (s := s) m3 m5 m6 m7 n 0 (by omega)
        rw [Nat.add_zero] at hcp
        have hl2 : ((bytesS s).take (q + n)).length = q + n := by rw [List.length_take, bytesS_len]; omega
        rw [if_neg (by omega), hbl, if_neg (by omega), Int.toNat_natCast, hcp, hl2]
        rw [if_neg (by omega)]
        have hwn : Wd (pre0 ts ++ (pre ++ [t]).flatMap (bodyT (LenT ts))) = Wd (pre0 ts ++ pre.flatMap (bodyT (LenT ts))) + ((LenT ts).getD (253 + n) 0).toNat + 9 := by
          rw [List.flatMap_append, List.flatMap_cons, List.flatMap_nil, hbo, ← List.append_assoc, Wd_append, List.append_nil, Wd_cons, P42_wd hc (by omega) hx]
          rfl
        have := ih (q + n) (pre ++ [t]) F' (by omega) (by omega) (by rw [List.append_assoc]; exact h3) (by omega) (by rw [hwn]; omega)
        rw [hwn] at this
        exact this
    · rw [if_neg hq, List.append_nil] at h3
      exact done q pre (F' + 1) h3 (by omega) hpos

/-- P9.4: a beginning is nothing. -/
theorem expand_cut {s T : ByteArray} (hs : s.size ≤ 4096) (hsz : T.size < (Sqz s).1.size) (hby : ∀ i, i < T.size → by8 T i = by8 (Sqz s).1 i) (F : Nat) (hF : s.size < F) : ExpR T (s.size : Int) F = some (strOfNums [], 40) := by
  have hn : (SplitT s).length ≤ 4096 := Nat.le_trans (SplitT_len s) hs
  have hp := sqP_ok (ts := SplitT s) (by omega) (SplitT_ok s)
  have e : (Sqz s).1 = PkT (sqP (SplitT s)) := by rw [(Sqz_ok hs).1]; rfl
  rw [e] at hsz hby
  have hz := PkT_size hp
  have hA : AgC T (sqP (SplitT s)) := fun i hi _ => by unfold sbit; rw [hby (i / 8) (by omega)]
  rcases tabR_cut hA (by omega) (SplitT_ok s) with ht | ⟨hfit, ht⟩
  · rw [ExpR, ht]
  · have h := exp_cut hA (by omega) rfl hs (s.size : Int) (Int.le_refl _) s.size 0 [] F (by omega) (by omega) rfl hF (by rw [List.flatMap_nil, List.append_nil, Wd_pre0]; exact hfit)
    rw [List.flatMap_nil, List.append_nil, Wd_pre0, List.take_zero] at h
    rw [ExpR, ht]
    dsimp only
    rw [h]
    rfl

end Go.Proofs.Ythgijppajindpaa
