/-
  prefix.nth and prefix.Next are walked.
-/
import Derived.Test.YthgijppajindpaaRdrs
import Derived.Test.YthgijppajindpaaKrfs
import Derived.Test.YthgijppajindpaaCod2
set_option linter.unusedVariables false
set_option linter.unusedSimpArgs false
namespace Go.Proofs.Ythgijppajindpaa
open Go.RowKit Go.Proofs.YthgijppajindpaaW.PrintWords

/-- The nth symbol of a width. -/
def nthOf : List Int → Int → Nat → Nat
  | [], _, _ => 0
  | x :: l, k, n => if x = k then (if n = 0 then 0 else nthOf l k (n - 1) + 1) else nthOf l k n + 1
theorem nthOf_spec : ∀ (l : List Int) (k : Int) (n : Nat), (n : Int) < cnt l k → nthOf l k n < l.length ∧ l.getD (nthOf l k n) 0 = k ∧ cnt (l.take (nthOf l k n)) k = n
  | [], k, n, h => by
    have e : cnt [] k = 0 := rfl
    rw [e] at h
    omega
  | x :: l, k, n, h => by
    rw [cnt_cons] at h
    unfold nthOf
    by_cases e : x = k
    · rw [if_pos e]
      rw [if_pos e] at h
      by_cases e0 : n = 0
      · rw [if_pos e0]
        exact ⟨by simp, by simpa using e, by rw [e0]; rfl⟩
      · rw [if_neg e0]
        obtain ⟨h1, h2, h3⟩ := nthOf_spec l k (n - 1) (by omega)
        refine ⟨by simp only [List.length_cons]; omega, by simpa using h2, ?_⟩
        rw [List.take_succ_cons, cnt_cons, if_pos e, h3]
        omega
    · rw [if_neg e]
      rw [if_neg e, Int.zero_add] at h
      obtain ⟨h1, h2, h3⟩ := nthOf_spec l k n h
      refine ⟨by simp only [List.length_cons]; omega, by simpa using h2, ?_⟩
      rw [List.take_succ_cons, cnt_cons, if_neg e, h3]
      omega
/-- It is the only one. -/
theorem nthOf_eq {l : List Int} {k : Int} {n j : Nat} (hj : j < l.length) (hk : l.getD j 0 = k) (hc : cnt (l.take j) k = n) : nthOf l k n = j := by
  have hn : (n : Int) < cnt l k := by
    have := cnt_take_le l (j + 1) k
    rw [take_snoc hj, cnt_snoc, if_pos hk] at this
    omega
  obtain ⟨h1, h2, h3⟩ := nthOf_spec l k n hn
  generalize nthOf l k n = i at *
  rcases Nat.lt_trichotomy i j with h | h | h
  · have := cnt_take_mono l (show i + 1 ≤ j by omega) k
    rw [take_snoc h1, cnt_snoc, if_pos h2] at this
    omega
  · exact h
  · have := cnt_take_mono l (show j + 1 ≤ i by omega) k
    rw [take_snoc hj, cnt_snoc, if_pos hk] at this
    omega

/-- How many have more bits. -/
def tailC (l : List Int) (k : Nat) : Int := ((cnts l).drop (k + 1)).sum
theorem tailC_succ (l : List Int) (k : Nat) (hk : k < 15) : tailC l k = cnt l ((k + 1 : Nat) : Int) + tailC l (k + 1) := by
  unfold tailC
  have hl := length_cnts l
  rw [List.drop_eq_getElem_cons (by omega), List.sum_cons]
  have := cnts_getD l (k + 1) (by omega)
  rw [List.getD_eq_getElem?_getD, List.getElem?_eq_getElem (by omega)] at this
  rw [← this]
  rfl
theorem tailC_last (l : List Int) : tailC l 15 = 0 := by
  unfold tailC
  rw [List.drop_of_length_le (by rw [length_cnts]; omega)]
  rfl
theorem tailC_bound (l : List Int) (d : Nat) : ∀ k, k + d = 15 → 0 ≤ tailC l k ∧ tailC l k ≤ d * l.length := by
  induction d with
  | zero =>
    intro k hk
    have : k = 15 := by omega
    subst this
    rw [tailC_last]
    omega
  | succ d ih =>
    intro k hk
    have h1 := ih (k + 1) (by omega)
    have h2 := cnt_bound ((k + 1 : Nat) : Int) l
    have e : ((d + 1 : Nat) : Int) * (l.length : Int) = (d : Int) * l.length + l.length := by
      rw [Int.natCast_add, Int.add_mul]
      simp
    rw [tailC_succ l k (by omega), e]
    omega

/-- Which symbol bits are: it, an error, and where the reader stands. -/
def nx (l : List Int) (s : ByteArray) : Nat → Nat → Nat → Nat → Int × Int × Nat
  | 0, _, _, a => (0, 70, a)
  | d + 1, k, v, a =>
    if 8 * s.size < a + 1 then (0, 40, a)
    else if 2 * v + bitsAt s a 1 < Ex l k then (nthOf l k (2 * v + bitsAt s a 1 - Fx l k), 0, a + 1)
    else if tailC l k = 0 then (0, 70, a + 1)
    else nx l s d (k + 1) (2 * v + bitsAt s a 1) (a + 1)
/-- P7.4. -/
def Nx (l : List Int) (s : ByteArray) (a : Nat) : Int × Int × Nat := if isCode l then nx l s 15 1 0 a else (0, 70, a)

set_option maxHeartbeats 4000000 in
set_option maxRecDepth 1000000 in
theorem nth_calls (A : Option Addr) (n c : Nat) (l : List Int) (k : Int) (m j : Nat) (w : World) (hn : n ≤ 1000) (hR : Rd w A n l) (hj : j < l.length) (hk : l.getD j 0 = k) (hm : cnt (l.take j) k = m) :
    Calls Try.prog 48 #[.slice A n c, .int .i64 k, .int .i64 (m : Int)] w fun e w' => e = .returned (.int .i64 (j : Int)) ∧ w = w' := by
  obtain ⟨hl, hc⟩ := hR
  have HC : Hid _ := hc
  have HL : Hid (l.length = n) := hl
  have hjn : j < n := by omega
  have HK : Hid (l.getD j 0 = k) := hk
  have HM : Hid (cnt (l.take j) k = m) := hm
  have hmb : (m : Int) ≤ n := by
    have := cnt_bound k (l.take j)
    rw [List.length_take] at this
    omega
  have HP : Hid (∀ i, i ≤ j → cnt (l.take i) k ≤ m) := hid (fun i hi => by
    rw [← hm]
    exact cnt_take_mono l hi k)
  clear hl hc hk hm
  go_enter Try.func48, Try.ntmps48
  go_wp2_with fail
  go_loopg [2, 11] (n + 1) (fun kx s2 s11 wr => ∃ (i t : Nat), s2 = .int .i64 ((m : Int) - t) ∧ s11 = .int .i64 i ∧ i ≤ j ∧ n - i ≤ kx ∧ w = wr ∧ t ≤ m ∧ Hid (cnt (l.take i) k = t))
  case atStart => exact ⟨0, 0, by simp, rfl, by omega, by omega, rfl, by omega, hid rfl⟩
  case round =>
    obtain ⟨i, t, rfl, rfl, hij, hikx, rfl, htm, HT⟩ := hrel
    have hltz : (i : Int) < (n : Int) := by omega
    obtain ⟨b, off, rfl, hb, hcell⟩ := HC.out (by omega)
    obtain ⟨x, hx⟩ : ∃ x, x = l.getD i 0 := ⟨_, rfl⟩
    have hci := hcell i (by omega)
    rw [← hx] at hci
    clear hcell
    have HX : Hid (x = l.getD i 0) := hx
    clear hx
    have HS : Hid (cnt (l.take (i + 1)) k = t + if x = k then 1 else 0) := by
      show _ = _
      rw [take_snoc (by rw [HL.out]; omega), cnt_snoc, HT.out, ← HX.out]
    by_cases hxk : x = k
    · subst hxk
      by_cases h0 : (m : Int) - t = 0
      · have hlast : i = j := by
          refine Nat.le_antisymm hij (Nat.le_of_not_lt (fun hlt => ?_))
          have h1 := HP.out (i + 1) (by omega)
          rw [HS.out, if_pos rfl] at h1
          omega
        subst hlast
        go_wp2_with fail
        go_ret
        exact ⟨rfl, rfl⟩
      · have hne : ((m : Int) - t == 0) = false := by simpa using h0
        have hil : Hid (i ≠ j) := hid (fun e => by
          subst e
          have h1 := HM.out
          rw [HT.out] at h1
          omega)
        go_wp2_with fail
        go_roundg (n - (i + 1))
        case measure => omega
        case rel =>
          have h2 := hil.out
          refine ⟨i + 1, t + 1, ?_, by go_num, by omega, by omega, rfl, by omega, ?_⟩
          · have : (m : Int) - t - 1 = (m : Int) - ((t + 1 : Nat) : Int) := by omega
            rw [this]
          · show _ = _
            exact HS.out.trans (by simp)
    · have hil : Hid (i ≠ j) := hid (fun e => by
        subst e
        exact hxk (HX.out.trans HK.out))
      have hne : (x != k) = true := by simpa using hxk
      go_wp2_with fail
      go_roundg (n - (i + 1))
      case measure => omega
      case rel =>
        have h2 := hil.out
        refine ⟨i + 1, t, rfl, by go_num, by omega, by omega, rfl, htm, ?_⟩
        show _ = _
        rw [HS.out, if_neg hxk, Int.add_zero]

end Go.Proofs.Ythgijppajindpaa

namespace Go.Proofs.Ythgijppajindpaa
open Go.RowKit Go.Proofs.YthgijppajindpaaW.PrintWords

theorem or_bit (v b : Nat) (hv : v < 2147483648) (hb : b < 2) : Go.bits .or .u32 ((v : Int) * 2 % 4294967296) (b : Int) = ((2 * v + b : Nat) : Int) := by
  have e : ((v : Nat) : Int) * (2 : Int) % (4294967296 : Int) = ((v <<< 1 : Nat) : Int) := by rw [Nat.shiftLeft_eq]; omega
  rw [e, or_u32 (by rw [Nat.shiftLeft_eq]; omega) (by omega), Nat.shiftLeft_eq]
  congr 1
  have h := Nat.two_pow_add_eq_or_of_lt (i := 1) (b := b) (by simpa using hb) v
  rw [Nat.pow_one] at h ⊢
  rw [Nat.mul_comm v 2, ← h]

theorem Rd.tch {w w' : World} {S : Nat → Prop} {A : Option Addr} {n : Nat} {l : List Int} (h : Rd w A n l) (ht : Tch S w w') (hn : ∀ ad, A = some ad → 0 < n → ¬ S ad.block) : Rd w' A n l := by
  refine ⟨h.1, fun h0 => ?_⟩
  obtain ⟨b, off, e, hb, hc⟩ := h.2 h0
  refine ⟨b, off, e, Nat.lt_of_lt_of_le hb ht.size, fun j hj => ?_⟩
  exact (ht.cell (p := ⟨b, off + j, none⟩) hb (hn ⟨b, off, none⟩ e h0)).trans (hc j hj)

theorem Arr.tch {T : TypeId} {enc : Int → Value} {w w' : World} {S : Nat → Prop} {g : Nat} {xs : List Int} (h : Arr T enc w g xs) (ht : Tch S w w') (hn : ¬ S g) : Arr T enc w' g xs := ht.heap h hn

set_option maxHeartbeats 8000000 in
set_option maxRecDepth 1000000 in
theorem next_calls (A : Option Addr) (n c : Nat) (l : List Int) (g : Nat) (s : ByteArray) (a : Nat) (w : World) (hn : n ≤ 1000) (hR : Rd w A n l) (hs : s.size ≤ 140737488355328) (ha : a ≤ 8 * s.size) (hD : Rdr w g s a)
    (hne : ∀ ad, A = some ad → 0 < n → ad.block ≠ g) :
    Calls Try.prog 25 #[.pointer (some ⟨g, 0, none⟩), .slice A n c] w fun e w' => e = .returned (.tuple #[.int .i64 (Nx l s a).1, .int .i64 (Nx l s a).2.1]) ∧ Rdr w' g s (Nx l s a).2.2 ∧ Tch (oneB g) w w' := by
  have HRD : Hid (Rd w A n l) := hR
  have HD : Hid (Rdr w g s a) := hD
  have HNE : Hid _ := hne
  have hg := hD.lt
  obtain ⟨hl, hc⟩ := hR
  have HC : Hid _ := hc
  have HL : Hid (l.length = n) := hl
  clear hl hc hD hne
  have u77 := Try.underlying77
  have a77 := Try.isAgg77
  have z77 := Try.sizeOf77
  have u80 := Try.underlying80
  have a80 := Try.isAgg80
  have z80 := Try.sizeOf80
  have hcn : Hid _ := counts_calls A n c l w hn HRD.out
  go_enter Try.func25, Try.ntmps25
  go_wp2_with fail
  go_step3
  go_wp2_with fail
  refine Calls.mono hcn.out ?_
  rintro e w1 ⟨xs, rfl, hxl, hxe, hb1⟩
  obtain ⟨G, hG⟩ : ∃ G, w1.heap.size = G := ⟨_, rfl⟩
  have Z0 : Hid ((w1.alloc (.cells #[Value.int IntKind.i64 0, Value.int IntKind.i64 0, Value.int IntKind.i64 0, Value.int IntKind.i64 0, Value.int IntKind.i64 0, Value.int IntKind.i64 0, Value.int IntKind.i64 0, Value.int IntKind.i64 0, Value.int IntKind.i64 0, Value.int IntKind.i64 0, Value.int IntKind.i64 0, Value.int IntKind.i64 0, Value.int IntKind.i64 0, Value.int IntKind.i64 0, Value.int IntKind.i64 0, Value.int IntKind.i64 0] 77)).heap[G]? = some (.cells #[Value.int IntKind.i64 0, Value.int IntKind.i64 0, Value.int IntKind.i64 0, Value.int IntKind.i64 0, Value.int IntKind.i64 0, Value.int IntKind.i64 0, Value.int IntKind.i64 0, Value.int IntKind.i64 0, Value.int IntKind.i64 0, Value.int IntKind.i64 0, Value.int IntKind.i64 0, Value.int IntKind.i64 0, Value.int IntKind.i64 0, Value.int IntKind.i64 0, Value.int IntKind.i64 0, Value.int IntKind.i64 0] 77 (0, 0))) := by
    show _ = _
    rw [← hG]
    exact heap_alloc_new _ _
  have HGN : Hid (w.heap.size ≤ G) := by show _ ≤ _; rw [← hG]; exact hb1.size
  have HgG : Hid (g < G) := Nat.lt_of_lt_of_le hg HGN.out
  have HG : Hid (w1.heap.size = G) := hG
  have XL : Hid (xs.length = 16) := hxl
  have XE : Hid (isCode l = true → xs = cnts l) := hxe
  have B1 : Hid (Below w.heap.size w w1) := hb1
  clear hxl hxe hb1 hcn
  cases hcode : isCode l with
  | false =>
    have HCODE : Hid (isCode l = false) := hcode
    clear hcode
    go_wp2_with ((with_reducible refine gate_store (t := 77) (p := 6) rfl ?_); refine wpList_store_row rfl 77 (.tmp 6) (.tmp 20) rfl G _ rfl rfl 77 _ Z0.out (size77 XL.out) (by simp [XL.out]) (one_all _ _) ?_)
    try rw [Exit.noGoto_ret]
    go_ret2
    have e : Nx l s a = (0, 70, a) := by rw [Nx, HCODE.out]; rfl
    have hT : Tch noB w ((w1.alloc (.cells #[Value.int IntKind.i64 0, Value.int IntKind.i64 0, Value.int IntKind.i64 0, Value.int IntKind.i64 0, Value.int IntKind.i64 0, Value.int IntKind.i64 0, Value.int IntKind.i64 0, Value.int IntKind.i64 0, Value.int IntKind.i64 0, Value.int IntKind.i64 0, Value.int IntKind.i64 0, Value.int IntKind.i64 0, Value.int IntKind.i64 0, Value.int IntKind.i64 0, Value.int IntKind.i64 0, Value.int IntKind.i64 0] 77)).setRow G (xs.map eI).toArray) := ((Tch.of_below B1.out noB).alloc _).setRow G _ (.inr HGN.out)
    rw [e]
    exact ⟨rfl, HD.out.tch hT (fun h => h), hT.mono (fun i _ hi => hi.elim)⟩
  | true =>
    have HCODE : Hid (isCode l = true) := hcode
    clear hcode
    have hxs := XE.out HCODE.out
    subst hxs
    obtain ⟨W2, hW2⟩ : ∃ W, (w1.alloc (.cells #[Value.int IntKind.i64 0, Value.int IntKind.i64 0, Value.int IntKind.i64 0, Value.int IntKind.i64 0, Value.int IntKind.i64 0, Value.int IntKind.i64 0, Value.int IntKind.i64 0, Value.int IntKind.i64 0, Value.int IntKind.i64 0, Value.int IntKind.i64 0, Value.int IntKind.i64 0, Value.int IntKind.i64 0, Value.int IntKind.i64 0, Value.int IntKind.i64 0, Value.int IntKind.i64 0, Value.int IntKind.i64 0] 77)).setRow G ((cnts l).map eI).toArray = W := ⟨_, rfl⟩
    have A2 : Hid (Arr 77 eI W2 G (cnts l)) := by
      show _ = _
      rw [← hW2]
      exact setRow_heap _ _ _ _ _ _ Z0.out
    have B2 : Hid (Below w.heap.size w W2) := by
      show Below _ _ _
      rw [← hW2]
      exact below_row (B1.out.alloc (by rw [HG.out]; exact HGN.out) _) HGN.out _
    have S2 : Hid (W2.heap.size = G + 1) := by
      show _ = _
      rw [← hW2, size_setRow, World.size_alloc, HG.out]
    have hld := A2.out.ld (n := 16) (length_cnts _)
    go_wp2_with (first
      | ((with_reducible refine gate_store (t := 77) (p := 6) rfl ?_); refine wpList_store_row rfl 77 (.tmp 6) (.tmp 20) rfl G _ rfl rfl 77 _ Z0.out (size77 XL.out) (by simp [XL.out]) (one_all _ _) ?_; rw [hW2])
      | ((with_reducible refine gate_dst (N := 24) rfl ?_); refine wpList_load_row rfl 77 (.tmp 6) rfl G rfl 77 _ (0, 0) _ A2.out u77 rfl (size77 (length_cnts _)) ?_))
    clear hW2
    refine Calls.mono (first_calls (cnts l) _ (length_cnts _) (fun j => ?_)) ?_
    · by_cases hj : j < 16
      · rw [cnts_getD l j hj]
        have := cnt_bound j l
        have := HL.out
        omega
      · rw [List.getD_eq_getElem?_getD, List.getElem?_eq_none (by rw [length_cnts]; omega)]
        simp
    rintro e w3 ⟨rfl, hb3⟩
    obtain ⟨H, hH⟩ : ∃ H, w3.heap.size = H := ⟨_, rfl⟩
    obtain ⟨W0, hW0⟩ : ∃ W, W = wordsTo (cnts l) 16 := ⟨_, rfl⟩
    have hwl : W0.length = 17 := by rw [hW0]; exact length_wordsTo _ _
    rw [← hW0]
    have HW0 : Hid (W0 = wordsTo (cnts l) 16) := hW0
    have WL : Hid (W0.length = 17) := hwl
    have Y0 : Hid ((w3.alloc (.cells #[Value.int IntKind.u32 0, Value.int IntKind.u32 0, Value.int IntKind.u32 0, Value.int IntKind.u32 0, Value.int IntKind.u32 0, Value.int IntKind.u32 0, Value.int IntKind.u32 0, Value.int IntKind.u32 0, Value.int IntKind.u32 0, Value.int IntKind.u32 0, Value.int IntKind.u32 0, Value.int IntKind.u32 0, Value.int IntKind.u32 0, Value.int IntKind.u32 0, Value.int IntKind.u32 0, Value.int IntKind.u32 0, Value.int IntKind.u32 0] 80)).heap[H]? = some (.cells #[Value.int IntKind.u32 0, Value.int IntKind.u32 0, Value.int IntKind.u32 0, Value.int IntKind.u32 0, Value.int IntKind.u32 0, Value.int IntKind.u32 0, Value.int IntKind.u32 0, Value.int IntKind.u32 0, Value.int IntKind.u32 0, Value.int IntKind.u32 0, Value.int IntKind.u32 0, Value.int IntKind.u32 0, Value.int IntKind.u32 0, Value.int IntKind.u32 0, Value.int IntKind.u32 0, Value.int IntKind.u32 0, Value.int IntKind.u32 0] 80 (0, 0))) := by
      show _ = _
      rw [← hH]
      exact heap_alloc_new _ _
    have HGH : Hid (G < H) := by
      show _ < _
      rw [← hH]
      have := hb3.size
      have := S2.out
      omega
    have A3 : Hid (Arr 77 eI w3 G (cnts l)) := A2.out.below (by rw [S2.out]; omega) hb3
    have B3 : Hid (Below w.heap.size w w3) := by
      have h1 := B2.out
      exact h1.trans (hb3.mono h1.size)
    have HNH : Hid (w.heap.size ≤ H) := by show _ ≤ _; rw [← hH]; exact B3.out.size
    obtain ⟨W4, hW4⟩ : ∃ W, (w3.alloc (.cells #[Value.int IntKind.u32 0, Value.int IntKind.u32 0, Value.int IntKind.u32 0, Value.int IntKind.u32 0, Value.int IntKind.u32 0, Value.int IntKind.u32 0, Value.int IntKind.u32 0, Value.int IntKind.u32 0, Value.int IntKind.u32 0, Value.int IntKind.u32 0, Value.int IntKind.u32 0, Value.int IntKind.u32 0, Value.int IntKind.u32 0, Value.int IntKind.u32 0, Value.int IntKind.u32 0, Value.int IntKind.u32 0, Value.int IntKind.u32 0] 80)).setRow H (W0.map eU).toArray = W := ⟨_, rfl⟩
    have A4 : Hid (Arr 80 eU W4 H W0) := by
      show _ = _
      rw [← hW4]
      exact setRow_heap _ _ _ _ _ _ Y0.out
    have C4 : Hid (Arr 77 eI W4 G (cnts l)) := by
      have h1 := HGH.out
      show _ = _
      rw [← hW4, setRow_other _ _ _ _ (by omega), Below.heap_alloc _ _ _ (by rw [hH]; exact h1)]
      exact A3.out
    have T4 : Hid (Tch noB w W4) := by
      show Tch _ _ _
      rw [← hW4]
      exact ((Tch.of_below B3.out noB).alloc _).setRow H _ (.inr HNH.out)
    have S4 : Hid (W4.heap.size = H + 1) := by
      show _ = _
      rw [← hW4, size_setRow, World.size_alloc, hH]
    clear hb3 hW0 hwl hld
    go_wp2_with ((with_reducible refine gate_store (t := 80) (p := 8) rfl ?_); refine wpList_store_row rfl 80 (.tmp 8) (.tmp 25) rfl H _ rfl rfl 80 _ Y0.out (size80 WL.out) (by simp [WL.out]) (one_all _ _) ?_; rw [hW4])
    clear hW4 hH
    have hsb : ∀ i : Nat, i ≤ 15 → 0 ≤ tailC l 0 - tailC l i ∧ tailC l 0 - tailC l i ≤ 15000 := by
      intro i hi
      have h1 := tailC_bound l 15 0 (by omega)
      have h2 := tailC_bound l (15 - i) i (by omega)
      have h3 := HL.out
      constructor
      · clear h1 h2
        induction i with
        | zero => omega
        | succ i ih =>
          have := ih (by omega)
          rw [tailC_succ l i (by omega)] at this
          have h5 := cnt_bound ((i + 1 : Nat) : Int) l
          omega
      · have : ((15 : Nat) : Int) * (l.length : Int) ≤ 15000 := by omega
        omega
    have HSB : Hid _ := hsb
    clear hsb
    go_loopg [10, 28] 16 (fun kx s10 s28 wr => ∃ (i : Nat) (t : Int), s10 = .int .i64 t ∧ s28 = .int .i64 i ∧ i ≤ 15 ∧ 15 - i ≤ kx ∧ wr = W4 ∧ 0 ≤ t ∧ t ≤ 15000 ∧ Hid (t = tailC l 0 - tailC l i))
    case atStart => exact ⟨0, 0, rfl, rfl, by omega, by omega, rfl, by omega, by omega, hid (by omega)⟩
    case round =>
      obtain ⟨i, t, rfl, rfl, hi, hikx, rfl, ht0, ht1, HT⟩ := hrel
      by_cases hlt : i < 15
      · have hltz : (i : Int) < 15 := by omega
        obtain ⟨x, hx⟩ : ∃ x, x = cnt l ((i + 1 : Nat) : Int) := ⟨_, rfl⟩
        have hci := C4.out.cell (j := 1 + i) (by rw [length_cnts]; omega)
        rw [show 1 + i = i + 1 by omega, cnts_getD l (i + 1) (by omega), ← hx] at hci
        rw [show i + 1 = 1 + i by omega] at hci
        have hxb : 0 ≤ x ∧ x ≤ 1000 := by
          have := cnt_bound ((i + 1 : Nat) : Int) l
          have := HL.out
          omega
        obtain ⟨hx0, hx1⟩ := hxb
        have HX : Hid (x = cnt l ((i + 1 : Nat) : Int)) := hx
        clear hx
        go_wp2_with fail
        go_roundg (15 - (i + 1))
        case measure => omega
        case rel =>
          have h1 := HT.out
          have h2 := tailC_succ l i hlt
          have h3 := HX.out
          have h4 := HSB.out (i + 1) (by omega)
          exact ⟨i + 1, t + x, rfl, by go_num, by omega, by omega, rfl, by omega, by omega, hid (by omega)⟩
      · have hltz : ¬ (i : Int) < 15 := by omega
        have hi15 : i = 15 := by omega
        subst hi15
        have HTT : Hid (t = tailC l 0) := by
          have h1 := HT.out
          rw [tailC_last] at h1
          show _ = _
          omega
        go_wp2_with fail
        go_step3
        go_wp2_with fail
        go_loopg [9, 10, 13] 17 (fun kx s9 s10 s13 wr => ∃ (k v a' : Nat) (t : Int), s9 = .int .u32 (v : Int) ∧ s10 = .int .i64 t ∧ s13 = .int .i64 (k : Int) ∧ 1 ≤ k ∧ k ≤ 16 ∧ 16 - k ≤ kx ∧ 0 ≤ t ∧ t ≤ 15000 ∧ v < 32768 ∧ a' ≤ 8 * s.size ∧
          Hid (Rdr wr g s a') ∧ Hid (Tch (oneB g) w wr) ∧ Hid (Arr 77 eI wr G (cnts l)) ∧ Hid (Arr 80 eU wr H W0) ∧ Hid (t = tailC l (k - 1)) ∧ Hid (v < 2 ^ (k - 1)) ∧ Hid (Fx l k ≤ 2 * v) ∧ Hid (nx l s (16 - k) k v a' = Nx l s a))
        case atStart =>
          have e : Nx l s a = nx l s 15 1 0 a := by rw [Nx, HCODE.out]; rfl
          exact ⟨1, 0, a, t, rfl, rfl, rfl, by omega, by omega, by omega, ht0, ht1, by omega, ha, HD.out.tch T4.out (fun h => h), T4.out.mono (fun i _ hi => hi.elim), C4.out.tch (Tch.refl noB _) (fun h => h), A4.out.tch (Tch.refl noB _) (fun h => h), HTT.out, hid (by decide), hid (Nat.le_refl 0), hid e.symm⟩
        case round =>
          obtain ⟨k, v, a', t, rfl, rfl, rfl, hk1, hk16, hkx, ht0, ht1, hv, ha', HR', HT', HA', HB', HTl, HV, HF, HN⟩ := hrel
          by_cases hlt : k ≤ 15
          · have hltz : (k : Int) ≤ 15 := by omega
            have hk16' : (k : Int) < 16 := by omega
            have hk17 : (k : Int) < 17 := by omega
            by_cases hsh : 8 * s.size < a' + 1
            · have hcall : Hid _ := take_short g s a' 1 wr hs (by decide) ha' hsh HR'.out
              have e : Hid (Nx l s a = (0, 40, a')) := by
                show _ = _
                rw [← HN.out, show 16 - k = (15 - k) + 1 by omega, nx, if_pos hsh]
              go_wp2_with (go_at_call 47; refine Calls.mono hcall.out ?_; rintro e w' ⟨rfl, hR2, hT2⟩; (have HR2 : Hid (Rdr w' g s a') := hR2); (have HT2 : Hid (Tch noB wr w') := hT2); clear hR2 hT2)
              try rw [Exit.noGoto_ret]
              go_ret2
              rw [e.out]
              exact ⟨rfl, HR2.out, HT'.out.trans HT2.out (fun i hi => hi.elim)⟩
            · have hcall : Hid _ := take_ok g s a' 1 wr hs (by decide) (by omega) HR'.out
              obtain ⟨b, hbe⟩ : ∃ b, b = bitsAt s a' 1 := ⟨_, rfl⟩
              have hb2 : b < 2 := by rw [hbe]; exact bitsAt_lt s a' 1
              rw [← hbe] at hcall
              have HBE : Hid (b = bitsAt s a' 1) := hbe
              clear hbe
              have hor : Go.bits .or .u32 ((v : Int) * 2) (b : Int) = 2 * (v : Int) + b := by
                have h1 := or_bit v b (by omega) hb2
                have h2 : ((v : Nat) : Int) * (2 : Int) % (4294967296 : Int) = (v : Int) * 2 := by omega
                rw [h2] at h1
                rw [h1]
                omega
              obtain ⟨C, hC⟩ : ∃ C : Nat, cnt l (k : Int) = C := ⟨(cnt l (k : Int)).toNat, by have := (cnt_bound (k : Int) l).1; omega⟩
              have hC1000 : C ≤ 1000 := by
                have := cnt_bound (k : Int) l
                have := HL.out
                omega
              obtain ⟨F, hF⟩ : ∃ F : Nat, Fx l k = F := ⟨_, rfl⟩
              have hExk : Ex l k = F + C := by
                rw [Ex, hF, hC]
                rfl
              have hFC : F + C ≤ 32768 := by
                rw [← hExk]
                have h1 := Ex_le HCODE.out hk1 hlt
                have h2 : 2 ^ k ≤ 2 ^ 15 := Nat.pow_le_pow_right (by decide) hlt
                omega
              have hcC : Hid (∀ {w' : World}, Arr 77 eI w' G (cnts l) → w'.cell? ⟨G, k, none⟩ = some (.int .i64 (C : Int))) := hid (fun h => by
                rw [h.cell (by rw [length_cnts]; omega), cnts_getD l k (by omega), hC])
              have hcF : Hid (∀ {w' : World}, Arr 80 eU w' H W0 → w'.cell? ⟨H, k, none⟩ = some (.int .u32 (F : Int))) := hid (fun h => by
                rw [h.cell (by rw [WL.out]; omega), HW0.out, wordsTo_getD _ _ _ (by omega), if_pos (by omega), wordAt_exact HCODE.out k hlt, hF])
              have hFv : F ≤ 2 * v + b := by
                have := HF.out
                omega
              have HC2 : Hid (cnt l (k : Int) = C) := hC
              have HF2 : Hid (Fx l k = F) := hF
              have HEX : Hid (Ex l k = F + C) := hExk
              have HTK : Hid (t - C = tailC l k) := by
                have h1 := HTl.out
                have h2 := tailC_succ l (k - 1) (by omega)
                rw [show k - 1 + 1 = k by omega] at h2
                show _ = _
                rw [h1, h2, HC2.out]
                omega
              have htc : 0 ≤ t - C ∧ t - C ≤ 15000 := by
                have h1 := tailC_bound l (15 - k) k (by omega)
                have h2 := HTK.out
                omega
              clear hC hF hExk
              have HNX : Hid (Nx l s a = if 2 * v + b < F + C then ((nthOf l k (2 * v + b - F) : Int), 0, a' + 1) else if tailC l k = 0 then (0, 70, a' + 1) else nx l s (15 - k) (k + 1) (2 * v + b) (a' + 1)) := by
                show _ = _
                rw [← HN.out, show 16 - k = (15 - k) + 1 by omega, nx, if_neg hsh, ← HBE.out, HEX.out, HF2.out]
              by_cases hhit : 2 * v + b < F + C
              · have hm : ((2 * v + b - F : Nat) : Int) = 2 * (v : Int) + b - F := by omega
                obtain ⟨j1, j2, j3⟩ := nthOf_spec l k (2 * v + b - F) (by rw [HC2.out]; omega)
                have hnth : Hid (∀ w', Tch (oneB g) w w' → Calls Try.prog 48 #[.slice A n c, .int .i64 (k : Int), .int .i64 (2 * (v : Int) + b - F)] w' fun e w'' => e = .returned (.int .i64 (nthOf l k (2 * v + b - F) : Int)) ∧ w' = w'') := hid (fun w' hT => by
                  rw [← hm]
                  exact nth_calls A n c l k (2 * v + b - F) _ w' hn (HRD.out.tch hT (fun ad h1 h2 => HNE.out ad h1 h2)) j1 j2 j3)
                have HEN : Hid (Nx l s a = ((nthOf l k (2 * v + b - F) : Int), 0, a' + 1)) := by
                  show _ = _
                  rw [HNX.out, if_pos hhit]
                clear hm j1 j2 j3
                have hzz : 2 * (v : Int) + b - F < C := by omega
                have hz0 : 0 ≤ 2 * (v : Int) + b - F := by omega
                clear hhit
                go_wp2_with (first | (go_at_call 47; refine Calls.mono hcall.out ?_; rintro e w' ⟨rfl, hR2, hT2⟩; (have HR2 : Hid (Rdr w' g s (a' + 1)) := hR2); (have HT2 : Hid (Tch (oneB g) wr w') := hT2); (have hcc := hcC.out (HA'.out.tch hT2 (fun e => by have := HgG.out; have : G = g := e; omega))); (have hcf := hcF.out (HB'.out.tch hT2 (fun e => by have := HgG.out; have := HGH.out; have : H = g := e; omega))); clear hR2 hT2) | (go_at_call 48; refine Calls.mono (hnth.out _ (HT'.out.trans HT2.out (fun i hi => .inl hi))) ?_; rintro e w'' ⟨rfl, rfl⟩))
                try rw [Exit.noGoto_ret]
                go_ret2
                rw [HEN.out]
                exact ⟨rfl, HR2.out, HT'.out.trans HT2.out (fun i hi => .inl hi)⟩
              · have hzz : ¬ 2 * (v : Int) + b - F < C := by omega
                by_cases ht : t - C = 0
                · have hte : (t - (C : Int) == 0) = true := by simpa using ht
                  have HEN : Hid (Nx l s a = (0, 70, a' + 1)) := by
                    show _ = _
                    rw [HNX.out, if_neg hhit, if_pos (HTK.out.symm.trans ht)]
                  clear hhit ht
                  go_wp2_with (go_at_call 47; refine Calls.mono hcall.out ?_; rintro e w' ⟨rfl, hR2, hT2⟩; (have HR2 : Hid (Rdr w' g s (a' + 1)) := hR2); (have HT2 : Hid (Tch (oneB g) wr w') := hT2); (have hcc := hcC.out (HA'.out.tch hT2 (fun e => by have := HgG.out; have : G = g := e; omega))); (have hcf := hcF.out (HB'.out.tch hT2 (fun e => by have := HgG.out; have := HGH.out; have : H = g := e; omega))); clear hR2 hT2)
                  try rw [Exit.noGoto_ret]
                  go_ret2
                  rw [HEN.out]
                  exact ⟨rfl, HR2.out, HT'.out.trans HT2.out (fun i hi => .inl hi)⟩
                · have hte : (t - (C : Int) == 0) = false := by simpa using ht
                  have HEN : Hid (nx l s (16 - (k + 1)) (k + 1) (2 * v + b) (a' + 1) = Nx l s a) := by
                    show _ = _
                    rw [HNX.out, if_neg hhit, if_neg (fun h => ht (HTK.out.trans h)), show 16 - (k + 1) = 15 - k by omega]
                  have HEE : Hid (F + C ≤ 2 * v + b) := hid (by omega)
                  clear hhit ht
                  go_wp2_with (go_at_call 47; refine Calls.mono hcall.out ?_; rintro e w' ⟨rfl, hR2, hT2⟩; (have HR2 : Hid (Rdr w' g s (a' + 1)) := hR2); (have HT2 : Hid (Tch (oneB g) wr w') := hT2); (have hcc := hcC.out (HA'.out.tch hT2 (fun e => by have := HgG.out; have : G = g := e; omega))); (have hcf := hcF.out (HB'.out.tch hT2 (fun e => by have := HgG.out; have := HGH.out; have : H = g := e; omega))); clear hR2 hT2)
                  go_roundg (16 - (k + 1))
                  case measure => omega
                  case rel =>
                    have hp : 2 * v + b < 2 ^ k := by
                      have h1 := HV.out
                      have h2 : 2 ^ k = 2 * 2 ^ (k - 1) := by
                        rw [show k = (k - 1) + 1 by omega, Nat.pow_succ, show k - 1 + 1 - 1 = k - 1 by omega]
                        omega
                      omega
                    have hp2 : 2 ^ k ≤ 2 ^ 15 := Nat.pow_le_pow_right (by decide) hlt
                    refine ⟨k + 1, 2 * v + b, a' + 1, t - C, by go_num, rfl, by go_num, by omega, by omega, by omega, htc.1, htc.2, by omega, by omega, HR2.out, HT'.out.trans HT2.out (fun i hi => .inl hi),
                      HA'.out.tch HT2.out (fun e => by have := HgG.out; have : G = g := e; omega), HB'.out.tch HT2.out (fun e => by have := HgG.out; have := HGH.out; have : H = g := e; omega), HTK.out, hp, ?_, HEN.out⟩
                    show _ ≤ _
                    rw [Fx_succ l k hk1, HEX.out]
                    have := HEE.out
                    omega
          · have hltz : ¬ (k : Int) ≤ 15 := by omega
            have hk : k = 16 := by omega
            subst hk
            have e : Nx l s a = (0, 70, a') := HN.out.symm
            have HE : Hid (Nx l s a = (0, 70, a')) := e
            clear e
            go_wp2_with fail
            try rw [Exit.noGoto_ret]
            go_ret2
            rw [HE.out]
            exact ⟨rfl, HR'.out, HT'.out⟩

end Go.Proofs.Ythgijppajindpaa
