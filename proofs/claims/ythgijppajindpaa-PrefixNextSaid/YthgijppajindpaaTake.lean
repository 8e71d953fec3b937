/-
  bitio's Reader is walked: New, Left, Take.
-/
import Derived.Test.YthgijppajindpaaTchs
import Derived.Defers
set_option linter.unusedVariables false
set_option linter.unusedSimpArgs false
namespace Go.Proofs.Ythgijppajindpaa
open Go.RowKit Go.Proofs.YthgijppajindpaaW.PrintWords

/-! ### plain -/
/-- A byte of a text, nothing behind its end. -/
def by8 (s : ByteArray) (i : Nat) : Nat := (s.data.toList.getD i 0).toNat
/-- A bit of a text. -/
def sbit (s : ByteArray) (i : Nat) : Bool := (by8 s (i / 8)).testBit (i % 8)
/-- Bits of a text, the lowest first. -/
def bitsAt (s : ByteArray) (a : Nat) : Nat → Nat
  | 0 => 0
  | n + 1 => bitsAt s a n ||| ((sbit s (a + n)).toNat <<< n)

theorem by8_lt (s : ByteArray) (i : Nat) : by8 s i < 256 := (s.data.toList.getD i 0).toNat_lt
theorem toNat_bit (b : Bool) (j : Nat) : b.toNat.testBit j = (decide (j = 0) && b) := by
  cases b
  · simp
  · cases j with
    | zero => simp
    | succ j => simp [Nat.testBit_succ]
theorem bitsAt_bit (s : ByteArray) (a : Nat) : ∀ n j, (bitsAt s a n).testBit j = (decide (j < n) && sbit s (a + j))
  | 0, j => by simp [bitsAt]
  | n + 1, j => by
    rw [bitsAt, Nat.testBit_or, bitsAt_bit s a n j, Nat.testBit_shiftLeft, toNat_bit]
    by_cases h : j = n
    · subst h; simp
    · by_cases h2 : j < n
      · simp [h2, show j < n + 1 by omega, show ¬ n ≤ j by omega]
      · simp [h2, show ¬ j < n + 1 by omega, show ¬ j - n = 0 by omega]
theorem bitsAt_lt (s : ByteArray) (a n : Nat) : bitsAt s a n < 2 ^ n := by
  apply Nat.lt_pow_two_of_testBit
  intro i hi
  rw [bitsAt_bit, decide_eq_false (by omega)]
  rfl

/-- The bytes from one on, as a number, the first lowest. -/
def holdN (s : ByteArray) (f : Nat) : Nat → Nat
  | 0 => 0
  | n + 1 => holdN s f n ||| (by8 s (f + n) <<< (8 * n))
theorem holdN_bit (s : ByteArray) (f : Nat) : ∀ n j, (holdN s f n).testBit j = (decide (j < 8 * n) && sbit s (8 * f + j))
  | 0, j => by simp [holdN]
  | n + 1, j => by
    rw [holdN, Nat.testBit_or, holdN_bit s f n j, Nat.testBit_shiftLeft]
    unfold sbit
    by_cases h1 : j < 8 * n
    · simp [h1, show j < 8 * (n + 1) by omega, show ¬ 8 * n ≤ j by omega]
    · by_cases h2 : j < 8 * (n + 1)
      · have e1 : (8 * f + j) / 8 = f + n := by omega
        have e2 : (8 * f + j) % 8 = j - 8 * n := by omega
        simp [h1, h2, show 8 * n ≤ j by omega, e1, e2]
      · have : (by8 s (f + n)).testBit (j - 8 * n) = false := Nat.testBit_lt_two_pow (Nat.lt_of_lt_of_le (by8_lt s _) (Nat.pow_le_pow_right (n := 2) (by decide) (show 8 ≤ j - 8 * n by omega)))
        simp [h1, h2, this]
theorem holdN_lt (s : ByteArray) (f n : Nat) : holdN s f n < 2 ^ (8 * n) := by
  apply Nat.lt_pow_two_of_testBit
  intro i hi
  rw [holdN_bit, decide_eq_false (by omega)]
  rfl
theorem by8_past (s : ByteArray) (i : Nat) (h : s.size ≤ i) : by8 s i = 0 := by
  have hz : s.data.toList.length = s.size := by simp
  unfold by8
  rw [List.getD_eq_getElem?_getD, List.getElem?_eq_none (by omega)]
  rfl
theorem holdN_past (s : ByteArray) (f n m : Nat) (h : s.size ≤ f + n) (hnm : n ≤ m) : holdN s f m = holdN s f n := by
  induction hnm with
  | refl => rfl
  | step h1 ih =>
    rename_i k
    have h1' : n ≤ k := h1
    rw [holdN, ih, by8_past s (f + k) (by omega)]
    simp
theorem hold_take (s : ByteArray) (a n : Nat) (hn : n ≤ 24) : (holdN s (a / 8) 4 >>> (a % 8)) &&& (2 ^ n - 1) = bitsAt s a n := by
  apply Nat.eq_of_testBit_eq
  intro j
  rw [Nat.testBit_and, Nat.testBit_shiftRight, holdN_bit, bitsAt_bit, Nat.testBit_two_pow_sub_one]
  by_cases h : j < n
  · rw [decide_eq_true h, decide_eq_true (show a % 8 + j < 8 * 4 by omega), Bool.and_true, Bool.true_and, Bool.true_and]
    congr 1
    omega
  · rw [decide_eq_false h, Bool.and_false, Bool.false_and]

/-! ### walked -/
/-- A reader, in a block of its own. -/
def Rdr (w : World) (g : Nat) (s : ByteArray) (a : Nat) : Prop := w.heap[g]? = some (.cells #[.string s, .int .i64 (a : Int)] 86 (0, 0))
theorem Rdr.c0 {w : World} {g : Nat} {s : ByteArray} {a : Nat} (h : Rdr w g s a) : w.cell? ⟨g, 0, none⟩ = some (.string s) := by rw [cell_block h]; rfl
theorem Rdr.c1 {w : World} {g : Nat} {s : ByteArray} {a : Nat} (h : Rdr w g s a) : w.cell? ⟨g, 1, none⟩ = some (.int .i64 (a : Int)) := by rw [cell_block h]; rfl
theorem Rdr.fr {w : World} {g : Nat} {s : ByteArray} {a : Nat} (h : Rdr w g s a) (j : Nat) : w.frozen? ⟨g, j, none⟩ = false := frozen_block h j
theorem Rdr.lt {w : World} {g : Nat} {s : ByteArray} {a : Nat} (h : Rdr w g s a) : g < w.heap.size := (Array.getElem?_eq_some_iff.1 h).1
theorem Rdr.set {w : World} {g : Nat} {s : ByteArray} {a : Nat} (h : Rdr w g s a) (b : Nat) : Rdr (w.setCell ⟨g, 1, none⟩ (.int .i64 (b : Int))) g s b := by
  unfold Rdr at *
  unfold World.setCell
  simp only []
  rw [Array.getElem?_modify, if_pos rfl, h]
  rfl
theorem Rdr.alloc {w : World} {g : Nat} {s : ByteArray} {a : Nat} (h : Rdr w g s a) (o : Obj) : Rdr (w.alloc o) g s a := (Below.heap_alloc w o g h.lt).trans h

theorem Rdr.tch {w w' : World} {S : Nat → Prop} {g : Nat} {s : ByteArray} {a : Nat} (h : Rdr w g s a) (ht : Tch S w w') (hn : ¬ S g) : Rdr w' g s a := ht.heap h hn

theorem new_calls (s : ByteArray) (w : World) :
    Calls Try.prog 24 #[.string s] w fun e w' => e = .returned (.pointer (some ⟨w.heap.size, 0, none⟩)) ∧ Rdr w' w.heap.size s 0 ∧ Tch noB w w' := by
  go_enter Try.func24, Try.ntmps24
  go_wp2
  go_ret
  exact ⟨rfl, heap_alloc_new _ _, (Tch.refl _ _).alloc _⟩

theorem left_calls (g : Nat) (s : ByteArray) (a : Nat) (w : World) (hs : s.size ≤ 140737488355328) (ha : a ≤ 8 * s.size) (hR : Rdr w g s a) :
    Calls Try.prog 27 #[.pointer (some ⟨g, 0, none⟩)] w fun e w' => e = .returned (.int .i64 (8 * (s.size : Int) - a)) ∧ ∃ m, w' = w.drewN m := by
  have HR : Hid (Rdr w g s a) := hR
  have c0 := hR.c0
  have c1 := hR.c1
  clear hR
  go_enter Try.func27, Try.ntmps27
  go_wp2
  repeat (go_quiet (fail); try go_wp2)
  go_ret
  exact ⟨rfl, ⟨_, rfl⟩⟩

theorem adv_calls (r W : Addr) (g : Nat) (s : ByteArray) (a n : Nat) (u : FrameMode) (w : World) (hs : s.size ≤ 140737488355328) (ha : a + n ≤ 8 * s.size) (hR : Rdr w g s a)
    (h0 : w.cell? r = some (.pointer (some ⟨g, 0, none⟩))) (h1 : w.cell? W = some (.int .i64 (n : Int))) :
    CallsD Try.prog 69 #[.pointer (some r), .pointer (some W)] u w fun e u' w' => u' = u ∧ (e = .returned (.tuple #[]) ∧ Rdr w' g s (a + n) ∧ Tch (oneB g) w w') := by
  have HR : Hid (Rdr w g s a) := hR
  have c1 := hR.c1
  have f1 := hR.fr 1
  clear hR
  go_enter_d Try.func69, Try.ntmps69
  go_region
  go_end0
  exact ⟨rfl, by
    have := HR.out.set (a + n)
    push_cast at this
    exact this, ((Tch.refl (oneB g) w).setCell ⟨g, 1, none⟩ _ (.inl rfl)).drew⟩

theorem or_u64 {a b : Nat} (ha : a < 18446744073709551616) (hb : b < 18446744073709551616) : Go.bits .or .u64 (a : Int) (b : Int) = ((a ||| b : Nat) : Int) :=
  (bits_nat .u64 64 (by decide) (fun n h0 h1 => by rw [IntKind.wrap_u64]; omega) a b ha hb).2
theorem and_u64 {a b : Nat} (ha : a < 18446744073709551616) (hb : b < 18446744073709551616) : Go.bits .and .u64 (a : Int) (b : Int) = ((a &&& b : Nat) : Int) :=
  (bits_nat .u64 64 (by decide) (fun n h0 h1 => by rw [IntKind.wrap_u64]; omega) a b ha hb).1
theorem or_hold (h b k : Nat) (hh : h < 4294967296) (hb : b < 256) (hk : k < 4) :
    Go.bits .or .u64 (h : Int) (IntKind.u64.wrap (IntKind.u64.wrap (b : Int) * 2 ^ (8 * k))) = ((h ||| (b <<< (8 * k)) : Nat) : Int) ∧ h ||| (b <<< (8 * k)) < 4294967296 := by
  have e : IntKind.u64.wrap (IntKind.u64.wrap (b : Int) * 2 ^ (8 * k)) = ((b <<< (8 * k) : Nat) : Int) ∧ b <<< (8 * k) < 4294967296 := by
    rw [IntKind.wrap_u64, IntKind.wrap_u64, Nat.shiftLeft_eq]
    have : k = 0 ∨ k = 1 ∨ k = 2 ∨ k = 3 := by omega
    rcases this with rfl | rfl | rfl | rfl <;> simp <;> omega
  rw [e.1, or_u64 (by omega) (by have := e.2; omega)]
  exact ⟨rfl, Nat.or_lt_two_pow (n := 32) hh e.2⟩
theorem by8_get (s : ByteArray) (i : Nat) (h : i < s.size) : by8 s i = s[i].toNat := by
  unfold by8
  rw [List.getD_eq_getElem?_getD, List.getElem?_eq_getElem (by simpa using h)]
  rfl

theorem take_val (s : ByteArray) (a n h : Nat) (hn : n ≤ 24) (hh : h < 4294967296) (HE : h = holdN s (a / 8) 4) :
    Go.bits .and .u64 ((h : Int) / 2 ^ (a % 8)) (IntKind.u64.wrap (IntKind.u64.wrap (2 ^ n) - 1)) % 4294967296 = (bitsAt s a n : Int) := by
  have h1 : (h : Int) / 2 ^ (a % 8) = ((h >>> (a % 8) : Nat) : Int) := by
    rw [Nat.shiftRight_eq_div_pow, Int.natCast_ediv]
    push_cast
    rfl
  have hp : 2 ^ n ≤ 2 ^ 24 := Nat.pow_le_pow_right (by decide) hn
  have hp0 : 0 < 2 ^ n := Nat.two_pow_pos n
  have h2 : IntKind.u64.wrap (IntKind.u64.wrap (2 ^ n) - 1) = ((2 ^ n - 1 : Nat) : Int) := by
    have e : (2 : Int) ^ n = ((2 ^ n : Nat) : Int) := by push_cast; rfl
    rw [IntKind.wrap_u64, IntKind.wrap_u64, e]
    omega
  have h3 : h >>> (a % 8) < 4294967296 := by rw [Nat.shiftRight_eq_div_pow]; exact Nat.lt_of_le_of_lt (Nat.div_le_self _ _) hh
  rw [h1, h2, and_u64 (by omega) (by omega), HE, hold_take s a n hn]
  have := bitsAt_lt s a n
  omega

set_option maxHeartbeats 4000000 in
set_option maxRecDepth 1000000 in
theorem take_ok (g : Nat) (s : ByteArray) (a n : Nat) (w : World) (hs : s.size ≤ 140737488355328) (hn : n ≤ 24) (ha : a + n ≤ 8 * s.size) (hR : Rdr w g s a) :
    Calls Try.prog 47 #[.pointer (some ⟨g, 0, none⟩), .int .i64 (n : Int)] w fun e w' => e = .returned (.tuple #[.int .u32 (bitsAt s a n : Int), .int .i64 0]) ∧ Rdr w' g s (a + n) ∧ Tch (oneB g) w w' := by
  have hmf : ∀ (fn : Fn) (first cap : Array Value) (w : World), (Instr.makeFunc fn first cap).run Try.prog w = .ok (.func fn first cap) w := fun _ _ _ _ => rfl
  have HR : Hid (Rdr w g s a) := hR
  have hg := hR.lt
  clear hR
  go_enter_defers Try.func47, Try.ntmps47
  go_wp2_with fail
  obtain ⟨N, hN⟩ : ∃ N, w.heap.size = N := ⟨_, rfl⟩
  obtain ⟨W, hW⟩ : ∃ W, (w.alloc (Obj.cells #[Value.pointer (some { block := g, off := 0 })] 45)).alloc (Obj.cells #[Value.int IntKind.i64 n] 3) = W := ⟨_, rfl⟩
  have HRW : Rdr W g s a := by rw [← hW]; exact (HR.out.alloc _).alloc _
  have hb0 : W.cell? ⟨N, 0, none⟩ = some (.pointer (some ⟨g, 0, none⟩)) := by rw [← hW, ← hN]; simp [go_sem]
  have hb1 : W.cell? ⟨N + 1, 0, none⟩ = some (.int .i64 (n : Int)) := by rw [← hW, ← hN]; simp [go_sem]
  have HT : Hid (Tch noB w W) := by show Tch _ _ _; rw [← hW]; exact ((Tch.refl _ _).alloc _).alloc _
  have HN : Hid (w.heap.size = N) := hN
  rw [hW, hN]
  have HGN : Hid (g < N) := by show _ < _; rw [← hN]; exact hg
  have c0 := HRW.c0
  have c1 := HRW.c1
  clear hW hN hg
  have HRW' : Hid (Rdr W g s a) := HRW
  clear HRW
  have hlt : decide (8 * (s.size : Int) - a < n) = false := by simp; omega
  go_quiet ((go_at_call 27; exact Calls.quiet_of (left_calls g s a _ hs (by omega) HRW'.out)))
  go_wp2_with fail
  obtain ⟨f, hf⟩ : ∃ f, a / 8 = f := ⟨_, rfl⟩
  have hfi : (a : Int) / 8 = (f : Int) := by omega
  rw [hfi]
  have HF : Hid (a / 8 = f) := hf
  have hfs : f ≤ s.size := by omega
  clear hf hfi
  go_loopg [7, 8] 5 (fun kx s7 s8 wr => ∃ (k h : Nat), s7 = .int .u64 (h : Int) ∧ s8 = .int .i64 ((f + k : Nat) : Int) ∧ k ≤ 4 ∧ f + k ≤ s.size ∧ 4 - k ≤ kx ∧ wr = W.drewN nq ∧ h < 4294967296 ∧ Hid (h = holdN s f k))
  case atStart => exact ⟨0, 0, rfl, rfl, by omega, hfs, by omega, rfl, by omega, hid rfl⟩
  case round =>
    obtain ⟨k, h, rfl, rfl, hk4, hks, hkx, rfl, hh, HH⟩ := hrel
    by_cases hlt : k < 4 ∧ f + k < s.size
    · obtain ⟨hlt1, hlt2⟩ := hlt
      go_wp2_with fail
      go_roundg (4 - (k + 1))
      case measure => omega
      case rel =>
        obtain ⟨e1, e2⟩ := or_hold h (by8 s (f + k)) k hh (by8_lt _ _) hlt1
        rw [by8_get s (f + k) hlt2] at e1 e2
        refine ⟨k + 1, _, by rw [e1], by go_num, by omega, by omega, by omega, rfl, e2, ?_⟩
        show _ = _
        rw [holdN, ← HH.out, by8_get s (f + k) hlt2]
    · have HE : Hid (h = holdN s f 4) := by
        show _ = _
        rw [HH.out]
        by_cases e : k = 4
        · rw [e]
        · exact (holdN_past s f k 4 (by omega) hk4).symm
      have hk : ¬ (k : Int) < 4 ∨ ¬ ((f : Int) + k < s.size) := by omega
      clear hlt
      rcases hk with hk | hk
      all_goals
        go_wp2_with fail
        all_goals
          go_quiet (fail)
          go_wp2_with fail
          refine leaves_cons (f := 69) (args := #[.pointer (some ⟨N, 0, none⟩), .pointer (some ⟨N + 1, 0, none⟩)]) (by simp) (by simp [go_sem]) ?_
          refine (adv_calls ⟨N, 0, none⟩ ⟨N + 1, 0, none⟩ g s a n .returning _ hs ha ?_ ?_ ?_).mono ?_
          · exact HRW'.out
          · exact hb0
          · exact hb1
          rintro e u' w'' ⟨rfl, rfl, hR', hT'⟩
          refine ⟨_, results_tmp2 rfl _ _ _, ?_, hR', ?_⟩
          · have hv := take_val s a n h hn hh (by rw [HE.out, HF.out])
            rw [← hv]
            rfl
          · refine Tch.trans (S := oneB g) (HT.out.mono (fun i _ hi => hi.elim)) (Tch.trans (((Tch.refl (oneB g) W).drewN _).drewN _) hT' (fun i hi => .inl hi)) (fun i hi => .inl hi)

/-- Too many bits are asked. -/
theorem take_short (g : Nat) (s : ByteArray) (a n : Nat) (w : World) (hs : s.size ≤ 140737488355328) (hn : n ≤ 24) (ha : a ≤ 8 * s.size) (hsh : 8 * s.size < a + n) (hR : Rdr w g s a) :
    Calls Try.prog 47 #[.pointer (some ⟨g, 0, none⟩), .int .i64 (n : Int)] w fun e w' => e = .returned (.tuple #[.int .u32 0, .int .i64 40]) ∧ Rdr w' g s a ∧ Tch noB w w' := by
  have HR : Hid (Rdr w g s a) := hR
  clear hR
  go_enter_defers Try.func47, Try.ntmps47
  go_wp2_with fail
  obtain ⟨N, hN⟩ : ∃ N, w.heap.size = N := ⟨_, rfl⟩
  obtain ⟨W, hW⟩ : ∃ W, (w.alloc (Obj.cells #[Value.pointer (some { block := g, off := 0 })] 45)).alloc (Obj.cells #[Value.int IntKind.i64 n] 3) = W := ⟨_, rfl⟩
  have HRW : Rdr W g s a := by rw [← hW]; exact (HR.out.alloc _).alloc _
  have hb0 : W.cell? ⟨N, 0, none⟩ = some (.pointer (some ⟨g, 0, none⟩)) := by rw [← hW, ← hN]; simp [go_sem]
  have hb1 : W.cell? ⟨N + 1, 0, none⟩ = some (.int .i64 (n : Int)) := by rw [← hW, ← hN]; simp [go_sem]
  have HT : Hid (Tch noB w W) := by show Tch _ _ _; rw [← hW]; exact ((Tch.refl _ _).alloc _).alloc _
  rw [hW, hN]
  have c0 := HRW.c0
  have c1 := HRW.c1
  clear hW hN
  have HRW' : Hid (Rdr W g s a) := HRW
  clear HRW
  have hlt : decide (8 * (s.size : Int) - a < n) = true := by simp; omega
  go_quiet ((go_at_call 27; exact Calls.quiet_of (left_calls g s a _ hs (by omega) HRW'.out)))
  go_wp2_with fail
  refine ⟨_, results_tmp2 rfl _ _ _, rfl, HRW'.out, HT.out.drewN _⟩

end Go.Proofs.Ythgijppajindpaa
