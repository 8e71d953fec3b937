/-
  bits.Reverse32 and bitio's Reader (New, Left, Take) are walked.
-/
import Derived.Test.YthgijppajindpaaDpth
import Derived.Laws.BitsLemmas
import Derived.Defers
set_option linter.unusedVariables false
set_option linter.unusedSimpArgs false
namespace Go.Proofs.Ythgijppajindpaa
open Go.RowKit Go.Proofs.YthgijppajindpaaW.PrintWords

/-- Neighbours of m bits change places. -/
def swI (m : Int) (M : Int) (x : Int) : Int := Go.bits .or .u32 (Go.bits .and .u32 (x / m) M) ((Go.bits .and .u32 x M * m) % 4294967296)
/-- All the bits, in the opposite order. -/
def rev32 (x : Int) : Int :=
  (fun y => Go.bits .or .u32 (y / 65536) ((y * 65536) % 4294967296)) (swI 256 16711935 (swI 16 252645135 (swI 4 858993459 (swI 2 1431655765 x))))

set_option maxRecDepth 100000 in
theorem revBytes_calls (x : Int) (w : World) :
    Calls Try.prog 68 #[.int .u32 x] w fun e w' => e = .returned (.int .u32 ((fun y => Go.bits .or .u32 (y / 65536) ((y * 65536) % 4294967296)) (swI 256 16711935 x))) ∧ w = w' := by
  go_enter Try.func68, Try.ntmps68
  go_wp2
  go_ret
  exact ⟨rfl, rfl⟩

set_option maxRecDepth 100000 in
theorem rev32_calls (x : Int) (w : World) :
    Calls Try.prog 44 #[.int .u32 x] w fun e w' => e = .returned (.int .u32 (rev32 x)) ∧ w = w' := by
  go_enter Try.func44, Try.ntmps44
  go_wp2_with (go_at_call 68; ((refine (revBytes_calls (swI 16 252645135 (swI 4 858993459 (swI 2 1431655765 x))) _).mono ?_); rintro e w1 ⟨rfl, rfl⟩))
  go_ret
  exact ⟨rfl, rfl⟩

/-! ### plain -/
def sw (m M x : Nat) : Nat := ((x >>> m) &&& M) ||| ((x &&& M) <<< m)

theorem sw_bit (m M x j : Nat) : (sw m M x).testBit j = ((x.testBit (j + m) && M.testBit j) || (decide (m ≤ j) && (x.testBit (j - m) && M.testBit (j - m)))) := by
  unfold sw
  rw [Nat.testBit_or, Nat.testBit_and, Nat.testBit_shiftRight, Nat.testBit_shiftLeft, Nat.testBit_and, Nat.add_comm m j]

theorem or_u32 {a b : Nat} (ha : a < 4294967296) (hb : b < 4294967296) : Go.bits .or .u32 (a : Int) (b : Int) = ((a ||| b : Nat) : Int) :=
  (bits_nat .u32 32 (by decide) (fun n h0 h1 => by rw [IntKind.wrap_u32]; omega) a b ha hb).2
theorem and_u32 {a b : Nat} (ha : a < 4294967296) (hb : b < 4294967296) : Go.bits .and .u32 (a : Int) (b : Int) = ((a &&& b : Nat) : Int) :=
  (bits_nat .u32 32 (by decide) (fun n h0 h1 => by rw [IntKind.wrap_u32]; omega) a b ha hb).1

theorem sw_nat (s M x : Nat) (hx : x < 4294967296) (hM : M * 2 ^ s < 4294967296) : swI ((2 ^ s : Nat) : Int) (M : Int) (x : Int) = (sw s M x : Int) ∧ sw s M x < 4294967296 := by
  have hp : 0 < 2 ^ s := Nat.two_pow_pos s
  have hM1 : M < 4294967296 := Nat.lt_of_le_of_lt (Nat.le_mul_of_pos_right M hp) hM
  have h1 : x >>> s < 4294967296 := by rw [Nat.shiftRight_eq_div_pow]; exact Nat.lt_of_le_of_lt (Nat.div_le_self _ _) hx
  have h2 : x >>> s &&& M < 4294967296 := Nat.lt_of_le_of_lt Nat.and_le_right hM1
  have h3 : (x &&& M) <<< s < 4294967296 := by
    rw [Nat.shiftLeft_eq]
    exact Nat.lt_of_le_of_lt (Nat.mul_le_mul_right _ Nat.and_le_right) hM
  have e1 : (x : Int) / ((2 ^ s : Nat) : Int) = ((x >>> s : Nat) : Int) := by rw [Nat.shiftRight_eq_div_pow, Int.natCast_ediv]
  have e2 : (((x &&& M : Nat) : Int) * ((2 ^ s : Nat) : Int)) % 4294967296 = (((x &&& M) <<< s : Nat) : Int) := by
    obtain ⟨q, hq⟩ : ∃ q, q = (x &&& M) <<< s := ⟨_, rfl⟩
    rw [← hq] at h3 ⊢
    have : ((x &&& M : Nat) : Int) * ((2 ^ s : Nat) : Int) = (q : Int) := by rw [hq, Nat.shiftLeft_eq, Int.natCast_mul]
    rw [this]
    omega
  constructor
  · unfold swI sw
    rw [e1, and_u32 h1 hM1, and_u32 hx hM1, e2, or_u32 h2 h3]
  · unfold sw
    exact (Nat.or_lt_two_pow (n := 32) h2 h3)

def revN (x : Nat) : Nat := (fun y => (y >>> 16) ||| ((y <<< 16) % 2 ^ 32)) (sw 8 16711935 (sw 4 252645135 (sw 2 858993459 (sw 1 1431655765 x))))

theorem rev32_nat (x : Nat) (hx : x < 4294967296) : rev32 (x : Int) = (revN x : Int) ∧ revN x < 4294967296 := by
  obtain ⟨a1, a2⟩ := sw_nat 1 1431655765 x hx (by decide)
  obtain ⟨b1, b2⟩ := sw_nat 2 858993459 _ a2 (by decide)
  obtain ⟨c1, c2⟩ := sw_nat 4 252645135 _ b2 (by decide)
  obtain ⟨d1, d2⟩ := sw_nat 8 16711935 _ c2 (by decide)
  have a1' : swI 2 1431655765 (x : Int) = (sw 1 1431655765 x : Int) := a1
  have b1' : swI 4 858993459 ((sw 1 1431655765 x : Nat) : Int) = (sw 2 858993459 (sw 1 1431655765 x) : Int) := b1
  have c1' : swI 16 252645135 ((sw 2 858993459 (sw 1 1431655765 x) : Nat) : Int) = (sw 4 252645135 (sw 2 858993459 (sw 1 1431655765 x)) : Int) := c1
  have d1' : swI 256 16711935 ((sw 4 252645135 (sw 2 858993459 (sw 1 1431655765 x)) : Nat) : Int) = (sw 8 16711935 (sw 4 252645135 (sw 2 858993459 (sw 1 1431655765 x))) : Int) := d1
  unfold rev32 revN
  rw [a1', b1', c1', d1']
  generalize sw 8 16711935 (sw 4 252645135 (sw 2 858993459 (sw 1 1431655765 x))) = y at d2
  dsimp only
  have h1 : y >>> 16 < 4294967296 := by rw [Nat.shiftRight_eq_div_pow]; omega
  have h2 : y <<< 16 % 2 ^ 32 < 4294967296 := Nat.mod_lt _ (by decide)
  have e1 : (y : Int) / (65536 : Int) = ((y >>> 16 : Nat) : Int) := by rw [Nat.shiftRight_eq_div_pow, Int.natCast_ediv]; rfl
  have e2 : ((y : Int) * (65536 : Int)) % (4294967296 : Int) = ((y <<< 16 % 2 ^ 32 : Nat) : Int) := by rw [Nat.shiftLeft_eq, Int.natCast_emod, Int.natCast_mul]; rfl
  rw [e1, e2, or_u32 h1 h2]
  exact ⟨rfl, Nat.or_lt_two_pow (n := 32) h1 h2⟩

theorem mask1 : ∀ j, j < 32 → (1431655765 : Nat).testBit j = decide (j % 2 = 0) := by decide
theorem mask2 : ∀ j, j < 32 → (858993459 : Nat).testBit j = decide (j / 2 % 2 = 0) := by decide
theorem mask4 : ∀ j, j < 32 → (252645135 : Nat).testBit j = decide (j / 4 % 2 = 0) := by decide
theorem mask8 : ∀ j, j < 32 → (16711935 : Nat).testBit j = decide (j / 8 % 2 = 0) := by decide

theorem sw_at (s M : Nat) (hs : s = 1 ∨ s = 2 ∨ s = 4 ∨ s = 8) (hM : ∀ j, j < 32 → M.testBit j = decide (j / s % 2 = 0)) (x j : Nat) (hj : j < 32) :
    (sw s M x).testBit j = x.testBit (if j / s % 2 = 0 then j + s else j - s) := by
  rw [sw_bit, hM j hj]
  by_cases h : j / s % 2 = 0
  · rw [if_pos h, decide_eq_true h, Bool.and_true]
    by_cases hle : s ≤ j
    · rw [hM (j - s) (by omega), decide_eq_false (show ¬ (j - s) / s % 2 = 0 by rcases hs with rfl | rfl | rfl | rfl <;> omega)]
      simp
    · simp [hle]
  · rw [if_neg h, decide_eq_false h, Bool.and_false, Bool.false_or]
    have hle : s ≤ j := by rcases hs with rfl | rfl | rfl | rfl <;> omega
    rw [hM (j - s) (by omega), decide_eq_true (show (j - s) / s % 2 = 0 by rcases hs with rfl | rfl | rfl | rfl <;> omega), decide_eq_true hle]
    simp

theorem idx_all : ∀ j, j < 32 →
    (fun i1 => if i1 / 1 % 2 = 0 then i1 + 1 else i1 - 1) ((fun i2 => if i2 / 2 % 2 = 0 then i2 + 2 else i2 - 2) ((fun i4 => if i4 / 4 % 2 = 0 then i4 + 4 else i4 - 4) ((fun i8 => if i8 / 8 % 2 = 0 then i8 + 8 else i8 - 8) (if j < 16 then j + 16 else j - 16)))) = 31 - j := by decide

theorem revN_bit (x j : Nat) (hx : x < 4294967296) (hj : j < 32) : (revN x).testBit j = x.testBit (31 - j) := by
  have d2 := (sw_nat 8 16711935 _ (sw_nat 4 252645135 _ (sw_nat 2 858993459 _ (sw_nat 1 1431655765 x hx (by decide)).2 (by decide)).2 (by decide)).2 (by decide)).2
  unfold revN
  dsimp only
  have e : ∀ y : Nat, y < 4294967296 → ((y >>> 16) ||| ((y <<< 16) % 2 ^ 32)).testBit j = y.testBit (if j < 16 then j + 16 else j - 16) := by
    intro y hy
    rw [Nat.testBit_or, Nat.testBit_shiftRight, Nat.testBit_mod_two_pow, Nat.testBit_shiftLeft, decide_eq_true hj, Bool.true_and]
    by_cases h : j < 16
    · rw [if_pos h, decide_eq_false (show ¬ j ≥ 16 by omega), Bool.false_and, Bool.or_false, Nat.add_comm]
    · rw [if_neg h, decide_eq_true (show j ≥ 16 by omega), Bool.true_and]
      have : y.testBit (16 + j) = false := Nat.testBit_lt_two_pow (Nat.lt_of_lt_of_le (show y < 2 ^ 32 from hy) (Nat.pow_le_pow_right (n := 2) (by decide) (show 32 ≤ 16 + j by omega)))
      rw [this, Bool.false_or]
  rw [e _ d2]
  have hi : (if j < 16 then j + 16 else j - 16) < 32 := by split <;> omega
  have h8 := idx_all j hj
  generalize (if j < 16 then j + 16 else j - 16) = i at hi h8 ⊢
  rw [sw_at 8 16711935 (by simp) mask8 _ i hi]
  have hi8 : (if i / 8 % 2 = 0 then i + 8 else i - 8) < 32 := by split <;> omega
  dsimp only at h8
  generalize (if i / 8 % 2 = 0 then i + 8 else i - 8) = i8 at hi8 h8 ⊢
  rw [sw_at 4 252645135 (by simp) mask4 _ i8 hi8]
  have hi4 : (if i8 / 4 % 2 = 0 then i8 + 4 else i8 - 4) < 32 := by split <;> omega
  generalize (if i8 / 4 % 2 = 0 then i8 + 4 else i8 - 4) = i4 at hi4 h8 ⊢
  rw [sw_at 2 858993459 (by simp) mask2 _ i4 hi4]
  have hi2 : (if i4 / 2 % 2 = 0 then i4 + 2 else i4 - 2) < 32 := by split <;> omega
  generalize (if i4 / 2 % 2 = 0 then i4 + 2 else i4 - 2) = i2 at hi2 h8 ⊢
  rw [sw_at 1 1431655765 (by simp) (fun j h => by rw [mask1 j h, Nat.div_one]) _ i2 hi2, h8]

/-- The lowest bits of a number, in the opposite order. -/
def turnN (x : Nat) : Nat → Nat
  | 0 => 0
  | k + 1 => (turnN x k) <<< 1 ||| ((x >>> k) &&& 1)

theorem turnN_bit (x : Nat) : ∀ k j, (turnN x k).testBit j = (decide (j < k) && x.testBit (k - 1 - j))
  | 0, j => by simp [turnN]
  | k + 1, j => by
    rw [turnN, Nat.testBit_or, Nat.testBit_shiftLeft, turnN_bit x k, Nat.testBit_and, Nat.testBit_shiftRight]
    cases j with
    | zero => simp
    | succ j =>
      have h1 : (1 : Nat).testBit (j + 1) = false := by
        rw [Nat.testBit_succ]; simp
      rw [h1, Bool.and_false, Bool.or_false]
      have h2 : decide (j + 1 ≥ 1) = true := by simp
      rw [h2, Bool.true_and, Nat.add_sub_cancel]
      by_cases h : j < k
      · rw [decide_eq_true h, decide_eq_true (show j + 1 < k + 1 by omega), show k - 1 - j = k + 1 - 1 - (j + 1) by omega]
      · rw [decide_eq_false h, decide_eq_false (show ¬ j + 1 < k + 1 by omega)]
        simp

theorem turnN_lt (x : Nat) (k : Nat) : turnN x k < 2 ^ k := by
  apply Nat.lt_pow_two_of_testBit
  intro i hi
  rw [turnN_bit, decide_eq_false (by omega)]
  rfl

/-- The program's turning is the document's. -/
theorem rev_turn (x k : Nat) (hx : x < 4294967296) (hk : k ≤ 32) : revN x / 2 ^ (32 - k) = turnN x k := by
  apply Nat.eq_of_testBit_eq
  intro j
  rw [← Nat.shiftRight_eq_div_pow, Nat.testBit_shiftRight, turnN_bit]
  by_cases h : j < k
  · rw [revN_bit x _ hx (by omega), decide_eq_true h, Bool.true_and]
    congr 1
    omega
  · rw [decide_eq_false h, Bool.false_and]
    exact Nat.testBit_lt_two_pow (Nat.lt_of_lt_of_le (show revN x < 2 ^ 32 from (rev32_nat x hx).2) (Nat.pow_le_pow_right (n := 2) (by decide) (show 32 ≤ 32 - k + j by omega)))

theorem rev32_turn (x : Int) (k : Nat) (h0 : 0 ≤ x) (hx : x < 4294967296) (hk : k ≤ 32) : rev32 x / 2 ^ (32 - k) = (turnN x.toNat k : Int) := by
  obtain ⟨n, rfl⟩ : ∃ n : Nat, x = (n : Int) := ⟨x.toNat, by omega⟩
  rw [(rev32_nat n (by omega)).1, Int.toNat_natCast, ← rev_turn n k (by omega) hk]
  push_cast
  rfl

end Go.Proofs.Ythgijppajindpaa

namespace Go.Proofs.Ythgijppajindpaa
open Go.RowKit Go.Proofs.YthgijppajindpaaW.PrintWords

/-- Of the blocks that were there only those of S may have turned. -/
structure Tch (S : Nat → Prop) (w w' : World) : Prop where
  os : w'.os = w.os
  tape : w'.tape = w.tape
  output : w'.output = w.output
  size : w.heap.size ≤ w'.heap.size
  block : ∀ k, k < w.heap.size → ¬ S k → w'.heap[k]? = w.heap[k]?

def noB : Nat → Prop := fun _ => False
def oneB (g : Nat) : Nat → Prop := fun k => k = g

theorem Tch.refl (S : Nat → Prop) (w : World) : Tch S w w := ⟨rfl, rfl, rfl, Nat.le_refl _, fun _ _ _ => rfl⟩
theorem Tch.of_below {w w' : World} (h : Below w.heap.size w w') (S : Nat → Prop) : Tch S w w' := ⟨h.os, h.tape, h.output, h.size, fun k hk _ => h.block k hk⟩
theorem Tch.below {w w' : World} (h : Tch noB w w') : Below w.heap.size w w' := ⟨h.os, h.tape, h.output, h.size, fun k hk => h.block k hk (fun h => h)⟩
theorem Tch.trans {S S' : Nat → Prop} {a b c : World} (h : Tch S a b) (k : Tch S' b c) (hs : ∀ i, S' i → S i ∨ a.heap.size ≤ i) : Tch S a c :=
  ⟨k.os.trans h.os, k.tape.trans h.tape, k.output.trans h.output, Nat.le_trans h.size k.size, fun i hi hn => by
    rw [k.block i (Nat.lt_of_lt_of_le hi h.size) (fun hi' => (hs i hi').elim hn (fun h2 => by omega)), h.block i hi hn]⟩
theorem Tch.mono {S S' : Nat → Prop} {a b : World} (h : Tch S a b) (hs : ∀ i, i < a.heap.size → S i → S' i) : Tch S' a b :=
  ⟨h.os, h.tape, h.output, h.size, fun i hi hn => h.block i hi (fun h' => hn (hs i hi h'))⟩
theorem Tch.alloc {S : Nat → Prop} {a b : World} (h : Tch S a b) (o : Obj) : Tch S a (b.alloc o) :=
  h.trans (Tch.of_below ((Below.refl _ _).alloc (Nat.le_refl _) o) noB) (fun i hi => hi.elim)
theorem Tch.drew {S : Nat → Prop} {a b : World} (h : Tch S a b) : Tch S a b.drew := ⟨h.os, h.tape, h.output, h.size, h.block⟩
theorem Tch.drewN {S : Nat → Prop} {a b : World} (h : Tch S a b) (m : Nat) : Tch S a (b.drewN m) := ⟨h.os, h.tape, h.output, h.size, h.block⟩
theorem Tch.setCell {S : Nat → Prop} {a b : World} (h : Tch S a b) (p : Addr) (v : Value) (hp : S p.block ∨ a.heap.size ≤ p.block) : Tch S a (b.setCell p v) :=
  ⟨h.os, h.tape, h.output, by simpa [World.setCell] using h.size, fun i hi hn => by
    rw [Below.heap_setCell b p v i (fun e => hp.elim (fun h' => hn (e ▸ h')) (fun h2 => by omega)), h.block i hi hn]⟩
theorem Tch.setRow {S : Nat → Prop} {a b : World} (h : Tch S a b) (g : Nat) (cs : Array Value) (hp : S g ∨ a.heap.size ≤ g) : Tch S a (b.setRow g cs) :=
  ⟨h.os, h.tape, h.output, by rw [size_setRow]; exact h.size, fun i hi hn => by
    rw [setRow_other b g i cs (fun e => hp.elim (fun h' => hn (e ▸ h')) (fun h2 => by omega)), h.block i hi hn]⟩
theorem Tch.cell {S : Nat → Prop} {a b : World} (h : Tch S a b) {p : Addr} (hp : p.block < a.heap.size) (hn : ¬ S p.block) : b.cell? p = a.cell? p := by
  unfold World.cell?
  rw [h.block _ hp hn]
theorem Tch.heap {S : Nat → Prop} {a b : World} (h : Tch S a b) {k : Nat} {o : Obj} (hk : a.heap[k]? = some o) (hn : ¬ S k) : b.heap[k]? = some o :=
  (h.block k (Array.getElem?_eq_some_iff.1 hk).1 hn).trans hk
theorem lt_of_cell {w : World} {b o : Nat} {v : Value} (h : w.cell? ⟨b, o, none⟩ = some v) : b < w.heap.size := by
  unfold World.cell? at h
  cases hb : w.heap[b]? with
  | none => simp [hb] at h
  | some o => exact (Array.getElem?_eq_some_iff.1 hb).1
theorem Tch.cell_at {S : Nat → Prop} {a b : World} (h : Tch S a b) {g o : Nat} {v : Value} (hc : a.cell? ⟨g, o, none⟩ = some v) (hn : ¬ S g) : b.cell? ⟨g, o, none⟩ = some v :=
  (h.cell (p := ⟨g, o, none⟩) (lt_of_cell hc) hn).trans hc
theorem Tch.of_grown {w w' : World} {row : Option Nat} (h : w.grownBy w' row) (S : Nat → Prop) (hr : ∀ k, row = some k → S k) : Tch S w w' :=
  ⟨h.os, h.tape, h.output, h.size, fun i hi hn => h.block i hi (fun e => hn (hr i e.symm))⟩
theorem Tch.grown {w w' : World} {g : Nat} (h : Tch (oneB g) w w') : w.grownBy w' (some g) :=
  ⟨h.os, h.tape, h.output, h.size, fun i hi hn => h.block i hi (fun e => hn (by rw [show i = g from e]))⟩

end Go.Proofs.Ythgijppajindpaa

namespace Go.Proofs.Ythgijppajindpaa
open Go.RowKit Go.Proofs.YthgijppajindpaaW.PrintWords

/-! ### plain -/
/-- A byte of a text, nothing behind its end. -/
def by8 (s : ByteArray) (i : Nat) : Nat := (s.data.toList.getD i 0).toNat
/-- A bit of a text. -/
def sbit (s : ByteArray) (i : Nat) : Bool := (by8 s (i / 8)).testBit (i % 8)
/-- Bits of a text, the lowest first. -/
def bitsAt (s : ByteArray) (a : Nat) : Nat → Nat
  | 0 => 0
  | n + 1 => bitsAt s a n ||| ((sbit s (a + n)).toNat <<< n)

theorem by8_lt (s : ByteArray) (i : Nat) : by8 s i < 256 := (s.data.toList.getD i 0).toNat_lt
theorem toNat_bit (b : Bool) (j : Nat) : b.toNat.testBit j = (decide (j = 0) && b) := by
  cases b
  · simp
  · cases j with
    | zero => simp
    | succ j => simp [Nat.testBit_succ]
theorem bitsAt_bit (s : ByteArray) (a : Nat) : ∀ n j, (bitsAt s a n).testBit j = (decide (j < n) && sbit s (a + j))
  | 0, j => by simp [bitsAt]
  | n + 1, j => by
    rw [bitsAt, Nat.testBit_or, bitsAt_bit s a n j, Nat.testBit_shiftLeft, toNat_bit]
    by_cases h : j = n
    · subst h; simp
    · by_cases h2 : j < n
      · simp [h2, show j < n + 1 by omega, show ¬ n ≤ j by omega]
      · simp [h2, show ¬ j < n + 1 by omega, show ¬ j - n = 0 by omega]
theorem bitsAt_lt (s : ByteArray) (a n : Nat) : bitsAt s a n < 2 ^ n := by
  apply Nat.lt_pow_two_of_testBit
  intro i hi
  rw [bitsAt_bit, decide_eq_false (by omega)]
  rfl

/-- The bytes from one on, as a number, the first lowest. -/
def holdN (s : ByteArray) (f : Nat) : Nat → Nat
  | 0 => 0
  | n + 1 => holdN s f n ||| (by8 s (f + n) <<< (8 * n))
theorem holdN_bit (s : ByteArray) (f : Nat) : ∀ n j, (holdN s f n).testBit j = (decide (j < 8 * n) && sbit s (8 * f + j))
  | 0, j => by simp [holdN]
  | n + 1, j => by
    rw [holdN, Nat.testBit_or, holdN_bit s f n j, Nat.testBit_shiftLeft]
    unfold sbit
    by_cases h1 : j < 8 * n
    · simp [h1, show j < 8 * (n + 1) by omega, show ¬ 8 * n ≤ j by omega]
    · by_cases h2 : j < 8 * (n + 1)
      · have e1 : (8 * f + j) / 8 = f + n := by omega
        have e2 : (8 * f + j) % 8 = j - 8 * n := by omega
        simp [h1, h2, show 8 * n ≤ j by omega, e1, e2]
      · have : (by8 s (f + n)).testBit (j - 8 * n) = false := Nat.testBit_lt_two_pow (Nat.lt_of_lt_of_le (by8_lt s _) (Nat.pow_le_pow_right (n := 2) (by decide) (show 8 ≤ j - 8 * n by omega)))
        simp [h1, h2, this]
theorem holdN_lt (s : ByteArray) (f n : Nat) : holdN s f n < 2 ^ (8 * n) := by
  apply Nat.lt_pow_two_of_testBit
  intro i hi
  rw [holdN_bit, decide_eq_false (by omega)]
  rfl
theorem by8_past (s : ByteArray) (i : Nat) (h : s.size ≤ i) : by8 s i = 0 := by
  have hz : s.data.toList.length = s.size := by simp
  unfold by8
  rw [List.getD_eq_getElem?_getD, List.getElem?_eq_none (by omega)]
  rfl
theorem holdN_past (s : ByteArray) (f n m : Nat) (h : s.size ≤ f + n) (hnm : n ≤ m) : holdN s f m = holdN s f n := by
  induction hnm with
  | refl => rfl
  | step h1 ih =>
    rename_i k
    have h1' : n ≤ k := h1
    rw [holdN, ih, by8_past s (f + k) (by omega)]
    simp
theorem hold_take (s : ByteArray) (a n : Nat) (hn : n ≤ 24) : (holdN s (a / 8) 4 >>> (a % 8)) &&& (2 ^ n - 1) = bitsAt s a n := by
  apply Nat.eq_of_testBit_eq
  intro j
  rw [Nat.testBit_and, Nat.testBit_shiftRight, holdN_bit, bitsAt_bit, Nat.testBit_two_pow_sub_one]
  by_cases h : j < n
  · rw [decide_eq_true h, decide_eq_true (show a % 8 + j < 8 * 4 by omega), Bool.and_true, Bool.true_and, Bool.true_and]
    congr 1
    omega
  · rw [decide_eq_false h, Bool.and_false, Bool.false_and]

/-! ### walked -/
/-- A reader, in a block of its own. -/
def Rdr (w : World) (g : Nat) (s : ByteArray) (a : Nat) : Prop := w.heap[g]? = some (.cells #[.string s, .int .i64 (a : Int)] 86 (0, 0))
theorem Rdr.c0 {w : World} {g : Nat} {s : ByteArray} {a : Nat} (h : Rdr w g s a) : w.cell? ⟨g, 0, none⟩ = some (.string s) := by rw [cell_block h]; rfl
theorem Rdr.c1 {w : World} {g : Nat} {s : ByteArray} {a : Nat} (h : Rdr w g s a) : w.cell? ⟨g, 1, none⟩ = some (.int .i64 (a : Int)) := by rw [cell_block h]; rfl
theorem Rdr.fr {w : World} {g : Nat} {s : ByteArray} {a : Nat} (h : Rdr w g s a) (j : Nat) : w.frozen? ⟨g, j, none⟩ = false := frozen_block h j
theorem Rdr.lt {w : World} {g : Nat} {s : ByteArray} {a : Nat} (h : Rdr w g s a) : g < w.heap.size := (Array.getElem?_eq_some_iff.1 h).1
theorem Rdr.set {w : World} {g : Nat} {s : ByteArray} {a : Nat} (h : Rdr w g s a) (b : Nat) : Rdr (w.setCell ⟨g, 1, none⟩ (.int .i64 (b : Int))) g s b := by
  unfold Rdr at *
  unfold World.setCell
  simp only []
  rw [Array.getElem?_modify, if_pos rfl, h]
  rfl
theorem Rdr.alloc {w : World} {g : Nat} {s : ByteArray} {a : Nat} (h : Rdr w g s a) (o : Obj) : Rdr (w.alloc o) g s a := (Below.heap_alloc w o g h.lt).trans h

theorem Rdr.tch {w w' : World} {S : Nat → Prop} {g : Nat} {s : ByteArray} {a : Nat} (h : Rdr w g s a) (ht : Tch S w w') (hn : ¬ S g) : Rdr w' g s a := ht.heap h hn

theorem new_calls (s : ByteArray) (w : World) :
    Calls Try.prog 24 #[.string s] w fun e w' => e = .returned (.pointer (some ⟨w.heap.size, 0, none⟩)) ∧ Rdr w' w.heap.size s 0 ∧ Tch noB w w' := by
  go_enter Try.func24, Try.ntmps24
  go_wp2
  go_ret
  exact ⟨rfl, heap_alloc_new _ _, (Tch.refl _ _).alloc _⟩

theorem left_calls (g : Nat) (s : ByteArray) (a : Nat) (w : World) (hs : s.size ≤ 140737488355328) (ha : a ≤ 8 * s.size) (hR : Rdr w g s a) :
    Calls Try.prog 27 #[.pointer (some ⟨g, 0, none⟩)] w fun e w' => e = .returned (.int .i64 (8 * (s.size : Int) - a)) ∧ ∃ m, w' = w.drewN m := by
  have HR : Hid (Rdr w g s a) := hR
  have c0 := hR.c0
  have c1 := hR.c1
  clear hR
  go_enter Try.func27, Try.ntmps27
  go_wp2
  repeat (go_quiet (fail); try go_wp2)
  go_ret
  exact ⟨rfl, ⟨_, rfl⟩⟩

theorem adv_calls (r W : Addr) (g : Nat) (s : ByteArray) (a n : Nat) (u : FrameMode) (w : World) (hs : s.size ≤ 140737488355328) (ha : a + n ≤ 8 * s.size) (hR : Rdr w g s a)
    (h0 : w.cell? r = some (.pointer (some ⟨g, 0, none⟩))) (h1 : w.cell? W = some (.int .i64 (n : Int))) :
    CallsD Try.prog 69 #[.pointer (some r), .pointer (some W)] u w fun e u' w' => u' = u ∧ (e = .returned (.tuple #[]) ∧ Rdr w' g s (a + n) ∧ Tch (oneB g) w w') := by
  have HR : Hid (Rdr w g s a) := hR
  have c1 := hR.c1
  have f1 := hR.fr 1
  clear hR
  go_enter_d Try.func69, Try.ntmps69
  go_region
  go_end0
  exact ⟨rfl, by
    have := HR.out.set (a + n)
    push_cast at this
    exact this, ((Tch.refl (oneB g) w).setCell ⟨g, 1, none⟩ _ (.inl rfl)).drew⟩

theorem or_u64 {a b : Nat} (ha : a < 18446744073709551616) (hb : b < 18446744073709551616) : Go.bits .or .u64 (a : Int) (b : Int) = ((a ||| b : Nat) : Int) :=
  (bits_nat .u64 64 (by decide) (fun n h0 h1 => by rw [IntKind.wrap_u64]; omega) a b ha hb).2
theorem and_u64 {a b : Nat} (ha : a < 18446744073709551616) (hb : b < 18446744073709551616) : Go.bits .and .u64 (a : Int) (b : Int) = ((a &&& b : Nat) : Int) :=
  (bits_nat .u64 64 (by decide) (fun n h0 h1 => by rw [IntKind.wrap_u64]; omega) a b ha hb).1
theorem or_hold (h b k : Nat) (hh : h < 4294967296) (hb : b < 256) (hk : k < 4) :
    Go.bits .or .u64 (h : Int) (IntKind.u64.wrap (IntKind.u64.wrap (b : Int) * 2 ^ (8 * k))) = ((h ||| (b <<< (8 * k)) : Nat) : Int) ∧ h ||| (b <<< (8 * k)) < 4294967296 := by
  have e : IntKind.u64.wrap (IntKind.u64.wrap (b : Int) * 2 ^ (8 * k)) = ((b <<< (8 * k) : Nat) : Int) ∧ b <<< (8 * k) < 4294967296 := by
    rw [IntKind.wrap_u64, IntKind.wrap_u64, Nat.shiftLeft_eq]
    have : k = 0 ∨ k = 1 ∨ k = 2 ∨ k = 3 := by omega
    rcases this with rfl | rfl | rfl | rfl <;> simp <;> omega
  rw [e.1, or_u64 (by omega) (by have := e.2; omega)]
  exact ⟨rfl, Nat.or_lt_two_pow (n := 32) hh e.2⟩
theorem by8_get (s : ByteArray) (i : Nat) (h : i < s.size) : by8 s i = s[i].toNat := by
  unfold by8
  rw [List.getD_eq_getElem?_getD, List.getElem?_eq_getElem (by simpa using h)]
  rfl

theorem take_val (s : ByteArray) (a n h : Nat) (hn : n ≤ 24) (hh : h < 4294967296) (HE : h = holdN s (a / 8) 4) :
    Go.bits .and .u64 ((h : Int) / 2 ^ (a % 8)) (IntKind.u64.wrap (IntKind.u64.wrap (2 ^ n) - 1)) % 4294967296 = (bitsAt s a n : Int) := by
  have h1 : (h : Int) / 2 ^ (a % 8) = ((h >>> (a % 8) : Nat) : Int) := by
    rw [Nat.shiftRight_eq_div_pow, Int.natCast_ediv]
    push_cast
    rfl
  have hp : 2 ^ n ≤ 2 ^ 24 := Nat.pow_le_pow_right (by decide) hn
  have hp0 : 0 < 2 ^ n := Nat.two_pow_pos n
  have h2 : IntKind.u64.wrap (IntKind.u64.wrap (2 ^ n) - 1) = ((2 ^ n - 1 : Nat) : Int) := by
    have e : (2 : Int) ^ n = ((2 ^ n : Nat) : Int) := by push_cast; rfl
    rw [IntKind.wrap_u64, IntKind.wrap_u64, e]
    omega
  have h3 : h >>> (a % 8) < 4294967296 := by rw [Nat.shiftRight_eq_div_pow]; exact Nat.lt_of_le_of_lt (Nat.div_le_self _ _) hh
  rw [h1, h2, and_u64 (by omega) (by omega), HE, hold_take s a n hn]
  have := bitsAt_lt s a n
  omega

set_option maxHeartbeats 4000000 in
set_option maxRecDepth 1000000 in
theorem take_ok (g : Nat) (s : ByteArray) (a n : Nat) (w : World) (hs : s.size ≤ 140737488355328) (hn : n ≤ 24) (ha : a + n ≤ 8 * s.size) (hR : Rdr w g s a) :
    Calls Try.prog 47 #[.pointer (some ⟨g, 0, none⟩), .int .i64 (n : Int)] w fun e w' => e = .returned (.tuple #[.int .u32 (bitsAt s a n : Int), .int .i64 0]) ∧ Rdr w' g s (a + n) ∧ Tch (oneB g) w w' := by
  have hmf : ∀ (fn : Fn) (first cap : Array Value) (w : World), (Instr.makeFunc fn first cap).run Try.prog w = .ok (.func fn first cap) w := fun _ _ _ _ => rfl
  have HR : Hid (Rdr w g s a) := hR
  have hg := hR.lt
  clear hR
  go_enter_defers Try.func47, Try.ntmps47
  go_wp2_with fail
  obtain ⟨N, hN⟩ : ∃ N, w.heap.size = N := ⟨_, rfl⟩
  obtain ⟨W, hW⟩ : ∃ W, (w.alloc (Obj.cells #[Value.pointer (some { block := g, off := 0 })] 45)).alloc (Obj.cells #[Value.int IntKind.i64 n] 3) = W := ⟨_, rfl⟩
  have HRW : Rdr W g s a := by rw [← hW]; exact (HR.out.alloc _).alloc _
  have hb0 : W.cell? ⟨N, 0, none⟩ = some (.pointer (some ⟨g, 0, none⟩)) := by rw [← hW, ← hN]; simp [go_sem]
  have hb1 : W.cell? ⟨N + 1, 0, none⟩ = some (.int .i64 (n : Int)) := by rw [← hW, ← hN]; simp [go_sem]
  have HT : Hid (Tch noB w W) := by show Tch _ _ _; rw [← hW]; exact ((Tch.refl _ _).alloc _).alloc _
  have HN : Hid (w.heap.size = N) := hN
  rw [hW, hN]
  have HGN : Hid (g < N) := by show _ < _; rw [← hN]; exact hg
  have c0 := HRW.c0
  have c1 := HRW.c1
  clear hW hN hg
  have HRW' : Hid (Rdr W g s a) := HRW
  clear HRW
  have hlt : decide (8 * (s.size : Int) - a < n) = false := by simp; omega
  go_quiet ((go_at_call 27; exact Calls.quiet_of (left_calls g s a _ hs (by omega) HRW'.out)))
  go_wp2_with fail
  obtain ⟨f, hf⟩ : ∃ f, a / 8 = f := ⟨_, rfl⟩
  have hfi : (a : Int) / 8 = (f : Int) := by omega
  rw [hfi]
  have HF : Hid (a / 8 = f) := hf
  have hfs : f ≤ s.size := by omega
  clear hf hfi
  go_loopg [7, 8] 5 (fun kx s7 s8 wr => ∃ (k h : Nat), s7 = .int .u64 (h : Int) ∧ s8 = .int .i64 ((f + k : Nat) : Int) ∧ k ≤ 4 ∧ f + k ≤ s.size ∧ 4 - k ≤ kx ∧ wr = W.drewN nq ∧ h < 4294967296 ∧ Hid (h = holdN s f k))
  case atStart => exact ⟨0, 0, rfl, rfl, by omega, hfs, by omega, rfl, by omega, hid rfl⟩
  case round =>
    obtain ⟨k, h, rfl, rfl, hk4, hks, hkx, rfl, hh, HH⟩ := hrel
    by_cases hlt : k < 4 ∧ f + k < s.size
    · obtain ⟨hlt1, hlt2⟩ := hlt
      go_wp2_with fail
      go_roundg (4 - (k + 1))
      case measure => omega
      case rel =>
        obtain ⟨e1, e2⟩ := or_hold h (by8 s (f + k)) k hh (by8_lt _ _) hlt1
        rw [by8_get s (f + k) hlt2] at e1 e2
        refine ⟨k + 1, _, by rw [e1], by go_num, by omega, by omega, by omega, rfl, e2, ?_⟩
        show _ = _
        rw [holdN, ← HH.out, by8_get s (f + k) hlt2]
    · have HE : Hid (h = holdN s f 4) := by
        show _ = _
        rw [HH.out]
        by_cases e : k = 4
        · rw [e]
        · exact (holdN_past s f k 4 (by omega) hk4).symm
      have hk : ¬ (k : Int) < 4 ∨ ¬ ((f : Int) + k < s.size) := by omega
      clear hlt
      rcases hk with hk | hk
      all_goals
        go_wp2_with fail
        all_goals
          go_quiet (fail)
          go_wp2_with fail
          refine leaves_cons (f := 69) (args := #[.pointer (some ⟨N, 0, none⟩), .pointer (some ⟨N + 1, 0, none⟩)]) (by simp) (by simp [go_sem]) ?_
          refine (adv_calls ⟨N, 0, none⟩ ⟨N + 1, 0, none⟩ g s a n .returning _ hs ha ?_ ?_ ?_).mono ?_
          · exact HRW'.out
          · exact hb0
          · exact hb1
          rintro e u' w'' ⟨rfl, rfl, hR', hT'⟩
          refine ⟨_, results_tmp2 rfl _ _ _, ?_, hR', ?_⟩
          · have hv := take_val s a n h hn hh (by rw [HE.out, HF.out])
            rw [← hv]
            rfl
          · refine Tch.trans (S := oneB g) (HT.out.mono (fun i _ hi => hi.elim)) (Tch.trans (((Tch.refl (oneB g) W).drewN _).drewN _) hT' (fun i hi => .inl hi)) (fun i hi => .inl hi)

/-- Too many bits are asked. -/
theorem take_short (g : Nat) (s : ByteArray) (a n : Nat) (w : World) (hs : s.size ≤ 140737488355328) (hn : n ≤ 24) (ha : a ≤ 8 * s.size) (hsh : 8 * s.size < a + n) (hR : Rdr w g s a) :
    Calls Try.prog 47 #[.pointer (some ⟨g, 0, none⟩), .int .i64 (n : Int)] w fun e w' => e = .returned (.tuple #[.int .u32 0, .int .i64 40]) ∧ Rdr w' g s a ∧ Tch noB w w' := by
  have HR : Hid (Rdr w g s a) := hR
  clear hR
  go_enter_defers Try.func47, Try.ntmps47
  go_wp2_with fail
  obtain ⟨N, hN⟩ : ∃ N, w.heap.size = N := ⟨_, rfl⟩
  obtain ⟨W, hW⟩ : ∃ W, (w.alloc (Obj.cells #[Value.pointer (some { block := g, off := 0 })] 45)).alloc (Obj.cells #[Value.int IntKind.i64 n] 3) = W := ⟨_, rfl⟩
  have HRW : Rdr W g s a := by rw [← hW]; exact (HR.out.alloc _).alloc _
  have hb0 : W.cell? ⟨N, 0, none⟩ = some (.pointer (some ⟨g, 0, none⟩)) := by rw [← hW, ← hN]; simp [go_sem]
  have hb1 : W.cell? ⟨N + 1, 0, none⟩ = some (.int .i64 (n : Int)) := by rw [← hW, ← hN]; simp [go_sem]
  have HT : Hid (Tch noB w W) := by show Tch _ _ _; rw [← hW]; exact ((Tch.refl _ _).alloc _).alloc _
  rw [hW, hN]
  have c0 := HRW.c0
  have c1 := HRW.c1
  clear hW hN
  have HRW' : Hid (Rdr W g s a) := HRW
  clear HRW
  have hlt : decide (8 * (s.size : Int) - a < n) = true := by simp; omega
  go_quiet ((go_at_call 27; exact Calls.quiet_of (left_calls g s a _ hs (by omega) HRW'.out)))
  go_wp2_with fail
  refine ⟨_, results_tmp2 rfl _ _ _, rfl, HRW'.out, HT.out.drewN _⟩

end Go.Proofs.Ythgijppajindpaa
