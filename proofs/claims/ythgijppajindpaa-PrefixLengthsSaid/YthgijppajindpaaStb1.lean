/-
  slices.swapRangeCmpFunc at *prefix.node: what it leaves is the plain 'swapLoop'.
-/
import Derived.Test.YthgijppajindpaaShelf
import Derived.Sort.WalkB2
import Derived.Sort.WalkB12
import Derived.Deep.LoopGhost
import Derived.WalkKit
namespace Go.Proofs.Ythgijppajindpaa
open Go.Shelf Go.RowKit Go.Lib Go.Sort

def swapLoop {α : Type} [Inhabited α] (a b n i : Nat) (d : Array α) : Array α :=
  if i < n then swapLoop a b n (i + 1) (swp d (a + i) (b + i)) else d
termination_by n - i

theorem size_swapLoop {α : Type} [Inhabited α] (a b n i : Nat) (d : Array α) : (swapLoop a b n i d).size = d.size := by
  unfold swapLoop
  split
  · rw [size_swapLoop, size_swp]
  · rfl
termination_by n - i

set_option maxHeartbeats 4000000 in
set_option maxRecDepth 1000000 in
theorem swapRange_calls {α : Type} [Inhabited α] (enc : α → Value) (g : Nat) (cb : Array Value) (blk off cap a b n : Nat) (d0 d : Array α) (w0 w : World)
    (R : Row1 enc w0 blk off d0) (hs : d0.size = d.size) (S : SW enc w0 blk off d w) (ha : a + n ≤ d.size) (hb : b + n ≤ d.size) (hsz : d.size < 4611686018427387904) :
    Calls Try.prog 85 #[.slice (some ⟨blk, off, none⟩) d.size cap, .int .i64 a, .int .i64 b, .int .i64 n, .func (.func g) #[] cb] w fun e w' => e = .returned (.tuple #[]) ∧ SW enc w0 blk off (swapLoop a b n 0 d) w' := by
  have hcl0 := R.hO.cells
  simp only [Value.cells] at hcl0
  have hst := R.hO.store Try.prog
  have S0 : Aside (SW enc w0 blk off d w) := S
  clear S
  go_enter Try.func85, Try.ntmps85
  go_wp2
  go_loopg [10] n (fun kx s10 wr => ∃ (i : Nat) (dk : Array α), s10 = .int .i64 i ∧ i ≤ n ∧ n - i ≤ kx ∧ dk.size = d.size ∧ Aside (SW enc w0 blk off dk wr) ∧ Hid (swapLoop a b n i dk = swapLoop a b n 0 d))
  case atStart => exact ⟨0, d, rfl, by omega, by omega, rfl, S0, rfl⟩
  case round =>
    clear S0
    obtain ⟨i, dk, rfl, hin, hkx, hds, S1, heq⟩ := hrel
    by_cases hlt : i < n
    · have hltz : (i : Int) < (n : Int) := by omega
      go_wp2_with fail
      obtain ⟨iN, hiN⟩ : ∃ q, q = a + i := ⟨_, rfl⟩
      obtain ⟨jN, hjN⟩ : ∃ q, q = b + i := ⟨_, rfl⟩
      have ea : ((a : Int) + (i : Int)).toNat = iN := by omega
      have pa : (0 : Int) ≤ (a : Int) + (i : Int) := by omega
      have ba : (a : Int) + (i : Int) < (d.size : Int) := by omega
      have ra : IntKind.i64.wrap ((a : Int) + (i : Int)) = (a : Int) + (i : Int) := by rw [IntKind.wrap_i64]; omega
      have ec : ((b : Int) + (i : Int)).toNat = jN := by omega
      have pc : (0 : Int) ≤ (b : Int) + (i : Int) := by omega
      have bc : (b : Int) + (i : Int) < (d.size : Int) := by omega
      have rc : IntKind.i64.wrap ((b : Int) + (i : Int)) = (b : Int) + (i : Int) := by rw [IntKind.wrap_i64]; omega
      obtain ⟨x, hx⟩ : ∃ x, x = dk[a + i]! := ⟨_, rfl⟩
      obtain ⟨y, hy⟩ : ∃ x, x = dk[b + i]! := ⟨_, rfl⟩
      have S2 : Aside (SW enc w0 blk off (swp dk (a + i) (b + i)) ((wr.setCell ⟨blk, off + iN, none⟩ (enc y)).setCell ⟨blk, off + jN, none⟩ (enc x)).drew) := by rw [hiN, hjN, hx, hy]; exact S1.out.swapped R (a + i) (b + i) (by omega) (by omega)
      have ca := S1.out.c1 R (by omega) (a + i) (by omega)
      have cb' := S1.out.c1 R (by omega) (b + i) (by omega)
      have fa := S1.out.f1 R (by omega) (a + i) (by omega)
      have fb := S1.out.f1 R (by omega) (b + i) (by omega)
      obtain ⟨u, cc⟩ := S1.out.c2 R (by omega) (a + i) (b + i) (by omega) (by omega) (enc y)
      rw [← hjN, ← hiN] at cc
      rw [← hx, ← hiN] at ca
      rw [← hy, ← hjN] at cb'
      rw [← hiN] at fa
      rw [← hjN] at fb
      clear S1 hx hy hiN hjN
      go_wp2_with fail
      go_region
      clear ca cb' cc fa fb
      generalize ((wr.setCell ⟨blk, off + iN, none⟩ (enc y)).setCell ⟨blk, off + jN, none⟩ (enc x)).drew = w2 at S2 ⊢
      clear ea ec
      go_wp2
      go_roundg (n - (i + 1))
      case measure => omega
      case rel =>
        exact ⟨i + 1, swp dk (a + i) (b + i), by go_num, by omega, Nat.le_refl _, by rw [size_swp]; exact hds, S2, (show Hid _ from by
          have h := heq.out
          rw [swapLoop, if_pos hlt] at h
          exact h)⟩
    · have hltz : ¬ (i : Int) < (n : Int) := by omega
      go_wp2
      go_end0
      refine ⟨rfl, ?_⟩
      have h := heq.out
      rw [swapLoop, if_neg hlt] at h
      rw [← h]
      exact S1.out

/-- The same, its arguments whole numbers of any spelling. -/
theorem swapRange_callsI {α : Type} [Inhabited α] (enc : α → Value) (g : Nat) (cb : Array Value) (blk off cap : Nat) (A B N : Int) (a b n sz : Nat) (d0 d : Array α) (w0 w : World)
    (R : Row1 enc w0 blk off d0) (hs : d0.size = sz) (hd : d.size = sz) (S : SW enc w0 blk off d w) (hA : A = (a : Int)) (hB : B = (b : Int)) (hN : N = (n : Int)) (ha : a + n ≤ sz) (hb : b + n ≤ sz) (hsz : sz < 4611686018427387904) :
    Calls Try.prog 85 #[.slice (some ⟨blk, off, none⟩) sz cap, .int .i64 A, .int .i64 B, .int .i64 N, .func (.func g) #[] cb] w fun e w' => e = .returned (.tuple #[]) ∧ SW enc w0 blk off (swapLoop a b n 0 d) w' := by
  subst hA hB hN hd
  exact swapRange_calls enc g cb blk off cap a b n d0 d w0 w R hs S ha hb hsz

def rot {α : Type} [Inhabited α] (m : Nat) : Nat → Nat → Nat → Array α → Array α
  | 0, _, _, d => d
  | k + 1, i, j, d =>
    if i = j then swapLoop (m - i) m i 0 d
    else if j < i then rot m k (i - j) j (swapLoop (m - i) m j 0 d)
    else rot m k i (j - i) (swapLoop (m - i) (m + j - i) i 0 d)

set_option maxHeartbeats 4000000 in
set_option maxRecDepth 1000000 in
theorem rotate_calls {α : Type} [Inhabited α] (enc : α → Value) (g : Nat) (cb : Array Value) (blk off cap : Nat) (A M B : Int) (a m b sz : Nat) (d0 d : Array α) (w0 w : World)
    (R : Row1 enc w0 blk off d0) (hs : d0.size = sz) (hd : d.size = sz) (S : SW enc w0 blk off d w) (hA : A = (a : Int)) (hM : M = (m : Int)) (hB : B = (b : Int)) (ham : a < m) (hmb : m < b) (hb : b ≤ sz) (hsz : sz < 4611686018427387904) :
    Calls Try.prog 84 #[.slice (some ⟨blk, off, none⟩) sz cap, .int .i64 A, .int .i64 M, .int .i64 B, .func (.func g) #[] cb] w fun e w' => e = .returned (.tuple #[]) ∧ SW enc w0 blk off (rot m (b - a) (m - a) (b - m) d) w' := by
  subst hA hM hB
  have S0 : Aside (SW enc w0 blk off d w) := S
  clear S
  have HD : Hid (d.size = sz) := hd; clear hd
  have HS : Hid (d0.size = sz) := hs; clear hs
  obtain ⟨i0, hi0⟩ : ∃ q, q + a = m := ⟨m - a, by omega⟩
  obtain ⟨j0, hj0⟩ : ∃ q, q + m = b := ⟨b - m, by omega⟩
  have ei : (m : Int) - (a : Int) = (i0 : Int) := by omega
  have ej : (b : Int) - (m : Int) = (j0 : Int) := by omega
  go_enter Try.func84, Try.ntmps84
  go_wp2_with fail
  go_loopg [10, 11] (b - a) (fun kx s10 s11 wr => ∃ (i j : Nat) (dk : Array α), s10 = .int .i64 i ∧ s11 = .int .i64 j ∧ 0 < i ∧ 0 < j ∧ i ≤ m ∧ m + j ≤ sz ∧ i + j ≤ kx ∧ Hid (dk.size = sz) ∧ Aside (SW enc w0 blk off dk wr) ∧ Hid (rot m kx i j dk = rot m (b - a) (m - a) (b - m) d))
  case atStart =>
    exact ⟨i0, j0, d, rfl, rfl, by omega, by omega, by omega, by omega, by omega, HD, S0, (show Hid _ from by
      have e1 : i0 = m - a := by omega
      have e2 : j0 = b - m := by omega
      rw [e1, e2]; exact rfl)⟩
  case round =>
    clear S0 ei ej
    obtain ⟨i, j, dk, rfl, rfl, hi, hj, him, hmj, hk, hds, S1, heq⟩ := hrel
    obtain ⟨k, rfl⟩ : ∃ q, gk = q + 1 := ⟨gk - 1, by omega⟩
    by_cases hij : i = j
    · subst hij
      have hb1 : ((i : Int) != (i : Int)) = false := by simp
      go_wp2_with (go_at_call 85; refine (swapRange_callsI enc g cb blk off cap _ _ _ (m - i) m i sz d0 dk w0 _ R HS.out hds.out S1.out (by omega) rfl rfl (by omega) (by omega) hsz).mono ?_; rintro e w' ⟨rfl, S2⟩)
      go_end0
      refine ⟨rfl, ?_⟩
      have h := heq.out
      rw [rot, if_pos rfl] at h
      rw [← h]
      exact S2
    · have hb1 : ((i : Int) != (j : Int)) = true := by rw [bne_iff_ne]; omega
      by_cases hlt : j < i
      · have hltz : (j : Int) < (i : Int) := by omega
        go_wp2_with (go_at_call 85; refine (swapRange_callsI enc g cb blk off cap _ _ _ (m - i) m j sz d0 dk w0 _ R HS.out hds.out S1.out (by omega) rfl rfl (by omega) (by omega) hsz).mono ?_; rintro e w' ⟨rfl, S2⟩)
        have e3 : (i : Int) - (j : Int) = ((i - j : Nat) : Int) := by omega
        go_roundg k
        case measure => omega
        case rel =>
          refine ⟨i - j, j, swapLoop (m - i) m j 0 dk, by rw [e3], rfl, by omega, by omega, by omega, by omega, by omega, ?_, S2, ?_⟩
          · show _ = _
            rw [size_swapLoop]; exact hds.out
          · have h := heq.out
            rw [rot, if_neg hij, if_pos hlt] at h
            exact h
      · have hltz : ¬ (j : Int) < (i : Int) := by omega
        go_wp2_with (go_at_call 85; refine (swapRange_callsI enc g cb blk off cap _ _ _ (m - i) (m + j - i) i sz d0 dk w0 _ R HS.out hds.out S1.out (by omega) (by omega) rfl (by omega) (by omega) hsz).mono ?_; rintro e w' ⟨rfl, S2⟩)
        have e3 : (j : Int) - (i : Int) = ((j - i : Nat) : Int) := by omega
        go_roundg k
        case measure => omega
        case rel =>
          refine ⟨i, j - i, swapLoop (m - i) (m + j - i) i 0 dk, rfl, by rw [e3], by omega, by omega, by omega, by omega, by omega, ?_, S2, ?_⟩
          · show _ = _
            rw [size_swapLoop]; exact hds.out
          · have h := heq.out
            rw [rot, if_neg hij, if_neg hlt] at h
            exact h

end Go.Proofs.Ythgijppajindpaa
