/-
  slices.SortStableFunc at the nodes of a tree: what it does to an array, step for step.
-/
import Derived.Test.YthgijppajindpaaShelf
import Derived.Sort.WalkB2
import Derived.Sort.WalkB12
import Derived.Deep.LoopGhost
import Derived.WalkKit
namespace Go.Proofs.Ythgijppajindpaa
open Go.Shelf Go.RowKit Go.Lib Go.Sort

def swapLoop {α : Type} [Inhabited α] (a b n i : Nat) (d : Array α) : Array α :=
  if i < n then swapLoop a b n (i + 1) (swp d (a + i) (b + i)) else d
termination_by n - i

theorem size_swapLoop {α : Type} [Inhabited α] (a b n i : Nat) (d : Array α) : (swapLoop a b n i d).size = d.size := by
  unfold swapLoop
  split
  · rw [size_swapLoop, size_swp]
  · rfl
termination_by n - i

set_option maxHeartbeats 4000000 in
set_option maxRecDepth 1000000 in
theorem swapRange_calls {α : Type} [Inhabited α] (enc : α → Value) (g : Nat) (cb : Array Value) (blk off cap a b n : Nat) (d0 d : Array α) (w0 w : World)
    (R : Row1 enc w0 blk off d0) (hs : d0.size = d.size) (S : SW enc w0 blk off d w) (ha : a + n ≤ d.size) (hb : b + n ≤ d.size) (hsz : d.size < 4611686018427387904) :
    Calls Try.prog 85 #[.slice (some ⟨blk, off, none⟩) d.size cap, .int .i64 a, .int .i64 b, .int .i64 n, .func (.func g) #[] cb] w fun e w' => e = .returned (.tuple #[]) ∧ SW enc w0 blk off (swapLoop a b n 0 d) w' := by
  have hcl0 := R.hO.cells
  simp only [Value.cells] at hcl0
  have hst := R.hO.store Try.prog
  have S0 : Aside (SW enc w0 blk off d w) := S
  clear S
  go_enter Try.func85, Try.ntmps85
  go_wp2
  go_loopg [10] n (fun kx s10 wr => ∃ (i : Nat) (dk : Array α), s10 = .int .i64 i ∧ i ≤ n ∧ n - i ≤ kx ∧ dk.size = d.size ∧ Aside (SW enc w0 blk off dk wr) ∧ Hid (swapLoop a b n i dk = swapLoop a b n 0 d))
  case atStart => exact ⟨0, d, rfl, by omega, by omega, rfl, S0, rfl⟩
  case round =>
    clear S0
    obtain ⟨i, dk, rfl, hin, hkx, hds, S1, heq⟩ := hrel
    by_cases hlt : i < n
    · have hltz : (i : Int) < (n : Int) := by omega
      go_wp2_with fail
      obtain ⟨iN, hiN⟩ : ∃ q, q = a + i := ⟨_, rfl⟩
      obtain ⟨jN, hjN⟩ : ∃ q, q = b + i := ⟨_, rfl⟩
      have ea : ((a : Int) + (i : Int)).toNat = iN := by omega
      have pa : (0 : Int) ≤ (a : Int) + (i : Int) := by omega
      have ba : (a : Int) + (i : Int) < (d.size : Int) := by omega
      have ra : IntKind.i64.wrap ((a : Int) + (i : Int)) = (a : Int) + (i : Int) := by rw [IntKind.wrap_i64]; omega
      have ec : ((b : Int) + (i : Int)).toNat = jN := by omega
      have pc : (0 : Int) ≤ (b : Int) + (i : Int) := by omega
      have bc : (b : Int) + (i : Int) < (d.size : Int) := by omega
      have rc : IntKind.i64.wrap ((b : Int) + (i : Int)) = (b : Int) + (i : Int) := by rw [IntKind.wrap_i64]; omega
      obtain ⟨x, hx⟩ : ∃ x, x = dk[a + i]! := ⟨_, rfl⟩
      obtain ⟨y, hy⟩ : ∃ x, x = dk[b + i]! := ⟨_, rfl⟩
      have S2 : Aside (SW enc w0 blk off (swp dk (a + i) (b + i)) ((wr.setCell ⟨blk, off + iN, none⟩ (enc y)).setCell ⟨blk, off + jN, none⟩ (enc x)).drew) := by rw [hiN, hjN, hx, hy]; exact S1.out.swapped R (a + i) (b + i) (by omega) (by omega)
      have ca := S1.out.c1 R (by omega) (a + i) (by omega)
      have cb' := S1.out.c1 R (by omega) (b + i) (by omega)
      have fa := S1.out.f1 R (by omega) (a + i) (by omega)
      have fb := S1.out.f1 R (by omega) (b + i) (by omega)
      obtain ⟨u, cc⟩ := S1.out.c2 R (by omega) (a + i) (b + i) (by omega) (by omega) (enc y)
      rw [← hjN, ← hiN] at cc
      rw [← hx, ← hiN] at ca
      rw [← hy, ← hjN] at cb'
      rw [← hiN] at fa
      rw [← hjN] at fb
      clear S1 hx hy hiN hjN
      go_wp2_with fail
      go_region
      clear ca cb' cc fa fb
      generalize ((wr.setCell ⟨blk, off + iN, none⟩ (enc y)).setCell ⟨blk, off + jN, none⟩ (enc x)).drew = w2 at S2 ⊢
      clear ea ec
      go_wp2
      go_roundg (n - (i + 1))
      case measure => omega
      case rel =>
        exact ⟨i + 1, swp dk (a + i) (b + i), by go_num, by omega, Nat.le_refl _, by rw [size_swp]; exact hds, S2, (show Hid _ from by
          have h := heq.out
          rw [swapLoop, if_pos hlt] at h
          exact h)⟩
    · have hltz : ¬ (i : Int) < (n : Int) := by omega
      go_wp2
      go_end0
      refine ⟨rfl, ?_⟩
      have h := heq.out
      rw [swapLoop, if_neg hlt] at h
      rw [← h]
      exact S1.out

/-- The same, its arguments whole numbers of any spelling. -/
theorem swapRange_callsI {α : Type} [Inhabited α] (enc : α → Value) (g : Nat) (cb : Array Value) (blk off cap : Nat) (A B N : Int) (a b n sz : Nat) (d0 d : Array α) (w0 w : World)
    (R : Row1 enc w0 blk off d0) (hs : d0.size = sz) (hd : d.size = sz) (S : SW enc w0 blk off d w) (hA : A = (a : Int)) (hB : B = (b : Int)) (hN : N = (n : Int)) (ha : a + n ≤ sz) (hb : b + n ≤ sz) (hsz : sz < 4611686018427387904) :
    Calls Try.prog 85 #[.slice (some ⟨blk, off, none⟩) sz cap, .int .i64 A, .int .i64 B, .int .i64 N, .func (.func g) #[] cb] w fun e w' => e = .returned (.tuple #[]) ∧ SW enc w0 blk off (swapLoop a b n 0 d) w' := by
  subst hA hB hN hd
  exact swapRange_calls enc g cb blk off cap a b n d0 d w0 w R hs S ha hb hsz

def rot {α : Type} [Inhabited α] (m : Nat) : Nat → Nat → Nat → Array α → Array α
  | 0, _, _, d => d
  | k + 1, i, j, d =>
    if i = j then swapLoop (m - i) m i 0 d
    else if j < i then rot m k (i - j) j (swapLoop (m - i) m j 0 d)
    else rot m k i (j - i) (swapLoop (m - i) (m + j - i) i 0 d)

set_option maxHeartbeats 4000000 in
set_option maxRecDepth 1000000 in
theorem rotate_calls {α : Type} [Inhabited α] (enc : α → Value) (g : Nat) (cb : Array Value) (blk off cap : Nat) (A M B : Int) (a m b sz : Nat) (d0 d : Array α) (w0 w : World)
    (R : Row1 enc w0 blk off d0) (hs : d0.size = sz) (hd : d.size = sz) (S : SW enc w0 blk off d w) (hA : A = (a : Int)) (hM : M = (m : Int)) (hB : B = (b : Int)) (ham : a < m) (hmb : m < b) (hb : b ≤ sz) (hsz : sz < 4611686018427387904) :
    Calls Try.prog 84 #[.slice (some ⟨blk, off, none⟩) sz cap, .int .i64 A, .int .i64 M, .int .i64 B, .func (.func g) #[] cb] w fun e w' => e = .returned (.tuple #[]) ∧ SW enc w0 blk off (rot m (b - a) (m - a) (b - m) d) w' := by
  subst hA hM hB
  have S0 : Aside (SW enc w0 blk off d w) := S
  clear S
  have HD : Hid (d.size = sz) := hd; clear hd
  have HS : Hid (d0.size = sz) := hs; clear hs
  obtain ⟨i0, hi0⟩ : ∃ q, q + a = m := ⟨m - a, by omega⟩
  obtain ⟨j0, hj0⟩ : ∃ q, q + m = b := ⟨b - m, by omega⟩
  have ei : (m : Int) - (a : Int) = (i0 : Int) := by omega
  have ej : (b : Int) - (m : Int) = (j0 : Int) := by omega
  go_enter Try.func84, Try.ntmps84
  go_wp2_with fail
  go_loopg [10, 11] (b - a) (fun kx s10 s11 wr => ∃ (i j : Nat) (dk : Array α), s10 = .int .i64 i ∧ s11 = .int .i64 j ∧ 0 < i ∧ 0 < j ∧ i ≤ m ∧ m + j ≤ sz ∧ i + j ≤ kx ∧ Hid (dk.size = sz) ∧ Aside (SW enc w0 blk off dk wr) ∧ Hid (rot m kx i j dk = rot m (b - a) (m - a) (b - m) d))
  case atStart =>
    exact ⟨i0, j0, d, rfl, rfl, by omega, by omega, by omega, by omega, by omega, HD, S0, (show Hid _ from by
      have e1 : i0 = m - a := by omega
      have e2 : j0 = b - m := by omega
      rw [e1, e2]; exact rfl)⟩
  case round =>
    clear S0 ei ej
    obtain ⟨i, j, dk, rfl, rfl, hi, hj, him, hmj, hk, hds, S1, heq⟩ := hrel
    obtain ⟨k, rfl⟩ : ∃ q, gk = q + 1 := ⟨gk - 1, by omega⟩
    by_cases hij : i = j
    · subst hij
      have hb1 : ((i : Int) != (i : Int)) = false := by simp
      go_wp2_with (go_at_call 85; refine (swapRange_callsI enc g cb blk off cap _ _ _ (m - i) m i sz d0 dk w0 _ R HS.out hds.out S1.out (by omega) rfl rfl (by omega) (by omega) hsz).mono ?_; rintro e w' ⟨rfl, S2⟩)
      go_end0
      refine ⟨rfl, ?_⟩
      have h := heq.out
      rw [rot, if_pos rfl] at h
      rw [← h]
      exact S2
    · have hb1 : ((i : Int) != (j : Int)) = true := by rw [bne_iff_ne]; omega
      by_cases hlt : j < i
      · have hltz : (j : Int) < (i : Int) := by omega
        go_wp2_with (go_at_call 85; refine (swapRange_callsI enc g cb blk off cap _ _ _ (m - i) m j sz d0 dk w0 _ R HS.out hds.out S1.out (by omega) rfl rfl (by omega) (by omega) hsz).mono ?_; rintro e w' ⟨rfl, S2⟩)
        have e3 : (i : Int) - (j : Int) = ((i - j : Nat) : Int) := by omega
        go_roundg k
        case measure => omega
        case rel =>
          refine ⟨i - j, j, swapLoop (m - i) m j 0 dk, by rw [e3], rfl, by omega, by omega, by omega, by omega, by omega, ?_, S2, ?_⟩
          · show _ = _
            rw [size_swapLoop]; exact hds.out
          · have h := heq.out
            rw [rot, if_neg hij, if_pos hlt] at h
            exact h
      · have hltz : ¬ (j : Int) < (i : Int) := by omega
        go_wp2_with (go_at_call 85; refine (swapRange_callsI enc g cb blk off cap _ _ _ (m - i) (m + j - i) i sz d0 dk w0 _ R HS.out hds.out S1.out (by omega) (by omega) rfl (by omega) (by omega) hsz).mono ?_; rintro e w' ⟨rfl, S2⟩)
        have e3 : (j : Int) - (i : Int) = ((j - i : Nat) : Int) := by omega
        go_roundg k
        case measure => omega
        case rel =>
          refine ⟨i, j - i, swapLoop (m - i) (m + j - i) i 0 dk, rfl, by rw [e3], by omega, by omega, by omega, by omega, by omega, ?_, S2, ?_⟩
          · show _ = _
            rw [size_swapLoop]; exact hds.out
          · have h := heq.out
            rw [rot, if_neg hij, if_neg hlt] at h
            exact h

end Go.Proofs.Ythgijppajindpaa

namespace Go.Proofs.Ythgijppajindpaa
open Go.Shelf Go.RowKit Go.Lib Go.Sort

/-- The binary search of all three loops: the lowest place from i on at which p says no. -/
def bs (p : Nat → Bool) : Nat → Nat → Nat → Nat
  | 0, i, _ => i
  | k + 1, i, j => if i < j then (if p ((i + j) / 2) then bs p k ((i + j) / 2 + 1) j else bs p k i ((i + j) / 2)) else i

/-- 'for k := k; k < e; k++ { swap k, k+1 }'. -/
def upLoop {α : Type} [Inhabited α] (k e : Nat) (d : Array α) : Array α :=
  if k < e then upLoop (k + 1) e (swp d k (k + 1)) else d
termination_by e - k

/-- 'for k := k; k > i; k-- { swap k, k-1 }'. -/
def downLoop {α : Type} [Inhabited α] (i : Nat) : Nat → Array α → Array α
  | 0, d => d
  | k + 1, d => if i < k + 1 then downLoop i k (swp d (k + 1) k) else d

theorem Try.mixed : Try.prog.follows .mixedOrders = true := by kernel_rfl

set_option maxHeartbeats 4000000 in
set_option maxRecDepth 1000000 in
theorem symOne_calls {α : Type} [Inhabited α] (enc : α → Value) (cf : α → α → Int) (g : Nat) (cb : Array Value) (blk off cap : Nat) (A M B : Int) (a m b sz : Nat) (d0 d : Array α) (w0 w : World)
    (eg : ∀ args w, (callFunc g args).run Try.prog w = .ok (.enter g args) w) (hcmp : CmpLays1 Try.prog g cb enc cf blk off sz w0)
    (R : Row1 enc w0 blk off d0) (hs : d0.size = sz) (hd : d.size = sz) (S : SW enc w0 blk off d w) (hA : A = (a : Int)) (hM : M = (m : Int)) (hB : B = (b : Int)) (ham : m = a + 1) (hmb : m < b) (hb : b ≤ sz) (hsz : sz < 4611686018427387904) :
    Calls Try.prog 83 #[.slice (some ⟨blk, off, none⟩) sz cap, .int .i64 A, .int .i64 M, .int .i64 B, .func (.func g) #[] cb] w fun e w' => e = .returned (.tuple #[]) ∧ SW enc w0 blk off (upLoop a (bs (fun h => ltOf cf d[h]! d[a]!) (b - m) m b - 1) d) w' := by
  subst hA hM hB
  have S0 : Aside (SW enc w0 blk off d w) := S
  clear S
  have HD : Hid (d.size = sz) := hd; clear hd
  have HS : Hid (d0.size = sz) := hs; clear hs
  have HC : Aside (CmpLays1 Try.prog g cb enc cf blk off sz w0) := hcmp
  clear hcmp
  have h1 : ((m : Int) - (a : Int) == 1) = true := by rw [beq_iff_eq]; omega
  have HM : Hid (m = a + 1) := ham; clear ham
  have ham1 : a < m := by have := HM.out; omega
  have mixed := Try.mixed
  go_enter Try.func83, Try.ntmps83
  go_wp2_with fail
  go_loopg [10, 11] (b - m) (fun kx s10 s11 wr => ∃ (i j : Nat), s10 = .int .i64 i ∧ s11 = .int .i64 j ∧ m ≤ i ∧ i ≤ j ∧ j ≤ b ∧ j - i ≤ kx ∧ Aside (SW enc w0 blk off d wr) ∧ Hid (bs (fun h => ltOf cf d[h]! d[a]!) kx i j = bs (fun h => ltOf cf d[h]! d[a]!) (b - m) m b))
  case atStart =>
    exact ⟨m, b, rfl, rfl, by omega, by omega, by omega, by omega, S0, rfl⟩
  case round =>
    clear S0
    obtain ⟨i, j, rfl, rfl, hi, hij, hj, hk, S1, heq⟩ := hrel
    by_cases hlt : i < j
    · have hltz : (i : Int) < (j : Int) := by omega
      obtain ⟨k, rfl⟩ : ∃ q, gk = q + 1 := ⟨gk - 1, by omega⟩
      have step : bs (fun h => ltOf cf d[h]! d[a]!) (k + 1) i j = if ltOf cf d[(i + j) / 2]! d[a]! then bs (fun h => ltOf cf d[h]! d[a]!) k ((i + j) / 2 + 1) j else bs (fun h => ltOf cf d[h]! d[a]!) k i ((i + j) / 2) := by
        rw [bs, if_pos hlt]
      have HSt : Hid _ := step
      clear step
      have ez : ((i : Int) + (j : Int)) / 2 = (((i + j) / 2 : Nat) : Int) := by omega
      have HZ : Hid (((i : Int) + (j : Int)) / 2 = (((i + j) / 2 : Nat) : Int)) := ez
      obtain ⟨iN, hiN⟩ : ∃ q, q = (i + j) / 2 := ⟨_, rfl⟩
      obtain ⟨jN, hjN⟩ : ∃ q, q = a := ⟨_, rfl⟩
      have ea : (((i : Int) + (j : Int)) / 2).toNat = iN := by omega
      have pa : (0 : Int) ≤ ((i : Int) + (j : Int)) / 2 := by omega
      have ba : ((i : Int) + (j : Int)) / 2 < (sz : Int) := by omega
      have ra : IntKind.i64.wrap (((i : Int) + (j : Int)) / 2) = ((i : Int) + (j : Int)) / 2 := by rw [IntKind.wrap_i64]; omega
      have ec : ((a : Int)).toNat = jN := by omega
      have pc : (0 : Int) ≤ (a : Int) := by omega
      have bc : (a : Int) < (sz : Int) := by omega
      have bi1 : i ≤ iN := by omega
      have bi2 : iN < j := by omega
      clear ez
      obtain ⟨x, hx⟩ : ∃ x, x = d[(i + j) / 2]! := ⟨_, rfl⟩
      obtain ⟨y, hy⟩ : ∃ x, x = d[a]! := ⟨_, rfl⟩
      have hdd := HD.out
      have hss := HS.out
      have la := S1.out.cl R (by omega) ((i + j) / 2) (by omega)
      have lb := S1.out.cl R (by omega) a (by omega)
      rw [← hx, ← hiN] at la
      rw [← hy, ← hjN] at lb
      have hc := S1.out.cmp HC.out (by omega) x y
      have HX : Hid (ltOf cf d[(i + j) / 2]! d[a]! = decide (cf x y < 0)) := by show _ = _; rw [hx, hy]; rfl
      have HI : Hid (iN = (i + j) / 2) := hiN
      clear hx hy hiN hjN hdd hss
      by_cases hcf : cf x y < 0
      · have hcd : decide (cf x y < 0) = true := decide_eq_true hcf
        go_wp2_with fail
        go_quiet_grown (first | (go_at_fn g; refine Calls.grown_of (hc _ _)))
        have S2 : Aside (SW enc w0 blk off d (grow (wr.drewN nq) osq)) := S1.out.grown nq osq
        clear la lb hc S1
        generalize grow (wr.drewN nq) osq = w2 at S2 ⊢
        clear nq osq ea ec
        go_wp2
        go_roundg k
        case measure => omega
        case rel =>
          have e1 := HI.out
          refine ⟨iN + 1, j, ?_, rfl, by omega, by omega, hj, by omega, S2, ?_⟩
          · have := HZ.out; rw [e1]; congr 1
          · have h := heq.out
            rw [HSt.out, HX.out, hcd, if_pos rfl] at h
            rw [e1]; exact h
      · have hcd : decide (cf x y < 0) = false := decide_eq_false hcf
        go_wp2_with fail
        go_quiet_grown (first | (go_at_fn g; refine Calls.grown_of (hc _ _)))
        have S2 : Aside (SW enc w0 blk off d (grow (wr.drewN nq) osq)) := S1.out.grown nq osq
        clear la lb hc S1
        generalize grow (wr.drewN nq) osq = w2 at S2 ⊢
        clear nq osq ea ec
        go_wp2
        go_roundg k
        case measure => omega
        case rel =>
          have e1 := HI.out
          refine ⟨i, iN, rfl, ?_, hi, by omega, by omega, by omega, S2, ?_⟩
          · have := HZ.out; rw [e1]; congr 1
          · have h := heq.out
            rw [HSt.out, HX.out, hcd, if_neg (by simp)] at h
            rw [e1]; exact h
    · have hltz : ¬ (i : Int) < (j : Int) := by omega
      have hbs : Hid (i = bs (fun h => ltOf cf d[h]! d[a]!) (b - m) m b) := by
        show _ = _
        rw [← heq.out]
        cases gk with
        | zero => rfl
        | succ k => rw [bs, if_neg hlt]
      clear heq
      go_wp2_with fail
      go_loopg [13] (i - a) (fun kx s13 wr => ∃ (k : Nat) (dk : Array α), s13 = .int .i64 k ∧ a ≤ k ∧ k ≤ i ∧ i - k ≤ kx ∧ Hid (dk.size = sz) ∧ Aside (SW enc w0 blk off dk wr) ∧ Hid (upLoop k (i - 1) dk = upLoop a (i - 1) d))
      case atStart => exact ⟨a, d, rfl, by omega, by omega, by omega, HD, S1, rfl⟩
      case round =>
        clear S1
        obtain ⟨k, dk, rfl, hak, hki, hkx, hds, S1, heq⟩ := hrel
        by_cases hlt2 : k < i - 1
        · have hltz2 : (k : Int) < (i : Int) - 1 := by omega
          go_wp2_with fail
          obtain ⟨iN, hiN⟩ : ∃ q, q = k := ⟨_, rfl⟩
          obtain ⟨jN, hjN⟩ : ∃ q, q = k + 1 := ⟨_, rfl⟩
          have ea : ((k : Int)).toNat = iN := by omega
          have pa : (0 : Int) ≤ (k : Int) := by omega
          have ba : (k : Int) < (sz : Int) := by omega
          have ec : ((k : Int) + 1).toNat = jN := by omega
          have pc : (0 : Int) ≤ (k : Int) + 1 := by omega
          have bc : (k : Int) + 1 < (sz : Int) := by omega
          have rc : IntKind.i64.wrap ((k : Int) + 1) = (k : Int) + 1 := by rw [IntKind.wrap_i64]; omega
          obtain ⟨x, hx⟩ : ∃ x, x = dk[k]! := ⟨_, rfl⟩
          obtain ⟨y, hy⟩ : ∃ x, x = dk[k + 1]! := ⟨_, rfl⟩
          have hdd := hds.out
          have hss := HS.out
          have S2 : Aside (SW enc w0 blk off (swp dk k (k + 1)) ((wr.setCell ⟨blk, off + iN, none⟩ (enc y)).setCell ⟨blk, off + jN, none⟩ (enc x)).drew) := by rw [hiN, hjN, hx, hy]; exact S1.out.swapped R k (k + 1) (by omega) (by omega)
          have ca := S1.out.c1 R (by omega) k (by omega)
          have cb' := S1.out.c1 R (by omega) (k + 1) (by omega)
          have fa := S1.out.f1 R (by omega) k (by omega)
          have fb := S1.out.f1 R (by omega) (k + 1) (by omega)
          obtain ⟨u, cc⟩ := S1.out.c2 R (by omega) k (k + 1) (by omega) (by omega) (enc y)
          rw [← hjN, ← hiN] at cc
          rw [← hx, ← hiN] at ca
          rw [← hy, ← hjN] at cb'
          rw [← hiN] at fa
          rw [← hjN] at fb
          clear S1 hx hy hiN hjN hdd hss
          have hcl0 := R.hO.cells
          simp only [Value.cells] at hcl0
          have hst := R.hO.store Try.prog
          go_wp2_with fail
          go_region
          clear ca cb' cc fa fb hcl0 hst
          generalize ((wr.setCell ⟨blk, off + iN, none⟩ (enc y)).setCell ⟨blk, off + jN, none⟩ (enc x)).drew = w2 at S2 ⊢
          clear ea ec
          go_wp2
          go_roundg (i - (k + 1))
          case measure => omega
          case rel =>
            exact ⟨k + 1, swp dk k (k + 1), by go_num, by omega, by omega, by omega, (show _ = _ by rw [size_swp]; exact hds.out), S2, (show Hid _ from by
              have h := heq.out
              rw [upLoop, if_pos hlt2] at h
              exact h)⟩
        · have hltz2 : ¬ (k : Int) < (i : Int) - 1 := by omega
          go_wp2
          refine bodyPost_ret (results_none rfl _ _ _) rfl ?_
          refine ⟨rfl, ?_⟩
          have h := heq.out
          rw [upLoop, if_neg hlt2] at h
          rw [← hbs.out, ← h]
          exact S1.out

end Go.Proofs.Ythgijppajindpaa

namespace Go.Proofs.Ythgijppajindpaa
open Go.Shelf Go.RowKit Go.Lib Go.Sort

set_option maxHeartbeats 4000000 in
set_option maxRecDepth 1000000 in
theorem symLast_calls {α : Type} [Inhabited α] (enc : α → Value) (cf : α → α → Int) (g : Nat) (cb : Array Value) (blk off cap : Nat) (A M B : Int) (a m b sz : Nat) (d0 d : Array α) (w0 w : World)
    (eg : ∀ args w, (callFunc g args).run Try.prog w = .ok (.enter g args) w) (hcmp : CmpLays1 Try.prog g cb enc cf blk off sz w0)
    (R : Row1 enc w0 blk off d0) (hs : d0.size = sz) (hd : d.size = sz) (S : SW enc w0 blk off d w) (hA : A = (a : Int)) (hM : M = (m : Int)) (hB : B = (b : Int)) (ham : a + 1 < m) (hmb : b = m + 1) (hb : b ≤ sz) (hsz : sz < 4611686018427387904) :
    Calls Try.prog 83 #[.slice (some ⟨blk, off, none⟩) sz cap, .int .i64 A, .int .i64 M, .int .i64 B, .func (.func g) #[] cb] w fun e w' => e = .returned (.tuple #[]) ∧ SW enc w0 blk off (downLoop (bs (fun h => !ltOf cf d[m]! d[h]!) (m - a) a m) m d) w' := by
  subst hA hM hB
  have S0 : Aside (SW enc w0 blk off d w) := S
  clear S
  have HD : Hid (d.size = sz) := hd; clear hd
  have HS : Hid (d0.size = sz) := hs; clear hs
  have HC : Aside (CmpLays1 Try.prog g cb enc cf blk off sz w0) := hcmp
  clear hcmp
  have h1 : ((m : Int) - (a : Int) == 1) = false := by rw [beq_eq_false_iff_ne]; omega
  have h2 : ((b : Int) - (m : Int) == 1) = true := by rw [beq_iff_eq]; omega
  have HM : Hid (b = m + 1) := hmb; clear hmb
  have hmb1 : m < b := by have := HM.out; omega
  have mixed := Try.mixed
  go_enter Try.func83, Try.ntmps83
  go_wp2_with fail
  go_loopg [14, 15] (m - a) (fun kx s14 s15 wr => ∃ (i j : Nat), s14 = .int .i64 i ∧ s15 = .int .i64 j ∧ a ≤ i ∧ i ≤ j ∧ j ≤ m ∧ j - i ≤ kx ∧ Aside (SW enc w0 blk off d wr) ∧ Hid (bs (fun h => !ltOf cf d[m]! d[h]!) kx i j = bs (fun h => !ltOf cf d[m]! d[h]!) (m - a) a m))
  case atStart =>
    exact ⟨a, m, rfl, rfl, by omega, by omega, by omega, by omega, S0, rfl⟩
  case round =>
    clear S0
    obtain ⟨i, j, rfl, rfl, hi, hij, hj, hk, S1, heq⟩ := hrel
    by_cases hlt : i < j
    · have hltz : (i : Int) < (j : Int) := by omega
      obtain ⟨k, rfl⟩ : ∃ q, gk = q + 1 := ⟨gk - 1, by omega⟩
      have step : bs (fun h => !ltOf cf d[m]! d[h]!) (k + 1) i j = if (!ltOf cf d[m]! d[(i + j) / 2]!) then bs (fun h => !ltOf cf d[m]! d[h]!) k ((i + j) / 2 + 1) j else bs (fun h => !ltOf cf d[m]! d[h]!) k i ((i + j) / 2) := by
        rw [bs, if_pos hlt]
      have HSt : Hid _ := step
      clear step
      have ez : ((i : Int) + (j : Int)) / 2 = (((i + j) / 2 : Nat) : Int) := by omega
      have HZ : Hid (((i : Int) + (j : Int)) / 2 = (((i + j) / 2 : Nat) : Int)) := ez
      obtain ⟨iN, hiN⟩ : ∃ q, q = (i + j) / 2 := ⟨_, rfl⟩
      obtain ⟨jN, hjN⟩ : ∃ q, q = m := ⟨_, rfl⟩
      have ea : (((i : Int) + (j : Int)) / 2).toNat = iN := by omega
      have pa : (0 : Int) ≤ ((i : Int) + (j : Int)) / 2 := by omega
      have ba : ((i : Int) + (j : Int)) / 2 < (sz : Int) := by omega
      have ra : IntKind.i64.wrap (((i : Int) + (j : Int)) / 2) = ((i : Int) + (j : Int)) / 2 := by rw [IntKind.wrap_i64]; omega
      have ec : ((m : Int)).toNat = jN := by omega
      have pc : (0 : Int) ≤ (m : Int) := by omega
      have bc : (m : Int) < (sz : Int) := by omega
      have bi1 : i ≤ iN := by omega
      have bi2 : iN < j := by omega
      clear ez
      obtain ⟨x, hx⟩ : ∃ x, x = d[(i + j) / 2]! := ⟨_, rfl⟩
      obtain ⟨y, hy⟩ : ∃ x, x = d[m]! := ⟨_, rfl⟩
      have hdd := HD.out
      have hss := HS.out
      have la := S1.out.cl R (by omega) ((i + j) / 2) (by omega)
      have lb := S1.out.cl R (by omega) m (by omega)
      rw [← hx, ← hiN] at la
      rw [← hy, ← hjN] at lb
      have hc := S1.out.cmp HC.out (by omega) y x
      have HX : Hid ((!ltOf cf d[m]! d[(i + j) / 2]!) = !decide (cf y x < 0)) := by show _ = _; rw [hx, hy]; rfl
      have HI : Hid (iN = (i + j) / 2) := hiN
      clear hx hy hiN hjN hdd hss
      by_cases hcf : cf y x < 0
      · have hcd : decide (cf y x < 0) = true := decide_eq_true hcf
        go_wp2_with fail
        go_quiet_grown (first | (go_at_fn g; refine Calls.grown_of (hc _ _)))
        have S2 : Aside (SW enc w0 blk off d (grow (wr.drewN nq) osq)) := S1.out.grown nq osq
        clear la lb hc S1
        generalize grow (wr.drewN nq) osq = w2 at S2 ⊢
        clear nq osq ea ec
        go_wp2
        go_roundg k
        case measure => omega
        case rel =>
          have e1 := HI.out
          refine ⟨i, iN, rfl, ?_, hi, by omega, by omega, by omega, S2, ?_⟩
          · have := HZ.out; rw [e1]; congr 1
          · have h := heq.out
            rw [HSt.out, HX.out, hcd, if_neg (by simp)] at h
            rw [e1]; exact h
      · have hcd : decide (cf y x < 0) = false := decide_eq_false hcf
        go_wp2_with fail
        go_quiet_grown (first | (go_at_fn g; refine Calls.grown_of (hc _ _)))
        have S2 : Aside (SW enc w0 blk off d (grow (wr.drewN nq) osq)) := S1.out.grown nq osq
        clear la lb hc S1
        generalize grow (wr.drewN nq) osq = w2 at S2 ⊢
        clear nq osq ea ec
        go_wp2
        go_roundg k
        case measure => omega
        case rel =>
          have e1 := HI.out
          refine ⟨iN + 1, j, ?_, rfl, by omega, by omega, hj, by omega, S2, ?_⟩
          · have := HZ.out; rw [e1]; congr 1
          · have h := heq.out
            rw [HSt.out, HX.out, hcd, if_pos (by simp)] at h
            rw [e1]; exact h
    · have hltz : ¬ (i : Int) < (j : Int) := by omega
      have hbs : Hid (i = bs (fun h => !ltOf cf d[m]! d[h]!) (m - a) a m) := by
        show _ = _
        rw [← heq.out]
        cases gk with
        | zero => rfl
        | succ k => rw [bs, if_neg hlt]
      clear heq
      go_wp2_with fail
      go_loopg [17] m (fun kx s17 wr => ∃ (k : Nat) (dk : Array α), s17 = .int .i64 k ∧ i ≤ k ∧ k ≤ m ∧ k ≤ kx ∧ Hid (dk.size = sz) ∧ Aside (SW enc w0 blk off dk wr) ∧ Hid (downLoop i k dk = downLoop i m d))
      case atStart => exact ⟨m, d, rfl, by omega, by omega, by omega, HD, S1, rfl⟩
      case round =>
        clear S1
        obtain ⟨k0, dk, rfl, hak, hki, hkx, hds, S1, heq⟩ := hrel
        by_cases hlt2 : i < k0
        · have hltz2 : (i : Int) < (k0 : Int) := by omega
          obtain ⟨k, rfl⟩ : ∃ q, k0 = q + 1 := ⟨k0 - 1, by omega⟩
          go_wp2_with fail
          obtain ⟨iN, hiN⟩ : ∃ q, q = k + 1 := ⟨_, rfl⟩
          obtain ⟨jN, hjN⟩ : ∃ q, q = k := ⟨_, rfl⟩
          have ea : ((k : Int) + 1).toNat = iN := by omega
          have pa : (0 : Int) ≤ (k : Int) + 1 := by omega
          have ba : (k : Int) + 1 < (sz : Int) := by have := HM.out; omega
          have ra : IntKind.i64.wrap ((k : Int) + 1) = (k : Int) + 1 := by rw [IntKind.wrap_i64]; omega
          have ec : ((k : Int)).toNat = jN := by omega
          have pc : (0 : Int) ≤ (k : Int) := by omega
          have bc : (k : Int) < (sz : Int) := by omega
          have rc : IntKind.i64.wrap ((k : Int)) = (k : Int) := by rw [IntKind.wrap_i64]; omega
          obtain ⟨x, hx⟩ : ∃ x, x = dk[k + 1]! := ⟨_, rfl⟩
          obtain ⟨y, hy⟩ : ∃ x, x = dk[k]! := ⟨_, rfl⟩
          have hdd := hds.out
          have hss := HS.out
          have hmm := HM.out
          have S2 : Aside (SW enc w0 blk off (swp dk (k + 1) k) ((wr.setCell ⟨blk, off + iN, none⟩ (enc y)).setCell ⟨blk, off + jN, none⟩ (enc x)).drew) := by rw [hiN, hjN, hx, hy]; exact S1.out.swapped R (k + 1) k (by omega) (by omega)
          have ca := S1.out.c1 R (by omega) (k + 1) (by omega)
          have cb' := S1.out.c1 R (by omega) k (by omega)
          have fa := S1.out.f1 R (by omega) (k + 1) (by omega)
          have fb := S1.out.f1 R (by omega) k (by omega)
          obtain ⟨u, cc⟩ := S1.out.c2 R (by omega) (k + 1) k (by omega) (by omega) (enc y)
          rw [← hiN, ← hjN] at cc
          rw [← hx, ← hiN] at ca
          rw [← hy, ← hjN] at cb'
          rw [← hiN] at fa
          rw [← hjN] at fb
          clear S1 hx hy hiN hjN hdd hss hmm
          have hcl0 := R.hO.cells
          simp only [Value.cells] at hcl0
          have hst := R.hO.store Try.prog
          go_wp2_with fail
          go_region
          clear ca cb' cc fa fb hcl0 hst
          generalize ((wr.setCell ⟨blk, off + iN, none⟩ (enc y)).setCell ⟨blk, off + jN, none⟩ (enc x)).drew = w2 at S2 ⊢
          clear ea ec
          go_wp2
          go_roundg k
          case measure => omega
          case rel =>
            exact ⟨k, swp dk (k + 1) k, by first | rfl | go_num | (congr 1; omega), by omega, by omega, by omega, (show _ = _ by rw [size_swp]; exact hds.out), S2, (show Hid _ from by
              have h := heq.out
              rw [downLoop, if_pos hlt2] at h
              exact h)⟩
        · have hltz2 : ¬ (i : Int) < (k0 : Int) := by omega
          go_wp2
          refine bodyPost_ret (results_none rfl _ _ _) rfl ?_
          refine ⟨rfl, ?_⟩
          have h := heq.out
          have e0 : downLoop i k0 dk = dk := by
            cases k0 with
            | zero => rfl
            | succ k => rw [downLoop, if_neg hlt2]
          rw [e0] at h
          rw [← hbs.out, ← h]
          exact S1.out

end Go.Proofs.Ythgijppajindpaa

namespace Go.Proofs.Ythgijppajindpaa
open Go.Shelf Go.RowKit Go.Lib Go.Sort

section
variable {α : Type} [Inhabited α]

theorem size_upLoop (k e : Nat) (d : Array α) : (upLoop k e d).size = d.size := by
  unfold upLoop
  split
  · rw [size_upLoop, size_swp]
  · rfl
termination_by e - k

theorem size_downLoop (i : Nat) : ∀ (k : Nat) (d : Array α), (downLoop i k d).size = d.size
  | 0, d => rfl
  | k + 1, d => by
    rw [downLoop]
    split
    · rw [size_downLoop i k, size_swp]
    · rfl

theorem size_rot (m : Nat) : ∀ (k i j : Nat) (d : Array α), (rot m k i j d).size = d.size
  | 0, i, j, d => rfl
  | k + 1, i, j, d => by
    rw [rot]
    split
    · rw [size_swapLoop]
    · split
      · rw [size_rot m k, size_swapLoop]
      · rw [size_rot m k, size_swapLoop]

def symMid (a b : Nat) : Nat := (a + b) / 2
def symS0 (a m b : Nat) : Nat := if symMid a b < m then symMid a b + m - b else a
def symR0 (a m b : Nat) : Nat := if symMid a b < m then symMid a b else m
/-- Where the first run is parted. -/
def symStart (lt : α → α → Bool) (a m b : Nat) (d : Array α) : Nat :=
  bs (fun c => !lt d[symMid a b + m - 1 - c]! d[c]!) (symR0 a m b - symS0 a m b) (symS0 a m b) (symR0 a m b)
def symRot (m s e : Nat) (d : Array α) : Array α := if s < m ∧ m < e then rot m (e - s) (m - s) (e - m) d else d

def symM (lt : α → α → Bool) : Nat → Nat → Nat → Nat → Array α → Array α
  | 0, _, _, _, d => d
  | k + 1, a, m, b, d =>
    if m = a + 1 then upLoop a (bs (fun h => lt d[h]! d[a]!) (b - m) m b - 1) d
    else if b = m + 1 then downLoop (bs (fun h => !lt d[m]! d[h]!) (m - a) a m) m d
    else
      (fun s : Nat => (fun d2 : Array α => if symMid a b < symMid a b + m - s ∧ symMid a b + m - s < b then symM lt k (symMid a b) (symMid a b + m - s) b d2 else d2)
        ((fun d1 : Array α => if a < s ∧ s < symMid a b then symM lt k a s (symMid a b) d1 else d1) (symRot m s (symMid a b + m - s) d))) (symStart lt a m b d)

theorem size_symRot (m s e : Nat) (d : Array α) : (symRot m s e d).size = d.size := by
  unfold symRot
  split
  · rw [size_rot]
  · rfl

theorem size_symM (lt : α → α → Bool) : ∀ (k a m b : Nat) (d : Array α), (symM lt k a m b d).size = d.size
  | 0, _, _, _, d => rfl
  | k + 1, a, m, b, d => by
    rw [symM]
    split
    · rw [size_upLoop]
    · split
      · rw [size_downLoop]
      · dsimp only
        split
        · rw [size_symM lt k]
          split
          · rw [size_symM lt k, size_symRot]
          · rw [size_symRot]
        · split
          · rw [size_symM lt k, size_symRot]
          · rw [size_symRot]

theorem bs_range (p : Nat → Bool) : ∀ (k i j : Nat), i ≤ j → i ≤ bs p k i j ∧ bs p k i j ≤ j
  | 0, i, j, h => ⟨Nat.le_refl _, h⟩
  | k + 1, i, j, h => by
    rw [bs]
    split
    · split
      · have := bs_range p k ((i + j) / 2 + 1) j (by omega)
        omega
      · have := bs_range p k i ((i + j) / 2) (by omega)
        omega
    · omega
end

/-- The row holds dd, of sz elements, in a world of the sort's. -/
def Cur {α : Type} [Inhabited α] (enc : α → Value) (w0 : World) (blk off sz : Nat) (dd : Array α) (W : World) : Prop := dd.size = sz ∧ SW enc w0 blk off dd W

set_option maxHeartbeats 8000000 in
set_option maxRecDepth 1000000 in
/-- The search for the place at which the first run is parted, and what follows it. -/
theorem symMore_calls {α : Type} [Inhabited α] (enc : α → Value) (cf : α → α → Int) (g : Nat) (cb : Array Value) (blk off cap k0 : Nat) (A M B : Int) (a m b sz : Nat) (d0 d : Array α) (w0 w : World)
    (eg : ∀ args w, (callFunc g args).run Try.prog w = .ok (.enter g args) w) (hcmp : CmpLays1 Try.prog g cb enc cf blk off sz w0)
    (ih : ∀ (a m b : Nat) (d : Array α) (w : World), d.size = sz → SW enc w0 blk off d w → a < m → m < b → b ≤ sz → b - a ≤ k0 →
      Calls Try.prog 83 #[.slice (some ⟨blk, off, none⟩) sz cap, .int .i64 a, .int .i64 m, .int .i64 b, .func (.func g) #[] cb] w fun e w' => e = .returned (.tuple #[]) ∧ SW enc w0 blk off (symM (ltOf cf) k0 a m b d) w')
    (R : Row1 enc w0 blk off d0) (hs : d0.size = sz) (hd : d.size = sz) (S : SW enc w0 blk off d w) (hA : A = (a : Int)) (hM : M = (m : Int)) (hB : B = (b : Int)) (ham : a + 1 < m) (hmb : m + 1 < b) (hb : b ≤ sz) (hk0 : b - a ≤ k0 + 1) (hsz : sz < 4611686018427387904) :
    Calls Try.prog 83 #[.slice (some ⟨blk, off, none⟩) sz cap, .int .i64 A, .int .i64 M, .int .i64 B, .func (.func g) #[] cb] w fun e w' => e = .returned (.tuple #[]) ∧ SW enc w0 blk off (symM (ltOf cf) (k0 + 1) a m b d) w' := by
  have HF : Hid (symM (ltOf cf) (k0 + 1) a m b d = (fun s : Nat => (fun d2 : Array α => if symMid a b < symMid a b + m - s ∧ symMid a b + m - s < b then symM (ltOf cf) k0 (symMid a b) (symMid a b + m - s) b d2 else d2)
        ((fun d1 : Array α => if a < s ∧ s < symMid a b then symM (ltOf cf) k0 a s (symMid a b) d1 else d1) (symRot m s (symMid a b + m - s) d))) (symStart (ltOf cf) a m b d)) := by
    show _ = _
    rw [symM, if_neg (by omega), if_neg (by omega)]
  subst hA hM hB
  have S0 : Aside (SW enc w0 blk off d w) := S
  clear S
  have HD : Hid (d.size = sz) := hd; clear hd
  have HS : Hid (d0.size = sz) := hs; clear hs
  have HC : Aside (CmpLays1 Try.prog g cb enc cf blk off sz w0) := hcmp
  clear hcmp
  have IH : Aside _ := ih
  clear ih
  have h1 : ((m : Int) - (a : Int) == 1) = false := by rw [beq_eq_false_iff_ne]; omega
  have h2 : ((b : Int) - (m : Int) == 1) = false := by rw [beq_eq_false_iff_ne]; omega
  obtain ⟨mid, hmid⟩ : ∃ q, q = symMid a b := ⟨_, rfl⟩
  have hmd : mid = (a + b) / 2 := hmid
  have emid : ((a : Int) + (b : Int)) / 2 = (mid : Int) := by omega
  have b1 : a < mid := by omega
  have b2 : mid < b := by omega
  have b3 : mid + mid ≤ a + b := by omega
  have b4 : a + b ≤ mid + mid + 1 := by omega
  have HMD : Hid (mid = symMid a b) := hmid
  clear hmd hmid
  have mixed := Try.mixed
  obtain ⟨s0, r0, hs0, hr0, hcase⟩ : ∃ s0 r0 : Nat, s0 = symS0 a m b ∧ r0 = symR0 a m b ∧ ((mid < m ∧ s0 + b = mid + m ∧ r0 = mid) ∨ (m ≤ mid ∧ s0 = a ∧ r0 = m)) := by
    refine ⟨_, _, rfl, rfl, ?_⟩
    unfold symS0 symR0
    rw [← HMD.out]
    by_cases h : mid < m
    · rw [if_pos h, if_pos h]; left; omega
    · rw [if_neg h, if_neg h]; right; omega
  have HS0 : Hid (s0 = symS0 a m b) := hs0
  have HR0 : Hid (r0 = symR0 a m b) := hr0
  have hsr : s0 ≤ r0 := by omega
  have hra : a ≤ s0 := by omega
  have hrm : r0 ≤ m := by omega
  have hrmid : r0 ≤ mid := by omega
  have hmsr : mid + m ≤ b + s0 := by omega
  clear hs0 hr0
  have HBS : Hid (symStart (ltOf cf) a m b d = bs (fun c => !ltOf cf d[mid + m - 1 - c]! d[c]!) (r0 - s0) s0 r0) := by
    show _ = _
    unfold symStart
    rw [← HMD.out, ← HS0.out, ← HR0.out]
  have hcs : (mid < m ∧ Hid (s0 + b = mid + m) ∧ Hid (r0 = mid)) ∨ (m ≤ mid ∧ Hid (s0 = a) ∧ Hid (r0 = m)) := hcase
  clear hcase
  go_enter Try.func83, Try.ntmps83
  rcases hcs with ⟨c1, C2, C3⟩ | ⟨c1, C2, C3⟩
  · have d1 : (mid : Int) < (m : Int) := by omega
    have d2 : (mid : Int) + (m : Int) - (b : Int) = (s0 : Int) := by have := C2.out; omega
    go_wp2_with fail
    go_loopg [20, 21] (r0 - s0) (fun kx s20 s21 wr => ∃ (i j : Nat), s20 = .int .i64 i ∧ s21 = .int .i64 j ∧ s0 ≤ i ∧ i ≤ j ∧ j ≤ r0 ∧ j - i ≤ kx ∧ Aside (SW enc w0 blk off d wr) ∧ Hid (bs (fun c => !ltOf cf d[mid + m - 1 - c]! d[c]!) kx i j = symStart (ltOf cf) a m b d))
    case atStart =>
      exact ⟨s0, r0, rfl, (by rw [C3.out]), by omega, by omega, by omega, by omega, S0, (show _ = _ from HBS.out.symm)⟩
    case round =>
      clear S0
      obtain ⟨i, j, rfl, rfl, hi, hij, hj, hk, S1, heq⟩ := hrel
      by_cases hlt : i < j
      · have hltz : (i : Int) < (j : Int) := by omega
        obtain ⟨k, rfl⟩ : ∃ q, gk = q + 1 := ⟨gk - 1, by omega⟩
        have step : bs (fun c => !ltOf cf d[mid + m - 1 - c]! d[c]!) (k + 1) i j = if (!ltOf cf d[mid + m - 1 - (i + j) / 2]! d[(i + j) / 2]!) then bs (fun c => !ltOf cf d[mid + m - 1 - c]! d[c]!) k ((i + j) / 2 + 1) j else bs (fun c => !ltOf cf d[mid + m - 1 - c]! d[c]!) k i ((i + j) / 2) := by
          rw [bs, if_pos hlt]
        have HSt : Hid _ := step
        clear step
        have ez : ((i : Int) + (j : Int)) / 2 = (((i + j) / 2 : Nat) : Int) := by omega
        have HZ : Hid (((i : Int) + (j : Int)) / 2 = (((i + j) / 2 : Nat) : Int)) := ez
        obtain ⟨iN, hiN⟩ : ∃ q, q = mid + m - 1 - (i + j) / 2 := ⟨_, rfl⟩
        obtain ⟨jN, hjN⟩ : ∃ q, q = (i + j) / 2 := ⟨_, rfl⟩
        have ra : IntKind.i64.wrap (iN : Int) = (iN : Int) := by rw [IntKind.wrap_i64]; omega
        have eS : (mid : Int) + (m : Int) - 1 - ((i : Int) + (j : Int)) / 2 = (iN : Int) := by omega
        have pa : (0 : Int) ≤ (iN : Int) := by omega
        have ba : (iN : Int) < (sz : Int) := by omega
        have ec : (((i : Int) + (j : Int)) / 2).toNat = jN := by omega
        have pc : (0 : Int) ≤ ((i : Int) + (j : Int)) / 2 := by omega
        have bc : ((i : Int) + (j : Int)) / 2 < (sz : Int) := by omega
        have rc : IntKind.i64.wrap (((i : Int) + (j : Int)) / 2) = ((i : Int) + (j : Int)) / 2 := by rw [IntKind.wrap_i64]; omega
        have bi1 : i ≤ jN := by omega
        have bi2 : jN < j := by omega
        have bi3 : mid + m - 1 - (i + j) / 2 < sz := by omega
        clear ez
        obtain ⟨x, hx⟩ : ∃ x, x = d[mid + m - 1 - (i + j) / 2]! := ⟨_, rfl⟩
        obtain ⟨y, hy⟩ : ∃ x, x = d[(i + j) / 2]! := ⟨_, rfl⟩
        have hdd := HD.out
        have hss := HS.out
        have la := S1.out.cl R (by omega) (mid + m - 1 - (i + j) / 2) (by omega)
        have lb := S1.out.cl R (by omega) ((i + j) / 2) (by omega)
        rw [← hx, ← hiN] at la
        rw [← hy, ← hjN] at lb
        have hc := S1.out.cmp HC.out (by omega) x y
        have HX : Hid ((!ltOf cf d[mid + m - 1 - (i + j) / 2]! d[(i + j) / 2]!) = !decide (cf x y < 0)) := by show _ = _; rw [hx, hy]; rfl
        have HI : Hid (jN = (i + j) / 2) := hjN
        clear hx hy hiN hjN hdd hss bi3
        by_cases hcf : cf x y < 0
        · have hcd : decide (cf x y < 0) = true := decide_eq_true hcf
          go_wp2_with fail
          go_quiet_grown (first | (go_at_fn g; refine Calls.grown_of (hc _ _)))
          have S2 : Aside (SW enc w0 blk off d (grow (wr.drewN nq) osq)) := S1.out.grown nq osq
          clear la lb hc S1
          generalize grow (wr.drewN nq) osq = w2 at S2 ⊢
          clear nq osq eS ra ec
          go_wp2
          go_roundg k
          case measure => omega
          case rel =>
            have e1 := HI.out
            refine ⟨i, jN, rfl, ?_, hi, by omega, by omega, by omega, S2, ?_⟩
            · have := HZ.out; rw [e1]; congr 1
            · have h := heq.out
              rw [HSt.out, HX.out, hcd, if_neg (by simp)] at h
              rw [e1]; exact h
        · have hcd : decide (cf x y < 0) = false := decide_eq_false hcf
          go_wp2_with fail
          go_quiet_grown (first | (go_at_fn g; refine Calls.grown_of (hc _ _)))
          have S2 : Aside (SW enc w0 blk off d (grow (wr.drewN nq) osq)) := S1.out.grown nq osq
          clear la lb hc S1
          generalize grow (wr.drewN nq) osq = w2 at S2 ⊢
          clear nq osq eS ra ec
          go_wp2
          go_roundg k
          case measure => omega
          case rel =>
            have e1 := HI.out
            refine ⟨jN + 1, j, ?_, rfl, by omega, by omega, hj, by omega, S2, ?_⟩
            · have := HZ.out; rw [e1]; congr 1
            · have h := heq.out
              rw [HSt.out, HX.out, hcd, if_pos (by simp)] at h
              rw [e1]; exact h
      · have hltz : ¬ (i : Int) < (j : Int) := by omega
        have hbs : Hid (symStart (ltOf cf) a m b d = i) := by
          show _ = _
          rw [← heq.out]
          cases gk with
          | zero => rfl
          | succ k => rw [bs, if_neg hlt]
        clear heq
        obtain ⟨e, he⟩ : ∃ e : Nat, mid + m = i + e := ⟨mid + m - i, by omega⟩
        have HE : Hid (mid + m = i + e) := he
        have eE : (mid : Int) + (m : Int) - (i : Int) = (e : Int) := by omega
        have f1 : i ≤ mid := by omega
        have f2 : m ≤ e := by omega
        have f3 : mid ≤ e := by omega
        have f4 : e ≤ b := by omega
        have f5 : e + i ≤ mid + m := by omega
        have f6 : mid + m ≤ e + i := by omega
        clear he
        have rotC : ∀ (wx : World), Cur enc w0 blk off sz d wx → i < m → m < e → Calls Try.prog 84 #[.slice (some ⟨blk, off, none⟩) sz cap, .int .i64 i, .int .i64 m, .int .i64 e, .func (.func g) #[] cb] wx fun e' w' => e' = .returned (.tuple #[]) ∧ Cur enc w0 blk off sz (symRot m i e d) w' := by
          intro wx hc g1 g2
          refine (rotate_calls enc g cb blk off cap _ _ _ i m e sz d0 d w0 wx R HS.out hc.1 hc.2 rfl rfl rfl g1 g2 (by omega) hsz).mono ?_
          rintro e' w' ⟨rfl, hS⟩
          refine ⟨rfl, ?_, ?_⟩
          · rw [size_symRot]; exact hc.1
          · rw [symRot, if_pos ⟨g1, g2⟩]; exact hS
        have symC : ∀ (a' m' b' : Nat) (dd : Array α) (wx : World), Cur enc w0 blk off sz dd wx → a' < m' → m' < b' → b' ≤ sz → b' - a' ≤ k0 → Calls Try.prog 83 #[.slice (some ⟨blk, off, none⟩) sz cap, .int .i64 a', .int .i64 m', .int .i64 b', .func (.func g) #[] cb] wx fun e' w' => e' = .returned (.tuple #[]) ∧ Cur enc w0 blk off sz (symM (ltOf cf) k0 a' m' b' dd) w' := by
          intro a' m' b' dd wx hc g1 g2 g3 g4
          refine (IH.out a' m' b' dd wx hc.1 hc.2 g1 g2 g3 g4).mono ?_
          rintro e' w' ⟨rfl, hS⟩
          exact ⟨rfl, by rw [size_symM]; exact hc.1, hS⟩
        have RC : Aside _ := rotC
        have SC : Aside _ := symC
        clear rotC symC
        have C1 : Cur enc w0 blk off sz d wr := ⟨HD.out, S1.out⟩
        clear S1
        have fin : ∀ wx, (Cur enc w0 blk off sz (symM (ltOf cf) (k0 + 1) a m b d) wx) → SW enc w0 blk off (symM (ltOf cf) (k0 + 1) a m b d) wx := fun wx h => h.2
        have FIN : Aside _ := fin
        clear fin
        have HFF : Hid (symM (ltOf cf) (k0 + 1) a m b d = (fun d2 : Array α => if mid < e ∧ e < b then symM (ltOf cf) k0 mid e b d2 else d2) ((fun d1 : Array α => if a < i ∧ i < mid then symM (ltOf cf) k0 a i mid d1 else d1) (symRot m i e d))) := by
          show _ = _
          rw [HF.out, hbs.out, ← HMD.out]
          have e9 : mid + m - i = e := by have := HE.out; omega
          rw [e9]
        have RN : Aside (¬ (i < m ∧ m < e) → symRot m i e d = d) := fun h => by rw [symRot, if_neg h]
        go_wp2_with (first | (go_at_call 84; ((with_reducible refine (RC.out _ (by assumption) (by omega) (by omega)).mono ?_); rintro e' w1 ⟨rfl, C2⟩)) | (go_at_call 83; ((with_reducible refine (SC.out a i mid _ _ (by assumption) (by omega) (by omega) (by omega) (by omega)).mono ?_); rintro e' w2 ⟨rfl, C3⟩)) | (go_at_call 83; ((with_reducible refine (SC.out mid e b _ _ (by assumption) (by omega) (by omega) (by omega) (by omega)).mono ?_); rintro e' w3 ⟨rfl, C4⟩)))
        all_goals
          go_end0
          refine ⟨rfl, FIN.out _ ?_⟩
          rw [HFF.out]
          (try dsimp only)
          first | rw [if_pos (c := mid < e ∧ e < b) (by omega)] | rw [if_neg (c := mid < e ∧ e < b) (by omega)]
          first | rw [if_pos (c := a < i ∧ i < mid) (by omega)] | rw [if_neg (c := a < i ∧ i < mid) (by omega)]
          first | assumption | (rw [RN.out (by omega)]; assumption)
  · have d1 : ¬ (mid : Int) < (m : Int) := by omega
    go_wp2_with fail
    go_loopg [20, 21] (r0 - s0) (fun kx s20 s21 wr => ∃ (i j : Nat), s20 = .int .i64 i ∧ s21 = .int .i64 j ∧ s0 ≤ i ∧ i ≤ j ∧ j ≤ r0 ∧ j - i ≤ kx ∧ Aside (SW enc w0 blk off d wr) ∧ Hid (bs (fun c => !ltOf cf d[mid + m - 1 - c]! d[c]!) kx i j = symStart (ltOf cf) a m b d))
    case atStart =>
      exact ⟨s0, r0, (by rw [C2.out]), (by rw [C3.out]), by omega, by omega, by omega, by omega, S0, (show _ = _ from HBS.out.symm)⟩
    case round =>
      clear S0
      obtain ⟨i, j, rfl, rfl, hi, hij, hj, hk, S1, heq⟩ := hrel
      by_cases hlt : i < j
      · have hltz : (i : Int) < (j : Int) := by omega
        obtain ⟨k, rfl⟩ : ∃ q, gk = q + 1 := ⟨gk - 1, by omega⟩
        have step : bs (fun c => !ltOf cf d[mid + m - 1 - c]! d[c]!) (k + 1) i j = if (!ltOf cf d[mid + m - 1 - (i + j) / 2]! d[(i + j) / 2]!) then bs (fun c => !ltOf cf d[mid + m - 1 - c]! d[c]!) k ((i + j) / 2 + 1) j else bs (fun c => !ltOf cf d[mid + m - 1 - c]! d[c]!) k i ((i + j) / 2) := by
          rw [bs, if_pos hlt]
        have HSt : Hid _ := step
        clear step
        have ez : ((i : Int) + (j : Int)) / 2 = (((i + j) / 2 : Nat) : Int) := by omega
        have HZ : Hid (((i : Int) + (j : Int)) / 2 = (((i + j) / 2 : Nat) : Int)) := ez
        obtain ⟨iN, hiN⟩ : ∃ q, q = mid + m - 1 - (i + j) / 2 := ⟨_, rfl⟩
        obtain ⟨jN, hjN⟩ : ∃ q, q = (i + j) / 2 := ⟨_, rfl⟩
        have ra : IntKind.i64.wrap (iN : Int) = (iN : Int) := by rw [IntKind.wrap_i64]; omega
        have eS : (mid : Int) + (m : Int) - 1 - ((i : Int) + (j : Int)) / 2 = (iN : Int) := by omega
        have pa : (0 : Int) ≤ (iN : Int) := by omega
        have ba : (iN : Int) < (sz : Int) := by omega
        have ec : (((i : Int) + (j : Int)) / 2).toNat = jN := by omega
        have pc : (0 : Int) ≤ ((i : Int) + (j : Int)) / 2 := by omega
        have bc : ((i : Int) + (j : Int)) / 2 < (sz : Int) := by omega
        have rc : IntKind.i64.wrap (((i : Int) + (j : Int)) / 2) = ((i : Int) + (j : Int)) / 2 := by rw [IntKind.wrap_i64]; omega
        have bi1 : i ≤ jN := by omega
        have bi2 : jN < j := by omega
        have bi3 : mid + m - 1 - (i + j) / 2 < sz := by omega
        clear ez
        obtain ⟨x, hx⟩ : ∃ x, x = d[mid + m - 1 - (i + j) / 2]! := ⟨_, rfl⟩
        obtain ⟨y, hy⟩ : ∃ x, x = d[(i + j) / 2]! := ⟨_, rfl⟩
        have hdd := HD.out
        have hss := HS.out
        have la := S1.out.cl R (by omega) (mid + m - 1 - (i + j) / 2) (by omega)
        have lb := S1.out.cl R (by omega) ((i + j) / 2) (by omega)
        rw [← hx, ← hiN] at la
        rw [← hy, ← hjN] at lb
        have hc := S1.out.cmp HC.out (by omega) x y
        have HX : Hid ((!ltOf cf d[mid + m - 1 - (i + j) / 2]! d[(i + j) / 2]!) = !decide (cf x y < 0)) := by show _ = _; rw [hx, hy]; rfl
        have HI : Hid (jN = (i + j) / 2) := hjN
        clear hx hy hiN hjN hdd hss bi3
        by_cases hcf : cf x y < 0
        · have hcd : decide (cf x y < 0) = true := decide_eq_true hcf
          go_wp2_with fail
          go_quiet_grown (first | (go_at_fn g; refine Calls.grown_of (hc _ _)))
          have S2 : Aside (SW enc w0 blk off d (grow (wr.drewN nq) osq)) := S1.out.grown nq osq
          clear la lb hc S1
          generalize grow (wr.drewN nq) osq = w2 at S2 ⊢
          clear nq osq eS ra ec
          go_wp2
          go_roundg k
          case measure => omega
          case rel =>
            have e1 := HI.out
            refine ⟨i, jN, rfl, ?_, hi, by omega, by omega, by omega, S2, ?_⟩
            · have := HZ.out; rw [e1]; congr 1
            · have h := heq.out
              rw [HSt.out, HX.out, hcd, if_neg (by simp)] at h
              rw [e1]; exact h
        · have hcd : decide (cf x y < 0) = false := decide_eq_false hcf
          go_wp2_with fail
          go_quiet_grown (first | (go_at_fn g; refine Calls.grown_of (hc _ _)))
          have S2 : Aside (SW enc w0 blk off d (grow (wr.drewN nq) osq)) := S1.out.grown nq osq
          clear la lb hc S1
          generalize grow (wr.drewN nq) osq = w2 at S2 ⊢
          clear nq osq eS ra ec
          go_wp2
          go_roundg k
          case measure => omega
          case rel =>
            have e1 := HI.out
            refine ⟨jN + 1, j, ?_, rfl, by omega, by omega, hj, by omega, S2, ?_⟩
            · have := HZ.out; rw [e1]; congr 1
            · have h := heq.out
              rw [HSt.out, HX.out, hcd, if_pos (by simp)] at h
              rw [e1]; exact h
      · have hltz : ¬ (i : Int) < (j : Int) := by omega
        have hbs : Hid (symStart (ltOf cf) a m b d = i) := by
          show _ = _
          rw [← heq.out]
          cases gk with
          | zero => rfl
          | succ k => rw [bs, if_neg hlt]
        clear heq
        obtain ⟨e, he⟩ : ∃ e : Nat, mid + m = i + e := ⟨mid + m - i, by omega⟩
        have HE : Hid (mid + m = i + e) := he
        have eE : (mid : Int) + (m : Int) - (i : Int) = (e : Int) := by omega
        have f1 : i ≤ mid := by omega
        have f2 : m ≤ e := by omega
        have f3 : mid ≤ e := by omega
        have f4 : e ≤ b := by omega
        have f5 : e + i ≤ mid + m := by omega
        have f6 : mid + m ≤ e + i := by omega
        clear he
        have rotC : ∀ (wx : World), Cur enc w0 blk off sz d wx → i < m → m < e → Calls Try.prog 84 #[.slice (some ⟨blk, off, none⟩) sz cap, .int .i64 i, .int .i64 m, .int .i64 e, .func (.func g) #[] cb] wx fun e' w' => e' = .returned (.tuple #[]) ∧ Cur enc w0 blk off sz (symRot m i e d) w' := by
          intro wx hc g1 g2
          refine (rotate_calls enc g cb blk off cap _ _ _ i m e sz d0 d w0 wx R HS.out hc.1 hc.2 rfl rfl rfl g1 g2 (by omega) hsz).mono ?_
          rintro e' w' ⟨rfl, hS⟩
          refine ⟨rfl, ?_, ?_⟩
          · rw [size_symRot]; exact hc.1
          · rw [symRot, if_pos ⟨g1, g2⟩]; exact hS
        have symC : ∀ (a' m' b' : Nat) (dd : Array α) (wx : World), Cur enc w0 blk off sz dd wx → a' < m' → m' < b' → b' ≤ sz → b' - a' ≤ k0 → Calls Try.prog 83 #[.slice (some ⟨blk, off, none⟩) sz cap, .int .i64 a', .int .i64 m', .int .i64 b', .func (.func g) #[] cb] wx fun e' w' => e' = .returned (.tuple #[]) ∧ Cur enc w0 blk off sz (symM (ltOf cf) k0 a' m' b' dd) w' := by
          intro a' m' b' dd wx hc g1 g2 g3 g4
          refine (IH.out a' m' b' dd wx hc.1 hc.2 g1 g2 g3 g4).mono ?_
          rintro e' w' ⟨rfl, hS⟩
          exact ⟨rfl, by rw [size_symM]; exact hc.1, hS⟩
        have RC : Aside _ := rotC
        have SC : Aside _ := symC
        clear rotC symC
        have C1 : Cur enc w0 blk off sz d wr := ⟨HD.out, S1.out⟩
        clear S1
        have fin : ∀ wx, (Cur enc w0 blk off sz (symM (ltOf cf) (k0 + 1) a m b d) wx) → SW enc w0 blk off (symM (ltOf cf) (k0 + 1) a m b d) wx := fun wx h => h.2
        have FIN : Aside _ := fin
        clear fin
        have HFF : Hid (symM (ltOf cf) (k0 + 1) a m b d = (fun d2 : Array α => if mid < e ∧ e < b then symM (ltOf cf) k0 mid e b d2 else d2) ((fun d1 : Array α => if a < i ∧ i < mid then symM (ltOf cf) k0 a i mid d1 else d1) (symRot m i e d))) := by
          show _ = _
          rw [HF.out, hbs.out, ← HMD.out]
          have e9 : mid + m - i = e := by have := HE.out; omega
          rw [e9]
        have RN : Aside (¬ (i < m ∧ m < e) → symRot m i e d = d) := fun h => by rw [symRot, if_neg h]
        go_wp2_with (first | (go_at_call 84; ((with_reducible refine (RC.out _ (by assumption) (by omega) (by omega)).mono ?_); rintro e' w1 ⟨rfl, C2⟩)) | (go_at_call 83; ((with_reducible refine (SC.out a i mid _ _ (by assumption) (by omega) (by omega) (by omega) (by omega)).mono ?_); rintro e' w2 ⟨rfl, C3⟩)) | (go_at_call 83; ((with_reducible refine (SC.out mid e b _ _ (by assumption) (by omega) (by omega) (by omega) (by omega)).mono ?_); rintro e' w3 ⟨rfl, C4⟩)))
        all_goals
          go_end0
          refine ⟨rfl, FIN.out _ ?_⟩
          rw [HFF.out]
          (try dsimp only)
          first | rw [if_pos (c := mid < e ∧ e < b) (by omega)] | rw [if_neg (c := mid < e ∧ e < b) (by omega)]
          first | rw [if_pos (c := a < i ∧ i < mid) (by omega)] | rw [if_neg (c := a < i ∧ i < mid) (by omega)]
          first | assumption | (rw [RN.out (by omega)]; assumption)

/-- slices.symMergeCmpFunc: what it leaves is 'symM'. -/
theorem symMerge_calls {α : Type} [Inhabited α] (enc : α → Value) (cf : α → α → Int) (g : Nat) (cb : Array Value) (blk off cap sz : Nat) (d0 : Array α) (w0 : World)
    (eg : ∀ args w, (callFunc g args).run Try.prog w = .ok (.enter g args) w) (hcmp : CmpLays1 Try.prog g cb enc cf blk off sz w0)
    (R : Row1 enc w0 blk off d0) (hs : d0.size = sz) (hsz : sz < 4611686018427387904) (k : Nat) :
    ∀ (a m b : Nat) (d : Array α) (w : World), d.size = sz → SW enc w0 blk off d w → a < m → m < b → b ≤ sz → b - a ≤ k →
      Calls Try.prog 83 #[.slice (some ⟨blk, off, none⟩) sz cap, .int .i64 a, .int .i64 m, .int .i64 b, .func (.func g) #[] cb] w fun e w' => e = .returned (.tuple #[]) ∧ SW enc w0 blk off (symM (ltOf cf) k a m b d) w' := by
  induction k with
  | zero => intro a m b d w _ _ h1 h2 _ h3; omega
  | succ k ih =>
    intro a m b d w hd hS ham hmb hb hk
    by_cases h1 : m = a + 1
    · refine (symOne_calls enc cf g cb blk off cap _ _ _ a m b sz d0 d w0 w eg hcmp R hs hd hS rfl rfl rfl h1 hmb hb hsz).mono ?_
      rintro e w' ⟨rfl, h⟩
      exact ⟨rfl, by rw [symM, if_pos h1]; exact h⟩
    · by_cases h2 : b = m + 1
      · refine (symLast_calls enc cf g cb blk off cap _ _ _ a m b sz d0 d w0 w eg hcmp R hs hd hS rfl rfl rfl (by omega) h2 hb hsz).mono ?_
        rintro e w' ⟨rfl, h⟩
        exact ⟨rfl, by rw [symM, if_neg h1, if_pos h2]; exact h⟩
      · exact symMore_calls enc cf g cb blk off cap k _ _ _ a m b sz d0 d w0 w eg hcmp ih R hs hd hS rfl rfl rfl (by omega) (by omega) hb hk hsz

end Go.Proofs.Ythgijppajindpaa

namespace Go.Proofs.Ythgijppajindpaa
open Go.Shelf Go.RowKit Go.Lib Go.Sort

section
variable {α : Type} [Inhabited α]

def stIns (lt : α → α → Bool) (n : Nat) : Nat → Nat → Array α → Array α
  | 0, a, d => insertionSort lt d a n
  | k + 1, a, d => if a + 20 ≤ n then stIns lt n k (a + 20) (insertionSort lt d a (a + 20)) else insertionSort lt d a n

def stPass (lt : α → α → Bool) (n bs : Nat) : Nat → Nat → Array α → Array α
  | 0, a, d => if a + bs < n then symM lt n a (a + bs) n d else d
  | k + 1, a, d => if a + 2 * bs ≤ n then stPass lt n bs k (a + 2 * bs) (symM lt n a (a + bs) (a + 2 * bs) d) else (if a + bs < n then symM lt n a (a + bs) n d else d)

def stLoop (lt : α → α → Bool) (n : Nat) : Nat → Nat → Array α → Array α
  | 0, _, d => d
  | k + 1, bs, d => if bs < n then stLoop lt n k (2 * bs) (stPass lt n bs n 0 d) else d

def stable (lt : α → α → Bool) (n : Nat) (d : Array α) : Array α := stLoop lt n n 20 (stIns lt n n 0 d)

theorem size_insertion (lt : α → α → Bool) (d : Array α) (a b : Nat) : (insertionSort lt d a b).size = d.size := by
  have inner : ∀ (j : Nat) (d : Array α), (insInner lt a j d).size = d.size := by
    intro j
    induction j with
    | zero => intro d; rfl
    | succ j ih =>
      intro d
      rw [insInner]
      split
      · rw [ih, size_swp]
      · rfl
  have outer : ∀ (k i : Nat) (d : Array α), b - i ≤ k → (insOuter lt a b i d).size = d.size := by
    intro k
    induction k with
    | zero =>
      intro i d h
      rw [insOuter, if_neg (by omega)]
    | succ k ih =>
      intro i d h
      rw [insOuter]
      split
      · rw [ih _ _ (by omega), inner]
      · rfl
  exact outer _ _ _ (Nat.le_refl _)
end

/-- What the whole sort is told, once. -/
structure Told {α : Type} [Inhabited α] (enc : α → Value) (cf : α → α → Int) (g : Nat) (cb : Array Value) (blk off sz : Nat) (d0 : Array α) (w0 : World) : Prop where
  eg : ∀ args w, (callFunc g args).run Try.prog w = .ok (.enter g args) w
  hcmp : CmpLays1 Try.prog g cb enc cf blk off sz w0
  R : Row1 enc w0 blk off d0
  hs : d0.size = sz
  hsz : sz < 1152921504606846976

theorem ins_calls {α : Type} [Inhabited α] {enc : α → Value} {cf : α → α → Int} {g : Nat} {cb : Array Value} {blk off sz : Nat} {d0 : Array α} {w0 : World} (T : Told enc cf g cb blk off sz d0 w0)
    (cap a b : Nat) (A B : Int) (d : Array α) (w : World) (hA : A = (a : Int)) (hB : B = (b : Int)) (hc : Cur enc w0 blk off sz d w) (hab : a ≤ b) (hb : b ≤ sz) :
    Calls Try.prog 82 #[.slice (some ⟨blk, off, none⟩) sz cap, .int .i64 A, .int .i64 B, .func (.func g) #[] cb] w fun e w' => e = .returned (.tuple #[]) ∧ Cur enc w0 blk off sz (insertionSort (ltOf cf) d a b) w' := by
  obtain ⟨hd, hS⟩ := hc
  have hs := T.hs
  have hsz := T.hsz
  subst hA hB hd
  refine (Any.insertionSortCmpFunc_s Try.layIns enc cf g cb blk off cap a b d0 d w0 w T.eg (by rw [hs]; exact T.hcmp) T.R hs hS hab hb (by omega)).mono ?_
  rintro e w' ⟨rfl, h⟩
  exact ⟨rfl, size_insertion _ _ _ _, h⟩

theorem sym_calls {α : Type} [Inhabited α] {enc : α → Value} {cf : α → α → Int} {g : Nat} {cb : Array Value} {blk off sz : Nat} {d0 : Array α} {w0 : World} (T : Told enc cf g cb blk off sz d0 w0)
    (cap k a m b : Nat) (A M B : Int) (d : Array α) (w : World) (hA : A = (a : Int)) (hM : M = (m : Int)) (hB : B = (b : Int)) (hc : Cur enc w0 blk off sz d w) (ham : a < m) (hmb : m < b) (hb : b ≤ sz) (hk : b - a ≤ k) :
    Calls Try.prog 83 #[.slice (some ⟨blk, off, none⟩) sz cap, .int .i64 A, .int .i64 M, .int .i64 B, .func (.func g) #[] cb] w fun e w' => e = .returned (.tuple #[]) ∧ Cur enc w0 blk off sz (symM (ltOf cf) k a m b d) w' := by
  obtain ⟨hd, hS⟩ := hc
  have hsz := T.hsz
  subst hA hM hB
  refine (symMerge_calls enc cf g cb blk off cap sz d0 w0 T.eg T.hcmp T.R T.hs (by omega) k a m b d w hd hS ham hmb hb hk).mono ?_
  rintro e w' ⟨rfl, h⟩
  exact ⟨rfl, by rw [size_symM]; exact hd, h⟩

set_option maxHeartbeats 4000000 in
set_option maxRecDepth 1000000 in
theorem stable_calls {α : Type} [Inhabited α] {enc : α → Value} {cf : α → α → Int} {g : Nat} {cb : Array Value} {blk off sz : Nat} {d0 : Array α} {w0 : World} (T : Told enc cf g cb blk off sz d0 w0)
    (cap : Nat) (d : Array α) (w : World) (hc : Cur enc w0 blk off sz d w) :
    Calls Try.prog 80 #[.slice (some ⟨blk, off, none⟩) sz cap, .int .i64 sz, .func (.func g) #[] cb] w fun e w' => e = .returned (.tuple #[]) ∧ Cur enc w0 blk off sz (stable (ltOf cf) sz d) w' := by
  have hsz := T.hsz
  go_enter Try.func80, Try.ntmps80
  go_wp2_with fail
  go_loopg [7, 8] sz (fun kx s7 s8 wr => ∃ (a : Nat) (dk : Array α), s7 = .int .i64 a ∧ s8 = .int .i64 ((a : Int) + 20) ∧ a ≤ sz ∧ sz - a ≤ kx ∧ Cur enc w0 blk off sz dk wr ∧ Hid (stIns (ltOf cf) sz kx a dk = stIns (ltOf cf) sz sz 0 d))
  case atStart => exact ⟨0, d, rfl, rfl, by omega, by omega, hc, rfl⟩
  case round =>
    clear hc
    obtain ⟨a, dk, rfl, rfl, ha, hk, C1, heq⟩ := hrel
    by_cases hlt : a + 20 ≤ sz
    · have hltz : (a : Int) + 20 ≤ (sz : Int) := by omega
      obtain ⟨k, rfl⟩ : ∃ q, gk = q + 1 := ⟨gk - 1, by omega⟩
      go_wp2_with (go_at_call 82; ((with_reducible refine (ins_calls T cap a (a + 20) _ _ dk _ rfl (by omega) C1 (by omega) hlt).mono ?_); rintro e w1 ⟨rfl, C2⟩))
      go_roundg k
      case measure => omega
      case rel =>
        refine ⟨a + 20, _, by go_num, by go_num, hlt, by omega, C2, ?_⟩
        have h := heq.out
        rw [stIns, if_pos hlt] at h
        exact h
    · have hltz : ¬ (a : Int) + 20 ≤ (sz : Int) := by omega
      go_wp2_with (go_at_call 82; ((with_reducible refine (ins_calls T cap a sz _ _ dk _ rfl rfl C1 ha (by omega)).mono ?_); rintro e w1 ⟨rfl, C2⟩))
      have HI : Hid (insertionSort (ltOf cf) dk a sz = stIns (ltOf cf) sz sz 0 d) := by
        show _ = _
        rw [← heq.out]
        cases gk with
        | zero => rfl
        | succ k => rw [stIns, if_neg hlt]
      obtain ⟨d1, hd1⟩ : ∃ q, q = stIns (ltOf cf) sz sz 0 d := ⟨_, rfl⟩
      have C3 : Cur enc w0 blk off sz d1 w1 := by rw [hd1, ← HI.out]; exact C2
      have HD1 : Hid (d1 = stIns (ltOf cf) sz sz 0 d) := hd1
      clear C1 C2 hd1 HI heq
      go_loopg [6] sz (fun kx s6 wr => ∃ (bs : Nat) (dk : Array α), s6 = .int .i64 bs ∧ 1 ≤ bs ∧ bs ≤ 2 * sz + 40 ∧ sz - bs ≤ kx ∧ Cur enc w0 blk off sz dk wr ∧ Hid (stLoop (ltOf cf) sz kx bs dk = stLoop (ltOf cf) sz sz 20 d1))
      case atStart => exact ⟨20, d1, rfl, by omega, by omega, by omega, C3, rfl⟩
      case round =>
        clear C3
        obtain ⟨bs, dk, rfl, hb1, hb2, hk2, C1, heq⟩ := hrel
        by_cases hlt2 : bs < sz
        · have hltz2 : (bs : Int) < (sz : Int) := by omega
          obtain ⟨k, rfl⟩ : ∃ q, gk = q + 1 := ⟨gk - 1, by omega⟩
          go_wp2_with fail
          go_loopg [7, 8] sz (fun kx s7 s8 wr => ∃ (a : Nat) (dj : Array α), s7 = .int .i64 a ∧ s8 = .int .i64 ((a : Int) + 2 * (bs : Int)) ∧ a ≤ sz ∧ sz - a ≤ kx ∧ Cur enc w0 blk off sz dj wr ∧ Hid (stPass (ltOf cf) sz bs kx a dj = stPass (ltOf cf) sz bs sz 0 dk))
          case atStart => exact ⟨0, dk, rfl, by simp, by omega, by omega, C1, rfl⟩
          case round =>
            clear C1
            obtain ⟨a, dj, rfl, rfl, ha, hk3, C1, heq3⟩ := hrel
            by_cases hlt3 : a + 2 * bs ≤ sz
            · have hltz3 : (a : Int) + 2 * (bs : Int) ≤ (sz : Int) := by omega
              obtain ⟨k', rfl⟩ : ∃ q, gk = q + 1 := ⟨gk - 1, by omega⟩
              go_wp2_with (go_at_call 83; ((with_reducible refine (sym_calls T cap sz a (a + bs) (a + 2 * bs) _ _ _ dj _ rfl (by omega) (by omega) C1 (by omega) (by omega) hlt3 (by omega)).mono ?_); rintro e w2 ⟨rfl, C2⟩))
              go_roundg k'
              case measure => omega
              case rel =>
                refine ⟨a + 2 * bs, _, by first | (congr 1; done) | (congr 1; omega), by first | (congr 1; done) | (congr 1; omega), hlt3, by omega, C2, ?_⟩
                have h := heq3.out
                rw [stPass, if_pos hlt3] at h
                exact h
            · have hltz3 : ¬ (a : Int) + 2 * (bs : Int) ≤ (sz : Int) := by omega
              have HP : Hid ((if a + bs < sz then symM (ltOf cf) sz a (a + bs) sz dj else dj) = stPass (ltOf cf) sz bs sz 0 dk) := by
                show _ = _
                rw [← heq3.out]
                cases gk with
                | zero => rfl
                | succ k => rw [stPass, if_neg hlt3]
              go_wp2_with (go_at_call 83; ((with_reducible refine (sym_calls T cap sz a (a + bs) sz _ _ _ dj _ rfl (by omega) rfl C1 (by omega) (by omega) (Nat.le_refl _) (by omega)).mono ?_); rintro e w2 ⟨rfl, C2⟩))
              all_goals
                go_roundg k
                case measure => omega
                case rel =>
                  refine ⟨2 * bs, stPass (ltOf cf) sz bs sz 0 dk, by first | rfl | (congr 1; omega), by omega, by omega, by omega, ?_, ?_⟩
                  · rw [← HP.out]
                    first
                      | (rw [if_pos (by omega)]; exact C2)
                      | (rw [if_neg (by omega)]; exact C1)
                  · have h := heq.out
                    rw [stLoop, if_pos hlt2] at h
                    exact h
        · have hltz2 : ¬ (bs : Int) < (sz : Int) := by omega
          go_wp2_with fail
          go_end0
          refine ⟨rfl, ?_⟩
          have h := heq.out
          have e0 : stLoop (ltOf cf) sz gk bs dk = dk := by
            cases gk with
            | zero => rfl
            | succ k => rw [stLoop, if_neg hlt2]
          rw [e0, HD1.out] at h
          rw [stable, ← h]
          exact C1

/-- slices.SortStableFunc. -/
theorem sortStable_calls {α : Type} [Inhabited α] {enc : α → Value} {cf : α → α → Int} {g : Nat} {cb : Array Value} {blk off sz : Nat} {d0 : Array α} {w0 : World} (T : Told enc cf g cb blk off sz d0 w0)
    (cap : Nat) (d : Array α) (w : World) (hc : Cur enc w0 blk off sz d w) :
    Calls Try.prog 62 #[.slice (some ⟨blk, off, none⟩) sz cap, .func (.func g) #[] cb] w fun e w' => e = .returned (.tuple #[]) ∧ Cur enc w0 blk off sz (stable (ltOf cf) sz d) w' := by
  have hsz := T.hsz
  go_enter Try.func62, Try.ntmps62
  go_wp2_with (go_at_call 80; ((with_reducible refine (stable_calls T cap d _ hc).mono ?_); rintro e w1 ⟨rfl, C2⟩))
  go_end0
  exact ⟨rfl, C2⟩

theorem ins_none (p : Option Addr) (n cap : Nat) (f : Value) (w : World) :
    Calls Try.prog 82 #[.slice p n cap, .int .i64 0, .int .i64 0, f] w fun e w' => e = .returned (.tuple #[]) ∧ w = w' := by
  go_enter Try.func82, Try.ntmps82
  go_wp2_with fail
  refine wp_loop_rounds 1 ?_
  rw [rounds_succ]
  go_wp2
  go_end0
  exact ⟨rfl, rfl⟩

theorem stable_none (p : Option Addr) (n cap : Nat) (f : Value) (w : World) :
    Calls Try.prog 80 #[.slice p n cap, .int .i64 0, f] w fun e w' => e = .returned (.tuple #[]) ∧ w = w' := by
  go_enter Try.func80, Try.ntmps80
  go_wp2_with fail
  refine wp_loop_rounds 1 ?_
  rw [rounds_succ]
  go_wp2_with (go_at_call 82; ((with_reducible refine (ins_none p n cap f _).mono ?_); rintro e w1 ⟨rfl, rfl⟩))
  refine wp_loop_rounds 1 ?_
  rw [rounds_succ]
  go_wp2_with fail
  go_end0
  exact ⟨rfl, rfl⟩

/-- slices.SortStableFunc of no element. -/
theorem sortStable_none (p : Option Addr) (cap : Nat) (f : Value) (w : World) :
    Calls Try.prog 62 #[.slice p 0 cap, f] w fun e w' => e = .returned (.tuple #[]) ∧ w = w' := by
  go_enter Try.func62, Try.ntmps62
  go_wp2_with (go_at_call 80; ((with_reducible refine (stable_none _ _ _ _ _).mono ?_); rintro e w1 ⟨rfl, rfl⟩))
  go_end0
  exact ⟨rfl, rfl⟩

end Go.Proofs.Ythgijppajindpaa
