/-
  slices.symMergeCmpFunc at *prefix.node, where the first run is one element: what it leaves is the plain function.
-/
import Derived.Test.YthgijppajindpaaStb1
namespace Go.Proofs.Ythgijppajindpaa
open Go.Shelf Go.RowKit Go.Lib Go.Sort

/-- The binary search of all three loops: the lowest place from i on at which p says no. -/
def bs (p : Nat → Bool) : Nat → Nat → Nat → Nat
  | 0, i, _ => i
  | k + 1, i, j => if i < j then (if p ((i + j) / 2) then bs p k ((i + j) / 2 + 1) j else bs p k i ((i + j) / 2)) else i

/-- 'for k := k; k < e; k++ { swap k, k+1 }'. -/
def upLoop {α : Type} [Inhabited α] (k e : Nat) (d : Array α) : Array α :=
  if k < e then upLoop (k + 1) e (swp d k (k + 1)) else d
termination_by e - k

/-- 'for k := k; k > i; k-- { swap k, k-1 }'. -/
def downLoop {α : Type} [Inhabited α] (i : Nat) : Nat → Array α → Array α
  | 0, d => d
  | k + 1, d => if i < k + 1 then downLoop i k (swp d (k + 1) k) else d

theorem Try.mixed : Try.prog.follows .mixedOrders = true := by kernel_rfl

set_option maxHeartbeats 4000000 in
set_option maxRecDepth 1000000 in
theorem symOne_calls {α : Type} [Inhabited α] (enc : α → Value) (cf : α → α → Int) (g : Nat) (cb : Array Value) (blk off cap : Nat) (A M B : Int) (a m b sz : Nat) (d0 d : Array α) (w0 w : World)
    (eg : ∀ args w, (callFunc g args).run Try.prog w = .ok (.enter g args) w) (hcmp : CmpLays1 Try.prog g cb enc cf blk off sz w0)
    (R : Row1 enc w0 blk off d0) (hs : d0.size = sz) (hd : d.size = sz) (S : SW enc w0 blk off d w) (hA : A = (a : Int)) (hM : M = (m : Int)) (hB : B = (b : Int)) (ham : m = a + 1) (hmb : m < b) (hb : b ≤ sz) (hsz : sz < 4611686018427387904) :
    Calls Try.prog 83 #[.slice (some ⟨blk, off, none⟩) sz cap, .int .i64 A, .int .i64 M, .int .i64 B, .func (.func g) #[] cb] w fun e w' => e = .returned (.tuple #[]) ∧ SW enc w0 blk off (upLoop a (bs (fun h => ltOf cf d[h]! d[a]!) (b - m) m b - 1) d) w' := by
  subst hA hM hB
  have S0 : Aside (SW enc w0 blk off d w) := S
  clear S
  have HD : Hid (d.size = sz) := hd; clear hd
  have HS : Hid (d0.size = sz) := hs; clear hs
  have HC : Aside (CmpLays1 Try.prog g cb enc cf blk off sz w0) := hcmp
  clear hcmp
  have h1 : ((m : Int) - (a : Int) == 1) = true := by rw [beq_iff_eq]; omega
  have HM : Hid (m = a + 1) := ham; clear ham
  have ham1 : a < m := by have := HM.out; omega
  have mixed := Try.mixed
  go_enter Try.func83, Try.ntmps83
  go_wp2_with fail
  go_loopg [10, 11] (b - m) (fun kx s10 s11 wr => ∃ (i j : Nat), s10 = .int .i64 i ∧ s11 = .int .i64 j ∧ m ≤ i ∧ i ≤ j ∧ j ≤ b ∧ j - i ≤ kx ∧ Aside (SW enc w0 blk off d wr) ∧ Hid (bs (fun h => ltOf cf d[h]! d[a]!) kx i j = bs (fun h => ltOf cf d[h]! d[a]!) (b - m) m b))
  case atStart =>
    exact ⟨m, b, rfl, rfl, by omega, by omega, by omega, by omega, S0, rfl⟩
  case round =>
    clear S0
    obtain ⟨i, j, rfl, rfl, hi, hij, hj, hk, S1, heq⟩ := hrel
    by_cases hlt : i < j
    · have hltz : (i : Int) < (j : Int) := by omega
      obtain ⟨k, rfl⟩ : ∃ q, gk = q + 1 := ⟨gk - 1, by omega⟩
      have step : bs (fun h => ltOf cf d[h]! d[a]!) (k + 1) i j = if ltOf cf d[(i + j) / 2]! d[a]! then bs (fun h => ltOf cf d[h]! d[a]!) k ((i + j) / 2 + 1) j else bs (fun h => ltOf cf d[h]! d[a]!) k i ((i + j) / 2) := by
        rw [bs, if_pos hlt]
      have HSt : Hid _ := step
      clear step
      have ez : ((i : Int) + (j : Int)) / 2 = (((i + j) / 2 : Nat) : Int) := by omega
      have HZ : Hid (((i : Int) + (j : Int)) / 2 = (((i + j) / 2 : Nat) : Int)) := ez
      obtain ⟨iN, hiN⟩ : ∃ q, q = (i + j) / 2 := ⟨_, rfl⟩
      obtain ⟨jN, hjN⟩ : ∃ q, q = a := ⟨_, rfl⟩
      have ea : (((i : Int) + (j : Int)) / 2).toNat = iN := by omega
      have pa : (0 : Int) ≤ ((i : Int) + (j : Int)) / 2 := by omega
      have ba : ((i : Int) + (j : Int)) / 2 < (sz : Int) := by omega
      have ra : IntKind.i64.wrap (((i : Int) + (j : Int)) / 2) = ((i : Int) + (j : Int)) / 2 := by rw [IntKind.wrap_i64]; omega
      have ec : ((a : Int)).toNat = jN := by omega
      have pc : (0 : Int) ≤ (a : Int) := by omega
      have bc : (a : Int) < (sz : Int) := by omega
      have bi1 : i ≤ iN := by omega
      have bi2 : iN < j := by omega
      clear ez
      obtain ⟨x, hx⟩ : ∃ x, x = d[(i + j) / 2]! := ⟨_, rfl⟩
      obtain ⟨y, hy⟩ : ∃ x, x = d[a]! := ⟨_, rfl⟩
      have hdd := HD.out
      have hss := HS.out
      have la := S1.out.cl R (by omega) ((i + j) / 2) (by omega)
      have lb := S1.out.cl R (by omega) a (by omega)
      rw [← hx, ← hiN] at la
      rw [← hy, ← hjN] at lb
      have hc := S1.out.cmp HC.out (by omega) x y
      have HX : Hid (ltOf cf d[(i + j) / 2]! d[a]! = decide (cf x y < 0)) := by show _ = _; rw [hx, hy]; rfl
      have HI : Hid (iN = (i + j) / 2) := hiN
      clear hx hy hiN hjN hdd hss
      by_cases hcf : cf x y < 0
      · have hcd : decide (cf x y < 0) = true := decide_eq_true hcf
        go_wp2_with fail
        go_quiet_grown (first | (go_at_fn g; refine Calls.grown_of (hc _ _)))
        have S2 : Aside (SW enc w0 blk off d (grow (wr.drewN nq) osq)) := S1.out.grown nq osq
        clear la lb hc S1
        generalize grow (wr.drewN nq) osq = w2 at S2 ⊢
        clear nq osq ea ec
        go_wp2
        go_roundg k
        case measure => omega
        case rel =>
          have e1 := HI.out
          refine ⟨iN + 1, j, ?_, rfl, by omega, by omega, hj, by omega, S2, ?_⟩
          · have := HZ.out; rw [e1]; congr 1
          · have h := heq.out
            rw [HSt.out, HX.out, hcd, if_pos rfl] at h
            rw [e1]; exact h
      · have hcd : decide (cf x y < 0) = false := decide_eq_false hcf
        go_wp2_with fail
        go_quiet_grown (first | (go_at_fn g; refine Calls.grown_of (hc _ _)))
        have S2 : Aside (SW enc w0 blk off d (grow (wr.drewN nq) osq)) := S1.out.grown nq osq
        clear la lb hc S1
        generalize grow (wr.drewN nq) osq = w2 at S2 ⊢
        clear nq osq ea ec
        go_wp2
        go_roundg k
        case measure => omega
        case rel =>
          have e1 := HI.out
          refine ⟨i, iN, rfl, ?_, hi, by omega, by omega, by omega, S2, ?_⟩
          · have := HZ.out; rw [e1]; congr 1
          · have h := heq.out
            rw [HSt.out, HX.out, hcd, if_neg (by simp)] at h
            rw [e1]; exact h
    · have hltz : ¬ (i : Int) < (j : Int) := by omega
      have hbs : Hid (i = bs (fun h => ltOf cf d[h]! d[a]!) (b - m) m b) := by
        show _ = _
        rw [← heq.out]
        cases gk with
        | zero => rfl
        | succ k => rw [bs, if_neg hlt]
      clear heq
      go_wp2_with fail
      go_loopg [13] (i - a) (fun kx s13 wr => ∃ (k : Nat) (dk : Array α), s13 = .int .i64 k ∧ a ≤ k ∧ k ≤ i ∧ i - k ≤ kx ∧ Hid (dk.size = sz) ∧ Aside (SW enc w0 blk off dk wr) ∧ Hid (upLoop k (i - 1) dk = upLoop a (i - 1) d))
      case atStart => exact ⟨a, d, rfl, by omega, by omega, by omega, HD, S1, rfl⟩
      case round =>
        clear S1
        obtain ⟨k, dk, rfl, hak, hki, hkx, hds, S1, heq⟩ := hrel
        by_cases hlt2 : k < i - 1
        · have hltz2 : (k : Int) < (i : Int) - 1 := by omega
          go_wp2_with fail
          obtain ⟨iN, hiN⟩ : ∃ q, q = k := ⟨_, rfl⟩
          obtain ⟨jN, hjN⟩ : ∃ q, q = k + 1 := ⟨_, rfl⟩
          have ea : ((k : Int)).toNat = iN := by omega
          have pa : (0 : Int) ≤ (k : Int) := by omega
          have ba : (k : Int) < (sz : Int) := by omega
          have ec : ((k : Int) + 1).toNat = jN := by omega
          have pc : (0 : Int) ≤ (k : Int) + 1 := by omega
          have bc : (k : Int) + 1 < (sz : Int) := by omega
          have rc : IntKind.i64.wrap ((k : Int) + 1) = (k : Int) + 1 := by rw [IntKind.wrap_i64]; omega
          obtain ⟨x, hx⟩ : ∃ x, x = dk[k]! := ⟨_, rfl⟩
          obtain ⟨y, hy⟩ : ∃ x, x = dk[k + 1]! := ⟨_, rfl⟩
          have hdd := hds.out
          have hss := HS.out
          have S2 : Aside (SW enc w0 blk off (swp dk k (k + 1)) ((wr.setCell ⟨blk, off + iN, none⟩ (enc y)).setCell ⟨blk, off + jN, none⟩ (enc x)).drew) := by rw [hiN, hjN, hx, hy]; exact S1.out.swapped R k (k + 1) (by omega) (by omega)
          have ca := S1.out.c1 R (by omega) k (by omega)
          have cb' := S1.out.c1 R (by omega) (k + 1) (by omega)
          have fa := S1.out.f1 R (by omega) k (by omega)
          have fb := S1.out.f1 R (by omega) (k + 1) (by omega)
          obtain ⟨u, cc⟩ := S1.out.c2 R (by omega) k (k + 1) (by omega) (by omega) (enc y)
          rw [← hjN, ← hiN] at cc
          rw [← hx, ← hiN] at ca
          rw [← hy, ← hjN] at cb'
          rw [← hiN] at fa
          rw [← hjN] at fb
          clear S1 hx hy hiN hjN hdd hss
          have hcl0 := R.hO.cells
          simp only [Value.cells] at hcl0
          have hst := R.hO.store Try.prog
          go_wp2_with fail
          go_region
          clear ca cb' cc fa fb hcl0 hst
          generalize ((wr.setCell ⟨blk, off + iN, none⟩ (enc y)).setCell ⟨blk, off + jN, none⟩ (enc x)).drew = w2 at S2 ⊢
          clear ea ec
          go_wp2
          go_roundg (i - (k + 1))
          case measure => omega
          case rel =>
            exact ⟨k + 1, swp dk k (k + 1), by go_num, by omega, by omega, by omega, (show _ = _ by rw [size_swp]; exact hds.out), S2, (show Hid _ from by
              have h := heq.out
              rw [upLoop, if_pos hlt2] at h
              exact h)⟩
        · have hltz2 : ¬ (k : Int) < (i : Int) - 1 := by omega
          go_wp2
          refine bodyPost_ret (results_none rfl _ _ _) rfl ?_
          refine ⟨rfl, ?_⟩
          have h := heq.out
          rw [upLoop, if_neg hlt2] at h
          rw [← hbs.out, ← h]
          exact S1.out

end Go.Proofs.Ythgijppajindpaa
