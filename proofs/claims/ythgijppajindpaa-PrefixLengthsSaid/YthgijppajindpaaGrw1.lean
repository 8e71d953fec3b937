/-
  prefix.grown's two closures: the comparison, and the lightest tree's taking.
-/
import Derived.Test.YthgijppajindpaaProg
import Derived.WalkKit
import Derived.BigQuiet
import Derived.Deep.QuietTactic
import Derived.Deep.LoopGhost
import Derived.Deep.Draws
set_option linter.unusedVariables false
set_option linter.unusedSimpArgs false
namespace Go.Proofs.Ythgijppajindpaa
open Go.RowKit

set_option maxHeartbeats 1000000 in
theorem cmp_calls (b1 b2 : Nat) (x y : Int) (W : World) (h1 : W.cell? ⟨b1, 0, none⟩ = some (.int .i64 x)) (h2 : W.cell? ⟨b2, 0, none⟩ = some (.int .i64 y))
    (x0 : 0 ≤ x) (x1 : x ≤ 1099511627776) (y0 : 0 ≤ y) (y1 : y ≤ 1099511627776) :
    Calls Try.prog 63 #[.pointer (some ⟨b1, 0, none⟩), .pointer (some ⟨b2, 0, none⟩)] W fun e w' => e = .returned (.int .i64 (x - y)) ∧ ∃ q, w' = W.drewN q := by
  have hw : IntKind.i64.wrap (x - y) = x - y := by rw [IntKind.wrap_i64]; omega
  go_enter Try.func63, Try.ntmps63
  go_wp2
  go_quiet (fail)
  go_wp2
  go_ret
  exact ⟨rfl, nq, rfl⟩

/-- A queue's variable holds what is behind its first element. -/
def Popped (W w' : World) (B g off n c : Nat) : Prop := ∃ A' q, w' = (W.setCell ⟨B, 0, none⟩ (.slice A' n (c - 1))).drewN q ∧ A' = if c = 1 then some ⟨g, off, none⟩ else some ⟨g, off + 1, none⟩

set_option maxHeartbeats 1000000 in
/-- No pair: the first leaf goes. -/
theorem light1_calls (Bp Bl : Nat) (Ap : Option Addr) (cp : Nat) (g off n c t : Nat) (W : World) (hne : Bl ≠ g)
    (hp : W.cell? ⟨Bp, 0, none⟩ = some (.slice Ap 0 cp)) (hl : W.cell? ⟨Bl, 0, none⟩ = some (.slice (some ⟨g, off, none⟩) (n + 1) c)) (hf : W.frozen? ⟨Bl, 0, none⟩ = false)
    (hx : W.cell? ⟨g, off, none⟩ = some (.pointer (some ⟨t, 0, none⟩))) (hc : n + 1 ≤ c) (hm : c ≤ 9223372036854775807) :
    Calls Try.prog 64 #[.pointer (some ⟨Bp, 0, none⟩), .pointer (some ⟨Bl, 0, none⟩)] W fun e w' => e = .returned (.pointer (some ⟨t, 0, none⟩)) ∧ Popped W w' Bl g off n c := by
  go_enter Try.func64, Try.ntmps64
  go_wp2
  go_quiet (fail)
  go_wp2
  go_region
  all_goals (try go_wp2)
  all_goals
    go_ret
    exact ⟨rfl, _, nq + 1, rfl, by first | (rw [if_pos (by assumption)]; done) | (rw [if_neg (by assumption)]; done) | (rw [if_pos (by omega)]; done) | (rw [if_neg (by omega)]; done)⟩

set_option maxHeartbeats 1000000 in
/-- Both, and the first leaf is no heavier: it goes. -/
theorem light2_calls (Bp Bl : Nat) (gp offp np cp tp : Nat) (x y : Int) (g off n c t : Nat) (W : World) (hne : Bl ≠ g)
    (hp : W.cell? ⟨Bp, 0, none⟩ = some (.slice (some ⟨gp, offp, none⟩) (np + 1) cp)) (hl : W.cell? ⟨Bl, 0, none⟩ = some (.slice (some ⟨g, off, none⟩) (n + 1) c)) (hf : W.frozen? ⟨Bl, 0, none⟩ = false)
    (hx : W.cell? ⟨g, off, none⟩ = some (.pointer (some ⟨t, 0, none⟩))) (hy : W.cell? ⟨gp, offp, none⟩ = some (.pointer (some ⟨tp, 0, none⟩)))
    (hwx : W.cell? ⟨t, 0, none⟩ = some (.int .i64 x)) (hwy : W.cell? ⟨tp, 0, none⟩ = some (.int .i64 y)) (hle : decide (x ≤ y) = true)
    (hc : n + 1 ≤ c) (hm : c ≤ 9223372036854775807) (hmp : np + 1 ≤ 9223372036854775807) :
    Calls Try.prog 64 #[.pointer (some ⟨Bp, 0, none⟩), .pointer (some ⟨Bl, 0, none⟩)] W fun e w' => e = .returned (.pointer (some ⟨t, 0, none⟩)) ∧ Popped W w' Bl g off n c := by
  have k1 : (((np + 1 : Nat) : Int) == 0) = false := by rw [beq_eq_false_iff_ne]; omega
  have k1' : ((np : Int) + 1 == 0) = false := by rw [beq_eq_false_iff_ne]; omega
  have k2 : decide (((n + 1 : Nat) : Int) > 0) = true := by first | (simp; done) | (simp; omega)
  have k2' : decide (((n : Int) + 1) > 0) = true := by first | (simp; done) | (simp; omega)
  go_enter Try.func64, Try.ntmps64
  go_wp2
  go_quiet (fail)
  go_wp2
  go_region
  all_goals (try go_wp2)
  all_goals
    go_ret
    exact ⟨rfl, _, nq + 1, rfl, by first | (rw [if_pos (by assumption)]; done) | (rw [if_neg (by assumption)]; done) | (rw [if_pos (by omega)]; done) | (rw [if_neg (by omega)]; done)⟩

set_option maxHeartbeats 1000000 in
/-- No leaf: the first pair goes. -/
theorem light3_calls (Bp Bl : Nat) (g off n c t : Nat) (Al : Option Addr) (cl : Nat) (W : World) (hne : Bp ≠ g)
    (hp : W.cell? ⟨Bp, 0, none⟩ = some (.slice (some ⟨g, off, none⟩) (n + 1) c)) (hl : W.cell? ⟨Bl, 0, none⟩ = some (.slice Al 0 cl)) (hf : W.frozen? ⟨Bp, 0, none⟩ = false)
    (hx : W.cell? ⟨g, off, none⟩ = some (.pointer (some ⟨t, 0, none⟩))) (hc : n + 1 ≤ c) (hm : c ≤ 9223372036854775807) :
    Calls Try.prog 64 #[.pointer (some ⟨Bp, 0, none⟩), .pointer (some ⟨Bl, 0, none⟩)] W fun e w' => e = .returned (.pointer (some ⟨t, 0, none⟩)) ∧ Popped W w' Bp g off n c := by
  have k1 : (((n + 1 : Nat) : Int) == 0) = false := by rw [beq_eq_false_iff_ne]; omega
  have k1' : ((n : Int) + 1 == 0) = false := by rw [beq_eq_false_iff_ne]; omega
  go_enter Try.func64, Try.ntmps64
  go_wp2
  go_quiet (fail)
  go_wp2
  go_region
  all_goals (try go_wp2)
  all_goals
    go_ret
    exact ⟨rfl, _, nq + 1, rfl, by first | (rw [if_pos (by assumption)]; done) | (rw [if_neg (by assumption)]; done) | (rw [if_pos (by omega)]; done) | (rw [if_neg (by omega)]; done)⟩

set_option maxHeartbeats 1000000 in
/-- Both, and the first leaf is heavier: the first pair goes. -/
theorem light4_calls (Bp Bl : Nat) (g off n c t : Nat) (x y : Int) (gl offl nl cl tl : Nat) (W : World) (hne : Bp ≠ g)
    (hp : W.cell? ⟨Bp, 0, none⟩ = some (.slice (some ⟨g, off, none⟩) (n + 1) c)) (hl : W.cell? ⟨Bl, 0, none⟩ = some (.slice (some ⟨gl, offl, none⟩) (nl + 1) cl)) (hf : W.frozen? ⟨Bp, 0, none⟩ = false)
    (hx : W.cell? ⟨g, off, none⟩ = some (.pointer (some ⟨t, 0, none⟩))) (hy : W.cell? ⟨gl, offl, none⟩ = some (.pointer (some ⟨tl, 0, none⟩)))
    (hwx : W.cell? ⟨tl, 0, none⟩ = some (.int .i64 x)) (hwy : W.cell? ⟨t, 0, none⟩ = some (.int .i64 y)) (hle : decide (x ≤ y) = false)
    (hc : n + 1 ≤ c) (hm : c ≤ 9223372036854775807) (hml : nl + 1 ≤ 9223372036854775807) :
    Calls Try.prog 64 #[.pointer (some ⟨Bp, 0, none⟩), .pointer (some ⟨Bl, 0, none⟩)] W fun e w' => e = .returned (.pointer (some ⟨t, 0, none⟩)) ∧ Popped W w' Bp g off n c := by
  have k1 : (((n + 1 : Nat) : Int) == 0) = false := by rw [beq_eq_false_iff_ne]; omega
  have k1' : ((n : Int) + 1 == 0) = false := by rw [beq_eq_false_iff_ne]; omega
  have k2 : decide (((nl + 1 : Nat) : Int) > 0) = true := by first | (simp; done) | (simp; omega)
  have k2' : decide (((nl : Int) + 1) > 0) = true := by first | (simp; done) | (simp; omega)
  go_enter Try.func64, Try.ntmps64
  go_wp2
  go_quiet (fail)
  go_wp2
  go_region
  all_goals (try go_wp2)
  all_goals
    go_ret
    exact ⟨rfl, _, nq + 1, rfl, by first | (rw [if_pos (by assumption)]; done) | (rw [if_neg (by assumption)]; done) | (rw [if_pos (by omega)]; done) | (rw [if_neg (by omega)]; done)⟩

end Go.Proofs.Ythgijppajindpaa
