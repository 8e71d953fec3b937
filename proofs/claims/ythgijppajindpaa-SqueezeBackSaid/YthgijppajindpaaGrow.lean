/-
  prefix.grown is walked: what it hands back, by its two queues.
-/
import Derived.Test.YthgijppajindpaaProg
import Derived.WalkKit
import Derived.BigQuiet
import Derived.Deep.QuietTactic
import Derived.Deep.LoopGhost
import Derived.Deep.Draws
import Derived.WalkLawsBesides
import Derived.Test.YthgijppajindpaaWWords
import Derived.Deep.AppendLies
import Derived.Deep.OwnRows
import Derived.Test.YthgijppajindpaaStab
import Derived.RegionCalls
import Derived.Deep.RegionLaw
set_option linter.unusedVariables false
set_option linter.unusedSimpArgs false
namespace Go.Proofs.Ythgijppajindpaa
open Go.RowKit

set_option maxHeartbeats 1000000 in
theorem cmp_calls (b1 b2 : Nat) (x y : Int) (W : World) (h1 : W.cell? ⟨b1, 0, none⟩ = some (.int .i64 x)) (h2 : W.cell? ⟨b2, 0, none⟩ = some (.int .i64 y))
    (x0 : 0 ≤ x) (x1 : x ≤ 1099511627776) (y0 : 0 ≤ y) (y1 : y ≤ 1099511627776) :
    Calls Try.prog 63 #[.pointer (some ⟨b1, 0, none⟩), .pointer (some ⟨b2, 0, none⟩)] W fun e w' => e = .returned (.int .i64 (x - y)) ∧ ∃ q, w' = W.drewN q := by
  have hw : IntKind.i64.wrap (x - y) = x - y := by rw [IntKind.wrap_i64]; omega
  go_enter Try.func63, Try.ntmps63
  go_wp2
  go_quiet (fail)
  go_wp2
  go_ret
  exact ⟨rfl, nq, rfl⟩

/-- A queue's variable holds what is behind its first element. -/
def Popped (W w' : World) (B g off n c : Nat) : Prop := ∃ A' q, w' = (W.setCell ⟨B, 0, none⟩ (.slice A' n (c - 1))).drewN q ∧ A' = if c = 1 then some ⟨g, off, none⟩ else some ⟨g, off + 1, none⟩

set_option maxHeartbeats 1000000 in
/-- No pair: the first leaf goes. -/
theorem light1_calls (Bp Bl : Nat) (Ap : Option Addr) (cp : Nat) (g off n c t : Nat) (W : World) (hne : Bl ≠ g)
    (hp : W.cell? ⟨Bp, 0, none⟩ = some (.slice Ap 0 cp)) (hl : W.cell? ⟨Bl, 0, none⟩ = some (.slice (some ⟨g, off, none⟩) (n + 1) c)) (hf : W.frozen? ⟨Bl, 0, none⟩ = false)
    (hx : W.cell? ⟨g, off, none⟩ = some (.pointer (some ⟨t, 0, none⟩))) (hc : n + 1 ≤ c) (hm : c ≤ 9223372036854775807) :
    Calls Try.prog 64 #[.pointer (some ⟨Bp, 0, none⟩), .pointer (some ⟨Bl, 0, none⟩)] W fun e w' => e = .returned (.pointer (some ⟨t, 0, none⟩)) ∧ Popped W w' Bl g off n c := by
  go_enter Try.func64, Try.ntmps64
  go_wp2
  go_quiet (fail)
  go_wp2
  go_region
  all_goals (try go_wp2)
  all_goals
    go_ret
    exact ⟨rfl, _, nq + 1, rfl, by first | (rw [if_pos (by assumption)]; done) | (rw [if_neg (by assumption)]; done) | (rw [if_pos (by omega)]; done) | (rw [if_neg (by omega)]; done)⟩

set_option maxHeartbeats 1000000 in
/-- Both, and the first leaf is no heavier: it goes. -/
theorem light2_calls (Bp Bl : Nat) (gp offp np cp tp : Nat) (x y : Int) (g off n c t : Nat) (W : World) (hne : Bl ≠ g)
    (hp : W.cell? ⟨Bp, 0, none⟩ = some (.slice (some ⟨gp, offp, none⟩) (np + 1) cp)) (hl : W.cell? ⟨Bl, 0, none⟩ = some (.slice (some ⟨g, off, none⟩) (n + 1) c)) (hf : W.frozen? ⟨Bl, 0, none⟩ = false)
    (hx : W.cell? ⟨g, off, none⟩ = some (.pointer (some ⟨t, 0, none⟩))) (hy : W.cell? ⟨gp, offp, none⟩ = some (.pointer (some ⟨tp, 0, none⟩)))
    (hwx : W.cell? ⟨t, 0, none⟩ = some (.int .i64 x)) (hwy : W.cell? ⟨tp, 0, none⟩ = some (.int .i64 y)) (hle : decide (x ≤ y) = true)
    (hc : n + 1 ≤ c) (hm : c ≤ 9223372036854775807) (hmp : np + 1 ≤ 9223372036854775807) :
    Calls Try.prog 64 #[.pointer (some ⟨Bp, 0, none⟩), .pointer (some ⟨Bl, 0, none⟩)] W fun e w' => e = .returned (.pointer (some ⟨t, 0, none⟩)) ∧ Popped W w' Bl g off n c := by
  have k1 : (((np + 1 : Nat) : Int) == 0) = false := by rw [beq_eq_false_iff_ne]; omega
  have k1' : ((np : Int) + 1 == 0) = false := by rw [beq_eq_false_iff_ne]; omega
  have k2 : decide (((n + 1 : Nat) : Int) > 0) = true := by first | (simp; done) | (simp; omega)
  have k2' : decide (((n : Int) + 1) > 0) = true := by first | (simp; done) | (simp; omega)
  go_enter Try.func64, Try.ntmps64
  go_wp2
  go_quiet (fail)
  go_wp2
  go_region
  all_goals (try go_wp2)
  all_goals
    go_ret
    exact ⟨rfl, _, nq + 1, rfl, by first | (rw [if_pos (by assumption)]; done) | (rw [if_neg (by assumption)]; done) | (rw [if_pos (by omega)]; done) | (rw [if_neg (by omega)]; done)⟩

set_option maxHeartbeats 1000000 in
/-- No leaf: the first pair goes. -/
theorem light3_calls (Bp Bl : Nat) (g off n c t : Nat) (Al : Option Addr) (cl : Nat) (W : World) (hne : Bp ≠ g)
    (hp : W.cell? ⟨Bp, 0, none⟩ = some (.slice (some ⟨g, off, none⟩) (n + 1) c)) (hl : W.cell? ⟨Bl, 0, none⟩ = some (.slice Al 0 cl)) (hf : W.frozen? ⟨Bp, 0, none⟩ = false)
    (hx : W.cell? ⟨g, off, none⟩ = some (.pointer (some ⟨t, 0, none⟩))) (hc : n + 1 ≤ c) (hm : c ≤ 9223372036854775807) :
    Calls Try.prog 64 #[.pointer (some ⟨Bp, 0, none⟩), .pointer (some ⟨Bl, 0, none⟩)] W fun e w' => e = .returned (.pointer (some ⟨t, 0, none⟩)) ∧ Popped W w' Bp g off n c := by
  have k1 : (((n + 1 : Nat) : Int) == 0) = false := by rw [beq_eq_false_iff_ne]; omega
  have k1' : ((n : Int) + 1 == 0) = false := by rw [beq_eq_false_iff_ne]; omega
  go_enter Try.func64, Try.ntmps64
  go_wp2
  go_quiet (fail)
  go_wp2
  go_region
  all_goals (try go_wp2)
  all_goals
    go_ret
    exact ⟨rfl, _, nq + 1, rfl, by first | (rw [if_pos (by assumption)]; done) | (rw [if_neg (by assumption)]; done) | (rw [if_pos (by omega)]; done) | (rw [if_neg (by omega)]; done)⟩

set_option maxHeartbeats 1000000 in
/-- Both, and the first leaf is heavier: the first pair goes. -/
theorem light4_calls (Bp Bl : Nat) (g off n c t : Nat) (x y : Int) (gl offl nl cl tl : Nat) (W : World) (hne : Bp ≠ g)
    (hp : W.cell? ⟨Bp, 0, none⟩ = some (.slice (some ⟨g, off, none⟩) (n + 1) c)) (hl : W.cell? ⟨Bl, 0, none⟩ = some (.slice (some ⟨gl, offl, none⟩) (nl + 1) cl)) (hf : W.frozen? ⟨Bp, 0, none⟩ = false)
    (hx : W.cell? ⟨g, off, none⟩ = some (.pointer (some ⟨t, 0, none⟩))) (hy : W.cell? ⟨gl, offl, none⟩ = some (.pointer (some ⟨tl, 0, none⟩)))
    (hwx : W.cell? ⟨tl, 0, none⟩ = some (.int .i64 x)) (hwy : W.cell? ⟨t, 0, none⟩ = some (.int .i64 y)) (hle : decide (x ≤ y) = false)
    (hc : n + 1 ≤ c) (hm : c ≤ 9223372036854775807) (hml : nl + 1 ≤ 9223372036854775807) :
    Calls Try.prog 64 #[.pointer (some ⟨Bp, 0, none⟩), .pointer (some ⟨Bl, 0, none⟩)] W fun e w' => e = .returned (.pointer (some ⟨t, 0, none⟩)) ∧ Popped W w' Bp g off n c := by
  have k1 : (((n + 1 : Nat) : Int) == 0) = false := by rw [beq_eq_false_iff_ne]; omega
  have k1' : ((n : Int) + 1 == 0) = false := by rw [beq_eq_false_iff_ne]; omega
  have k2 : decide (((nl + 1 : Nat) : Int) > 0) = true := by first | (simp; done) | (simp; omega)
  have k2' : decide (((nl : Int) + 1) > 0) = true := by first | (simp; done) | (simp; omega)
  go_enter Try.func64, Try.ntmps64
  go_wp2
  go_quiet (fail)
  go_wp2
  go_region
  all_goals (try go_wp2)
  all_goals
    go_ret
    exact ⟨rfl, _, nq + 1, rfl, by first | (rw [if_pos (by assumption)]; done) | (rw [if_neg (by assumption)]; done) | (rw [if_pos (by omega)]; done) | (rw [if_neg (by omega)]; done)⟩

end Go.Proofs.Ythgijppajindpaa

namespace Go.Proofs.Ythgijppajindpaa
open Go.RowKit

/-- A tree of symbols: its weight, and a symbol or two branches. -/
inductive Tr where
  | leaf (w : Int) (s : Nat)
  | node (w : Int) (l r : Tr)
deriving Inhabited

namespace Tr
def wt : Tr → Int
  | leaf w _ => w
  | node w _ _ => w
def height : Tr → Nat
  | leaf _ _ => 0
  | node _ l r => max l.height r.height + 1
/-- Its symbols are below n. -/
def Below (n : Nat) : Tr → Prop
  | leaf _ s => s < n
  | node _ l r => l.Below n ∧ r.Below n
/-- The lengths that are laid. -/
def dep : Tr → Nat → List Int → List Int
  | leaf _ s, d, xs => xs.set s (max (d : Int) 1)
  | node _ l r, d, xs => r.dep (d + 1) (l.dep (d + 1) xs)
/-- The tree lies in memory, its root in block b. -/
def Lies (w : World) : Tr → Nat → Prop
  | leaf x s, b => w.heap[b]? = some (.cells #[.int .i64 x, .int .i64 s, .pointer none, .pointer none] 114 (0, 0))
  | node x l r, b => ∃ bl br, w.heap[b]? = some (.cells #[.int .i64 x, .int .i64 0, .pointer (some ⟨bl, 0, none⟩), .pointer (some ⟨br, 0, none⟩)] 114 (0, 0)) ∧ l.Lies w bl ∧ r.Lies w br
end Tr

/-- A row of whole numbers. -/
def IntRow (w : World) (g : Nat) (xs : List Int) : Prop := w.heap[g]? = some (.cells (xs.map (Value.int .i64)).toArray 3 (0, 0))

/-- Blocks of nodes stay. -/
def Keeps (w w' : World) : Prop := ∀ (b : Nat) (c : Array Value) (fr : Nat × Nat), w.heap[b]? = some (.cells c 114 fr) → w'.heap[b]? = some (.cells c 114 fr)

theorem Keeps.refl (w : World) : Keeps w w := fun _ _ _ h => h
theorem Keeps.trans {a b c : World} (h : Keeps a b) (k : Keeps b c) : Keeps a c := fun x y z h0 => k x y z (h x y z h0)
theorem Keeps.drewN (w : World) (n : Nat) : Keeps w (w.drewN n) := fun _ _ _ h => h
theorem Keeps.grown {w w' : World} {row : Option Nat} (hg : w.grownBy w' row) (hr : ∀ k, row = some k → ∀ c fr, w.heap[k]? ≠ some (.cells c 114 fr)) : Keeps w w' := fun b c fr h =>
  (hg.block b (Array.getElem?_eq_some_iff.1 h).1 (fun e => hr b e.symm c fr h)).trans h
theorem Tr.Lies.keeps {w w' : World} (h : Keeps w w') : ∀ {t : Tr} {b : Nat}, t.Lies w b → t.Lies w' b
  | .leaf _ _, _, hl => h _ _ _ hl
  | .node _ _ _, _, ⟨bl, br, hb, hl, hr⟩ => ⟨bl, br, h _ _ _ hb, hl.keeps h, hr.keeps h⟩

theorem Tr.length_dep : ∀ (t : Tr) (d : Nat) (xs : List Int), (t.dep d xs).length = xs.length
  | .leaf _ _, _, _ => by simp [Tr.dep]
  | .node _ l r, d, xs => by rw [Tr.dep, r.length_dep, l.length_dep]

theorem cell_block {w : World} {b : Nat} {c : Array Value} {T : TypeId} {fr : Nat × Nat} (h : w.heap[b]? = some (.cells c T fr)) (i : Nat) : w.cell? ⟨b, i, none⟩ = c[i]? := by
  simp [World.cell?, h]
theorem frozen_block {w : World} {b : Nat} {c : Array Value} {T : TypeId} (h : w.heap[b]? = some (.cells c T (0, 0))) (i : Nat) : w.frozen? ⟨b, i, none⟩ = false := by
  simp [World.frozen?, h]

set_option maxHeartbeats 1000000 in
theorem deepen_leaf (x : Int) (s b g n d : Nat) (xs : List Int) (w : World) (hb : (Tr.leaf x s).Lies w b) (hr : IntRow w g xs) (hn : xs.length = n) (hs : s < n) (hd : d ≤ 4611686018427387904) (hm : n ≤ 4611686018427387904) :
    Calls Try.prog 65 #[.pointer (some ⟨b, 0, none⟩), .slice (some ⟨g, 0, none⟩) n n, .int .i64 d] w fun e w' => e = .returned (.tuple #[]) ∧ w' = w.setCell ⟨g, s, none⟩ (.int .i64 (max (d : Int) 1)) := by
  have c1 : w.cell? ⟨b, 1, none⟩ = some (.int .i64 s) := by rw [cell_block hb]; rfl
  have c2 : w.cell? ⟨b, 2, none⟩ = some (.pointer none) := by rw [cell_block hb]; rfl
  have c3 : ∃ v, w.cell? ⟨g, s, none⟩ = some v := by
    rw [cell_block hr]
    exact ⟨_, by rw [List.getElem?_toArray, List.getElem?_map, List.getElem?_eq_getElem (by omega)]; rfl⟩
  obtain ⟨v, c3⟩ := c3
  have f3 : w.frozen? ⟨g, s, none⟩ = false := frozen_block hr s
  have hsz : (s : Int) < (n : Int) := by omega
  go_enter Try.func65, Try.ntmps65
  go_wp2
  all_goals
    refine bodyPost_ret (results_none rfl _ _ _) rfl ?_
    refine ⟨rfl, ?_⟩
    first | (rw [Int.max_eq_left (by omega)]; done) | (rw [Int.max_eq_right (by omega)]; done) | (congr 2 <;> omega)

theorem IntRow.set {w : World} {g s : Nat} {xs : List Int} (h : IntRow w g xs) (v : Int) : IntRow (w.setCell ⟨g, s, none⟩ (.int .i64 v)) g (xs.set s v) := by
  unfold IntRow at *
  simp only [World.setCell, Array.getElem?_modify, if_true]
  rw [h]
  simp [List.map_set]

theorem grownBy_setCell (w : World) (g s : Nat) (v : Value) : w.grownBy (w.setCell ⟨g, s, none⟩ v) (some g) :=
  ⟨rfl, rfl, rfl, by simp, fun k _ hne => RowKit.Below.heap_setCell w _ v k (fun e => hne (by rw [e]))⟩

theorem grownBy_trans {a b c : World} {row : Option Nat} (h : a.grownBy b row) (k : b.grownBy c row) : a.grownBy c row :=
  ⟨k.os.trans h.os, k.tape.trans h.tape, k.output.trans h.output, Nat.le_trans h.size k.size, fun i hi hne => (k.block i (Nat.lt_of_lt_of_le hi h.size) hne).trans (h.block i hi hne)⟩

theorem IntRow.keeps {w w' : World} {g : Nat} {xs : List Int} (h : IntRow w g xs) (hg : w.grownBy w' (some g)) : Keeps w w' :=
  Keeps.grown hg (fun k hk c fr hc => by
    cases hk
    rw [h] at hc
    simp at hc)

set_option maxHeartbeats 2000000 in
theorem deepen_calls : ∀ (t : Tr) (b g n d : Nat) (xs : List Int) (w : World), t.Lies w b → IntRow w g xs → xs.length = n → t.Below n → d + t.height ≤ 4611686018427387904 → n ≤ 4611686018427387904 →
    Calls Try.prog 65 #[.pointer (some ⟨b, 0, none⟩), .slice (some ⟨g, 0, none⟩) n n, .int .i64 d] w fun e w' => e = .returned (.tuple #[]) ∧ IntRow w' g (t.dep d xs) ∧ w.grownBy w' (some g)
  | .leaf x s, b, g, n, d, xs, w, hl, hr, hn, hs, hd, hm => by
    refine (deepen_leaf x s b g n d xs w hl hr hn hs (by simp [Tr.height] at hd; exact hd) hm).mono ?_
    rintro e w' ⟨rfl, rfl⟩
    exact ⟨rfl, hr.set _, grownBy_setCell _ _ _ _⟩
  | .node x l r, b, g, n, d, xs, w, ⟨bl, br, hb, hL, hR⟩, hr, hn, hs, hd, hm => by
    have hd' : d + 1 + l.height ≤ 4611686018427387904 := by have := Nat.le_max_left l.height r.height; simp only [Tr.height] at hd; omega
    have hd'' : d + 1 + r.height ≤ 4611686018427387904 := by have := Nat.le_max_right l.height r.height; simp only [Tr.height] at hd; omega
    have ihl : Hid _ := deepen_calls l bl g n (d + 1) xs w hL hr hn hs.1 hd' hm
    have c2 : w.cell? ⟨b, 2, none⟩ = some (.pointer (some ⟨bl, 0, none⟩)) := by rw [cell_block hb]; rfl
    have e1 : Hid (((d : Int) + 1) = ((d + 1 : Nat) : Int)) := by show _ = _; omega
    have hd3 : (d : Int) ≤ 4611686018427387904 := by omega
    go_enter Try.func65, Try.ntmps65
    go_wp2_with fail
    rw [e1.out]
    refine Calls.mono ihl.out ?_
    rintro e w1 ⟨rfl, hr1, hg1⟩
    have hk1 := hr.keeps hg1
    have c3 : w1.cell? ⟨b, 3, none⟩ = some (.pointer (some ⟨br, 0, none⟩)) := by rw [cell_block (hk1 _ _ _ hb)]; rfl
    have ihr : Hid _ := deepen_calls r br g n (d + 1) (l.dep (d + 1) xs) w1 (hR.keeps hk1) hr1 (by rw [Tr.length_dep]; exact hn) hs.2 hd'' hm
    clear ihl
    go_wp2_with fail
    rw [e1.out]
    refine Calls.mono ihr.out ?_
    rintro e w2 ⟨rfl, hr2, hg2⟩
    clear ihr
    go_wp2_with fail
    go_end0
    exact ⟨rfl, hr2, grownBy_trans hg1 hg2⟩

end Go.Proofs.Ythgijppajindpaa

namespace Go.Proofs.Ythgijppajindpaa
open Go.RowKit Go.Proofs.YthgijppajindpaaW.PrintWords

/-- The lightest of two rows: a leaf ahead of a pair that weighs the same. -/
def pop {β : Type} (wt : β → Int) : List β → List β → Option (β × List β × List β)
  | [], [] => none
  | x :: L, [] => some (x, L, [])
  | [], y :: P => some (y, [], P)
  | x :: L, y :: P => if wt x ≤ wt y then some (x, L, y :: P) else some (y, x :: L, P)

abbrev BT := Nat × Tr
def wtB (x : BT) : Int := x.2.wt
def ptrs (L : List BT) : List Value := L.map fun x => .pointer (some ⟨x.1, 0, none⟩)

theorem ptrs_length (L : List BT) : (ptrs L).length = L.length := by simp [ptrs]

/-- The queues lie in memory: the variable of the leaves at N + 1, that of the pairs at N + 2. -/
structure St (N : Nat) (W : World) (L P : List BT) : Prop where
  ex : ∃ vL vP, W.heap[N + 1]? = some (.cells #[vL] 111 (0, 0)) ∧ W.heap[N + 2]? = some (.cells #[vP] 111 (0, 0)) ∧
    QRow W (N + 3) 112 1 vL L.length (ptrs L) ∧ QRow W (N + 3) 112 1 vP P.length (ptrs P) ∧ (∀ k, vL.ownBlock = some k → vP.ownBlock = some k → False)
  lies : ∀ x, x ∈ L ++ P → x.2.Lies W x.1

theorem Tr.Lies.weight {W : World} : ∀ {t : Tr} {b : Nat}, t.Lies W b → W.cell? ⟨b, 0, none⟩ = some (.int .i64 t.wt)
  | .leaf _ _, _, h => by rw [cell_block h]; rfl
  | .node _ _ _, _, ⟨_, _, h, _⟩ => by rw [cell_block h]; rfl

/-- What a step of the queues does to memory: blocks of nodes stay, and all below N + 1. -/
structure Moves (N : Nat) (W W' : World) : Prop where
  below : Below (N + 1) W W'
  keeps : Keeps W W'

theorem Moves.refl (N : Nat) (W : World) : Moves N W W := ⟨Below.refl _ _, Keeps.refl _⟩
theorem Moves.trans {N : Nat} {a b c : World} (h : Moves N a b) (k : Moves N b c) : Moves N a c := ⟨h.below.trans k.below, h.keeps.trans k.keeps⟩

theorem q_first {W : World} {N : Nat} {v : Value} {x : BT} {L : List BT} (h : QRow W (N + 3) 112 1 v (x :: L).length (ptrs (x :: L))) :
    ∃ g off c, v = .slice (some ⟨g, off, none⟩) (L.length + 1) c ∧ W.cell? ⟨g, off, none⟩ = some (.pointer (some ⟨x.1, 0, none⟩)) ∧ L.length + 1 ≤ c ∧ c ≤ 9223372036854775807 ∧ N + 3 ≤ g ∧
      (∃ cur, W.heap[g]? = some (.cells cur 112 (0, 0))) ∧
      ∀ (W' : World), W'.heap[g]? = W.heap[g]? → QRow W' (N + 3) 112 1 (.slice (if c = 1 then some ⟨g, off, none⟩ else some ⟨g, off + 1, none⟩) L.length (c - 1)) L.length (ptrs L) := by
  rcases h.2 with ⟨h0, _⟩ | ⟨g, off, cap, cur, rfl, hg, hh, hnc, hm, hcs, ht⟩
  · simp at h0
  · have hmm : cap ≤ 9223372036854775807 := by simp only [maxLen] at hm; omega
    obtain ⟨ad, e, hc⟩ := q_cells h (by simp)
    injection e with e
    subst e
    have h0 := hc 0 _ rfl
    rw [show ((⟨g, off * 1, none⟩ : Addr).add 0) = ⟨g, off * 1, none⟩ by simp [Addr.add]] at h0
    refine ⟨g, off * 1, cap, rfl, h0, hnc, hmm, hg, ⟨cur, hh⟩, fun W' hW => ?_⟩
    have hd := q_drop (k := 1) h (by simp)
    have hd2 := q_move (w1 := W') hd (fun k hk => by
      have : k = g := by
        by_cases e1 : cap = 1
        · rw [if_pos e1] at hk; simpa [Value.ownBlock] using hk.symm
        · rw [if_neg e1] at hk; simp [Value.ownBlock, add_at] at hk; exact hk.symm
      rw [this]; exact hW)
    simpa [ptrs, add_at] using hd2

theorem setBox {W : World} {B : Nat} {v : Value} {T : TypeId} (h : W.heap[B]? = some (.cells #[v] T (0, 0))) (u : Value) : (W.setCell ⟨B, 0, none⟩ u).heap[B]? = some (.cells #[u] T (0, 0)) := by
  simp only [World.setCell, Array.getElem?_modify, if_true]
  rw [h]
  simp

theorem own_if {g off n c k : Nat} (h : (Value.slice (if c = 1 then some ⟨g, off, none⟩ else some ⟨g, off + 1, none⟩) n (c - 1)).ownBlock = some k) : g = k := by
  by_cases e : c = 1
  · rw [if_pos e] at h; simpa [Value.ownBlock] using h
  · rw [if_neg e] at h; simpa [Value.ownBlock] using h

theorem popped_world {W W' : World} {B g off n c : Nat} {v : Value} (h1 : W.heap[B]? = some (.cells #[v] 111 (0, 0))) (h : Popped W W' B g off n c) :
    W'.heap[B]? = some (.cells #[.slice (if c = 1 then some ⟨g, off, none⟩ else some ⟨g, off + 1, none⟩) n (c - 1)] 111 (0, 0)) ∧ (∀ k, k ≠ B → W'.heap[k]? = W.heap[k]?) ∧ Keeps W W' ∧ Below B W W' := by
  obtain ⟨A', q, rfl, rfl⟩ := h
  refine ⟨setBox h1 _, fun k hk => Below.heap_setCell W _ _ k hk, Keeps.trans (Keeps.grown (grownBy_setCell W B 0 _) (fun k hk c fr hc => by cases hk; rw [h1] at hc; simp at hc)) (Keeps.drewN _ q), ?_⟩
  exact pw_below_drewN ((Below.refl B W).setCell (Nat.le_refl _) _) q

theorem St.popLeaf {N : Nat} {W : World} {x : BT} {L P : List BT} (h : St N W (x :: L) P) :
    ∃ g off c vP, W.cell? ⟨N + 1, 0, none⟩ = some (.slice (some ⟨g, off, none⟩) (L.length + 1) c) ∧ W.frozen? ⟨N + 1, 0, none⟩ = false ∧ W.cell? ⟨N + 2, 0, none⟩ = some vP ∧ W.frozen? ⟨N + 2, 0, none⟩ = false ∧
      QRow W (N + 3) 112 1 vP P.length (ptrs P) ∧
      W.cell? ⟨g, off, none⟩ = some (.pointer (some ⟨x.1, 0, none⟩)) ∧ L.length + 1 ≤ c ∧ c ≤ 9223372036854775807 ∧ N + 3 ≤ g ∧
      ∀ W', Popped W W' (N + 1) g off L.length c → St N W' L P ∧ Moves N W W' := by
  obtain ⟨vL, vP, h1, h2, h3, h4, h5⟩ := h.ex
  obtain ⟨g, off, c, rfl, hx, hc, hm, hg, hcur, hrest⟩ := q_first h3
  refine ⟨g, off, c, vP, by rw [cell_block h1]; rfl, frozen_block h1 0, by rw [cell_block h2]; rfl, frozen_block h2 0, h4, hx, hc, hm, hg, fun W' hp => ?_⟩
  obtain ⟨hb, hoth, hk, hbl⟩ := popped_world h1 hp
  refine ⟨⟨⟨_, vP, hb, (hoth _ (by omega)).trans h2, hrest W' (hoth _ (by omega)), q_move h4 (fun k hk => hoth _ (by have := (q_typed h4 k hk).1; omega)), fun k k1 k2 => h5 k (by rw [← own_if k1]; rfl) k2⟩, fun y hy => (h.lies y (by rcases List.mem_append.1 hy with hy | hy <;> simp [hy])).keeps hk⟩, hbl, hk⟩

theorem St.popPair {N : Nat} {W : World} {y : BT} {L P : List BT} (h : St N W L (y :: P)) :
    ∃ g off c vL, W.cell? ⟨N + 2, 0, none⟩ = some (.slice (some ⟨g, off, none⟩) (P.length + 1) c) ∧ W.frozen? ⟨N + 2, 0, none⟩ = false ∧ W.cell? ⟨N + 1, 0, none⟩ = some vL ∧ W.frozen? ⟨N + 1, 0, none⟩ = false ∧
      QRow W (N + 3) 112 1 vL L.length (ptrs L) ∧
      W.cell? ⟨g, off, none⟩ = some (.pointer (some ⟨y.1, 0, none⟩)) ∧ P.length + 1 ≤ c ∧ c ≤ 9223372036854775807 ∧ N + 3 ≤ g ∧
      ∀ W', Popped W W' (N + 2) g off P.length c → St N W' L P ∧ Moves N W W' := by
  obtain ⟨vL, vP, h1, h2, h3, h4, h5⟩ := h.ex
  obtain ⟨g, off, c, rfl, hx, hc, hm, hg, hcur, hrest⟩ := q_first h4
  refine ⟨g, off, c, vL, by rw [cell_block h2]; rfl, frozen_block h2 0, by rw [cell_block h1]; rfl, frozen_block h1 0, h3, hx, hc, hm, hg, fun W' hp => ?_⟩
  obtain ⟨hb, hoth, hk, hbl⟩ := popped_world h2 hp
  refine ⟨⟨⟨vL, _, (hoth _ (by omega)).trans h1, hb, q_move h3 (fun k hk => hoth _ (by have := (q_typed h3 k hk).1; omega)), hrest W' (hoth _ (by omega)), fun k k1 k2 => h5 k k1 (by rw [← own_if k2]; rfl)⟩, fun z hz => (h.lies z (by rcases List.mem_append.1 hz with hz | hz <;> simp [hz])).keeps hk⟩, hbl.mono (by omega), hk⟩

theorem q_zero {W : World} {N : Nat} {v : Value} (h : QRow W (N + 3) 112 1 v 0 (ptrs [])) : ∃ A c, v = .slice A 0 c := by
  obtain ⟨A, c, rfl, _⟩ := q_slice h
  exact ⟨A, c, rfl⟩

/-- The closure 'lightest'. -/
theorem light_calls (N : Nat) (W : World) (L P L' P' : List BT) (x : BT) (h : St N W L P) (hp : pop wtB L P = some (x, L', P')) :
    Calls Try.prog 64 #[.pointer (some ⟨N + 2, 0, none⟩), .pointer (some ⟨N + 1, 0, none⟩)] W fun e w' => e = .returned (.pointer (some ⟨x.1, 0, none⟩)) ∧ St N w' L' P' ∧ Moves N W w' := by
  match L, P, h, hp with
  | [], [], _, hp => simp [pop] at hp
  | y :: L, [], h, hp =>
    simp only [pop, Option.some.injEq, Prod.mk.injEq] at hp
    obtain ⟨rfl, rfl, rfl⟩ := hp
    obtain ⟨g, off, c, vP, c1, f1, c2, f2, hq, hx, hc, hm, hg, hrest⟩ := h.popLeaf
    obtain ⟨A, cp, rfl⟩ := q_zero hq
    refine (light1_calls (N + 2) (N + 1) A cp g off L.length c y.1 W (by omega) c2 c1 f1 hx hc hm).mono ?_
    rintro e w' ⟨rfl, hpd⟩
    exact ⟨rfl, hrest _ hpd⟩
  | [], y :: P, h, hp =>
    simp only [pop, Option.some.injEq, Prod.mk.injEq] at hp
    obtain ⟨rfl, rfl, rfl⟩ := hp
    obtain ⟨g, off, c, vL, c1, f1, c2, f2, hq, hx, hc, hm, hg, hrest⟩ := h.popPair
    obtain ⟨A, cl, rfl⟩ := q_zero hq
    refine (light3_calls (N + 2) (N + 1) g off P.length c y.1 A cl W (by omega) c1 c2 f1 hx hc hm).mono ?_
    rintro e w' ⟨rfl, hpd⟩
    exact ⟨rfl, hrest _ hpd⟩
  | y :: L, z :: P, h, hp =>
    obtain ⟨g, off, c, vP, c1, f1, c2, f2, hq, hx, hc, hm, hg, hrest⟩ := h.popLeaf
    obtain ⟨g', off', c', vL, c1', f1', c2', f2', hq', hx', hc', hm', hg', hrest'⟩ := h.popPair
    rw [c2] at c1'
    rw [c1] at c2'
    simp only [Option.some.injEq] at c1' c2'
    subst c1' c2'
    have hy := (h.lies y (by simp)).weight
    have hz := (h.lies z (by simp)).weight
    by_cases hle : wtB y ≤ wtB z
    · simp only [pop, if_pos hle, Option.some.injEq, Prod.mk.injEq] at hp
      obtain ⟨rfl, rfl, rfl⟩ := hp
      refine (light2_calls (N + 2) (N + 1) g' off' P.length c' z.1 _ _ g off L.length c y.1 W (by omega) c2 c1 f1 hx hx' hy hz (decide_eq_true hle) hc hm (by omega)).mono ?_
      rintro e w' ⟨rfl, hpd⟩
      exact ⟨rfl, hrest _ hpd⟩
    · simp only [pop, if_neg hle, Option.some.injEq, Prod.mk.injEq] at hp
      obtain ⟨rfl, rfl, rfl⟩ := hp
      refine (light4_calls (N + 2) (N + 1) g' off' P.length c' z.1 _ _ g off L.length c y.1 W (by omega) c2 c1 f1' hx' hx hy hz (decide_eq_false hle) hc' hm' (by omega)).mono ?_
      rintro e w' ⟨rfl, hpd⟩
      exact ⟨rfl, hrest' _ hpd⟩

end Go.Proofs.Ythgijppajindpaa

namespace Go.Proofs.Ythgijppajindpaa
open Go.RowKit Go.Proofs.YthgijppajindpaaW.PrintWords

section
variable {P : Program} (w : World)

theorem wp_append_q {o : Oper} {a : Act} {K : Act → World → Prop} {Q : Exit → Act → World → Prop} (s x : Operand) (t : TypeId)
    (ho : o.op = .call { callee := .builtin .append, args := #[s, x], argTypes := #[t, t] })
    (base : Nat) (e : TypeId) (i : TypeInfo) (z : Value) (size bytes : Nat) (ht : P.underlying t = some (.slice e)) (hi : P.info? e = some i) (hz : i.zero = some z)
    (hsize : i.size = size) (hby : i.bytes = bytes) (hzs : z.cells.size = size) (hsz : 0 < size)
    (v : Value) (n : Nat) (xs : List Value) (hs : a.eval s = v) (hown : QRow w base e size v n xs)
    (ad : Addr) (m c : Nat) (news : List Value) (hx : a.eval x = .slice (some ad) m c) (hl : news.length = m * size) (hnews : ∀ j u, news[j]? = some u → w.cell? (ad.add j) = some u) (h1 : ∀ u ∈ news, u.oneCell' = true)
    (hm : 0 < m) (h63 : n + m ≤ maxLen) (hbytes : (n + m) * bytes ≤ 140737488355328) (hbase : base ≤ w.heap.size)
    (h : ∀ A c' w', QRow w' base e size (.slice A (n + m) c') (n + m) (xs ++ news) → w.grownBy w' v.ownBlock → ((Value.slice A (n + m) c').ownBlock = v.ownBlock ∨ ∃ b, (Value.slice A (n + m) c').ownBlock = some b ∧ w.heap.size ≤ b) → K (a.put o.dst (.slice A (n + m) c')) w') : o.wp P a w K Q := by
  obtain ⟨v', w', hr, h2, h3, h4⟩ := q_append (P := P) w base t o.type e i z size bytes ht hi hz hsize hby hzs hsz v n xs hown ad m c news hl hnews h1 hm h63 hbytes hbase
  obtain ⟨A, c', rfl, _⟩ := q_slice h2
  unfold Oper.wp execOp
  simp only [ho, resolve, invoke, builtin, Sem.run_bind, Sem.run_pure, Result.andThen_ok, List.map_toArray, List.map_cons, List.map_nil, hs, hx, hr]
  exact h A c' w' h2 h3 h4

theorem wpList_append_q {ops : Array Oper} {rest : List Oper} {o : Oper} {a : Act} {Q : Exit → Act → World → Prop} (hgd : o.guard = none) (s x : Operand) (t : TypeId)
    (ho : o.op = .call { callee := .builtin .append, args := #[s, x], argTypes := #[t, t] })
    (base : Nat) (e : TypeId) (i : TypeInfo) (z : Value) (size bytes : Nat) (ht : P.underlying t = some (.slice e)) (hi : P.info? e = some i) (hz : i.zero = some z)
    (hsize : i.size = size) (hby : i.bytes = bytes) (hzs : z.cells.size = size) (hsz : 0 < size)
    (v : Value) (n : Nat) (xs : List Value) (hs : a.eval s = v) (hown : QRow w base e size v n xs)
    (ad : Addr) (m c : Nat) (news : List Value) (hx : a.eval x = .slice (some ad) m c) (hl : news.length = m * size) (hnews : ∀ j u, news[j]? = some u → w.cell? (ad.add j) = some u) (h1 : ∀ u ∈ news, u.oneCell' = true)
    (hm : 0 < m) (h63 : n + m ≤ maxLen) (hbytes : (n + m) * bytes ≤ 140737488355328) (hbase : base ≤ w.heap.size)
    (h : ∀ A c' w', QRow w' base e size (.slice A (n + m) c') (n + m) (xs ++ news) → w.grownBy w' v.ownBlock → ((Value.slice A (n + m) c').ownBlock = v.ownBlock ∨ ∃ b, (Value.slice A (n + m) c').ownBlock = some b ∧ w.heap.size ≤ b) → wpList P ops Q rest (a.put o.dst (.slice A (n + m) c')) w') : wpList P ops Q (o :: rest) a w :=
  wpList_plain hgd fun _ hK => wp_append_q w s x t ho base e i z size bytes ht hi hz hsize hby hzs hsz v n xs hs hown ad m c news hx hl hnews h1 hm h63 hbytes hbase fun A c' w' h2 h3 h4 => hK _ _ (h A c' w' h2 h3 h4)

theorem step_append_q {ops : Array Oper} {o : Oper} {a : Act} {K : Act → World → Prop} {Q : Exit → Act → World → Prop} {E : Prop} (hgd : o.guard = none) (s x : Operand) (t : TypeId)
    (ho : o.op = .call { callee := .builtin .append, args := #[s, x], argTypes := #[t, t] })
    (base : Nat) (e : TypeId) (i : TypeInfo) (z : Value) (size bytes : Nat) (ht : P.underlying t = some (.slice e)) (hi : P.info? e = some i) (hz : i.zero = some z)
    (hsize : i.size = size) (hby : i.bytes = bytes) (hzs : z.cells.size = size) (hsz : 0 < size)
    (v : Value) (n : Nat) (xs : List Value) (hs : a.eval s = v) (hown : QRow w base e size v n xs)
    (ad : Addr) (m c : Nat) (news : List Value) (hx : a.eval x = .slice (some ad) m c) (hl : news.length = m * size) (hnews : ∀ j u, news[j]? = some u → w.cell? (ad.add j) = some u) (h1 : ∀ u ∈ news, u.oneCell' = true)
    (hm : 0 < m) (h63 : n + m ≤ maxLen) (hbytes : (n + m) * bytes ≤ 140737488355328) (hbase : base ≤ w.heap.size)
    (h : ∀ A c' w', QRow w' base e size (.slice A (n + m) c') (n + m) (xs ++ news) → w.grownBy w' v.ownBlock → ((Value.slice A (n + m) c').ownBlock = v.ownBlock ∨ ∃ b, (Value.slice A (n + m) c').ownBlock = some b ∧ w.heap.size ≤ b) → K (a.put o.dst (.slice A (n + m) c')) w') :
    if Region.wanted o (yielded ops a.tmps) = true then Oper.wp P o a w K Q else E := by
  have hw : Region.wanted o (yielded ops a.tmps) = true := by simp [Region.wanted, hgd]
  rw [if_pos hw]
  exact wp_append_q w s x t ho base e i z size bytes ht hi hz hsize hby hzs hsz v n xs hs hown ad m c news hx hl hnews h1 hm h63 hbytes hbase h
end

theorem Keeps.ext {w w' : World} (h : w.grownBy w' none) : Keeps w w' := Keeps.grown h (fun k hk => by cases hk)

theorem ownBlock_if {A : Option Addr} {n c k : Nat} (h : (Value.slice A n c).ownBlock = some k) : ∃ a, A = some a ∧ a.block = k := by
  cases A with
  | none => simp [Value.ownBlock] at h
  | some a => exact ⟨a, rfl, by simpa [Value.ownBlock] using h⟩

/-- A tree is put behind the leaves. -/
theorem St.pushLeaf {N : Nat} {W W1 w2 : World} {L P : List BT} (h : St N W L P) {vL : Value} (hvL : W.heap[N + 1]? = some (.cells #[vL] 111 (0, 0))) (hext : W.grownBy W1 none) {b : Nat} {t : Tr} (ht : t.Lies W1 b)
    {A : Option Addr} {c : Nat} (hq : QRow w2 (N + 3) 112 1 (.slice A (L.length + 1) c) (L.length + 1) (ptrs L ++ [.pointer (some ⟨b, 0, none⟩)])) (hg : W1.grownBy w2 vL.ownBlock)
    {H1 : Nat} (hH1 : W1.heap.size = H1) (hat : (Value.slice A (L.length + 1) c).ownBlock = vL.ownBlock ∨ ∃ b, (Value.slice A (L.length + 1) c).ownBlock = some b ∧ H1 ≤ b) :
    (St N (w2.setCell ⟨N + 1, 0, none⟩ (.slice A (L.length + 1) c)) (L ++ [(b, t)]) P ∧ Moves N W (w2.setCell ⟨N + 1, 0, none⟩ (.slice A (L.length + 1) c))) ∧ w2.heap[N + 1]? = some (.cells #[vL] 111 (0, 0)) := by
  obtain ⟨vL', vP, h1, h2, h3, h4, h5⟩ := h.ex
  obtain rfl : vL' = vL := by rw [hvL] at h1; simpa using h1.symm
  have hlt : ∀ k, k < W.heap.size → W1.heap[k]? = W.heap[k]? := fun k hk => hext.block k hk (by simp)
  have l1 := (Array.getElem?_eq_some_iff.1 h1).1
  have l2 := (Array.getElem?_eq_some_iff.1 h2).1
  have hrow : ∀ k, vL'.ownBlock = some k → N + 3 ≤ k ∧ ∃ cells, W1.heap[k]? = some (.cells cells 112 (0, 0)) := fun k hk => by
    obtain ⟨a1, cells, a2⟩ := q_typed h3 k hk
    exact ⟨a1, cells, (hlt k (q_lt h3 k hk)).trans a2⟩
  have hw2 : ∀ k, k < W.heap.size → (∀ j, vL'.ownBlock = some j → k ≠ j) → w2.heap[k]? = W.heap[k]? := fun k hk hne =>
    (hg.block k (Nat.lt_of_lt_of_le hk hext.size) (fun e => hne k e.symm rfl)).trans (hlt k hk)
  have k12 : Keeps W1 w2 := Keeps.grown hg (fun k hk c fr hc => by obtain ⟨_, cells, a2⟩ := hrow k hk; rw [a2] at hc; simp at hc)
  have b1 : w2.heap[N + 1]? = some (.cells #[vL'] 111 (0, 0)) := (hw2 _ l1 (fun j hj e => by have := (hrow j hj).1; omega)).trans h1
  have b2 : w2.heap[N + 2]? = some (.cells #[vP] 111 (0, 0)) := (hw2 _ l2 (fun j hj e => by have := (hrow j hj).1; omega)).trans h2
  have k23 : Keeps w2 (w2.setCell ⟨N + 1, 0, none⟩ (.slice A (L.length + 1) c)) := Keeps.grown (grownBy_setCell _ _ _ _) (fun k hk c fr hc => by cases hk; rw [b1] at hc; simp at hc)
  have hoth : ∀ k, k ≠ N + 1 → (w2.setCell ⟨N + 1, 0, none⟩ (.slice A (L.length + 1) c)).heap[k]? = w2.heap[k]? := fun k hk => Below.heap_setCell _ _ _ k hk
  have hP : ∀ k, vP.ownBlock = some k → w2.heap[k]? = W.heap[k]? := fun k hk => hw2 k (q_lt h4 k hk) (fun j hj e => h5 j hj (by rw [← e]; exact hk))
  refine ⟨⟨⟨⟨_, vP, setBox b1 _, (hoth _ (by omega)).trans b2, ?_, ?_, ?_⟩, ?_⟩, ?_, ?_⟩, b1⟩
  · have := q_move (w1 := w2.setCell ⟨N + 1, 0, none⟩ (.slice A (L.length + 1) c)) hq (fun k hk => hoth k (by have := (q_typed hq k hk).1; omega))
    simpa [ptrs] using this
  · exact q_move h4 (fun k hk => (hoth k (by have := (q_typed h4 k hk).1; omega)).trans (hP k hk))
  · intro k k1 k2
    rcases hat with e | ⟨b', e, hb'⟩
    · exact h5 k (by rw [← e]; exact k1) k2
    · rw [e] at k1
      have := q_lt h4 k k2
      have := hext.size
      simp only [Option.some.injEq] at k1
      omega
  · intro y hy
    rcases List.mem_append.1 hy with hy | hy
    · rcases List.mem_append.1 hy with hy | hy
      · exact (h.lies y (by simp [hy])).keeps (Keeps.trans (Keeps.ext hext) (Keeps.trans k12 k23))
      · simp only [List.mem_singleton] at hy
        subst hy
        exact ht.keeps (Keeps.trans k12 k23)
    · exact (h.lies y (by simp [hy])).keeps (Keeps.trans (Keeps.ext hext) (Keeps.trans k12 k23))
  · refine Below.setCell (B := N + 1) (w := w2) ?_ (Nat.le_refl _) _
    refine ⟨hg.os.trans hext.os, hg.tape.trans hext.tape, hg.output.trans hext.output, Nat.le_trans hext.size hg.size, fun k hk => hw2 k (by omega) (fun j hj e => by have := (hrow j hj).1; omega)⟩
  · exact Keeps.trans (Keeps.ext hext) (Keeps.trans k12 k23)

/-- A tree is put behind the pairs. -/
theorem St.pushPair {N : Nat} {W W1 w2 : World} {L P : List BT} (h : St N W L P) {vP : Value} (hvP : W.heap[N + 2]? = some (.cells #[vP] 111 (0, 0))) (hext : W.grownBy W1 none) {b : Nat} {t : Tr} (ht : t.Lies W1 b)
    {A : Option Addr} {c : Nat} (hq : QRow w2 (N + 3) 112 1 (.slice A (P.length + 1) c) (P.length + 1) (ptrs P ++ [.pointer (some ⟨b, 0, none⟩)])) (hg : W1.grownBy w2 vP.ownBlock)
    {H1 : Nat} (hH1 : W1.heap.size = H1) (hat : (Value.slice A (P.length + 1) c).ownBlock = vP.ownBlock ∨ ∃ b, (Value.slice A (P.length + 1) c).ownBlock = some b ∧ H1 ≤ b) :
    (St N (w2.setCell ⟨N + 2, 0, none⟩ (.slice A (P.length + 1) c)) L (P ++ [(b, t)]) ∧ Moves N W (w2.setCell ⟨N + 2, 0, none⟩ (.slice A (P.length + 1) c))) ∧ w2.heap[N + 2]? = some (.cells #[vP] 111 (0, 0)) := by
  obtain ⟨vL, vP', h1, h2, h3, h4, h5⟩ := h.ex
  obtain rfl : vP' = vP := by rw [hvP] at h2; simpa using h2.symm
  have hlt : ∀ k, k < W.heap.size → W1.heap[k]? = W.heap[k]? := fun k hk => hext.block k hk (by simp)
  have l1 := (Array.getElem?_eq_some_iff.1 h1).1
  have l2 := (Array.getElem?_eq_some_iff.1 h2).1
  have hrow : ∀ k, vP'.ownBlock = some k → N + 3 ≤ k ∧ ∃ cells, W1.heap[k]? = some (.cells cells 112 (0, 0)) := fun k hk => by
    obtain ⟨a1, cells, a2⟩ := q_typed h4 k hk
    exact ⟨a1, cells, (hlt k (q_lt h4 k hk)).trans a2⟩
  have hw2 : ∀ k, k < W.heap.size → (∀ j, vP'.ownBlock = some j → k ≠ j) → w2.heap[k]? = W.heap[k]? := fun k hk hne =>
    (hg.block k (Nat.lt_of_lt_of_le hk hext.size) (fun e => hne k e.symm rfl)).trans (hlt k hk)
  have k12 : Keeps W1 w2 := Keeps.grown hg (fun k hk c fr hc => by obtain ⟨_, cells, a2⟩ := hrow k hk; rw [a2] at hc; simp at hc)
  have b1 : w2.heap[N + 1]? = some (.cells #[vL] 111 (0, 0)) := (hw2 _ l1 (fun j hj e => by have := (hrow j hj).1; omega)).trans h1
  have b2 : w2.heap[N + 2]? = some (.cells #[vP'] 111 (0, 0)) := (hw2 _ l2 (fun j hj e => by have := (hrow j hj).1; omega)).trans h2
  have k23 : Keeps w2 (w2.setCell ⟨N + 2, 0, none⟩ (.slice A (P.length + 1) c)) := Keeps.grown (grownBy_setCell _ _ _ _) (fun k hk c fr hc => by cases hk; rw [b2] at hc; simp at hc)
  have hoth : ∀ k, k ≠ N + 2 → (w2.setCell ⟨N + 2, 0, none⟩ (.slice A (P.length + 1) c)).heap[k]? = w2.heap[k]? := fun k hk => Below.heap_setCell _ _ _ k hk
  have hL : ∀ k, vL.ownBlock = some k → w2.heap[k]? = W.heap[k]? := fun k hk => hw2 k (q_lt h3 k hk) (fun j hj e => h5 k hk (by rw [e]; exact hj))
  refine ⟨⟨⟨⟨vL, _, (hoth _ (by omega)).trans b1, setBox b2 _, ?_, ?_, ?_⟩, ?_⟩, ?_, ?_⟩, b2⟩
  · exact q_move h3 (fun k hk => (hoth k (by have := (q_typed h3 k hk).1; omega)).trans (hL k hk))
  · have := q_move (w1 := w2.setCell ⟨N + 2, 0, none⟩ (.slice A (P.length + 1) c)) hq (fun k hk => hoth k (by have := (q_typed hq k hk).1; omega))
    simpa [ptrs] using this
  · intro k k1 k2
    rcases hat with e | ⟨b', e, hb'⟩
    · exact h5 k k1 (by rw [← e]; exact k2)
    · rw [e] at k2
      have := q_lt h3 k k1
      have := hext.size
      simp only [Option.some.injEq] at k2
      omega
  · intro y hy
    rcases List.mem_append.1 hy with hy | hy
    · exact (h.lies y (by simp [hy])).keeps (Keeps.trans (Keeps.ext hext) (Keeps.trans k12 k23))
    · rcases List.mem_append.1 hy with hy | hy
      · exact (h.lies y (by simp [hy])).keeps (Keeps.trans (Keeps.ext hext) (Keeps.trans k12 k23))
      · simp only [List.mem_singleton] at hy
        subst hy
        exact ht.keeps (Keeps.trans k12 k23)
  · refine Below.setCell (B := N + 1) (w := w2) ?_ (show N + 1 ≤ N + 2 by omega) _
    refine ⟨hg.os.trans hext.os, hg.tape.trans hext.tape, hg.output.trans hext.output, Nat.le_trans hext.size hg.size, fun k hk => hw2 k (by omega) (fun j hj e => by have := (hrow j hj).1; omega)⟩
  · exact Keeps.trans (Keeps.ext hext) (Keeps.trans k12 k23)

theorem news_one (W : World) (v : Value) (T : TypeId) (b : Nat) (hb : W.heap.size = b) : ∀ j u, [v][j]? = some u → (W.alloc (.cells #[v] T)).cell? ((⟨b, 0, none⟩ : Addr).add j) = some u := by
  intro j u hj
  match j, hj with
  | 0, hj =>
    simp only [List.getElem?_cons_zero, Option.some.injEq] at hj
    subst hj
    rw [show ((⟨b, 0, none⟩ : Addr).add 0) = ⟨b, 0, none⟩ by simp [Addr.add], ← hb, cell_block (heap_alloc_new W _)]
    rfl

end Go.Proofs.Ythgijppajindpaa

namespace Go.Proofs.Ythgijppajindpaa
open Go.Shelf Go.RowKit Go.Lib Go.Sort Go.Proofs.YthgijppajindpaaW.PrintWords

theorem SW.frame {α : Type} [Inhabited α] {enc : α → Value} {w0 W : World} {blk off : Nat} {dk : Array α} (h : SW enc w0 blk off dk W) (hb : blk < w0.heap.size) :
    w0.grownBy W (some blk) ∧ ∀ cur e, w0.heap[blk]? = some (.cells cur e (0, 0)) → ∃ cur', W.heap[blk]? = some (.cells cur' e (0, 0)) ∧ cur'.size = cur.size := by
  obtain ⟨n, os, rfl⟩ := h
  refine ⟨⟨rfl, rfl, rfl, ?_, fun k hk hne => ?_⟩, fun cur e hc => ?_⟩
  · rw [sortWorld, size_grow, size_putRow]; show w0.heap.size ≤ w0.heap.size + _; omega
  · rw [sortWorld, heap_grow_old _ _ (by rw [size_putRow]; exact hk)]
    show ((w0.heap.modify blk _))[k]? = _
    rw [Array.getElem?_modify, if_neg (fun e => hne (by rw [e]))]
  · rw [sortWorld, heap_grow_old _ _ (by rw [size_putRow]; exact hb)]
    refine ⟨putCells enc off dk cur, ?_, by simp [putCells]⟩
    show ((w0.heap.modify blk _))[blk]? = _
    rw [Array.getElem?_modify, if_pos rfl, hc]
    rfl

/-- The element that stands at a place. -/
def encF (L : List BT) (i : Fin L.length) : Value := .pointer (some ⟨(L.get i).1, 0, none⟩)
def cfF (L : List BT) (i j : Fin L.length) : Int := wtB (L.get i) - wtB (L.get j)
def idF (n : Nat) : Array (Fin n) := Array.ofFn (fun i => i)

theorem size_idF (n : Nat) : (idF n).size = n := by simp [idF]

/-- The leaves behind the sort. -/
def sortB (x : BT) (L : List BT) : List BT := (stable (ltOf (cfF (x :: L))) (L.length + 1) (idF (L.length + 1))).toList.map (fun i => (x :: L).get i)

theorem sort_St (N : Nat) (W : World) (x : BT) (L : List BT) (h : St N W (x :: L) []) (hw : ∀ y ∈ x :: L, 0 ≤ wtB y ∧ wtB y ≤ 1099511627776) (hlen : L.length < 1000) :
    ∃ g off c, W.cell? ⟨N + 1, 0, none⟩ = some (.slice (some ⟨g, off, none⟩) (L.length + 1) c) ∧
      Calls Try.prog 62 #[.slice (some ⟨g, off, none⟩) (L.length + 1) c, .func (.func 63) #[] #[]] W fun e w' => e = .returned (.tuple #[]) ∧ St N w' (sortB x L) [] ∧ Moves N W w' := by
  obtain ⟨vL, vP, h1, h2, h3, h4, h5⟩ := h.ex
  have h3' := h3
  rcases h3 with ⟨hl, ⟨h0, _⟩ | ⟨g, off, cap, cur, rfl, hg, hh, hnc, hm, hcs, ht⟩⟩
  · simp at h0
  obtain ⟨ad, e, hc⟩ := q_cells h3' (by simp)
  injection e with e
  subst e
  have hgs : g < W.heap.size := (Array.getElem?_eq_some_iff.1 hh).1
  have hcell : ∀ i : Fin (L.length + 1), W.cell? ⟨g, off * 1 + i.1, none⟩ = some (encF (x :: L) i) := fun i => by
    have := hc i.1 (encF (x :: L) i) (by
      unfold ptrs encF
      rw [List.getElem?_map, List.getElem?_eq_getElem (show i.1 < (x :: L).length from i.2)]
      rfl)
    rwa [add_at] at this
  have hH : Holds (encF (x :: L)) W g (off * 1) (idF (L.length + 1)) := fun j hj => by
    rw [size_idF] at hj
    have e1 : (idF (L.length + 1))[j]! = ⟨j, hj⟩ := by
      rw [getElem!_pos _ j (by rw [size_idF]; exact hj)]
      simp [idF]
    rw [e1]
    exact ⟨hcell ⟨j, hj⟩, frozen_block hh _⟩
  have hkeep : ∀ W', SW (encF (x :: L)) W g (off * 1) (stable (ltOf (cfF (x :: L))) (L.length + 1) (idF (L.length + 1))) W' → True := fun _ _ => trivial
  have T : Told (encF (x :: L)) (cfF (x :: L)) 63 #[] g (off * 1) (L.length + 1) (idF (L.length + 1)) W := by
    refine ⟨enters_of Try.func63 (by kernel_rfl) rfl, ?_, ⟨fun _ => rfl, hH, hgs⟩, size_idF _, by omega⟩
    intro m os dk hs a b
    have S1 : SW (encF (x :: L)) W g (off * 1) dk (sortWorld (encF (x :: L)) W g (off * 1) m dk os) := ⟨m, os, rfl⟩
    have k1 : Keeps W (sortWorld (encF (x :: L)) W g (off * 1) m dk os) := Keeps.grown (SW.frame S1 hgs).1 (fun k hk c fr hc => by cases hk; rw [hh] at hc; simp at hc)
    have la := ((h.lies ((x :: L).get a) (by rw [List.append_nil]; exact List.get_mem _ _)).keeps k1).weight
    have lb := ((h.lies ((x :: L).get b) (by rw [List.append_nil]; exact List.get_mem _ _)).keeps k1).weight
    have wa := hw _ (List.get_mem (x :: L) a)
    have wb := hw _ (List.get_mem (x :: L) b)
    refine (cmp_calls _ _ _ _ _ la lb wa.1 wa.2 wb.1 wb.2).mono ?_
    rintro e w' ⟨rfl, q, rfl⟩
    exact ⟨rfl, q, #[], by simp⟩
  refine ⟨g, off * 1, cap, by rw [cell_block h1]; rfl, ?_⟩
  have hS0 : Cur (encF (x :: L)) W g (off * 1) (L.length + 1) (idF (L.length + 1)) W := ⟨size_idF _, SW.start hH⟩
  refine (sortStable_calls T cap (idF (L.length + 1)) W hS0).mono ?_
  rintro e w' ⟨rfl, hsz, hS⟩
  obtain ⟨hgr, hrow⟩ := SW.frame hS hgs
  obtain ⟨cur', hh', hcs'⟩ := hrow cur 112 hh
  have hk : Keeps W w' := Keeps.grown hgr (fun k hk c fr hc => by cases hk; rw [hh] at hc; simp at hc)
  have hoth : ∀ k, k < W.heap.size → k ≠ g → w'.heap[k]? = W.heap[k]? := fun k hk hne => hgr.block k hk (by simpa using hne)
  have l1 := (Array.getElem?_eq_some_iff.1 h1).1
  have l2 := (Array.getElem?_eq_some_iff.1 h2).1
  obtain ⟨dd, hdd⟩ : ∃ q, q = stable (ltOf (cfF (x :: L))) (L.length + 1) (idF (L.length + 1)) := ⟨_, rfl⟩
  rw [← hdd] at hS hsz
  have hlenB : (sortB x L).length = L.length + 1 := by unfold sortB; rw [← hdd, List.length_map, Array.length_toList]; exact hsz
  have hsame : (dd.toList.map (fun i => (x :: L).get i)).length = L.length + 1 := by rw [List.length_map, Array.length_toList]; exact hsz
  refine ⟨rfl, ⟨⟨_, vP, (hoth _ l1 (by omega)).trans h1, (hoth _ l2 (by omega)).trans h2, ?_, q_move h4 (fun k hk => ?_), h5⟩, ?_⟩, ?_, hk⟩
  · rw [hlenB]
    refine ⟨by rw [ptrs_length, hlenB]; simp, .inr ⟨g, off, cap, cur', rfl, hg, hh', by simpa using hnc, hm, by rw [hcs', hcs], ?_⟩⟩
    apply List.ext_getElem?
    intro i
    by_cases hi : i < L.length + 1
    · rw [List.getElem?_take, if_pos (by omega), List.getElem?_drop]
      have hci := hS.c1 T.R (by rw [hsz, size_idF]) i (by rw [hsz]; exact hi)
      rw [cell_block hh'] at hci
      rw [Array.getElem?_toList, hci]
      unfold sortB ptrs
      rw [← hdd, List.getElem?_map, List.getElem?_map, Array.getElem?_toList, Array.getElem?_eq_getElem (by omega)]
      rw [getElem!_pos dd i (by omega)]
      rfl
    · rw [List.getElem?_eq_none (by simp; omega), List.getElem?_eq_none (by rw [ptrs_length, hlenB]; omega)]
  · refine hoth k (q_lt h4 k hk) (fun e => ?_)
    exact h5 k (by rw [e]; simp [Value.ownBlock]) hk
  · intro y hy
    rw [List.append_nil] at hy
    refine (h.lies y ?_).keeps hk
    rw [List.append_nil]
    unfold sortB at hy
    obtain ⟨i, _, rfl⟩ := List.mem_map.1 hy
    exact List.get_mem _ _
  · exact ⟨hgr.os, hgr.tape, hgr.output, hgr.size, fun k hk => hoth k (by omega) (by omega)⟩

theorem size_stIns {α : Type} [Inhabited α] (lt : α → α → Bool) (n : Nat) : ∀ (k a : Nat) (d : Array α), (stIns lt n k a d).size = d.size
  | 0, a, d => size_insertion _ _ _ _
  | k + 1, a, d => by
    rw [stIns]
    split
    · rw [size_stIns lt n k, size_insertion]
    · exact size_insertion _ _ _ _

theorem size_stPass {α : Type} [Inhabited α] (lt : α → α → Bool) (n bs : Nat) : ∀ (k a : Nat) (d : Array α), (stPass lt n bs k a d).size = d.size
  | 0, a, d => by
    rw [stPass]
    split
    · exact size_symM _ _ _ _ _ _
    · rfl
  | k + 1, a, d => by
    rw [stPass]
    split
    · rw [size_stPass lt n bs k, size_symM]
    · split
      · exact size_symM _ _ _ _ _ _
      · rfl

theorem size_stLoop {α : Type} [Inhabited α] (lt : α → α → Bool) (n : Nat) : ∀ (k bs : Nat) (d : Array α), (stLoop lt n k bs d).size = d.size
  | 0, bs, d => rfl
  | k + 1, bs, d => by
    rw [stLoop]
    split
    · rw [size_stLoop lt n k, size_stPass]
    · rfl

theorem size_stable {α : Type} [Inhabited α] (lt : α → α → Bool) (n : Nat) (d : Array α) : (stable lt n d).size = d.size := by
  rw [stable, size_stLoop, size_stIns]

def sortAll : List BT → List BT
  | [] => []
  | x :: L => sortB x L

theorem length_sortAll : ∀ L : List BT, (sortAll L).length = L.length
  | [] => rfl
  | x :: L => by
    show (sortB x L).length = _
    unfold sortB
    rw [List.length_map, Array.length_toList, size_stable, size_idF]
    rfl

theorem mem_sortAll : ∀ {L : List BT} {y : BT}, y ∈ sortAll L → y ∈ L
  | [], y, h => h
  | x :: L, y, h => by
    obtain ⟨i, _, rfl⟩ := List.mem_map.1 (show y ∈ sortB x L from h)
    exact List.get_mem _ _

end Go.Proofs.Ythgijppajindpaa

namespace Go.Proofs.Ythgijppajindpaa
open Go.RowKit Go.Proofs.YthgijppajindpaaW.PrintWords

theorem Try.info3 : (Try.prog.info? 3).map (fun i => (i.zero, i.size, i.bytes)) = some (some (.int .i64 0), 1, 8) := by kernel_rfl
theorem Try.info112 : (Try.prog.info? 112).map (fun i => (i.zero, i.size, i.bytes)) = some (some (.pointer none), 1, 8) := by kernel_rfl

/-- The leaves of the symbols that come, in order. -/
def leafs (l : List Int) : List Tr := (l.zipIdx.filter fun p => decide (0 < p.1)).map fun p => .leaf p.1 p.2

theorem leafs_snoc (l : List Int) (x : Int) : leafs (l ++ [x]) = leafs l ++ if 0 < x then [.leaf x l.length] else [] := by
  unfold leafs
  rw [List.zipIdx_append, List.filter_append, List.map_append]
  congr 1
  by_cases h : 0 < x <;> simp [h]

theorem leafs_le (l : List Int) : (leafs l).length ≤ l.length := by
  unfold leafs
  rw [List.length_map]
  refine Nat.le_trans (List.length_filter_le _ _) ?_
  simp

theorem madeRow (n : Nat) : (madeCells #[Value.int .i64 0] n) = ((List.replicate n (0 : Int)).map (Value.int .i64)).toArray := by
  apply Array.toList_inj.1
  rw [toList_madeCells_one]
  simp

theorem grownBy_drew (w : World) (row : Option Nat) : w.grownBy w.drew row := ⟨rfl, rfl, rfl, Nat.le_refl _, fun _ _ _ => rfl⟩
theorem hid {p : Prop} (h : p) : Hid p := h

/-- Two trees are made one, as long as there are two. -/
def build : Nat → List Tr → List Tr → List Tr × List Tr
  | 0, L, P => (L, P)
  | k + 1, L, P =>
    match pop Tr.wt L P with
    | none => (L, P)
    | some (a, L1, P1) =>
      match pop Tr.wt L1 P1 with
      | none => (L, P)
      | some (b, L2, P2) => build k L2 (P2 ++ [.node (a.wt + b.wt) a b])

theorem pop_map {L P L1 P1 : List BT} {x : BT} (h : pop wtB L P = some (x, L1, P1)) : pop Tr.wt (L.map Prod.snd) (P.map Prod.snd) = some (x.2, L1.map Prod.snd, P1.map Prod.snd) := by
  cases L with
  | nil =>
    cases P with
    | nil => simp [pop] at h
    | cons y P =>
      simp only [pop, Option.some.injEq, Prod.mk.injEq] at h
      obtain ⟨rfl, rfl, rfl⟩ := h
      rfl
  | cons a L =>
    cases P with
    | nil =>
      simp only [pop, Option.some.injEq, Prod.mk.injEq] at h
      obtain ⟨rfl, rfl, rfl⟩ := h
      rfl
    | cons y P =>
      by_cases hle : wtB a ≤ wtB y
      · simp only [pop, if_pos hle, Option.some.injEq, Prod.mk.injEq] at h
        obtain ⟨rfl, rfl, rfl⟩ := h
        simp only [List.map_cons, pop]
        rw [if_pos (show a.2.wt ≤ y.2.wt from hle)]
      · simp only [pop, if_neg hle, Option.some.injEq, Prod.mk.injEq] at h
        obtain ⟨rfl, rfl, rfl⟩ := h
        simp only [List.map_cons, pop]
        rw [if_neg (show ¬ a.2.wt ≤ y.2.wt from hle)]

/-- All the weights together. -/
def tot (L : List BT) : Int := (L.map wtB).sum

theorem pop_some {L P : List BT} (h : 0 < L.length + P.length) : ∃ x L1 P1, pop wtB L P = some (x, L1, P1) ∧ L1.length + P1.length + 1 = L.length + P.length ∧ tot L + tot P = wtB x + (tot L1 + tot P1) ∧
    x ∈ L ++ P ∧ ∀ y, y ∈ L1 ++ P1 → y ∈ L ++ P := by
  cases L with
  | nil =>
    cases P with
    | nil => simp at h
    | cons y P => exact ⟨y, [], P, rfl, by simp, by simp [tot], by simp, fun z hz => by simp at hz ⊢; exact .inr hz⟩
  | cons a L =>
    cases P with
    | nil => exact ⟨a, L, [], rfl, by simp, by simp [tot], by simp, fun z hz => by simp at hz ⊢; exact .inr hz⟩
    | cons y P =>
      by_cases hle : wtB a ≤ wtB y
      · exact ⟨a, L, y :: P, by simp [pop, hle], by simp; omega, by simp [tot]; omega, by simp, fun z hz => by simp at hz ⊢; exact .inr hz⟩
      · refine ⟨y, a :: L, P, by simp [pop, hle], by simp; omega, by simp [tot]; omega, by simp, fun z hz => ?_⟩
        simp at hz ⊢
        rcases hz with h | h | h
        · exact .inl h
        · exact .inr (.inl h)
        · exact .inr (.inr (.inr h))

theorem tot_le (B : Int) : ∀ L : List BT, (∀ x, x ∈ L → 0 ≤ wtB x ∧ wtB x ≤ B) → 0 ≤ tot L ∧ tot L ≤ L.length * B
  | [], _ => by simp [tot]
  | x :: L, h => by
    have h1 := h x (by simp)
    have h2 := tot_le B L (fun y hy => h y (by simp [hy]))
    have e : tot (x :: L) = wtB x + tot L := rfl
    rw [e]
    have e2 : ((x :: L).length : Int) * B = L.length * B + B := by simp [Int.add_mul]
    omega

theorem tot_nonneg : ∀ L : List BT, (∀ x, x ∈ L → 0 ≤ wtB x) → 0 ≤ tot L
  | [], _ => by simp [tot]
  | x :: L, h => by
    have h1 := h x (by simp)
    have h2 := tot_nonneg L (fun y hy => h y (by simp [hy]))
    have e : tot (x :: L) = wtB x + tot L := rfl
    omega

theorem build_stop {k : Nat} {L P : List Tr} (h : L.length + P.length ≤ 1) : build k L P = (L, P) := by
  cases k with
  | zero => rfl
  | succ k =>
    cases L with
    | nil =>
      cases P with
      | nil => rfl
      | cons y P =>
        cases P with
        | nil => rfl
        | cons z P => simp at h
    | cons x L =>
      cases P with
      | nil =>
        cases L with
        | nil => rfl
        | cons z L => simp at h
      | cons y P => simp at h; omega

/-- What a tree of the queues keeps. -/
def Ok (n m : Nat) (x : BT) : Prop := 0 ≤ wtB x ∧ x.2.Below n ∧ x.2.height + m ≤ n

/-- The lengths, out of what the queues hold in the end. -/
def finish (n : Nat) (q : List Tr × List Tr) : List Int := (q.1 ++ q.2).foldl (fun xs t => t.dep 0 xs) (List.replicate n 0)

/-- What prefix.grown may hand back. -/
def GrownOut (l xs : List Int) : Prop := ∃ L : List BT, L.map Prod.snd = leafs l ∧ xs = finish l.length (build l.length ((sortAll L).map Prod.snd) [])

theorem leafs_ok {l : List Int} {n : Nat} (hn : l.length = n) (hb : ∀ j, 0 ≤ l.getD j 0 ∧ l.getD j 0 ≤ 1048576) : ∀ t, t ∈ leafs l → 0 ≤ t.wt ∧ t.wt ≤ 1048576 ∧ t.Below n ∧ t.height = 0 := by
  intro t ht
  unfold leafs at ht
  obtain ⟨p, hp, rfl⟩ := List.mem_map.1 ht
  have h1 := (List.mem_filter.1 hp).1
  obtain ⟨x, i⟩ := p
  obtain ⟨hi, hx⟩ := List.mk_mem_zipIdx_iff_getElem?.1 h1 |> fun h => List.getElem?_eq_some_iff.1 h
  have := hb i
  rw [List.getD_eq_getElem?_getD, List.getElem?_eq_getElem hi] at this
  simp only [Option.getD_some, hx] at this
  exact ⟨this.1, this.2, by rw [← hn]; exact hi, rfl⟩

theorem run_append_zero {P : Program} (t ty e : TypeId) (i : TypeInfo) (ht : P.underlying t = some (.slice e)) (hi : P.info? e = some i) (A B : Option Addr) (n c c2 : Nat) (h : n ≤ c) (w : World) :
    (Builtin.append_ #[t, t] ty #[.slice A n c, .slice B 0 c2]).run P w = .ok (.slice A n c) w := by
  cases A <;> cases B <;> simp [Builtin.append_, run_underlying ht, sizeOf, typeInfo, hi, Builtin.lenOf, h, Builtin.firstCells, loadCells, loadCellsFrom, storeCells, Result.andThen]

theorem wpList_append_zero {P : Program} {w : World} {ops : Array Oper} {rest : List Oper} {o : Oper} {a : Act} {Q : Exit → Act → World → Prop} (hgd : o.guard = none) (s x : Operand) (t : TypeId)
    (ho : o.op = .call { callee := .builtin .append, args := #[s, x], argTypes := #[t, t] })
    (e : TypeId) (i : TypeInfo) (ht : P.underlying t = some (.slice e)) (hi : P.info? e = some i)
    (A B : Option Addr) (n c c2 : Nat) (hs : a.eval s = .slice A n c) (hx : a.eval x = .slice B 0 c2) (hle : n ≤ c)
    (h : wpList P ops Q rest (a.put o.dst (.slice A n c)) w) : wpList P ops Q (o :: rest) a w := by
  refine wpList_plain hgd fun K hK => ?_
  have hrun := run_append_zero (P := P) t o.type e i ht hi A B n c c2 hle w
  unfold Oper.wp
  simp [execOp, ho, resolve, invoke, builtin, hs, hx, hrun, Result.andThen]
  exact hK _ _ h

set_option maxHeartbeats 4000000 in
set_option maxRecDepth 1000000 in
theorem grown_one (A0 : Option Addr) (n c : Nat) (l : List Int) (w : World) (hn : l.length = n) (h300 : n ≤ 300)
    (hcell : 0 < n → ∃ g, A0 = some ⟨g, 0, none⟩ ∧ g < w.heap.size ∧ ∀ j, j < n → w.cell? ⟨g, j, none⟩ = some (.int .i64 (l.getD j 0))) (hb : ∀ j, 0 ≤ l.getD j 0 ∧ l.getD j 0 ≤ 1048576) :
    Calls Try.prog 39 #[.slice A0 n c] w fun e w' => e = .returned (.slice (some ⟨w.heap.size, 0, none⟩) n n) ∧ RowKit.Below w.heap.size w w' ∧ ∃ xs, GrownOut l xs ∧ IntRow w' w.heap.size xs := by
  have hmk := fun w => run_make_row' (P := Try.prog) 22 3 (.int .i64 0) 8 Try.underlying22 Try.info3 rfl .i64 .i64 n (by omega) (by omega) w
  have hmf : ∀ (fn : Fn) (first cap : Array Value) (w : World), (Instr.makeFunc fn first cap).run Try.prog w = .ok (.func fn first cap) w := fun _ _ _ _ => rfl
  obtain ⟨i0, hi, hz0, hz1, hz2⟩ := info_parts Try.info112
  go_enter Try.func39, Try.ntmps39
  go_wp2_with fail
  obtain ⟨N, hN⟩ : ∃ N, w.heap.size = N := ⟨_, rfl⟩
  rw [hN] at hcell ⊢
  rw [show N + 1 + 1 = N + 2 from rfl]
  obtain ⟨W0, hW0⟩ : ∃ W0, (((w.alloc (Obj.cells (madeCells #[Value.int IntKind.i64 0] n) 3)).alloc (Obj.cells #[Value.slice none 0 0] 111)).alloc (Obj.cells #[Value.slice none 0 0] 111)) = W0 := ⟨_, rfl⟩
  rw [hW0]
  have S0 : St N W0 [] [] := by
    rw [← hW0, ← hN]
    refine ⟨⟨.slice none 0 0, .slice none 0 0, ?_, ?_, ?_, ?_, ?_⟩, by simp⟩
    · rw [Below.heap_alloc _ _ _ (by simp)]; simpa using heap_alloc_new (w.alloc (Obj.cells (madeCells #[Value.int IntKind.i64 0] n) 3)) (Obj.cells #[Value.slice none 0 0] 111)
    · simpa using heap_alloc_new ((w.alloc (Obj.cells (madeCells #[Value.int IntKind.i64 0] n) 3)).alloc (Obj.cells #[Value.slice none 0 0] 111)) (Obj.cells #[Value.slice none 0 0] 111)
    · exact q_of_own (own_nil _ _ _ _)
    · exact q_of_own (own_nil _ _ _ _)
    · intro k hk; simp [Value.ownBlock] at hk
  have B0 : Below N w W0 := by
    rw [← hW0, ← hN]
    exact ((((Below.refl _ _).alloc (Nat.le_refl _) _).alloc (by rw [World.size_alloc]; omega) _).alloc (by rw [World.size_alloc, World.size_alloc]; omega) _)
  have R0 : IntRow W0 N (List.replicate n 0) := by
    rw [← hW0, ← hN, IntRow, Below.heap_alloc _ _ _ (by simp; omega), Below.heap_alloc _ _ _ (by simp), heap_alloc_new, madeRow]
  have Z0 : Hid (W0.heap.size = N + 3) := by show _ = _; rw [← hW0, ← hN]; simp
  have S0 : Hid (St N W0 [] []) := S0
  have R0 : Hid (IntRow W0 N (List.replicate n 0)) := R0
  have HH : Hid (0 < n → ∃ g, A0 = some ⟨g, 0, none⟩ ∧ g < N ∧ ∀ j, j < n → w.cell? ⟨g, j, none⟩ = some (.int .i64 (l.getD j 0))) := hcell
  have HB : Hid (∀ j, 0 ≤ l.getD j 0 ∧ l.getD j 0 ≤ 1048576) := hb
  have HL : Hid (l.length = n) := hn
  have HN : Hid (w.heap.size = N) := hN
  have HB0 : Hid (Below N w W0) := B0
  clear hcell hb hn hW0 hN hmk
  go_loopg [18] n (fun kx s18 wr => ∃ (k : Nat) (L : List BT), s18 = .int .i64 k ∧ k ≤ n ∧ n - k ≤ kx ∧ Hid (L.map Prod.snd = leafs (l.take k)) ∧ Hid (St N wr L []) ∧ Hid (Moves N W0 wr))
  case atStart => exact ⟨0, [], rfl, by omega, by omega, rfl, S0, Moves.refl _ _⟩
  case round =>
    obtain ⟨k, L, rfl, hkn, hkx, HLf, HS, HM⟩ := hrel
    by_cases hlt : k < n
    · have hltz : (k : Int) < (n : Int) := by omega
      obtain ⟨g, rfl, hg, hcell⟩ := HH.out (by omega)
      obtain ⟨x, hx⟩ : ∃ x, x = l.getD k 0 := ⟨_, rfl⟩
      have hcx : wr.cell? ⟨g, k, none⟩ = some (.int .i64 x) := by
        rw [HM.out.below.cell (p := ⟨g, k, none⟩) (by show g < N + 1; omega), B0.cell (p := ⟨g, k, none⟩) hg, hx]
        exact hcell k hlt
      clear hcell
      have hx0 : 0 ≤ x := by rw [hx]; exact (HB.out k).1
      have hx1 : x ≤ 1048576 := by rw [hx]; exact (HB.out k).2
      have htk : Hid (l.take (k + 1) = l.take k ++ [x]) := by
        show _ = _
        have hkl : k < l.length := by rw [HL.out]; exact hlt
        rw [List.take_succ_eq_append_getElem hkl, hx, List.getD_eq_getElem?_getD, List.getElem?_eq_getElem hkl]; rfl
      have hlk : Hid ((l.take k).length = k) := by show _ = _; rw [List.length_take, HL.out]; omega
      clear hx
      by_cases hpos : 0 < x
      · obtain ⟨vL, vP, h1, h2, h3, h4, h5⟩ := HS.out.ex
        obtain ⟨A, c', rfl, hAc⟩ := q_slice h3
        have hc1 : wr.cell? ⟨N + 1, 0, none⟩ = some (.slice A L.length c') := by rw [cell_block h1]; rfl
        have hf1 : wr.frozen? ⟨N + 1, 0, none⟩ = false := frozen_block h1 0
        have Q3 : Hid (QRow wr (N + 3) 112 1 (.slice A L.length c') L.length (ptrs L)) := h3
        have H1 : Hid (wr.heap[N + 1]? = some (.cells #[.slice A L.length c'] 111 (0, 0))) := h1
        clear h1 h2 h3 h4 h5
        obtain ⟨H, hH⟩ : ∃ H, wr.heap.size = H := ⟨_, rfl⟩
        have W1g : wr.grownBy ((wr.alloc (.cells #[.int .i64 x, .int .i64 k, .pointer none, .pointer none] 114)).alloc (.cells #[.pointer (some ⟨H, 0, none⟩)] 112)) none :=
          World.grownBy.trans (World.grownBy_alloc _ _ _) (World.grownBy_alloc _ _ _)
        have QA : Hid (QRow ((wr.alloc (.cells #[.int .i64 x, .int .i64 k, .pointer none, .pointer none] 114)).alloc (.cells #[.pointer (some ⟨H, 0, none⟩)] 112)) (N + 3) 112 1 (.slice A L.length c') L.length (ptrs L)) :=
          q_move Q3.out (fun k hk => W1g.block k (q_lt Q3.out k hk) (by simp))
        have LT : Hid ((Tr.leaf x k).Lies ((wr.alloc (.cells #[.int .i64 x, .int .i64 k, .pointer none, .pointer none] 114)).alloc (.cells #[.pointer (some ⟨H, 0, none⟩)] 112)) H) := by
          show (_ : World).heap[H]? = _
          rw [Below.heap_alloc _ _ _ (by simp; omega), ← hH, heap_alloc_new]
        have G1 : Hid _ := W1g
        clear W1g
        have hln : L.length ≤ 300 := by
          have e1 := congrArg List.length HLf.out
          rw [List.length_map] at e1
          have := leafs_le (l.take k)
          rw [hlk.out] at this
          omega
        have hNs : N + 3 ≤ H := by have := HM.out.below.size; have := Z0.out; omega
        go_wp2_with (at_builtin; refine wpList_append_q _ rfl (.tmp 25) (.tmp 30) 111 rfl (N + 3) 112 i0 (.pointer none) 1 8 Try.underlying111 hi hz0 hz1 hz2 rfl (by decide) (.slice A L.length c') L.length (ptrs L) rfl QA.out ⟨H + 1, 0, none⟩ 1 1 [.pointer (some ⟨H, 0, none⟩)] rfl rfl ?q2 ?q3 (by decide) ?q4 ?q5 ?q6 ?_)
        case q2 => exact news_one _ _ _ _ (by simp [hH])
        case q3 => intro u hu; simp at hu; subst hu; rfl
        case q4 => unfold maxLen; omega
        case q5 => omega
        case q6 => simp; omega
        intro A2 c2 w2 hq2 hg2 hat2
        obtain ⟨R, hb1⟩ := HS.out.pushLeaf H1.out G1.out LT.out hq2 hg2 (H1 := H + 1 + 1) (by simp [hH]) hat2
        have R : Hid _ := R
        have hc2 : w2.cell? ⟨N + 1, 0, none⟩ = some (.slice A L.length c') := by rw [cell_block hb1]; rfl
        have hf2 : w2.frozen? ⟨N + 1, 0, none⟩ = false := frozen_block hb1 0
        clear hb1 hq2 hg2 hat2 hc1 hf1 hcx
        go_wp2_with fail
        go_roundg (n - (k + 1))
        case measure => omega
        case rel =>
          refine ⟨k + 1, L ++ [(H, .leaf x k)], by go_num, by omega, by omega, ?_, hid R.out.1, HM.out.trans R.out.2⟩
          show _ = _
          rw [htk.out, leafs_snoc, if_pos hpos, hlk.out, List.map_append, HLf.out]
          rfl
      · have hnp : ¬ x > 0 := hpos
        go_wp2_with fail
        go_roundg (n - (k + 1))
        case measure => omega
        case rel =>
          refine ⟨k + 1, L, by go_num, by omega, by omega, ?_, HS, HM⟩
          show _ = _
          rw [htk.out, leafs_snoc, if_neg (by omega), List.append_nil, HLf.out]
    · have hltz : ¬ (k : Int) < (n : Int) := by omega
      have hkn' : k = n := by omega
      have HL2 : Hid (L.map Prod.snd = leafs l) := by
        show _ = _
        rw [HLf.out, hkn', ← HL.out, List.take_length]
      clear HLf hkn hkx hkn'
      have srt : ∃ v, wr.cell? ⟨N + 1, 0, none⟩ = some v ∧ Calls Try.prog 62 #[v, .func (.func 63) #[] #[]] wr fun e w' => e = .returned (.tuple #[]) ∧ St N w' (sortAll L) [] ∧ Moves N wr w' := by
        cases L with
        | nil =>
          obtain ⟨vL, vP, h1, h2, h3, h4, h5⟩ := HS.out.ex
          obtain ⟨A, c', rfl⟩ := q_zero h3
          refine ⟨_, by rw [cell_block h1]; rfl, (sortStable_none _ _ _ _).mono ?_⟩
          rintro e w' ⟨rfl, rfl⟩
          exact ⟨rfl, HS.out, Moves.refl _ _⟩
        | cons x L =>
          obtain ⟨g', off', c', a1, a2⟩ := sort_St N wr x L HS.out (fun y hy => by
            have := leafs_ok HL.out HB.out y.2 (by rw [← HL2.out]; exact List.mem_map_of_mem hy)
            exact ⟨this.1, by show y.2.wt ≤ _; omega⟩) (by
            have e1 := congrArg List.length HL2.out
            rw [List.length_map] at e1
            have := leafs_le l
            rw [HL.out] at this
            simp at e1
            omega)
          exact ⟨_, a1, a2⟩
      obtain ⟨v, hv, hcall⟩ := srt
      have HCALL : Hid _ := hcall
      clear hcall
      go_wp2_with fail
      refine Calls.mono HCALL.out ?_
      rintro e w1 ⟨rfl, hS1, hM1⟩
      have S1 : Hid (St N w1 (sortAll L) []) := hS1
      have M1 : Hid (Moves N W0 w1) := HM.out.trans hM1
      clear hS1 hM1 HCALL hv HS HM
      go_wp2_with fail
      go_loopg [36] n (fun kx s36 wr => ∃ (L1 P1 : List BT), L1.length + P1.length ≤ kx ∧ L1.length + P1.length ≤ n ∧ Hid (St N wr L1 P1) ∧ Hid (Moves N W0 wr) ∧ Hid (tot L1 + tot P1 ≤ 1099511627776 ∧ ∀ x, x ∈ L1 ++ P1 → Ok n (L1.length + P1.length) x) ∧
        Hid (build kx (L1.map Prod.snd) (P1.map Prod.snd) = build n ((sortAll L).map Prod.snd) []))
      case atStart =>
        have hlen : L.length ≤ n := by
          have e1 := congrArg List.length HL2.out
          rw [List.length_map] at e1
          have := leafs_le l
          rw [HL.out] at this
          omega
        have hok : ∀ x, x ∈ sortAll L → 0 ≤ wtB x ∧ wtB x ≤ 1048576 ∧ x.2.Below n ∧ x.2.height = 0 := fun x hx =>
          leafs_ok HL.out HB.out x.2 (by rw [← HL2.out]; exact List.mem_map_of_mem (mem_sortAll hx))
        refine ⟨sortAll L, [], by rw [length_sortAll]; simpa using hlen, by rw [length_sortAll]; simpa using hlen, S1, M1, hid ⟨?_, ?_⟩, hid rfl⟩
        · have h1 := tot_le 1048576 (sortAll L) (fun x hx => ⟨(hok x hx).1, (hok x hx).2.1⟩)
          rw [length_sortAll] at h1
          have h2 : tot [] = 0 := rfl
          rw [h2]
          have h3 : (L.length : Int) * 1048576 ≤ 300 * 1048576 := by omega
          omega
        · intro x hx
          rw [List.append_nil] at hx
          obtain ⟨a1, a2, a3, a4⟩ := hok x hx
          exact ⟨a1, a3, by rw [a4, length_sortAll]; simpa using hlen⟩
      case round =>
        obtain ⟨L1, P1, hk1, hk2, HS, HM, HT, HBd⟩ := hrel
        obtain ⟨vL, vP, h1, h2, h3, h4, h5⟩ := HS.out.ex
        obtain ⟨A, c1, rfl, hAc⟩ := q_slice h3
        obtain ⟨A', c2, rfl, hAc'⟩ := q_slice h4
        have hc1 : wr.cell? ⟨N + 1, 0, none⟩ = some (.slice A L1.length c1) := by rw [cell_block h1]; rfl
        have hc2 : wr.cell? ⟨N + 2, 0, none⟩ = some (.slice A' P1.length c2) := by rw [cell_block h2]; rfl
        clear h1 h2 h3 h4 h5 hAc hAc'
        by_cases htwo : 1 < L1.length + P1.length
        · have htz : (L1.length : Int) + (P1.length : Int) > 1 := by omega
          obtain ⟨x, L2, P2, hp1, hl1, ht1, hx1, hm1⟩ := pop_some (L := L1) (P := P1) (by omega)
          obtain ⟨y, L3, P3, hp2, hl2, ht2, hx2, hm2⟩ := pop_some (L := L2) (P := P2) (by omega)
          obtain ⟨kk, rfl⟩ : ∃ q, gk = q + 1 := ⟨gk - 1, by omega⟩
          have HBn : Hid (build (kk + 1) (L1.map Prod.snd) (P1.map Prod.snd) = build kk (L3.map Prod.snd) ((P3 ++ [((0 : Nat), Tr.node (wtB x + wtB y) x.2 y.2)]).map Prod.snd)) := by
            show _ = _
            rw [build, pop_map hp1]
            dsimp only
            rw [pop_map hp2]
            dsimp only
            rw [List.map_append]
            rfl
          have HP1 : Hid (pop wtB L1 P1 = some (x, L2, P2)) := hp1
          have HP2 : Hid (pop wtB L2 P2 = some (y, L3, P3)) := hp2
          have HTT : Hid (tot L3 + (tot P3 + (wtB x + wtB y)) ≤ 1099511627776 ∧ (∀ z, z ∈ L3 ++ P3 → Ok n (L1.length + P1.length) z) ∧ Ok n (L1.length + P1.length) x ∧ Ok n (L1.length + P1.length) y ∧ wtB x + wtB y ≤ 1099511627776) := by
            obtain ⟨a2, a3⟩ := HT.out
            have ox := a3 x hx1
            have oy := a3 y (hm1 y hx2)
            have oz : ∀ z, z ∈ L3 ++ P3 → Ok n (L1.length + P1.length) z := fun z hz => a3 z (hm1 z (hm2 z hz))
            have t1 := tot_nonneg L3 (fun z hz => (oz z (by simp [hz])).1)
            have t2 := tot_nonneg P3 (fun z hz => (oz z (by simp [hz])).1)
            exact hid ⟨by omega, oz, ox, oy, by omega⟩
          have HX : Hid (x.2.Lies wr x.1 ∧ y.2.Lies wr y.1) := ⟨HS.out.lies x hx1, HS.out.lies y (hm1 y hx2)⟩
          clear hp1 hp2 ht1 ht2 hx1 hx2 hm1 hm2
          go_wp2_with fail
          refine (light_calls N wr L1 P1 L2 P2 x HS.out HP1.out).mono ?_
          rintro e w2 ⟨rfl, hS2, hM2⟩
          have S2 : Hid (St N w2 L2 P2) := hS2
          have M2 : Hid (Moves N wr w2) := hM2
          clear hS2 hM2 hc1 hc2
          go_wp2_with fail
          refine (light_calls N w2 L2 P2 L3 P3 y S2.out HP2.out).mono ?_
          rintro e w3 ⟨rfl, hS3, hM3⟩
          have S3 : Hid (St N w3 L3 P3) := hS3
          have M3 : Hid (Moves N wr w3) := M2.out.trans hM3
          clear hS3 hM3 S2 M2 HS
          obtain ⟨vL3, vP3, g1, g2, g3, g4, g5⟩ := S3.out.ex
          obtain ⟨A3, c3, rfl, hAc3⟩ := q_slice g4
          have hcp : w3.cell? ⟨N + 2, 0, none⟩ = some (.slice A3 P3.length c3) := by rw [cell_block g2]; rfl
          have hfp : w3.frozen? ⟨N + 2, 0, none⟩ = false := frozen_block g2 0
          have Q3 : Hid (QRow w3 (N + 3) 112 1 (.slice A3 P3.length c3) P3.length (ptrs P3)) := g4
          have G2 : Hid (w3.heap[N + 2]? = some (.cells #[.slice A3 P3.length c3] 111 (0, 0))) := g2
          have lx := HX.out.1.keeps M3.out.keeps
          have ly := HX.out.2.keeps M3.out.keeps
          have hwx : w3.cell? ⟨x.1, 0, none⟩ = some (.int .i64 (wtB x)) := lx.weight
          have hwy : w3.cell? ⟨y.1, 0, none⟩ = some (.int .i64 (wtB y)) := ly.weight
          have HLX : Hid (x.2.Lies w3 x.1 ∧ y.2.Lies w3 y.1) := ⟨lx, ly⟩
          obtain ⟨wx, hwx'⟩ : ∃ q, q = wtB x := ⟨_, rfl⟩
          obtain ⟨wy, hwy'⟩ : ∃ q, q = wtB y := ⟨_, rfl⟩
          have bx0 : 0 ≤ wx := by rw [hwx']; exact HTT.out.2.2.1.1
          have by0 : 0 ≤ wy := by rw [hwy']; exact HTT.out.2.2.2.1.1
          have bxy : wx + wy ≤ 1099511627776 := by rw [hwx', hwy']; exact HTT.out.2.2.2.2
          rw [← hwx'] at hwx
          rw [← hwy'] at hwy
          have HWX : Hid (wx = wtB x) := hwx'
          have HWY : Hid (wy = wtB y) := hwy'
          obtain ⟨px, hpx⟩ : ∃ q, q = x.1 := ⟨_, rfl⟩
          obtain ⟨py, hpy⟩ : ∃ q, q = y.1 := ⟨_, rfl⟩
          rw [← hpx] at hwx ⊢
          rw [← hpy] at hwy ⊢
          have HPX : Hid (px = x.1) := hpx
          have HPY : Hid (py = y.1) := hpy
          have hsum : IntKind.i64.wrap (wx + wy) = wx + wy := by rw [IntKind.wrap_i64]; omega
          clear g1 g2 g3 g4 g5 hAc3 lx ly hwx' hwy' hpx hpy
          obtain ⟨H3, hH3⟩ : ∃ q, w3.heap.size = q := ⟨_, rfl⟩
          have G1 : Hid (w3.grownBy ((w3.alloc (.cells #[.int .i64 (wx + wy), .int .i64 0, .pointer (some ⟨px, 0, none⟩), .pointer (some ⟨py, 0, none⟩)] 114)).alloc (.cells #[.pointer (some ⟨H3, 0, none⟩)] 112)).drew none) :=
            hid (World.grownBy.trans (World.grownBy.trans (World.grownBy_alloc _ _ _) (World.grownBy_alloc _ _ _)) (grownBy_drew _ _))
          have QA : Hid (QRow ((w3.alloc (.cells #[.int .i64 (wx + wy), .int .i64 0, .pointer (some ⟨px, 0, none⟩), .pointer (some ⟨py, 0, none⟩)] 114)).alloc (.cells #[.pointer (some ⟨H3, 0, none⟩)] 112)).drew (N + 3) 112 1 (.slice A3 P3.length c3) P3.length (ptrs P3)) :=
            hid (q_move Q3.out (fun k hk => G1.out.block k (q_lt Q3.out k hk) (by simp)))
          have LT : Hid ((Tr.node (wtB x + wtB y) x.2 y.2).Lies ((w3.alloc (.cells #[.int .i64 (wx + wy), .int .i64 0, .pointer (some ⟨px, 0, none⟩), .pointer (some ⟨py, 0, none⟩)] 114)).alloc (.cells #[.pointer (some ⟨H3, 0, none⟩)] 112)).drew H3) := by
            have hk := Keeps.ext G1.out
            refine ⟨x.1, y.1, ?_, HLX.out.1.keeps hk, HLX.out.2.keeps hk⟩
            rw [← HWX.out, ← HWY.out, ← HPX.out, ← HPY.out]
            show ((_ : World).alloc _).heap[H3]? = _
            rw [Below.heap_alloc _ _ _ (by simp; omega), ← hH3, heap_alloc_new]
          have hNs : N + 3 ≤ H3 := by
            have e1 := M3.out.below.size
            have e2 := HM.out.below.size
            have e3 := Z0.out
            omega
          have q2 : Hid (∀ j u, [Value.pointer (some ⟨H3, 0, none⟩)][j]? = some u → ((w3.alloc (.cells #[.int .i64 (wx + wy), .int .i64 0, .pointer (some ⟨px, 0, none⟩), .pointer (some ⟨py, 0, none⟩)] 114)).alloc (.cells #[.pointer (some ⟨H3, 0, none⟩)] 112)).drew.cell? ((⟨H3 + 1, 0, none⟩ : Addr).add j) = some u) :=
            hid (news_one (w3.alloc _) _ _ _ (by simp [hH3]))
          have q3 : Hid (∀ u ∈ [Value.pointer (some ⟨H3, 0, none⟩)], u.oneCell' = true) := hid (by intro u hu; simp at hu; subst hu; rfl)
          have q4 : Hid (P3.length + 1 ≤ maxLen) := hid (by unfold maxLen; omega)
          have q5 : Hid ((P3.length + 1) * 8 ≤ 140737488355328) := hid (by omega)
          have q6 : Hid (N + 3 ≤ ((w3.alloc (.cells #[.int .i64 (wx + wy), .int .i64 0, .pointer (some ⟨px, 0, none⟩), .pointer (some ⟨py, 0, none⟩)] 114)).alloc (.cells #[.pointer (some ⟨H3, 0, none⟩)] 112)).drew.heap.size) := hid (by simp; omega)
          have NEWT : Hid (∀ b : Nat, Hid (tot L3 + tot (P3 ++ [(b, Tr.node (wtB x + wtB y) x.2 y.2)]) ≤ 1099511627776 ∧ ∀ z, z ∈ L3 ++ (P3 ++ [(b, Tr.node (wtB x + wtB y) x.2 y.2)]) → Ok n (L3.length + (P3 ++ [(b, Tr.node (wtB x + wtB y) x.2 y.2)]).length) z)) := by
            intro b
            obtain ⟨a1, a2, a3, a4, a5⟩ := HTT.out
            have e1 : tot (P3 ++ [(b, Tr.node (wtB x + wtB y) x.2 y.2)]) = tot P3 + (wtB x + wtB y) := by simp [tot, wtB, Tr.wt]
            have e2 : L3.length + (P3 ++ [(b, Tr.node (wtB x + wtB y) x.2 y.2)]).length + 1 = L1.length + P1.length := by simp; omega
            refine hid ⟨by rw [e1]; exact a1, fun z hz => ?_⟩
            rw [← List.append_assoc] at hz
            rcases List.mem_append.1 hz with hz | hz
            · obtain ⟨b1, b2, b3⟩ := a2 z hz
              exact ⟨b1, b2, by omega⟩
            · simp only [List.mem_singleton] at hz
              subst hz
              obtain ⟨b1, b2, b3⟩ := a3
              obtain ⟨c1, c2, c3⟩ := a4
              refine ⟨by show 0 ≤ wtB x + wtB y; omega, ⟨b2, c2⟩, ?_⟩
              show max x.2.height y.2.height + 1 + _ ≤ n
              have : max x.2.height y.2.height + (L1.length + P1.length) ≤ n := by
                rcases Nat.le_total x.2.height y.2.height with h | h
                · rw [Nat.max_eq_right h]; exact c3
                · rw [Nat.max_eq_left h]; exact b3
              omega
          have hA1 : (w3.alloc (.cells #[.int .i64 (wx + wy), .int .i64 0, .pointer (some ⟨px, 0, none⟩), .pointer (some ⟨py, 0, none⟩)] 114)).cell? ⟨N + 2, 0, none⟩ = some (.slice A3 P3.length c3) := by
            rw [World.cell?_alloc_lt _ _ _ (by show N + 2 < _; omega)]; exact hcp
          have hA2 : ((w3.alloc (.cells #[.int .i64 (wx + wy), .int .i64 0, .pointer (some ⟨px, 0, none⟩), .pointer (some ⟨py, 0, none⟩)] 114)).alloc (.cells #[.pointer (some ⟨H3, 0, none⟩)] 112)).cell? ⟨N + 2, 0, none⟩ = some (.slice A3 P3.length c3) := by
            rw [World.cell?_alloc_lt _ _ _ (by show N + 2 < _; simp; omega)]; exact hA1
          go_wp2_with fail
          go_region_law (refine step_append_q _ rfl (.tmp 46) (.tmp 60) 111 rfl (N + 3) 112 i0 (.pointer none) 1 8 Try.underlying111 hi hz0 hz1 hz2 rfl (by decide) (.slice A3 P3.length c3) P3.length (ptrs P3) (by simp [Act.eval, Act.put]) QA.out ⟨H3 + 1, 0, none⟩ 1 1 [.pointer (some ⟨H3, 0, none⟩)] (by simp [Act.eval, Act.put]) rfl q2.out q3.out (by decide) q4.out q5.out q6.out ?_; intro A4 c4 w4 hq4 hg4 hat4; obtain ⟨R, hb4⟩ := S3.out.pushPair G2.out G1.out LT.out hq4 hg4 (H1 := H3 + 1 + 1) (by simp [hH3]) (by simpa [hH3] using hat4); have RR : Hid _ := hid R; have hc4 : w4.cell? ⟨N + 2, 0, none⟩ = some (.slice A3 P3.length c3) := (by rw [cell_block hb4]; rfl); have hf4 : w4.frozen? ⟨N + 2, 0, none⟩ = false := frozen_block hb4 0; clear hb4 hq4 hg4 hat4 R)
          all_goals
            go_wp2_with fail
            go_roundg kk
            case measure => omega
            case rel =>
              refine ⟨L3, P3 ++ [(H3, Tr.node (wtB x + wtB y) x.2 y.2)], by simp; omega, by simp; omega, hid RR.out.1, hid (HM.out.trans (M3.out.trans RR.out.2)), NEWT.out H3, ?_⟩
              have h := HBd.out
              rw [HBn.out] at h
              rw [← h, List.map_append, List.map_append]
              exact hid rfl
        · have htz : ¬ (L1.length : Int) + (P1.length : Int) > 1 := by omega
          have hfin : Hid (build n ((sortAll L).map Prod.snd) [] = (L1.map Prod.snd, P1.map Prod.snd)) := by
            show _ = _
            rw [← HBd.out]
            exact build_stop (by simp; omega)
          clear HBd
          have hrow : Hid (IntRow wr N (List.replicate n 0)) := hid ((HM.out.below.block N (by omega)).trans R0.out)
          have hBw : Hid (Below N w wr) := hid (HB0.out.trans (HM.out.below.mono (by omega)))
          have hgrown : Hid (∀ xs, xs = finish n (L1.map Prod.snd, P1.map Prod.snd) → GrownOut l xs) := hid (fun xs hxs => ⟨L, HL2.out, by rw [HL.out, hfin.out]; exact hxs⟩)
          cases P1 with
          | nil =>
            cases L1 with
            | nil =>
              go_wp2_with (at_builtin; refine wpList_append_zero rfl (.tmp 62) (.tmp 63) 111 rfl 112 i0 Try.underlying111 hi A A' 0 c1 c2 rfl rfl (Nat.zero_le _) ?_)
              refine wp_loop_rounds 1 ?_
              rw [rounds_succ]
              go_wp2_with fail
              go_ret
              refine ⟨by rw [HN.out]; rfl, by rw [HN.out]; exact hBw.out, _, hgrown.out _ rfl, ?_⟩
              rw [HN.out]
              exact hrow.out
            | cons x L1 =>
              obtain rfl : L1 = [] := by
                cases L1 with
                | nil => rfl
                | cons z L1 => simp at htwo
              obtain ⟨g', off', c', vP', e1, _, _, _, _, hx, hcx, _⟩ := HS.out.popLeaf
              rw [hc1] at e1
              simp only [List.length_nil, Nat.zero_add, List.length_cons, Option.some.injEq, Value.slice.injEq, true_and] at e1
              obtain ⟨rfl, rfl⟩ := e1
              have hcx1 : 1 ≤ c1 := by simpa using hcx
              have hok := HT.out.2 x (by simp)
              have hd : Calls Try.prog 65 #[.pointer (some ⟨x.1, 0, none⟩), .slice (some ⟨N, 0, none⟩) n n, .int .i64 0] wr _ :=
                deepen_calls x.2 x.1 N n 0 (List.replicate n 0) wr (HS.out.lies x (by simp)) hrow.out (by simp) hok.2.1 (by have := hok.2.2; omega) (by omega)
              have HD : Hid _ := hid hd
              obtain ⟨px, hpx⟩ : ∃ q, q = x.1 := ⟨_, rfl⟩
              have HPX : Hid (px = x.1) := hid hpx
              rw [← hpx] at hx
              clear hd hpx hok hcx
              go_wp2_with (at_builtin; refine wpList_append_zero rfl (.tmp 62) (.tmp 63) 111 rfl 112 i0 Try.underlying111 hi (some ⟨g', off', none⟩) A' 1 c1 c2 rfl rfl (by omega) ?_)
              refine wp_loop_rounds 2 ?_
              rw [rounds_succ]
              go_wp2_with fail
              rw [HPX.out]
              refine Calls.mono HD.out ?_
              rintro e w5 ⟨rfl, hr5, hg5⟩
              have R5 : Hid _ := hid hr5
              have G5 : Hid _ := hid hg5
              clear hr5 hg5 HD
              go_wp2_with fail
              rw [rounds_succ]
              go_wp2_with fail
              go_ret
              refine ⟨by rw [HN.out]; rfl, by rw [HN.out]; exact hBw.out.grown G5.out (by have := hBw.out.size; rw [HN.out] at this; exact this) (by intro k hk; cases hk; exact Nat.le_refl _), _, hgrown.out _ rfl, ?_⟩
              rw [HN.out]
              exact R5.out
          | cons y P1 =>
            obtain rfl : P1 = [] := by
              cases P1 with
              | nil => rfl
              | cons z P1 => simp at htwo; omega
            obtain rfl : L1 = [] := by
              cases L1 with
              | nil => rfl
              | cons z L1 => simp at htwo
            obtain ⟨g', off', c', vL', e1, _, _, _, _, hx, hcx, _⟩ := HS.out.popPair
            rw [hc2] at e1
            simp only [List.length_nil, Nat.zero_add, List.length_cons, Option.some.injEq, Value.slice.injEq, true_and] at e1
            obtain ⟨rfl, rfl⟩ := e1
            obtain ⟨vL2, vP2, b1, b2, b3, b4, b5⟩ := HS.out.ex
            have e2 : vL2 = .slice A 0 c1 := by
              have := cell_block b1 0
              rw [hc1] at this
              simpa using this.symm
            subst e2
            have Q3 : Hid (QRow wr (N + 3) 112 1 (.slice A 0 c1) 0 (ptrs [])) := hid b3
            have hok := HT.out.2 y (by simp)
            obtain ⟨py, hpy⟩ : ∃ q, q = y.1 := ⟨_, rfl⟩
            have HPY : Hid (py = y.1) := hid hpy
            have q2 : Hid (∀ j u, [Value.pointer (some ⟨py, 0, none⟩)][j]? = some u → wr.cell? ((⟨g', off', none⟩ : Addr).add j) = some u) := hid (by
              intro j u hj
              match j, hj with
              | 0, hj =>
                simp only [List.getElem?_cons_zero, Option.some.injEq] at hj
                subst hj
                rw [hpy, show ((⟨g', off', none⟩ : Addr).add 0) = ⟨g', off', none⟩ by simp [Addr.add]]
                exact hx)
            have hNs : N + 3 ≤ wr.heap.size := by have := HM.out.below.size; have := Z0.out; omega
            have KP : Hid (∀ w2 : World, wr.grownBy w2 (Value.slice A 0 c1).ownBlock → Keeps wr w2 ∧ Below N w w2 ∧ IntRow w2 N (List.replicate n 0)) := hid (fun w2 hg => by
              refine ⟨Keeps.grown hg (fun k hk c fr hc => by obtain ⟨_, cells, a2⟩ := q_typed Q3.out k hk; rw [a2] at hc; simp at hc), ?_, ?_⟩
              · exact hBw.out.grown hg (by omega) (fun k hk => by have := (q_typed Q3.out k hk).1; omega)
              · exact (hg.block N (by omega) (fun e => by have := (q_typed Q3.out N e.symm).1; omega)).trans hrow.out)
            have LY : Hid (y.2.Lies wr y.1) := hid (HS.out.lies y (by simp))
            have HOK : Hid (Ok n 1 y) := hid (by simpa using hok)
            have q3 : Hid (∀ u ∈ [Value.pointer (some ⟨py, 0, none⟩)], u.oneCell' = true) := hid (by intro u hu; simp at hu; subst hu; rfl)
            have q4 : Hid (0 + 1 ≤ maxLen) := hid (by unfold maxLen; omega)
            clear hpy hok hcx b1 b2 b3 b4 b5 hx
            go_wp2_with (at_builtin; refine wpList_append_q _ rfl (.tmp 62) (.tmp 63) 111 rfl (N + 3) 112 i0 (.pointer none) 1 8 Try.underlying111 hi hz0 hz1 hz2 rfl (by decide) (.slice A 0 c1) 0 (ptrs []) rfl Q3.out ⟨g', off', none⟩ 1 c2 [.pointer (some ⟨py, 0, none⟩)] rfl rfl q2.out q3.out (by decide) q4.out (by decide) hNs ?_)
            intro A2 c4 w2 hq2 hg2 hat2
            obtain ⟨hk2, hb2, hr2⟩ := KP.out w2 hg2
            have hq3 : QRow w2 (N + 3) 112 1 (.slice A2 1 c4) [y].length (ptrs [y]) := by
              have := hq2
              rw [HPY.out] at this
              exact this
            obtain ⟨g2, off2, c5, e3, hx2, hc5, _, _, _, _⟩ := q_first hq3
            simp only [List.length_nil, Nat.zero_add, Value.slice.injEq, true_and] at e3
            obtain ⟨rfl, rfl⟩ := e3
            rw [← HPY.out] at hx2
            have hd : Calls Try.prog 65 #[.pointer (some ⟨y.1, 0, none⟩), .slice (some ⟨N, 0, none⟩) n n, .int .i64 0] w2 _ :=
              deepen_calls y.2 y.1 N n 0 (List.replicate n 0) w2 (LY.out.keeps hk2) hr2 (by simp) HOK.out.2.1 (by have := HOK.out.2.2; omega) (by omega)
            have HD : Hid _ := hid hd
            have B2 : Hid _ := hid hb2
            clear hd hk2 hb2 hr2 hq2 hg2 hat2 hq3 hc5 hc1 hc2
            go_wp2_with fail
            refine wp_loop_rounds 2 ?_
            rw [rounds_succ]
            go_wp2_with fail
            rw [HPY.out]
            refine Calls.mono HD.out ?_
            rintro e w5 ⟨rfl, hr5, hg5⟩
            have R5 : Hid _ := hid hr5
            have G5 : Hid _ := hid hg5
            clear hr5 hg5 HD
            go_wp2_with fail
            rw [rounds_succ]
            go_wp2_with fail
            go_ret
            refine ⟨by rw [HN.out]; rfl, by rw [HN.out]; exact B2.out.grown G5.out (by have := B2.out.size; rw [HN.out] at this; exact this) (by intro k hk; cases hk; exact Nat.le_refl _), _, hgrown.out _ rfl, ?_⟩
            rw [HN.out]
            exact R5.out

end Go.Proofs.Ythgijppajindpaa
