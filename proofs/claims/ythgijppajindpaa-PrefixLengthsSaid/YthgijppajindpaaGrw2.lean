/-
  prefix.deepen: the lengths of a tree's symbols are laid.
-/
import Derived.Test.YthgijppajindpaaGrw1
import Derived.WalkLawsBesides
set_option linter.unusedVariables false
set_option linter.unusedSimpArgs false
namespace Go.Proofs.Ythgijppajindpaa
open Go.RowKit

/-- A tree of symbols: its weight, and a symbol or two branches. -/
inductive Tr where
  | leaf (w : Int) (s : Nat)
  | node (w : Int) (l r : Tr)
deriving Inhabited

namespace Tr
def wt : Tr → Int
  | leaf w _ => w
  | node w _ _ => w
def height : Tr → Nat
  | leaf _ _ => 0
  | node _ l r => max l.height r.height + 1
/-- Its symbols are below n. -/
def Below (n : Nat) : Tr → Prop
  | leaf _ s => s < n
  | node _ l r => l.Below n ∧ r.Below n
/-- The lengths that are laid. -/
def dep : Tr → Nat → List Int → List Int
  | leaf _ s, d, xs => xs.set s (max (d : Int) 1)
  | node _ l r, d, xs => r.dep (d + 1) (l.dep (d + 1) xs)
/-- The tree lies in memory, its root in block b. -/
def Lies (w : World) : Tr → Nat → Prop
  | leaf x s, b => w.heap[b]? = some (.cells #[.int .i64 x, .int .i64 s, .pointer none, .pointer none] 114 (0, 0))
  | node x l r, b => ∃ bl br, w.heap[b]? = some (.cells #[.int .i64 x, .int .i64 0, .pointer (some ⟨bl, 0, none⟩), .pointer (some ⟨br, 0, none⟩)] 114 (0, 0)) ∧ l.Lies w bl ∧ r.Lies w br
end Tr

/-- A row of whole numbers. -/
def IntRow (w : World) (g : Nat) (xs : List Int) : Prop := w.heap[g]? = some (.cells (xs.map (Value.int .i64)).toArray 3 (0, 0))

/-- Blocks of nodes stay. -/
def Keeps (w w' : World) : Prop := ∀ (b : Nat) (c : Array Value) (fr : Nat × Nat), w.heap[b]? = some (.cells c 114 fr) → w'.heap[b]? = some (.cells c 114 fr)

theorem Keeps.refl (w : World) : Keeps w w := fun _ _ _ h => h
theorem Keeps.trans {a b c : World} (h : Keeps a b) (k : Keeps b c) : Keeps a c := fun x y z h0 => k x y z (h x y z h0)
theorem Keeps.drewN (w : World) (n : Nat) : Keeps w (w.drewN n) := fun _ _ _ h => h
theorem Keeps.grown {w w' : World} {row : Option Nat} (hg : w.grownBy w' row) (hr : ∀ k, row = some k → ∀ c fr, w.heap[k]? ≠ some (.cells c 114 fr)) : Keeps w w' := fun b c fr h =>
  (hg.block b (Array.getElem?_eq_some_iff.1 h).1 (fun e => hr b e.symm c fr h)).trans h
theorem Tr.Lies.keeps {w w' : World} (h : Keeps w w') : ∀ {t : Tr} {b : Nat}, t.Lies w b → t.Lies w' b
  | .leaf _ _, _, hl => h _ _ _ hl
  | .node _ _ _, _, ⟨bl, br, hb, hl, hr⟩ => ⟨bl, br, h _ _ _ hb, hl.keeps h, hr.keeps h⟩

theorem Tr.length_dep : ∀ (t : Tr) (d : Nat) (xs : List Int), (t.dep d xs).length = xs.length
  | .leaf _ _, _, _ => by simp [Tr.dep]
  | .node _ l r, d, xs => by rw [Tr.dep, r.length_dep, l.length_dep]

theorem cell_block {w : World} {b : Nat} {c : Array Value} {T : TypeId} {fr : Nat × Nat} (h : w.heap[b]? = some (.cells c T fr)) (i : Nat) : w.cell? ⟨b, i, none⟩ = c[i]? := by
  simp [World.cell?, h]
theorem frozen_block {w : World} {b : Nat} {c : Array Value} {T : TypeId} (h : w.heap[b]? = some (.cells c T (0, 0))) (i : Nat) : w.frozen? ⟨b, i, none⟩ = false := by
  simp [World.frozen?, h]

set_option maxHeartbeats 1000000 in
theorem deepen_leaf (x : Int) (s b g n d : Nat) (xs : List Int) (w : World) (hb : (Tr.leaf x s).Lies w b) (hr : IntRow w g xs) (hn : xs.length = n) (hs : s < n) (hd : d ≤ 4611686018427387904) (hm : n ≤ 4611686018427387904) :
    Calls Try.prog 65 #[.pointer (some ⟨b, 0, none⟩), .slice (some ⟨g, 0, none⟩) n n, .int .i64 d] w fun e w' => e = .returned (.tuple #[]) ∧ w' = w.setCell ⟨g, s, none⟩ (.int .i64 (max (d : Int) 1)) := by
  have c1 : w.cell? ⟨b, 1, none⟩ = some (.int .i64 s) := by rw [cell_block hb]; rfl
  have c2 : w.cell? ⟨b, 2, none⟩ = some (.pointer none) := by rw [cell_block hb]; rfl
  have c3 : ∃ v, w.cell? ⟨g, s, none⟩ = some v := by
    rw [cell_block hr]
    exact ⟨_, by rw [List.getElem?_toArray, List.getElem?_map, List.getElem?_eq_getElem (by omega)]; rfl⟩
  obtain ⟨v, c3⟩ := c3
  have f3 : w.frozen? ⟨g, s, none⟩ = false := frozen_block hr s
  have hsz : (s : Int) < (n : Int) := by omega
  go_enter Try.func65, Try.ntmps65
  go_wp2
  all_goals
    refine bodyPost_ret (results_none rfl _ _ _) rfl ?_
    refine ⟨rfl, ?_⟩
    first | (rw [Int.max_eq_left (by omega)]; done) | (rw [Int.max_eq_right (by omega)]; done) | (congr 2; omega)

theorem IntRow.set {w : World} {g s : Nat} {xs : List Int} (h : IntRow w g xs) (v : Int) : IntRow (w.setCell ⟨g, s, none⟩ (.int .i64 v)) g (xs.set s v) := by
  unfold IntRow at *
  simp only [World.setCell, Array.getElem?_modify, if_true]
  rw [h]
  simp [List.map_set]

theorem grownBy_setCell (w : World) (g s : Nat) (v : Value) : w.grownBy (w.setCell ⟨g, s, none⟩ v) (some g) :=
  ⟨rfl, rfl, rfl, by simp, fun k _ hne => RowKit.Below.heap_setCell w _ v k (fun e => hne (by rw [e]))⟩

theorem grownBy_trans {a b c : World} {row : Option Nat} (h : a.grownBy b row) (k : b.grownBy c row) : a.grownBy c row :=
  ⟨k.os.trans h.os, k.tape.trans h.tape, k.output.trans h.output, Nat.le_trans h.size k.size, fun i hi hne => (k.block i (Nat.lt_of_lt_of_le hi h.size) hne).trans (h.block i hi hne)⟩

theorem IntRow.keeps {w w' : World} {g : Nat} {xs : List Int} (h : IntRow w g xs) (hg : w.grownBy w' (some g)) : Keeps w w' :=
  Keeps.grown hg (fun k hk c fr hc => by
    cases hk
    rw [h] at hc
    simp at hc)

set_option maxHeartbeats 2000000 in
theorem deepen_calls : ∀ (t : Tr) (b g n d : Nat) (xs : List Int) (w : World), t.Lies w b → IntRow w g xs → xs.length = n → t.Below n → d + t.height ≤ 4611686018427387904 → n ≤ 4611686018427387904 →
    Calls Try.prog 65 #[.pointer (some ⟨b, 0, none⟩), .slice (some ⟨g, 0, none⟩) n n, .int .i64 d] w fun e w' => e = .returned (.tuple #[]) ∧ IntRow w' g (t.dep d xs) ∧ w.grownBy w' (some g)
  | .leaf x s, b, g, n, d, xs, w, hl, hr, hn, hs, hd, hm => by
    refine (deepen_leaf x s b g n d xs w hl hr hn hs (by simp [Tr.height] at hd; exact hd) hm).mono ?_
    rintro e w' ⟨rfl, rfl⟩
    exact ⟨rfl, hr.set _, grownBy_setCell _ _ _ _⟩
  | .node x l r, b, g, n, d, xs, w, ⟨bl, br, hb, hL, hR⟩, hr, hn, hs, hd, hm => by
    have hd' : d + 1 + l.height ≤ 4611686018427387904 := by have := Nat.le_max_left l.height r.height; simp only [Tr.height] at hd; omega
    have hd'' : d + 1 + r.height ≤ 4611686018427387904 := by have := Nat.le_max_right l.height r.height; simp only [Tr.height] at hd; omega
    have ihl : Hid _ := deepen_calls l bl g n (d + 1) xs w hL hr hn hs.1 hd' hm
    have c2 : w.cell? ⟨b, 2, none⟩ = some (.pointer (some ⟨bl, 0, none⟩)) := by rw [cell_block hb]; rfl
    have e1 : Hid (((d : Int) + 1) = ((d + 1 : Nat) : Int)) := by show _ = _; omega
    have hd3 : (d : Int) ≤ 4611686018427387904 := by omega
    go_enter Try.func65, Try.ntmps65
    go_wp2_with fail
    rw [e1.out]
    refine Calls.mono ihl.out ?_
    rintro e w1 ⟨rfl, hr1, hg1⟩
    have hk1 := hr.keeps hg1
    have c3 : w1.cell? ⟨b, 3, none⟩ = some (.pointer (some ⟨br, 0, none⟩)) := by rw [cell_block (hk1 _ _ _ hb)]; rfl
    have ihr : Hid _ := deepen_calls r br g n (d + 1) (l.dep (d + 1) xs) w1 (hR.keeps hk1) hr1 (by rw [Tr.length_dep]; exact hn) hs.2 hd'' hm
    clear ihl
    go_wp2_with fail
    rw [e1.out]
    refine Calls.mono ihr.out ?_
    rintro e w2 ⟨rfl, hr2, hg2⟩
    clear ihr
    go_wp2_with fail
    go_end0
    exact ⟨rfl, hr2, grownBy_trans hg1 hg2⟩

end Go.Proofs.Ythgijppajindpaa
