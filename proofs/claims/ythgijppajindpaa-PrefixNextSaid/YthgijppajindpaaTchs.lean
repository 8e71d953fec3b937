/-
  What a call may touch: the blocks that existed before are as they were, but for those of a set.
-/
import Derived.Test.YthgijppajindpaaRevs
set_option linter.unusedVariables false
set_option linter.unusedSimpArgs false
namespace Go.Proofs.Ythgijppajindpaa
open Go.RowKit Go.Proofs.YthgijppajindpaaW.PrintWords

/-- Of the blocks that were there only those of S may have turned. -/
structure Tch (S : Nat → Prop) (w w' : World) : Prop where
  os : w'.os = w.os
  tape : w'.tape = w.tape
  output : w'.output = w.output
  size : w.heap.size ≤ w'.heap.size
  block : ∀ k, k < w.heap.size → ¬ S k → w'.heap[k]? = w.heap[k]?

def noB : Nat → Prop := fun _ => False
def oneB (g : Nat) : Nat → Prop := fun k => k = g

theorem Tch.refl (S : Nat → Prop) (w : World) : Tch S w w := ⟨rfl, rfl, rfl, Nat.le_refl _, fun _ _ _ => rfl⟩
theorem Tch.of_below {w w' : World} (h : Below w.heap.size w w') (S : Nat → Prop) : Tch S w w' := ⟨h.os, h.tape, h.output, h.size, fun k hk _ => h.block k hk⟩
theorem Tch.below {w w' : World} (h : Tch noB w w') : Below w.heap.size w w' := ⟨h.os, h.tape, h.output, h.size, fun k hk => h.block k hk (fun h => h)⟩
theorem Tch.trans {S S' : Nat → Prop} {a b c : World} (h : Tch S a b) (k : Tch S' b c) (hs : ∀ i, S' i → S i ∨ a.heap.size ≤ i) : Tch S a c :=
  ⟨k.os.trans h.os, k.tape.trans h.tape, k.output.trans h.output, Nat.le_trans h.size k.size, fun i hi hn => by
    rw [k.block i (Nat.lt_of_lt_of_le hi h.size) (fun hi' => (hs i hi').elim hn (fun h2 => by omega)), h.block i hi hn]⟩
theorem Tch.mono {S S' : Nat → Prop} {a b : World} (h : Tch S a b) (hs : ∀ i, i < a.heap.size → S i → S' i) : Tch S' a b :=
  ⟨h.os, h.tape, h.output, h.size, fun i hi hn => h.block i hi (fun h' => hn (hs i hi h'))⟩
theorem Tch.alloc {S : Nat → Prop} {a b : World} (h : Tch S a b) (o : Obj) : Tch S a (b.alloc o) :=
  h.trans (Tch.of_below ((Below.refl _ _).alloc (Nat.le_refl _) o) noB) (fun i hi => hi.elim)
theorem Tch.drew {S : Nat → Prop} {a b : World} (h : Tch S a b) : Tch S a b.drew := ⟨h.os, h.tape, h.output, h.size, h.block⟩
theorem Tch.drewN {S : Nat → Prop} {a b : World} (h : Tch S a b) (m : Nat) : Tch S a (b.drewN m) := ⟨h.os, h.tape, h.output, h.size, h.block⟩
theorem Tch.setCell {S : Nat → Prop} {a b : World} (h : Tch S a b) (p : Addr) (v : Value) (hp : S p.block ∨ a.heap.size ≤ p.block) : Tch S a (b.setCell p v) :=
  ⟨h.os, h.tape, h.output, by simpa [World.setCell] using h.size, fun i hi hn => by
    rw [Below.heap_setCell b p v i (fun e => hp.elim (fun h' => hn (e ▸ h')) (fun h2 => by omega)), h.block i hi hn]⟩
theorem Tch.setRow {S : Nat → Prop} {a b : World} (h : Tch S a b) (g : Nat) (cs : Array Value) (hp : S g ∨ a.heap.size ≤ g) : Tch S a (b.setRow g cs) :=
  ⟨h.os, h.tape, h.output, by rw [size_setRow]; exact h.size, fun i hi hn => by
    rw [setRow_other b g i cs (fun e => hp.elim (fun h' => hn (e ▸ h')) (fun h2 => by omega)), h.block i hi hn]⟩
theorem Tch.cell {S : Nat → Prop} {a b : World} (h : Tch S a b) {p : Addr} (hp : p.block < a.heap.size) (hn : ¬ S p.block) : b.cell? p = a.cell? p := by
  unfold World.cell?
  rw [h.block _ hp hn]
theorem Tch.heap {S : Nat → Prop} {a b : World} (h : Tch S a b) {k : Nat} {o : Obj} (hk : a.heap[k]? = some o) (hn : ¬ S k) : b.heap[k]? = some o :=
  (h.block k (Array.getElem?_eq_some_iff.1 hk).1 hn).trans hk
theorem lt_of_cell {w : World} {b o : Nat} {v : Value} (h : w.cell? ⟨b, o, none⟩ = some v) : b < w.heap.size := by
  unfold World.cell? at h
  cases hb : w.heap[b]? with
  | none => simp [hb] at h
  | some o => exact (Array.getElem?_eq_some_iff.1 hb).1
theorem Tch.cell_at {S : Nat → Prop} {a b : World} (h : Tch S a b) {g o : Nat} {v : Value} (hc : a.cell? ⟨g, o, none⟩ = some v) (hn : ¬ S g) : b.cell? ⟨g, o, none⟩ = some v :=
  (h.cell (p := ⟨g, o, none⟩) (lt_of_cell hc) hn).trans hc
theorem Tch.of_grown {w w' : World} {row : Option Nat} (h : w.grownBy w' row) (S : Nat → Prop) (hr : ∀ k, row = some k → S k) : Tch S w w' :=
  ⟨h.os, h.tape, h.output, h.size, fun i hi hn => h.block i hi (fun e => hn (hr i e.symm))⟩
theorem Tch.grown {w w' : World} {g : Nat} (h : Tch (oneB g) w w') : w.grownBy w' (some g) :=
  ⟨h.os, h.tape, h.output, h.size, fun i hi hn => h.block i hi (fun e => hn (by rw [show i = g from e]))⟩

end Go.Proofs.Ythgijppajindpaa
