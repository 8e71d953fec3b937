/-
  prefix.grown: the leaves are sorted.
-/
import Derived.Test.YthgijppajindpaaGrw4
import Derived.Test.YthgijppajindpaaStb5
set_option linter.unusedVariables false
set_option linter.unusedSimpArgs false
namespace Go.Proofs.Ythgijppajindpaa
open Go.Shelf Go.RowKit Go.Lib Go.Sort Go.Proofs.YthgijppajindpaaW.PrintWords

theorem SW.frame {α : Type} [Inhabited α] {enc : α → Value} {w0 W : World} {blk off : Nat} {dk : Array α} (h : SW enc w0 blk off dk W) (hb : blk < w0.heap.size) :
    w0.grownBy W (some blk) ∧ ∀ cur e, w0.heap[blk]? = some (.cells cur e (0, 0)) → ∃ cur', W.heap[blk]? = some (.cells cur' e (0, 0)) ∧ cur'.size = cur.size := by
  obtain ⟨n, os, rfl⟩ := h
  refine ⟨⟨rfl, rfl, rfl, ?_, fun k hk hne => ?_⟩, fun cur e hc => ?_⟩
  · rw [sortWorld, size_grow, size_putRow]; show w0.heap.size ≤ w0.heap.size + _; omega
  · rw [sortWorld, heap_grow_old _ _ (by rw [size_putRow]; exact hk)]
    show ((w0.heap.modify blk _))[k]? = _
    rw [Array.getElem?_modify, if_neg (fun e => hne (by rw [e]))]
  · rw [sortWorld, heap_grow_old _ _ (by rw [size_putRow]; exact hb)]
    refine ⟨putCells enc off dk cur, ?_, by simp [putCells]⟩
    show ((w0.heap.modify blk _))[blk]? = _
    rw [Array.getElem?_modify, if_pos rfl, hc]
    rfl

/-- The element that stands at a place. -/
def encF (L : List BT) (i : Fin L.length) : Value := .pointer (some ⟨(L.get i).1, 0, none⟩)
def cfF (L : List BT) (i j : Fin L.length) : Int := wtB (L.get i) - wtB (L.get j)
def idF (n : Nat) : Array (Fin n) := Array.ofFn (fun i => i)

theorem size_idF (n : Nat) : (idF n).size = n := by simp [idF]

/-- The leaves behind the sort. -/
def sortB (x : BT) (L : List BT) : List BT := (stable (ltOf (cfF (x :: L))) (L.length + 1) (idF (L.length + 1))).toList.map (fun i => (x :: L).get i)

theorem sort_St (N : Nat) (W : World) (x : BT) (L : List BT) (h : St N W (x :: L) []) (hw : ∀ y ∈ x :: L, 0 ≤ wtB y ∧ wtB y ≤ 1099511627776) (hlen : L.length < 1000) :
    ∃ g off c, W.cell? ⟨N + 1, 0, none⟩ = some (.slice (some ⟨g, off, none⟩) (L.length + 1) c) ∧
      Calls Try.prog 62 #[.slice (some ⟨g, off, none⟩) (L.length + 1) c, .func (.func 63) #[] #[]] W fun e w' => e = .returned (.tuple #[]) ∧ St N w' (sortB x L) [] ∧ Moves N W w' := by
  obtain ⟨vL, vP, h1, h2, h3, h4, h5⟩ := h.ex
  have h3' := h3
  rcases h3 with ⟨hl, ⟨h0, _⟩ | ⟨g, off, cap, cur, rfl, hg, hh, hnc, hm, hcs, ht⟩⟩
  · simp at h0
  obtain ⟨ad, e, hc⟩ := q_cells h3' (by simp)
  injection e with e
  subst e
  have hgs : g < W.heap.size := (Array.getElem?_eq_some_iff.1 hh).1
  have hcell : ∀ i : Fin (L.length + 1), W.cell? ⟨g, off * 1 + i.1, none⟩ = some (encF (x :: L) i) := fun i => by
    have := hc i.1 (encF (x :: L) i) (by
      unfold ptrs encF
      rw [List.getElem?_map, List.getElem?_eq_getElem (show i.1 < (x :: L).length from i.2)]
      rfl)
    rwa [add_at] at this
  have hH : Holds (encF (x :: L)) W g (off * 1) (idF (L.length + 1)) := fun j hj => by
    rw [size_idF] at hj
    have e1 : (idF (L.length + 1))[j]! = ⟨j, hj⟩ := by
      rw [getElem!_pos _ j (by rw [size_idF]; exact hj)]
      simp [idF]
    rw [e1]
    exact ⟨hcell ⟨j, hj⟩, frozen_block hh _⟩
  have hkeep : ∀ W', SW (encF (x :: L)) W g (off * 1) (stable (ltOf (cfF (x :: L))) (L.length + 1) (idF (L.length + 1))) W' → True := fun _ _ => trivial
  have T : Told (encF (x :: L)) (cfF (x :: L)) 63 #[] g (off * 1) (L.length + 1) (idF (L.length + 1)) W := by
    refine ⟨enters_of Try.func63 (by kernel_rfl) rfl, ?_, ⟨fun _ => rfl, hH, hgs⟩, size_idF _, by omega⟩
    intro m os dk hs a b
    have S1 : SW (encF (x :: L)) W g (off * 1) dk (sortWorld (encF (x :: L)) W g (off * 1) m dk os) := ⟨m, os, rfl⟩
    have k1 : Keeps W (sortWorld (encF (x :: L)) W g (off * 1) m dk os) := Keeps.grown (SW.frame S1 hgs).1 (fun k hk c fr hc => by cases hk; rw [hh] at hc; simp at hc)
    have la := ((h.lies ((x :: L).get a) (by rw [List.append_nil]; exact List.get_mem _ _)).keeps k1).weight
    have lb := ((h.lies ((x :: L).get b) (by rw [List.append_nil]; exact List.get_mem _ _)).keeps k1).weight
    have wa := hw _ (List.get_mem (x :: L) a)
    have wb := hw _ (List.get_mem (x :: L) b)
    refine (cmp_calls _ _ _ _ _ la lb wa.1 wa.2 wb.1 wb.2).mono ?_
    rintro e w' ⟨rfl, q, rfl⟩
    exact ⟨rfl, q, #[], by simp⟩
  refine ⟨g, off * 1, cap, by rw [cell_block h1]; rfl, ?_⟩
  have hS0 : Cur (encF (x :: L)) W g (off * 1) (L.length + 1) (idF (L.length + 1)) W := ⟨size_idF _, SW.start hH⟩
  refine (sortStable_calls T cap (idF (L.length + 1)) W hS0).mono ?_
  rintro e w' ⟨rfl, hsz, hS⟩
  obtain ⟨hgr, hrow⟩ := SW.frame hS hgs
  obtain ⟨cur', hh', hcs'⟩ := hrow cur 112 hh
  have hk : Keeps W w' := Keeps.grown hgr (fun k hk c fr hc => by cases hk; rw [hh] at hc; simp at hc)
  have hoth : ∀ k, k < W.heap.size → k ≠ g → w'.heap[k]? = W.heap[k]? := fun k hk hne => hgr.block k hk (by simpa using hne)
  have l1 := (Array.getElem?_eq_some_iff.1 h1).1
  have l2 := (Array.getElem?_eq_some_iff.1 h2).1
  obtain ⟨dd, hdd⟩ : ∃ q, q = stable (ltOf (cfF (x :: L))) (L.length + 1) (idF (L.length + 1)) := ⟨_, rfl⟩
  rw [← hdd] at hS hsz
  have hlenB : (sortB x L).length = L.length + 1 := by unfold sortB; rw [← hdd, List.length_map, Array.length_toList]; exact hsz
  have hsame : (dd.toList.map (fun i => (x :: L).get i)).length = L.length + 1 := by rw [List.length_map, Array.length_toList]; exact hsz
  refine ⟨rfl, ⟨⟨_, vP, (hoth _ l1 (by omega)).trans h1, (hoth _ l2 (by omega)).trans h2, ?_, q_move h4 (fun k hk => ?_), h5⟩, ?_⟩, ?_, hk⟩
  · rw [hlenB]
    refine ⟨by rw [ptrs_length, hlenB]; simp, .inr ⟨g, off, cap, cur', rfl, hg, hh', by simpa using hnc, hm, by rw [hcs', hcs], ?_⟩⟩
    apply List.ext_getElem?
    intro i
    by_cases hi : i < L.length + 1
    · rw [List.getElem?_take, if_pos (by omega), List.getElem?_drop]
      have hci := hS.c1 T.R (by rw [hsz, size_idF]) i (by rw [hsz]; exact hi)
      rw [cell_block hh'] at hci
      rw [Array.getElem?_toList, hci]
      unfold sortB ptrs
      rw [← hdd, List.getElem?_map, List.getElem?_map, Array.getElem?_toList, Array.getElem?_eq_getElem (by omega)]
      rw [getElem!_pos dd i (by omega)]
      rfl
    · rw [List.getElem?_eq_none (by simp; omega), List.getElem?_eq_none (by rw [ptrs_length, hlenB]; omega)]
  · refine hoth k (q_lt h4 k hk) (fun e => ?_)
    exact h5 k (by rw [e]; simp [Value.ownBlock]) hk
  · intro y hy
    rw [List.append_nil] at hy
    refine (h.lies y ?_).keeps hk
    rw [List.append_nil]
    unfold sortB at hy
    obtain ⟨i, _, rfl⟩ := List.mem_map.1 hy
    exact List.get_mem _ _
  · exact ⟨hgr.os, hgr.tape, hgr.output, hgr.size, fun k hk => hoth k (by omega) (by omega)⟩

theorem size_stIns {α : Type} [Inhabited α] (lt : α → α → Bool) (n : Nat) : ∀ (k a : Nat) (d : Array α), (stIns lt n k a d).size = d.size
  | 0, a, d => size_insertion _ _ _ _
  | k + 1, a, d => by
    rw [stIns]
    split
    · rw [size_stIns lt n k, size_insertion]
    · exact size_insertion _ _ _ _

theorem size_stPass {α : Type} [Inhabited α] (lt : α → α → Bool) (n bs : Nat) : ∀ (k a : Nat) (d : Array α), (stPass lt n bs k a d).size = d.size
  | 0, a, d => by
    rw [stPass]
    split
    · exact size_symM _ _ _ _ _ _
    · rfl
  | k + 1, a, d => by
    rw [stPass]
    split
    · rw [size_stPass lt n bs k, size_symM]
    · split
      · exact size_symM _ _ _ _ _ _
      · rfl

theorem size_stLoop {α : Type} [Inhabited α] (lt : α → α → Bool) (n : Nat) : ∀ (k bs : Nat) (d : Array α), (stLoop lt n k bs d).size = d.size
  | 0, bs, d => rfl
  | k + 1, bs, d => by
    rw [stLoop]
    split
    · rw [size_stLoop lt n k, size_stPass]
    · rfl

theorem size_stable {α : Type} [Inhabited α] (lt : α → α → Bool) (n : Nat) (d : Array α) : (stable lt n d).size = d.size := by
  rw [stable, size_stLoop, size_stIns]

def sortAll : List BT → List BT
  | [] => []
  | x :: L => sortB x L

theorem length_sortAll : ∀ L : List BT, (sortAll L).length = L.length
  | [] => rfl
  | x :: L => by
    show (sortB x L).length = _
    unfold sortB
    rw [List.length_map, Array.length_toList, size_stable, size_idF]
    rfl

theorem mem_sortAll : ∀ {L : List BT} {y : BT}, y ∈ sortAll L → y ∈ L
  | [], y, h => h
  | x :: L, y, h => by
    obtain ⟨i, _, rfl⟩ := List.mem_map.1 (show y ∈ sortB x L from h)
    exact List.get_mem _ _

end Go.Proofs.Ythgijppajindpaa
