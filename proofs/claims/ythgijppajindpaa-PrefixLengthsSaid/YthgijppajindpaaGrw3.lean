/-
  prefix.grown: the two queues, and the lightest tree's taking, over them.
-/
import Derived.Test.YthgijppajindpaaGrw2
import Derived.Test.YthgijppajindpaaWWords
set_option linter.unusedVariables false
set_option linter.unusedSimpArgs false
namespace Go.Proofs.Ythgijppajindpaa
open Go.RowKit Go.Proofs.YthgijppajindpaaW.PrintWords

/-- The lightest of two rows: a leaf ahead of a pair that weighs the same. -/
def pop {β : Type} (wt : β → Int) : List β → List β → Option (β × List β × List β)
  | [], [] => none
  | x :: L, [] => some (x, L, [])
  | [], y :: P => some (y, [], P)
  | x :: L, y :: P => if wt x ≤ wt y then some (x, L, y :: P) else some (y, x :: L, P)

abbrev BT := Nat × Tr
def wtB (x : BT) : Int := x.2.wt
def ptrs (L : List BT) : List Value := L.map fun x => .pointer (some ⟨x.1, 0, none⟩)

theorem ptrs_length (L : List BT) : (ptrs L).length = L.length := by simp [ptrs]

/-- The queues lie in memory: the variable of the leaves at N + 1, that of the pairs at N + 2. -/
structure St (N : Nat) (W : World) (L P : List BT) : Prop where
  ex : ∃ vL vP, W.heap[N + 1]? = some (.cells #[vL] 111 (0, 0)) ∧ W.heap[N + 2]? = some (.cells #[vP] 111 (0, 0)) ∧
    QRow W (N + 3) 112 1 vL L.length (ptrs L) ∧ QRow W (N + 3) 112 1 vP P.length (ptrs P) ∧ (∀ k, vL.ownBlock = some k → vP.ownBlock = some k → False)
  lies : ∀ x, x ∈ L ++ P → x.2.Lies W x.1

theorem Tr.Lies.weight {W : World} : ∀ {t : Tr} {b : Nat}, t.Lies W b → W.cell? ⟨b, 0, none⟩ = some (.int .i64 t.wt)
  | .leaf _ _, _, h => by rw [cell_block h]; rfl
  | .node _ _ _, _, ⟨_, _, h, _⟩ => by rw [cell_block h]; rfl

/-- What a step of the queues does to memory: blocks of nodes stay, and all below N + 1. -/
structure Moves (N : Nat) (W W' : World) : Prop where
  below : Below (N + 1) W W'
  keeps : Keeps W W'

theorem Moves.refl (N : Nat) (W : World) : Moves N W W := ⟨Below.refl _ _, Keeps.refl _⟩
theorem Moves.trans {N : Nat} {a b c : World} (h : Moves N a b) (k : Moves N b c) : Moves N a c := ⟨h.below.trans k.below, h.keeps.trans k.keeps⟩

theorem q_first {W : World} {N : Nat} {v : Value} {x : BT} {L : List BT} (h : QRow W (N + 3) 112 1 v (x :: L).length (ptrs (x :: L))) :
    ∃ g off c, v = .slice (some ⟨g, off, none⟩) (L.length + 1) c ∧ W.cell? ⟨g, off, none⟩ = some (.pointer (some ⟨x.1, 0, none⟩)) ∧ L.length + 1 ≤ c ∧ c ≤ 9223372036854775807 ∧ N + 3 ≤ g ∧
      (∃ cur, W.heap[g]? = some (.cells cur 112 (0, 0))) ∧
      ∀ (W' : World), W'.heap[g]? = W.heap[g]? → QRow W' (N + 3) 112 1 (.slice (if c = 1 then some ⟨g, off, none⟩ else some ⟨g, off + 1, none⟩) L.length (c - 1)) L.length (ptrs L) := by
  rcases h.2 with ⟨h0, _⟩ | ⟨g, off, cap, cur, rfl, hg, hh, hnc, hm, hcs, ht⟩
  · simp at h0
  · have hmm : cap ≤ 9223372036854775807 := by simp only [maxLen] at hm; omega
    obtain ⟨ad, e, hc⟩ := q_cells h (by simp)
    injection e with e
    subst e
    have h0 := hc 0 _ rfl
    rw [show ((⟨g, off * 1, none⟩ : Addr).add 0) = ⟨g, off * 1, none⟩ by simp [Addr.add]] at h0
    refine ⟨g, off * 1, cap, rfl, h0, hnc, hmm, hg, ⟨cur, hh⟩, fun W' hW => ?_⟩
    have hd := q_drop (k := 1) h (by simp)
    have hd2 := q_move (w1 := W') hd (fun k hk => by
      have : k = g := by
        by_cases e1 : cap = 1
        · rw [if_pos e1] at hk; simpa [Value.ownBlock] using hk.symm
        · rw [if_neg e1] at hk; simp [Value.ownBlock, add_at] at hk; exact hk.symm
      rw [this]; exact hW)
    simpa [ptrs, add_at] using hd2

theorem setBox {W : World} {B : Nat} {v : Value} {T : TypeId} (h : W.heap[B]? = some (.cells #[v] T (0, 0))) (u : Value) : (W.setCell ⟨B, 0, none⟩ u).heap[B]? = some (.cells #[u] T (0, 0)) := by
  simp only [World.setCell, Array.getElem?_modify, if_true]
  rw [h]
  simp

theorem own_if {g off n c k : Nat} (h : (Value.slice (if c = 1 then some ⟨g, off, none⟩ else some ⟨g, off + 1, none⟩) n (c - 1)).ownBlock = some k) : g = k := by
  by_cases e : c = 1
  · rw [if_pos e] at h; simpa [Value.ownBlock] using h
  · rw [if_neg e] at h; simpa [Value.ownBlock] using h

theorem popped_world {W W' : World} {B g off n c : Nat} {v : Value} (h1 : W.heap[B]? = some (.cells #[v] 111 (0, 0))) (h : Popped W W' B g off n c) :
    W'.heap[B]? = some (.cells #[.slice (if c = 1 then some ⟨g, off, none⟩ else some ⟨g, off + 1, none⟩) n (c - 1)] 111 (0, 0)) ∧ (∀ k, k ≠ B → W'.heap[k]? = W.heap[k]?) ∧ Keeps W W' ∧ Below B W W' := by
  obtain ⟨A', q, rfl, rfl⟩ := h
  refine ⟨setBox h1 _, fun k hk => Below.heap_setCell W _ _ k hk, Keeps.trans (Keeps.grown (grownBy_setCell W B 0 _) (fun k hk c fr hc => by cases hk; rw [h1] at hc; simp at hc)) (Keeps.drewN _ q), ?_⟩
  exact pw_below_drewN ((Below.refl B W).setCell (Nat.le_refl _) _) q

theorem St.popLeaf {N : Nat} {W : World} {x : BT} {L P : List BT} (h : St N W (x :: L) P) :
    ∃ g off c vP, W.cell? ⟨N + 1, 0, none⟩ = some (.slice (some ⟨g, off, none⟩) (L.length + 1) c) ∧ W.frozen? ⟨N + 1, 0, none⟩ = false ∧ W.cell? ⟨N + 2, 0, none⟩ = some vP ∧ W.frozen? ⟨N + 2, 0, none⟩ = false ∧
      QRow W (N + 3) 112 1 vP P.length (ptrs P) ∧
      W.cell? ⟨g, off, none⟩ = some (.pointer (some ⟨x.1, 0, none⟩)) ∧ L.length + 1 ≤ c ∧ c ≤ 9223372036854775807 ∧ N + 3 ≤ g ∧
      ∀ W', Popped W W' (N + 1) g off L.length c → St N W' L P ∧ Moves N W W' := by
  obtain ⟨vL, vP, h1, h2, h3, h4, h5⟩ := h.ex
  obtain ⟨g, off, c, rfl, hx, hc, hm, hg, hcur, hrest⟩ := q_first h3
  refine ⟨g, off, c, vP, by rw [cell_block h1]; rfl, frozen_block h1 0, by rw [cell_block h2]; rfl, frozen_block h2 0, h4, hx, hc, hm, hg, fun W' hp => ?_⟩
  obtain ⟨hb, hoth, hk, hbl⟩ := popped_world h1 hp
  refine ⟨⟨⟨_, vP, hb, (hoth _ (by omega)).trans h2, hrest W' (hoth _ (by omega)), q_move h4 (fun k hk => hoth _ (by have := (q_typed h4 k hk).1; omega)), fun k k1 k2 => h5 k (by rw [← own_if k1]; rfl) k2⟩, fun y hy => (h.lies y (by rcases List.mem_append.1 hy with hy | hy <;> simp [hy])).keeps hk⟩, hbl, hk⟩

theorem St.popPair {N : Nat} {W : World} {y : BT} {L P : List BT} (h : St N W L (y :: P)) :
    ∃ g off c vL, W.cell? ⟨N + 2, 0, none⟩ = some (.slice (some ⟨g, off, none⟩) (P.length + 1) c) ∧ W.frozen? ⟨N + 2, 0, none⟩ = false ∧ W.cell? ⟨N + 1, 0, none⟩ = some vL ∧ W.frozen? ⟨N + 1, 0, none⟩ = false ∧
      QRow W (N + 3) 112 1 vL L.length (ptrs L) ∧
      W.cell? ⟨g, off, none⟩ = some (.pointer (some ⟨y.1, 0, none⟩)) ∧ P.length + 1 ≤ c ∧ c ≤ 9223372036854775807 ∧ N + 3 ≤ g ∧
      ∀ W', Popped W W' (N + 2) g off P.length c → St N W' L P ∧ Moves N W W' := by
  obtain ⟨vL, vP, h1, h2, h3, h4, h5⟩ := h.ex
  obtain ⟨g, off, c, rfl, hx, hc, hm, hg, hcur, hrest⟩ := q_first h4
  refine ⟨g, off, c, vL, by rw [cell_block h2]; rfl, frozen_block h2 0, by rw [cell_block h1]; rfl, frozen_block h1 0, h3, hx, hc, hm, hg, fun W' hp => ?_⟩
  obtain ⟨hb, hoth, hk, hbl⟩ := popped_world h2 hp
  refine ⟨⟨⟨vL, _, (hoth _ (by omega)).trans h1, hb, q_move h3 (fun k hk => hoth _ (by have := (q_typed h3 k hk).1; omega)), hrest W' (hoth _ (by omega)), fun k k1 k2 => h5 k k1 (by rw [← own_if k2]; rfl)⟩, fun z hz => (h.lies z (by rcases List.mem_append.1 hz with hz | hz <;> simp [hz])).keeps hk⟩, hbl.mono (by omega), hk⟩

theorem q_zero {W : World} {N : Nat} {v : Value} (h : QRow W (N + 3) 112 1 v 0 (ptrs [])) : ∃ A c, v = .slice A 0 c := by
  obtain ⟨A, c, rfl, _⟩ := q_slice h
  exact ⟨A, c, rfl⟩

/-- The closure 'lightest'. -/
theorem light_calls (N : Nat) (W : World) (L P L' P' : List BT) (x : BT) (h : St N W L P) (hp : pop wtB L P = some (x, L', P')) :
    Calls Try.prog 64 #[.pointer (some ⟨N + 2, 0, none⟩), .pointer (some ⟨N + 1, 0, none⟩)] W fun e w' => e = .returned (.pointer (some ⟨x.1, 0, none⟩)) ∧ St N w' L' P' ∧ Moves N W w' := by
  match L, P, h, hp with
  | [], [], _, hp => simp [pop] at hp
  | y :: L, [], h, hp =>
    simp only [pop, Option.some.injEq, Prod.mk.injEq] at hp
    obtain ⟨rfl, rfl, rfl⟩ := hp
    obtain ⟨g, off, c, vP, c1, f1, c2, f2, hq, hx, hc, hm, hg, hrest⟩ := h.popLeaf
    obtain ⟨A, cp, rfl⟩ := q_zero hq
    refine (light1_calls (N + 2) (N + 1) A cp g off L.length c y.1 W (by omega) c2 c1 f1 hx hc hm).mono ?_
    rintro e w' ⟨rfl, hpd⟩
    exact ⟨rfl, hrest _ hpd⟩
  | [], y :: P, h, hp =>
    simp only [pop, Option.some.injEq, Prod.mk.injEq] at hp
    obtain ⟨rfl, rfl, rfl⟩ := hp
    obtain ⟨g, off, c, vL, c1, f1, c2, f2, hq, hx, hc, hm, hg, hrest⟩ := h.popPair
    obtain ⟨A, cl, rfl⟩ := q_zero hq
    refine (light3_calls (N + 2) (N + 1) g off P.length c y.1 A cl W (by omega) c1 c2 f1 hx hc hm).mono ?_
    rintro e w' ⟨rfl, hpd⟩
    exact ⟨rfl, hrest _ hpd⟩
  | y :: L, z :: P, h, hp =>
    obtain ⟨g, off, c, vP, c1, f1, c2, f2, hq, hx, hc, hm, hg, hrest⟩ := h.popLeaf
    obtain ⟨g', off', c', vL, c1', f1', c2', f2', hq', hx', hc', hm', hg', hrest'⟩ := h.popPair
    rw [c2] at c1'
    rw [c1] at c2'
    simp only [Option.some.injEq] at c1' c2'
    subst c1' c2'
    have hy := (h.lies y (by simp)).weight
    have hz := (h.lies z (by simp)).weight
    by_cases hle : wtB y ≤ wtB z
    · simp only [pop, if_pos hle, Option.some.injEq, Prod.mk.injEq] at hp
      obtain ⟨rfl, rfl, rfl⟩ := hp
      refine (light2_calls (N + 2) (N + 1) g' off' P.length c' z.1 _ _ g off L.length c y.1 W (by omega) c2 c1 f1 hx hx' hy hz (decide_eq_true hle) hc hm (by omega)).mono ?_
      rintro e w' ⟨rfl, hpd⟩
      exact ⟨rfl, hrest _ hpd⟩
    · simp only [pop, if_neg hle, Option.some.injEq, Prod.mk.injEq] at hp
      obtain ⟨rfl, rfl, rfl⟩ := hp
      refine (light4_calls (N + 2) (N + 1) g' off' P.length c' z.1 _ _ g off L.length c y.1 W (by omega) c2 c1 f1' hx' hx hy hz (decide_eq_false hle) hc' hm' (by omega)).mono ?_
      rintro e w' ⟨rfl, hpd⟩
      exact ⟨rfl, hrest' _ hpd⟩

end Go.Proofs.Ythgijppajindpaa
