/-
  prefix.grown: a tree is put behind a queue; the append's law for such rows.
-/
import Derived.Test.YthgijppajindpaaGrw3
import Derived.Deep.AppendLies
import Derived.Deep.OwnRows
set_option linter.unusedVariables false
set_option linter.unusedSimpArgs false
namespace Go.Proofs.Ythgijppajindpaa
open Go.RowKit Go.Proofs.YthgijppajindpaaW.PrintWords

section
variable {P : Program} (w : World)

theorem wp_append_q {o : Oper} {a : Act} {K : Act → World → Prop} {Q : Exit → Act → World → Prop} (s x : Operand) (t : TypeId)
    (ho : o.op = .call { callee := .builtin .append, args := #[s, x], argTypes := #[t, t] })
    (base : Nat) (e : TypeId) (i : TypeInfo) (z : Value) (size bytes : Nat) (ht : P.underlying t = some (.slice e)) (hi : P.info? e = some i) (hz : i.zero = some z)
    (hsize : i.size = size) (hby : i.bytes = bytes) (hzs : z.cells.size = size) (hsz : 0 < size)
    (v : Value) (n : Nat) (xs : List Value) (hs : a.eval s = v) (hown : QRow w base e size v n xs)
    (ad : Addr) (m c : Nat) (news : List Value) (hx : a.eval x = .slice (some ad) m c) (hl : news.length = m * size) (hnews : ∀ j u, news[j]? = some u → w.cell? (ad.add j) = some u) (h1 : ∀ u ∈ news, u.oneCell' = true)
    (hm : 0 < m) (h63 : n + m ≤ maxLen) (hbytes : (n + m) * bytes ≤ 140737488355328) (hbase : base ≤ w.heap.size)
    (h : ∀ A c' w', QRow w' base e size (.slice A (n + m) c') (n + m) (xs ++ news) → w.grownBy w' v.ownBlock → ((Value.slice A (n + m) c').ownBlock = v.ownBlock ∨ ∃ b, (Value.slice A (n + m) c').ownBlock = some b ∧ w.heap.size ≤ b) → K (a.put o.dst (.slice A (n + m) c')) w') : o.wp P a w K Q := by
  obtain ⟨v', w', hr, h2, h3, h4⟩ := q_append (P := P) w base t o.type e i z size bytes ht hi hz hsize hby hzs hsz v n xs hown ad m c news hl hnews h1 hm h63 hbytes hbase
  obtain ⟨A, c', rfl, _⟩ := q_slice h2
  unfold Oper.wp execOp
  simp only [ho, resolve, invoke, builtin, Sem.run_bind, Sem.run_pure, Result.andThen_ok, List.map_toArray, List.map_cons, List.map_nil, hs, hx, hr]
  exact h A c' w' h2 h3 h4

theorem wpList_append_q {ops : Array Oper} {rest : List Oper} {o : Oper} {a : Act} {Q : Exit → Act → World → Prop} (hgd : o.guard = none) (s x : Operand) (t : TypeId)
    (ho : o.op = .call { callee := .builtin .append, args := #[s, x], argTypes := #[t, t] })
    (base : Nat) (e : TypeId) (i : TypeInfo) (z : Value) (size bytes : Nat) (ht : P.underlying t = some (.slice e)) (hi : P.info? e = some i) (hz : i.zero = some z)
    (hsize : i.size = size) (hby : i.bytes = bytes) (hzs : z.cells.size = size) (hsz : 0 < size)
    (v : Value) (n : Nat) (xs : List Value) (hs : a.eval s = v) (hown : QRow w base e size v n xs)
    (ad : Addr) (m c : Nat) (news : List Value) (hx : a.eval x = .slice (some ad) m c) (hl : news.length = m * size) (hnews : ∀ j u, news[j]? = some u → w.cell? (ad.add j) = some u) (h1 : ∀ u ∈ news, u.oneCell' = true)
    (hm : 0 < m) (h63 : n + m ≤ maxLen) (hbytes : (n + m) * bytes ≤ 140737488355328) (hbase : base ≤ w.heap.size)
    (h : ∀ A c' w', QRow w' base e size (.slice A (n + m) c') (n + m) (xs ++ news) → w.grownBy w' v.ownBlock → ((Value.slice A (n + m) c').ownBlock = v.ownBlock ∨ ∃ b, (Value.slice A (n + m) c').ownBlock = some b ∧ w.heap.size ≤ b) → wpList P ops Q rest (a.put o.dst (.slice A (n + m) c')) w') : wpList P ops Q (o :: rest) a w :=
  wpList_plain hgd fun _ hK => wp_append_q w s x t ho base e i z size bytes ht hi hz hsize hby hzs hsz v n xs hs hown ad m c news hx hl hnews h1 hm h63 hbytes hbase fun A c' w' h2 h3 h4 => hK _ _ (h A c' w' h2 h3 h4)

theorem step_append_q {ops : Array Oper} {o : Oper} {a : Act} {K : Act → World → Prop} {Q : Exit → Act → World → Prop} {E : Prop} (hgd : o.guard = none) (s x : Operand) (t : TypeId)
    (ho : o.op = .call { callee := .builtin .append, args := #[s, x], argTypes := #[t, t] })
    (base : Nat) (e : TypeId) (i : TypeInfo) (z : Value) (size bytes : Nat) (ht : P.underlying t = some (.slice e)) (hi : P.info? e = some i) (hz : i.zero = some z)
    (hsize : i.size = size) (hby : i.bytes = bytes) (hzs : z.cells.size = size) (hsz : 0 < size)
    (v : Value) (n : Nat) (xs : List Value) (hs : a.eval s = v) (hown : QRow w base e size v n xs)
    (ad : Addr) (m c : Nat) (news : List Value) (hx : a.eval x = .slice (some ad) m c) (hl : news.length = m * size) (hnews : ∀ j u, news[j]? = some u → w.cell? (ad.add j) = some u) (h1 : ∀ u ∈ news, u.oneCell' = true)
    (hm : 0 < m) (h63 : n + m ≤ maxLen) (hbytes : (n + m) * bytes ≤ 140737488355328) (hbase : base ≤ w.heap.size)
    (h : ∀ A c' w', QRow w' base e size (.slice A (n + m) c') (n + m) (xs ++ news) → w.grownBy w' v.ownBlock → ((Value.slice A (n + m) c').ownBlock = v.ownBlock ∨ ∃ b, (Value.slice A (n + m) c').ownBlock = some b ∧ w.heap.size ≤ b) → K (a.put o.dst (.slice A (n + m) c')) w') :
    if Region.wanted o (yielded ops a.tmps) = true then Oper.wp P o a w K Q else E := by
  have hw : Region.wanted o (yielded ops a.tmps) = true := by simp [Region.wanted, hgd]
  rw [if_pos hw]
  exact wp_append_q w s x t ho base e i z size bytes ht hi hz hsize hby hzs hsz v n xs hs hown ad m c news hx hl hnews h1 hm h63 hbytes hbase h
end

theorem Keeps.ext {w w' : World} (h : w.grownBy w' none) : Keeps w w' := Keeps.grown h (fun k hk => by cases hk)

theorem ownBlock_if {A : Option Addr} {n c k : Nat} (h : (Value.slice A n c).ownBlock = some k) : ∃ a, A = some a ∧ a.block = k := by
  cases A with
  | none => simp [Value.ownBlock] at h
  | some a => exact ⟨a, rfl, by simpa [Value.ownBlock] using h⟩

/-- A tree is put behind the leaves. -/
theorem St.pushLeaf {N : Nat} {W W1 w2 : World} {L P : List BT} (h : St N W L P) {vL : Value} (hvL : W.heap[N + 1]? = some (.cells #[vL] 111 (0, 0))) (hext : W.grownBy W1 none) {b : Nat} {t : Tr} (ht : t.Lies W1 b)
    {A : Option Addr} {c : Nat} (hq : QRow w2 (N + 3) 112 1 (.slice A (L.length + 1) c) (L.length + 1) (ptrs L ++ [.pointer (some ⟨b, 0, none⟩)])) (hg : W1.grownBy w2 vL.ownBlock)
    {H1 : Nat} (hH1 : W1.heap.size = H1) (hat : (Value.slice A (L.length + 1) c).ownBlock = vL.ownBlock ∨ ∃ b, (Value.slice A (L.length + 1) c).ownBlock = some b ∧ H1 ≤ b) :
    (St N (w2.setCell ⟨N + 1, 0, none⟩ (.slice A (L.length + 1) c)) (L ++ [(b, t)]) P ∧ Moves N W (w2.setCell ⟨N + 1, 0, none⟩ (.slice A (L.length + 1) c))) ∧ w2.heap[N + 1]? = some (.cells #[vL] 111 (0, 0)) := by
  obtain ⟨vL', vP, h1, h2, h3, h4, h5⟩ := h.ex
  obtain rfl : vL' = vL := by rw [hvL] at h1; simpa using h1.symm
  have hlt : ∀ k, k < W.heap.size → W1.heap[k]? = W.heap[k]? := fun k hk => hext.block k hk (by simp)
  have l1 := (Array.getElem?_eq_some_iff.1 h1).1
  have l2 := (Array.getElem?_eq_some_iff.1 h2).1
  have hrow : ∀ k, vL'.ownBlock = some k → N + 3 ≤ k ∧ ∃ cells, W1.heap[k]? = some (.cells cells 112 (0, 0)) := fun k hk => by
    obtain ⟨a1, cells, a2⟩ := q_typed h3 k hk
    exact ⟨a1, cells, (hlt k (q_lt h3 k hk)).trans a2⟩
  have hw2 : ∀ k, k < W.heap.size → (∀ j, vL'.ownBlock = some j → k ≠ j) → w2.heap[k]? = W.heap[k]? := fun k hk hne =>
    (hg.block k (Nat.lt_of_lt_of_le hk hext.size) (fun e => hne k e.symm rfl)).trans (hlt k hk)
  have k12 : Keeps W1 w2 := Keeps.grown hg (fun k hk c fr hc => by obtain ⟨_, cells, a2⟩ := hrow k hk; rw [a2] at hc; simp at hc)
  have b1 : w2.heap[N + 1]? = some (.cells #[vL'] 111 (0, 0)) := (hw2 _ l1 (fun j hj e => by have := (hrow j hj).1; omega)).trans h1
  have b2 : w2.heap[N + 2]? = some (.cells #[vP] 111 (0, 0)) := (hw2 _ l2 (fun j hj e => by have := (hrow j hj).1; omega)).trans h2
  have k23 : Keeps w2 (w2.setCell ⟨N + 1, 0, none⟩ (.slice A (L.length + 1) c)) := Keeps.grown (grownBy_setCell _ _ _ _) (fun k hk c fr hc => by cases hk; rw [b1] at hc; simp at hc)
  have hoth : ∀ k, k ≠ N + 1 → (w2.setCell ⟨N + 1, 0, none⟩ (.slice A (L.length + 1) c)).heap[k]? = w2.heap[k]? := fun k hk => Below.heap_setCell _ _ _ k hk
  have hP : ∀ k, vP.ownBlock = some k → w2.heap[k]? = W.heap[k]? := fun k hk => hw2 k (q_lt h4 k hk) (fun j hj e => h5 j hj (by rw [← e]; exact hk))
  refine ⟨⟨⟨⟨_, vP, setBox b1 _, (hoth _ (by omega)).trans b2, ?_, ?_, ?_⟩, ?_⟩, ?_, ?_⟩, b1⟩
  · have := q_move (w1 := w2.setCell ⟨N + 1, 0, none⟩ (.slice A (L.length + 1) c)) hq (fun k hk => hoth k (by have := (q_typed hq k hk).1; omega))
    simpa [ptrs] using this
  · exact q_move h4 (fun k hk => (hoth k (by have := (q_typed h4 k hk).1; omega)).trans (hP k hk))
  · intro k k1 k2
    rcases hat with e | ⟨b', e, hb'⟩
    · exact h5 k (by rw [← e]; exact k1) k2
    · rw [e] at k1
      have := q_lt h4 k k2
      have := hext.size
      simp only [Option.some.injEq] at k1
      omega
  · intro y hy
    rcases List.mem_append.1 hy with hy | hy
    · rcases List.mem_append.1 hy with hy | hy
      · exact (h.lies y (by simp [hy])).keeps (Keeps.trans (Keeps.ext hext) (Keeps.trans k12 k23))
      · simp only [List.mem_singleton] at hy
        subst hy
        exact ht.keeps (Keeps.trans k12 k23)
    · exact (h.lies y (by simp [hy])).keeps (Keeps.trans (Keeps.ext hext) (Keeps.trans k12 k23))
  · refine Below.setCell (B := N + 1) (w := w2) ?_ (Nat.le_refl _) _
    refine ⟨hg.os.trans hext.os, hg.tape.trans hext.tape, hg.output.trans hext.output, Nat.le_trans hext.size hg.size, fun k hk => hw2 k (by omega) (fun j hj e => by have := (hrow j hj).1; omega)⟩
  · exact Keeps.trans (Keeps.ext hext) (Keeps.trans k12 k23)

/-- A tree is put behind the pairs. -/
theorem St.pushPair {N : Nat} {W W1 w2 : World} {L P : List BT} (h : St N W L P) {vP : Value} (hvP : W.heap[N + 2]? = some (.cells #[vP] 111 (0, 0))) (hext : W.grownBy W1 none) {b : Nat} {t : Tr} (ht : t.Lies W1 b)
    {A : Option Addr} {c : Nat} (hq : QRow w2 (N + 3) 112 1 (.slice A (P.length + 1) c) (P.length + 1) (ptrs P ++ [.pointer (some ⟨b, 0, none⟩)])) (hg : W1.grownBy w2 vP.ownBlock)
    {H1 : Nat} (hH1 : W1.heap.size = H1) (hat : (Value.slice A (P.length + 1) c).ownBlock = vP.ownBlock ∨ ∃ b, (Value.slice A (P.length + 1) c).ownBlock = some b ∧ H1 ≤ b) :
    (St N (w2.setCell ⟨N + 2, 0, none⟩ (.slice A (P.length + 1) c)) L (P ++ [(b, t)]) ∧ Moves N W (w2.setCell ⟨N + 2, 0, none⟩ (.slice A (P.length + 1) c))) ∧ w2.heap[N + 2]? = some (.cells #[vP] 111 (0, 0)) := by
  obtain ⟨vL, vP', h1, h2, h3, h4, h5⟩ := h.ex
  obtain rfl : vP' = vP := by rw [hvP] at h2; simpa using h2.symm
  have hlt : ∀ k, k < W.heap.size → W1.heap[k]? = W.heap[k]? := fun k hk => hext.block k hk (by simp)
  have l1 := (Array.getElem?_eq_some_iff.1 h1).1
  have l2 := (Array.getElem?_eq_some_iff.1 h2).1
  have hrow : ∀ k, vP'.ownBlock = some k → N + 3 ≤ k ∧ ∃ cells, W1.heap[k]? = some (.cells cells 112 (0, 0)) := fun k hk => by
    obtain ⟨a1, cells, a2⟩ := q_typed h4 k hk
    exact ⟨a1, cells, (hlt k (q_lt h4 k hk)).trans a2⟩
  have hw2 : ∀ k, k < W.heap.size → (∀ j, vP'.ownBlock = some j → k ≠ j) → w2.heap[k]? = W.heap[k]? := fun k hk hne =>
    (hg.block k (Nat.lt_of_lt_of_le hk hext.size) (fun e => hne k e.symm rfl)).trans (hlt k hk)
  have k12 : Keeps W1 w2 := Keeps.grown hg (fun k hk c fr hc => by obtain ⟨_, cells, a2⟩ := hrow k hk; rw [a2] at hc; simp at hc)
  have b1 : w2.heap[N + 1]? = some (.cells #[vL] 111 (0, 0)) := (hw2 _ l1 (fun j hj e => by have := (hrow j hj).1; omega)).trans h1
  have b2 : w2.heap[N + 2]? = some (.cells #[vP'] 111 (0, 0)) := (hw2 _ l2 (fun j hj e => by have := (hrow j hj).1; omega)).trans h2
  have k23 : Keeps w2 (w2.setCell ⟨N + 2, 0, none⟩ (.slice A (P.length + 1) c)) := Keeps.grown (grownBy_setCell _ _ _ _) (fun k hk c fr hc => by cases hk; rw [b2] at hc; simp at hc)
  have hoth : ∀ k, k ≠ N + 2 → (w2.setCell ⟨N + 2, 0, none⟩ (.slice A (P.length + 1) c)).heap[k]? = w2.heap[k]? := fun k hk => Below.heap_setCell _ _ _ k hk
  have hL : ∀ k, vL.ownBlock = some k → w2.heap[k]? = W.heap[k]? := fun k hk => hw2 k (q_lt h3 k hk) (fun j hj e => h5 k hk (by rw [e]; exact hj))
  refine ⟨⟨⟨⟨vL, _, (hoth _ (by omega)).trans b1, setBox b2 _, ?_, ?_, ?_⟩, ?_⟩, ?_, ?_⟩, b2⟩
  · exact q_move h3 (fun k hk => (hoth k (by have := (q_typed h3 k hk).1; omega)).trans (hL k hk))
  · have := q_move (w1 := w2.setCell ⟨N + 2, 0, none⟩ (.slice A (P.length + 1) c)) hq (fun k hk => hoth k (by have := (q_typed hq k hk).1; omega))
    simpa [ptrs] using this
  · intro k k1 k2
    rcases hat with e | ⟨b', e, hb'⟩
    · exact h5 k k1 (by rw [← e]; exact k2)
    · rw [e] at k2
      have := q_lt h3 k k1
      have := hext.size
      simp only [Option.some.injEq] at k2
      omega
  · intro y hy
    rcases List.mem_append.1 hy with hy | hy
    · exact (h.lies y (by simp [hy])).keeps (Keeps.trans (Keeps.ext hext) (Keeps.trans k12 k23))
    · rcases List.mem_append.1 hy with hy | hy
      · exact (h.lies y (by simp [hy])).keeps (Keeps.trans (Keeps.ext hext) (Keeps.trans k12 k23))
      · simp only [List.mem_singleton] at hy
        subst hy
        exact ht.keeps (Keeps.trans k12 k23)
  · refine Below.setCell (B := N + 1) (w := w2) ?_ (show N + 1 ≤ N + 2 by omega) _
    refine ⟨hg.os.trans hext.os, hg.tape.trans hext.tape, hg.output.trans hext.output, Nat.le_trans hext.size hg.size, fun k hk => hw2 k (by omega) (fun j hj e => by have := (hrow j hj).1; omega)⟩
  · exact Keeps.trans (Keeps.ext hext) (Keeps.trans k12 k23)

theorem news_one (W : World) (v : Value) (T : TypeId) (b : Nat) (hb : W.heap.size = b) : ∀ j u, [v][j]? = some u → (W.alloc (.cells #[v] T)).cell? ((⟨b, 0, none⟩ : Addr).add j) = some u := by
  intro j u hj
  match j, hj with
  | 0, hj =>
    simp only [List.getElem?_cons_zero, Option.some.injEq] at hj
    subst hj
    rw [show ((⟨b, 0, none⟩ : Addr).add 0) = ⟨b, 0, none⟩ by simp [Addr.add], ← hb, cell_block (heap_alloc_new W _)]
    rfl

end Go.Proofs.Ythgijppajindpaa
