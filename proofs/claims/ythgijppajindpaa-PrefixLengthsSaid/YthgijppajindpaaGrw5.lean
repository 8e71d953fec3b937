/-
  prefix.grown: what it hands back is the plain 'grownL'.
-/
import Derived.Test.YthgijppajindpaaGrw6
import Derived.RegionCalls
import Derived.Deep.RegionLaw
set_option linter.unusedVariables false
set_option linter.unusedSimpArgs false
namespace Go.Proofs.Ythgijppajindpaa
open Go.RowKit Go.Proofs.YthgijppajindpaaW.PrintWords

theorem Try.info3 : (Try.prog.info? 3).map (fun i => (i.zero, i.size, i.bytes)) = some (some (.int .i64 0), 1, 8) := by kernel_rfl
theorem Try.info112 : (Try.prog.info? 112).map (fun i => (i.zero, i.size, i.bytes)) = some (some (.pointer none), 1, 8) := by kernel_rfl

/-- The leaves of the symbols that come, in order. -/
def leafs (l : List Int) : List Tr := (l.zipIdx.filter fun p => decide (0 < p.1)).map fun p => .leaf p.1 p.2

theorem leafs_snoc (l : List Int) (x : Int) : leafs (l ++ [x]) = leafs l ++ if 0 < x then [.leaf x l.length] else [] := by
  unfold leafs
  rw [List.zipIdx_append, List.filter_append, List.map_append]
  congr 1
  by_cases h : 0 < x <;> simp [h]

theorem leafs_le (l : List Int) : (leafs l).length ≤ l.length := by
  unfold leafs
  rw [List.length_map]
  refine Nat.le_trans (List.length_filter_le _ _) ?_
  simp

theorem madeRow (n : Nat) : (madeCells #[Value.int .i64 0] n) = ((List.replicate n (0 : Int)).map (Value.int .i64)).toArray := by
  apply Array.toList_inj.1
  rw [toList_madeCells_one]
  simp

theorem grownBy_drew (w : World) (row : Option Nat) : w.grownBy w.drew row := ⟨rfl, rfl, rfl, Nat.le_refl _, fun _ _ _ => rfl⟩
theorem hid {p : Prop} (h : p) : Hid p := h

/-- Two trees are made one, as long as there are two. -/
def build : Nat → List Tr → List Tr → List Tr × List Tr
  | 0, L, P => (L, P)
  | k + 1, L, P =>
    match pop Tr.wt L P with
    | none => (L, P)
    | some (a, L1, P1) =>
      match pop Tr.wt L1 P1 with
      | none => (L, P)
      | some (b, L2, P2) => build k L2 (P2 ++ [.node (a.wt + b.wt) a b])

theorem pop_map {L P L1 P1 : List BT} {x : BT} (h : pop wtB L P = some (x, L1, P1)) : pop Tr.wt (L.map Prod.snd) (P.map Prod.snd) = some (x.2, L1.map Prod.snd, P1.map Prod.snd) := by
  cases L with
  | nil =>
    cases P with
    | nil => simp [pop] at h
    | cons y P =>
      simp only [pop, Option.some.injEq, Prod.mk.injEq] at h
      obtain ⟨rfl, rfl, rfl⟩ := h
      rfl
  | cons a L =>
    cases P with
    | nil =>
      simp only [pop, Option.some.injEq, Prod.mk.injEq] at h
      obtain ⟨rfl, rfl, rfl⟩ := h
      rfl
    | cons y P =>
      by_cases hle : wtB a ≤ wtB y
      · simp only [pop, if_pos hle, Option.some.injEq, Prod.mk.injEq] at h
        obtain ⟨rfl, rfl, rfl⟩ := h
        simp only [List.map_cons, pop]
        rw [if_pos (show a.2.wt ≤ y.2.wt from hle)]
      · simp only [pop, if_neg hle, Option.some.injEq, Prod.mk.injEq] at h
        obtain ⟨rfl, rfl, rfl⟩ := h
        simp only [List.map_cons, pop]
        rw [if_neg (show ¬ a.2.wt ≤ y.2.wt from hle)]

/-- All the weights together. -/
def tot (L : List BT) : Int := (L.map wtB).sum

theorem pop_some {L P : List BT} (h : 0 < L.length + P.length) : ∃ x L1 P1, pop wtB L P = some (x, L1, P1) ∧ L1.length + P1.length + 1 = L.length + P.length ∧ tot L + tot P = wtB x + (tot L1 + tot P1) ∧
    x ∈ L ++ P ∧ ∀ y, y ∈ L1 ++ P1 → y ∈ L ++ P := by
  cases L with
  | nil =>
    cases P with
    | nil => simp at h
    | cons y P => exact ⟨y, [], P, rfl, by simp, by simp [tot], by simp, fun z hz => by simp at hz ⊢; exact .inr hz⟩
  | cons a L =>
    cases P with
    | nil => exact ⟨a, L, [], rfl, by simp, by simp [tot], by simp, fun z hz => by simp at hz ⊢; exact .inr hz⟩
    | cons y P =>
      by_cases hle : wtB a ≤ wtB y
      · exact ⟨a, L, y :: P, by simp [pop, hle], by simp; omega, by simp [tot]; omega, by simp, fun z hz => by simp at hz ⊢; exact .inr hz⟩
      · refine ⟨y, a :: L, P, by simp [pop, hle], by simp; omega, by simp [tot]; omega, by simp, fun z hz => ?_⟩
        simp at hz ⊢
        rcases hz with h | h | h
        · exact .inl h
        · exact .inr (.inl h)
        · exact .inr (.inr (.inr h))

theorem tot_le (B : Int) : ∀ L : List BT, (∀ x, x ∈ L → 0 ≤ wtB x ∧ wtB x ≤ B) → 0 ≤ tot L ∧ tot L ≤ L.length * B
  | [], _ => by simp [tot]
  | x :: L, h => by
    have h1 := h x (by simp)
    have h2 := tot_le B L (fun y hy => h y (by simp [hy]))
    have e : tot (x :: L) = wtB x + tot L := rfl
    rw [e]
    have e2 : ((x :: L).length : Int) * B = L.length * B + B := by simp [Int.add_mul]
    omega

theorem tot_nonneg : ∀ L : List BT, (∀ x, x ∈ L → 0 ≤ wtB x) → 0 ≤ tot L
  | [], _ => by simp [tot]
  | x :: L, h => by
    have h1 := h x (by simp)
    have h2 := tot_nonneg L (fun y hy => h y (by simp [hy]))
    have e : tot (x :: L) = wtB x + tot L := rfl
    omega

theorem build_stop {k : Nat} {L P : List Tr} (h : L.length + P.length ≤ 1) : build k L P = (L, P) := by
  cases k with
  | zero => rfl
  | succ k =>
    cases L with
    | nil =>
      cases P with
      | nil => rfl
      | cons y P =>
        cases P with
        | nil => rfl
        | cons z P => simp at h
    | cons x L =>
      cases P with
      | nil =>
        cases L with
        | nil => rfl
        | cons z L => simp at h
      | cons y P => simp at h; omega

/-- What a tree of the queues keeps. -/
def Ok (n m : Nat) (x : BT) : Prop := 0 ≤ wtB x ∧ x.2.Below n ∧ x.2.height + m ≤ n

/-- The lengths, out of what the queues hold in the end. -/
def finish (n : Nat) (q : List Tr × List Tr) : List Int := (q.1 ++ q.2).foldl (fun xs t => t.dep 0 xs) (List.replicate n 0)

/-- What prefix.grown may hand back. -/
def GrownOut (l xs : List Int) : Prop := ∃ L : List BT, L.map Prod.snd = leafs l ∧ xs = finish l.length (build l.length ((sortAll L).map Prod.snd) [])

theorem leafs_ok {l : List Int} {n : Nat} (hn : l.length = n) (hb : ∀ j, 0 ≤ l.getD j 0 ∧ l.getD j 0 ≤ 1048576) : ∀ t, t ∈ leafs l → 0 ≤ t.wt ∧ t.wt ≤ 1048576 ∧ t.Below n ∧ t.height = 0 := by
  intro t ht
  unfold leafs at ht
  obtain ⟨p, hp, rfl⟩ := List.mem_map.1 ht
  have h1 := (List.mem_filter.1 hp).1
  obtain ⟨x, i⟩ := p
  obtain ⟨hi, hx⟩ := List.mk_mem_zipIdx_iff_getElem?.1 h1 |> fun h => List.getElem?_eq_some_iff.1 h
  have := hb i
  rw [List.getD_eq_getElem?_getD, List.getElem?_eq_getElem hi] at this
  simp only [Option.getD_some, hx] at this
  exact ⟨this.1, this.2, by rw [← hn]; exact hi, rfl⟩

theorem run_append_zero {P : Program} (t ty e : TypeId) (i : TypeInfo) (ht : P.underlying t = some (.slice e)) (hi : P.info? e = some i) (A B : Option Addr) (n c c2 : Nat) (h : n ≤ c) (w : World) :
    (Builtin.append_ #[t, t] ty #[.slice A n c, .slice B 0 c2]).run P w = .ok (.slice A n c) w := by
  cases A <;> cases B <;> simp [Builtin.append_, run_underlying ht, sizeOf, typeInfo, hi, Builtin.lenOf, h, Builtin.firstCells, loadCells, loadCellsFrom, storeCells, Result.andThen]

theorem wpList_append_zero {P : Program} {w : World} {ops : Array Oper} {rest : List Oper} {o : Oper} {a : Act} {Q : Exit → Act → World → Prop} (hgd : o.guard = none) (s x : Operand) (t : TypeId)
    (ho : o.op = .call { callee := .builtin .append, args := #[s, x], argTypes := #[t, t] })
    (e : TypeId) (i : TypeInfo) (ht : P.underlying t = some (.slice e)) (hi : P.info? e = some i)
    (A B : Option Addr) (n c c2 : Nat) (hs : a.eval s = .slice A n c) (hx : a.eval x = .slice B 0 c2) (hle : n ≤ c)
    (h : wpList P ops Q rest (a.put o.dst (.slice A n c)) w) : wpList P ops Q (o :: rest) a w := by
  refine wpList_plain hgd fun K hK => ?_
  have hrun := run_append_zero (P := P) t o.type e i ht hi A B n c c2 hle w
  unfold Oper.wp
  simp [execOp, ho, resolve, invoke, builtin, hs, hx, hrun, Result.andThen]
  exact hK _ _ h

set_option maxHeartbeats 4000000 in
set_option maxRecDepth 1000000 in
theorem grown_one (A0 : Option Addr) (n c : Nat) (l : List Int) (w : World) (hn : l.length = n) (h300 : n ≤ 300)
    (hcell : 0 < n → ∃ g, A0 = some ⟨g, 0, none⟩ ∧ g < w.heap.size ∧ ∀ j, j < n → w.cell? ⟨g, j, none⟩ = some (.int .i64 (l.getD j 0))) (hb : ∀ j, 0 ≤ l.getD j 0 ∧ l.getD j 0 ≤ 1048576) :
    Calls Try.prog 39 #[.slice A0 n c] w fun e w' => e = .returned (.slice (some ⟨w.heap.size, 0, none⟩) n n) ∧ RowKit.Below w.heap.size w w' ∧ ∃ xs, GrownOut l xs ∧ IntRow w' w.heap.size xs := by
  have hmk := fun w => run_make_row' (P := Try.prog) 22 3 (.int .i64 0) 8 Try.underlying22 Try.info3 rfl .i64 .i64 n (by omega) (by omega) w
  have hmf : ∀ (fn : Fn) (first cap : Array Value) (w : World), (Instr.makeFunc fn first cap).run Try.prog w = .ok (.func fn first cap) w := fun _ _ _ _ => rfl
  obtain ⟨i0, hi, hz0, hz1, hz2⟩ := info_parts Try.info112
  go_enter Try.func39, Try.ntmps39
  go_wp2_with fail
  obtain ⟨N, hN⟩ : ∃ N, w.heap.size = N := ⟨_, rfl⟩
  rw [hN] at hcell ⊢
  rw [show N + 1 + 1 = N + 2 from rfl]
  obtain ⟨W0, hW0⟩ : ∃ W0, (((w.alloc (Obj.cells (madeCells #[Value.int IntKind.i64 0] n) 3)).alloc (Obj.cells #[Value.slice none 0 0] 111)).alloc (Obj.cells #[Value.slice none 0 0] 111)) = W0 := ⟨_, rfl⟩
  rw [hW0]
  have S0 : St N W0 [] [] := by
    rw [← hW0, ← hN]
    refine ⟨⟨.slice none 0 0, .slice none 0 0, ?_, ?_, ?_, ?_, ?_⟩, by simp⟩
    · rw [Below.heap_alloc _ _ _ (by simp)]; simpa using heap_alloc_new (w.alloc (Obj.cells (madeCells #[Value.int IntKind.i64 0] n) 3)) (Obj.cells #[Value.slice none 0 0] 111)
    · simpa using heap_alloc_new ((w.alloc (Obj.cells (madeCells #[Value.int IntKind.i64 0] n) 3)).alloc (Obj.cells #[Value.slice none 0 0] 111)) (Obj.cells #[Value.slice none 0 0] 111)
    · exact q_of_own (own_nil _ _ _ _)
    · exact q_of_own (own_nil _ _ _ _)
    · intro k hk; simp [Value.ownBlock] at hk
  have B0 : Below N w W0 := by
    rw [← hW0, ← hN]
    exact ((((Below.refl _ _).alloc (Nat.le_refl _) _).alloc (by rw [World.size_alloc]; omega) _).alloc (by rw [World.size_alloc, World.size_alloc]; omega) _)
  have R0 : IntRow W0 N (List.replicate n 0) := by
    rw [← hW0, ← hN, IntRow, Below.heap_alloc _ _ _ (by simp; omega), Below.heap_alloc _ _ _ (by simp), heap_alloc_new, madeRow]
  have Z0 : Hid (W0.heap.size = N + 3) := by show _ = _; rw [← hW0, ← hN]; simp
  have S0 : Hid (St N W0 [] []) := S0
  have R0 : Hid (IntRow W0 N (List.replicate n 0)) := R0
  have HH : Hid (0 < n → ∃ g, A0 = some ⟨g, 0, none⟩ ∧ g < N ∧ ∀ j, j < n → w.cell? ⟨g, j, none⟩ = some (.int .i64 (l.getD j 0))) := hcell
  have HB : Hid (∀ j, 0 ≤ l.getD j 0 ∧ l.getD j 0 ≤ 1048576) := hb
  have HL : Hid (l.length = n) := hn
  have HN : Hid (w.heap.size = N) := hN
  have HB0 : Hid (Below N w W0) := B0
  clear hcell hb hn hW0 hN hmk
  go_loopg [18] n (fun kx s18 wr => ∃ (k : Nat) (L : List BT), s18 = .int .i64 k ∧ k ≤ n ∧ n - k ≤ kx ∧ Hid (L.map Prod.snd = leafs (l.take k)) ∧ Hid (St N wr L []) ∧ Hid (Moves N W0 wr))
  case atStart => exact ⟨0, [], rfl, by omega, by omega, rfl, S0, Moves.refl _ _⟩
  case round =>
    obtain ⟨k, L, rfl, hkn, hkx, HLf, HS, HM⟩ := hrel
    by_cases hlt : k < n
    · have hltz : (k : Int) < (n : Int) := by omega
      obtain ⟨g, rfl, hg, hcell⟩ := HH.out (by omega)
      obtain ⟨x, hx⟩ : ∃ x, x = l.getD k 0 := ⟨_, rfl⟩
      have hcx : wr.cell? ⟨g, k, none⟩ = some (.int .i64 x) := by
        rw [HM.out.below.cell (p := ⟨g, k, none⟩) (by show g < N + 1; omega), B0.cell (p := ⟨g, k, none⟩) hg, hx]
        exact hcell k hlt
      clear hcell
      have hx0 : 0 ≤ x := by rw [hx]; exact (HB.out k).1
      have hx1 : x ≤ 1048576 := by rw [hx]; exact (HB.out k).2
      have htk : Hid (l.take (k + 1) = l.take k ++ [x]) := by
        show _ = _
        have hkl : k < l.length := by rw [HL.out]; exact hlt
        rw [List.take_succ_eq_append_getElem hkl, hx, List.getD_eq_getElem?_getD, List.getElem?_eq_getElem hkl]; rfl
      have hlk : Hid ((l.take k).length = k) := by show _ = _; rw [List.length_take, HL.out]; omega
      clear hx
      by_cases hpos : 0 < x
      · obtain ⟨vL, vP, h1, h2, h3, h4, h5⟩ := HS.out.ex
        obtain ⟨A, c', rfl, hAc⟩ := q_slice h3
        have hc1 : wr.cell? ⟨N + 1, 0, none⟩ = some (.slice A L.length c') := by rw [cell_block h1]; rfl
        have hf1 : wr.frozen? ⟨N + 1, 0, none⟩ = false := frozen_block h1 0
        have Q3 : Hid (QRow wr (N + 3) 112 1 (.slice A L.length c') L.length (ptrs L)) := h3
        have H1 : Hid (wr.heap[N + 1]? = some (.cells #[.slice A L.length c'] 111 (0, 0))) := h1
        clear h1 h2 h3 h4 h5
        obtain ⟨H, hH⟩ : ∃ H, wr.heap.size = H := ⟨_, rfl⟩
        have W1g : wr.grownBy ((wr.alloc (.cells #[.int .i64 x, .int .i64 k, .pointer none, .pointer none] 114)).alloc (.cells #[.pointer (some ⟨H, 0, none⟩)] 112)) none :=
          World.grownBy.trans (World.grownBy_alloc _ _ _) (World.grownBy_alloc _ _ _)
        have QA : Hid (QRow ((wr.alloc (.cells #[.int .i64 x, .int .i64 k, .pointer none, .pointer none] 114)).alloc (.cells #[.pointer (some ⟨H, 0, none⟩)] 112)) (N + 3) 112 1 (.slice A L.length c') L.length (ptrs L)) :=
          q_move Q3.out (fun k hk => W1g.block k (q_lt Q3.out k hk) (by simp))
        have LT : Hid ((Tr.leaf x k).Lies ((wr.alloc (.cells #[.int .i64 x, .int .i64 k, .pointer none, .pointer none] 114)).alloc (.cells #[.pointer (some ⟨H, 0, none⟩)] 112)) H) := by
          show (_ : World).heap[H]? = _
          rw [Below.heap_alloc _ _ _ (by simp; omega), ← hH, heap_alloc_new]
        have G1 : Hid _ := W1g
        clear W1g
        have hln : L.length ≤ 300 := by
          have e1 := congrArg List.length HLf.out
          rw [List.length_map] at e1
          have := leafs_le (l.take k)
          rw [hlk.out] at this
          omega
        have hNs : N + 3 ≤ H := by have := HM.out.below.size; have := Z0.out; omega
        go_wp2_with (at_builtin; refine wpList_append_q _ rfl (.tmp 25) (.tmp 30) 111 rfl (N + 3) 112 i0 (.pointer none) 1 8 Try.underlying111 hi hz0 hz1 hz2 rfl (by decide) (.slice A L.length c') L.length (ptrs L) rfl QA.out ⟨H + 1, 0, none⟩ 1 1 [.pointer (some ⟨H, 0, none⟩)] rfl rfl ?q2 ?q3 (by decide) ?q4 ?q5 ?q6 ?_)
        case q2 => exact news_one _ _ _ _ (by simp [hH])
        case q3 => intro u hu; simp at hu; subst hu; rfl
        case q4 => unfold maxLen; omega
        case q5 => omega
        case q6 => simp; omega
        intro A2 c2 w2 hq2 hg2 hat2
        obtain ⟨R, hb1⟩ := HS.out.pushLeaf H1.out G1.out LT.out hq2 hg2 (H1 := H + 1 + 1) (by simp [hH]) hat2
        have R : Hid _ := R
        have hc2 : w2.cell? ⟨N + 1, 0, none⟩ = some (.slice A L.length c') := by rw [cell_block hb1]; rfl
        have hf2 : w2.frozen? ⟨N + 1, 0, none⟩ = false := frozen_block hb1 0
        clear hb1 hq2 hg2 hat2 hc1 hf1 hcx
        go_wp2_with fail
        go_roundg (n - (k + 1))
        case measure => omega
        case rel =>
          refine ⟨k + 1, L ++ [(H, .leaf x k)], by go_num, by omega, by omega, ?_, hid R.out.1, HM.out.trans R.out.2⟩
          show _ = _
          rw [htk.out, leafs_snoc, if_pos hpos, hlk.out, List.map_append, HLf.out]
          rfl
      · have hnp : ¬ x > 0 := hpos
        go_wp2_with fail
        go_roundg (n - (k + 1))
        case measure => omega
        case rel =>
          refine ⟨k + 1, L, by go_num, by omega, by omega, ?_, HS, HM⟩
          show _ = _
          rw [htk.out, leafs_snoc, if_neg (by omega), List.append_nil, HLf.out]
    · have hltz : ¬ (k : Int) < (n : Int) := by omega
      have hkn' : k = n := by omega
      have HL2 : Hid (L.map Prod.snd = leafs l) := by
        show _ = _
        rw [HLf.out, hkn', ← HL.out, List.take_length]
      clear HLf hkn hkx hkn'
      have srt : ∃ v, wr.cell? ⟨N + 1, 0, none⟩ = some v ∧ Calls Try.prog 62 #[v, .func (.func 63) #[] #[]] wr fun e w' => e = .returned (.tuple #[]) ∧ St N w' (sortAll L) [] ∧ Moves N wr w' := by
        cases L with
        | nil =>
          obtain ⟨vL, vP, h1, h2, h3, h4, h5⟩ := HS.out.ex
          obtain ⟨A, c', rfl⟩ := q_zero h3
          refine ⟨_, by rw [cell_block h1]; rfl, (sortStable_none _ _ _ _).mono ?_⟩
          rintro e w' ⟨rfl, rfl⟩
          exact ⟨rfl, HS.out, Moves.refl _ _⟩
        | cons x L =>
          obtain ⟨g', off', c', a1, a2⟩ := sort_St N wr x L HS.out (fun y hy => by
            have := leafs_ok HL.out HB.out y.2 (by rw [← HL2.out]; exact List.mem_map_of_mem hy)
            exact ⟨this.1, by show y.2.wt ≤ _; omega⟩) (by
            have e1 := congrArg List.length HL2.out
            rw [List.length_map] at e1
            have := leafs_le l
            rw [HL.out] at this
            simp at e1
            omega)
          exact ⟨_, a1, a2⟩
      obtain ⟨v, hv, hcall⟩ := srt
      have HCALL : Hid _ := hcall
      clear hcall
      go_wp2_with fail
      refine Calls.mono HCALL.out ?_
      rintro e w1 ⟨rfl, hS1, hM1⟩
      have S1 : Hid (St N w1 (sortAll L) []) := hS1
      have M1 : Hid (Moves N W0 w1) := HM.out.trans hM1
      clear hS1 hM1 HCALL hv HS HM
      go_wp2_with fail
      go_loopg [36] n (fun kx s36 wr => ∃ (L1 P1 : List BT), L1.length + P1.length ≤ kx ∧ L1.length + P1.length ≤ n ∧ Hid (St N wr L1 P1) ∧ Hid (Moves N W0 wr) ∧ Hid (tot L1 + tot P1 ≤ 1099511627776 ∧ ∀ x, x ∈ L1 ++ P1 → Ok n (L1.length + P1.length) x) ∧
        Hid (build kx (L1.map Prod.snd) (P1.map Prod.snd) = build n ((sortAll L).map Prod.snd) []))
      case atStart =>
        have hlen : L.length ≤ n := by
          have e1 := congrArg List.length HL2.out
          rw [List.length_map] at e1
          have := leafs_le l
          rw [HL.out] at this
          omega
        have hok : ∀ x, x ∈ sortAll L → 0 ≤ wtB x ∧ wtB x ≤ 1048576 ∧ x.2.Below n ∧ x.2.height = 0 := fun x hx =>
          leafs_ok HL.out HB.out x.2 (by rw [← HL2.out]; exact List.mem_map_of_mem (mem_sortAll hx))
        refine ⟨sortAll L, [], by rw [length_sortAll]; simpa using hlen, by rw [length_sortAll]; simpa using hlen, S1, M1, hid ⟨?_, ?_⟩, hid rfl⟩
        · have h1 := tot_le 1048576 (sortAll L) (fun x hx => ⟨(hok x hx).1, (hok x hx).2.1⟩)
          rw [length_sortAll] at h1
          have h2 : tot [] = 0 := rfl
          rw [h2]
          have h3 : (L.length : Int) * 1048576 ≤ 300 * 1048576 := by omega
          omega
        · intro x hx
          rw [List.append_nil] at hx
          obtain ⟨a1, a2, a3, a4⟩ := hok x hx
          exact ⟨a1, a3, by rw [a4, length_sortAll]; simpa using hlen⟩
      case round =>
        obtain ⟨L1, P1, hk1, hk2, HS, HM, HT, HBd⟩ := hrel
        obtain ⟨vL, vP, h1, h2, h3, h4, h5⟩ := HS.out.ex
        obtain ⟨A, c1, rfl, hAc⟩ := q_slice h3
        obtain ⟨A', c2, rfl, hAc'⟩ := q_slice h4
        have hc1 : wr.cell? ⟨N + 1, 0, none⟩ = some (.slice A L1.length c1) := by rw [cell_block h1]; rfl
        have hc2 : wr.cell? ⟨N + 2, 0, none⟩ = some (.slice A' P1.length c2) := by rw [cell_block h2]; rfl
        clear h1 h2 h3 h4 h5 hAc hAc'
        by_cases htwo : 1 < L1.length + P1.length
        · have htz : (L1.length : Int) + (P1.length : Int) > 1 := by omega
          obtain ⟨x, L2, P2, hp1, hl1, ht1, hx1, hm1⟩ := pop_some (L := L1) (P := P1) (by omega)
          obtain ⟨y, L3, P3, hp2, hl2, ht2, hx2, hm2⟩ := pop_some (L := L2) (P := P2) (by omega)
          obtain ⟨kk, rfl⟩ : ∃ q, gk = q + 1 := ⟨gk - 1, by omega⟩
          have HBn : Hid (build (kk + 1) (L1.map Prod.snd) (P1.map Prod.snd) = build kk (L3.map Prod.snd) ((P3 ++ [((0 : Nat), Tr.node (wtB x + wtB y) x.2 y.2)]).map Prod.snd)) := by
            show _ = _
            rw [build, pop_map hp1]
            dsimp only
            rw [pop_map hp2]
            dsimp only
            rw [List.map_append]
            rfl
          have HP1 : Hid (pop wtB L1 P1 = some (x, L2, P2)) := hp1
          have HP2 : Hid (pop wtB L2 P2 = some (y, L3, P3)) := hp2
          have HTT : Hid (tot L3 + (tot P3 + (wtB x + wtB y)) ≤ 1099511627776 ∧ (∀ z, z ∈ L3 ++ P3 → Ok n (L1.length + P1.length) z) ∧ Ok n (L1.length + P1.length) x ∧ Ok n (L1.length + P1.length) y ∧ wtB x + wtB y ≤ 1099511627776) := by
            obtain ⟨a2, a3⟩ := HT.out
            have ox := a3 x hx1
            have oy := a3 y (hm1 y hx2)
            have oz : ∀ z, z ∈ L3 ++ P3 → Ok n (L1.length + P1.length) z := fun z hz => a3 z (hm1 z (hm2 z hz))
            have t1 := tot_nonneg L3 (fun z hz => (oz z (by simp [hz])).1)
            have t2 := tot_nonneg P3 (fun z hz => (oz z (by simp [hz])).1)
            exact hid ⟨by omega, oz, ox, oy, by omega⟩
          have HX : Hid (x.2.Lies wr x.1 ∧ y.2.Lies wr y.1) := ⟨HS.out.lies x hx1, HS.out.lies y (hm1 y hx2)⟩
          clear hp1 hp2 ht1 ht2 hx1 hx2 hm1 hm2
          go_wp2_with fail
          refine (light_calls N wr L1 P1 L2 P2 x HS.out HP1.out).mono ?_
          rintro e w2 ⟨rfl, hS2, hM2⟩
          have S2 : Hid (St N w2 L2 P2) := hS2
          have M2 : Hid (Moves N wr w2) := hM2
          clear hS2 hM2 hc1 hc2
          go_wp2_with fail
          refine (light_calls N w2 L2 P2 L3 P3 y S2.out HP2.out).mono ?_
          rintro e w3 ⟨rfl, hS3, hM3⟩
          have S3 : Hid (St N w3 L3 P3) := hS3
          have M3 : Hid (Moves N wr w3) := M2.out.trans hM3
          clear hS3 hM3 S2 M2 HS
          obtain ⟨vL3, vP3, g1, g2, g3, g4, g5⟩ := S3.out.ex
          obtain ⟨A3, c3, rfl, hAc3⟩ := q_slice g4
          have hcp : w3.cell? ⟨N + 2, 0, none⟩ = some (.slice A3 P3.length c3) := by rw [cell_block g2]; rfl
          have hfp : w3.frozen? ⟨N + 2, 0, none⟩ = false := frozen_block g2 0
          have Q3 : Hid (QRow w3 (N + 3) 112 1 (.slice A3 P3.length c3) P3.length (ptrs P3)) := g4
          have G2 : Hid (w3.heap[N + 2]? = some (.cells #[.slice A3 P3.length c3] 111 (0, 0))) := g2
          have lx := HX.out.1.keeps M3.out.keeps
          have ly := HX.out.2.keeps M3.out.keeps
          have hwx : w3.cell? ⟨x.1, 0, none⟩ = some (.int .i64 (wtB x)) := lx.weight
          have hwy : w3.cell? ⟨y.1, 0, none⟩ = some (.int .i64 (wtB y)) := ly.weight
          have HLX : Hid (x.2.Lies w3 x.1 ∧ y.2.Lies w3 y.1) := ⟨lx, ly⟩
          obtain ⟨wx, hwx'⟩ : ∃ q, q = wtB x := ⟨_, rfl⟩
          obtain ⟨wy, hwy'⟩ : ∃ q, q = wtB y := ⟨_, rfl⟩
          have bx0 : 0 ≤ wx := by rw [hwx']; exact HTT.out.2.2.1.1
          have by0 : 0 ≤ wy := by rw [hwy']; exact HTT.out.2.2.2.1.1
          have bxy : wx + wy ≤ 1099511627776 := by rw [hwx', hwy']; exact HTT.out.2.2.2.2
          rw [← hwx'] at hwx
          rw [← hwy'] at hwy
          have HWX : Hid (wx = wtB x) := hwx'
          have HWY : Hid (wy = wtB y) := hwy'
          obtain ⟨px, hpx⟩ : ∃ q, q = x.1 := ⟨_, rfl⟩
          obtain ⟨py, hpy⟩ : ∃ q, q = y.1 := ⟨_, rfl⟩
          rw [← hpx] at hwx ⊢
          rw [← hpy] at hwy ⊢
          have HPX : Hid (px = x.1) := hpx
          have HPY : Hid (py = y.1) := hpy
          have hsum : IntKind.i64.wrap (wx + wy) = wx + wy := by rw [IntKind.wrap_i64]; omega
          clear g1 g2 g3 g4 g5 hAc3 lx ly hwx' hwy' hpx hpy
          obtain ⟨H3, hH3⟩ : ∃ q, w3.heap.size = q := ⟨_, rfl⟩
          have G1 : Hid (w3.grownBy ((w3.alloc (.cells #[.int .i64 (wx + wy), .int .i64 0, .pointer (some ⟨px, 0, none⟩), .pointer (some ⟨py, 0, none⟩)] 114)).alloc (.cells #[.pointer (some ⟨H3, 0, none⟩)] 112)).drew none) :=
            hid (World.grownBy.trans (World.grownBy.trans (World.grownBy_alloc _ _ _) (World.grownBy_alloc _ _ _)) (grownBy_drew _ _))
          have QA : Hid (QRow ((w3.alloc (.cells #[.int .i64 (wx + wy), .int .i64 0, .pointer (some ⟨px, 0, none⟩), .pointer (some ⟨py, 0, none⟩)] 114)).alloc (.cells #[.pointer (some ⟨H3, 0, none⟩)] 112)).drew (N + 3) 112 1 (.slice A3 P3.length c3) P3.length (ptrs P3)) :=
            hid (q_move Q3.out (fun k hk => G1.out.block k (q_lt Q3.out k hk) (by simp)))
          have LT : Hid ((Tr.node (wtB x + wtB y) x.2 y.2).Lies ((w3.alloc (.cells #[.int .i64 (wx + wy), .int .i64 0, .pointer (some ⟨px, 0, none⟩), .pointer (some ⟨py, 0, none⟩)] 114)).alloc (.cells #[.pointer (some ⟨H3, 0, none⟩)] 112)).drew H3) := by
            have hk := Keeps.ext G1.out
            refine ⟨x.1, y.1, ?_, HLX.out.1.keeps hk, HLX.out.2.keeps hk⟩
            rw [← HWX.out, ← HWY.out, ← HPX.out, ← HPY.out]
            show ((_ : World).alloc _).heap[H3]? = _
            rw [Below.heap_alloc _ _ _ (by simp; omega), ← hH3, heap_alloc_new]
          have hNs : N + 3 ≤ H3 := by
            have e1 := M3.out.below.size
            have e2 := HM.out.below.size
            have e3 := Z0.out
            omega
          have q2 : Hid (∀ j u, [Value.pointer (some ⟨H3, 0, none⟩)][j]? = some u → ((w3.alloc (.cells #[.int .i64 (wx + wy), .int .i64 0, .pointer (some ⟨px, 0, none⟩), .pointer (some ⟨py, 0, none⟩)] 114)).alloc (.cells #[.pointer (some ⟨H3, 0, none⟩)] 112)).drew.cell? ((⟨H3 + 1, 0, none⟩ : Addr).add j) = some u) :=
            hid (news_one (w3.alloc _) _ _ _ (by simp [hH3]))
          have q3 : Hid (∀ u ∈ [Value.pointer (some ⟨H3, 0, none⟩)], u.oneCell' = true) := hid (by intro u hu; simp at hu; subst hu; rfl)
          have q4 : Hid (P3.length + 1 ≤ maxLen) := hid (by unfold maxLen; omega)
          have q5 : Hid ((P3.length + 1) * 8 ≤ 140737488355328) := hid (by omega)
          have q6 : Hid (N + 3 ≤ ((w3.alloc (.cells #[.int .i64 (wx + wy), .int .i64 0, .pointer (some ⟨px, 0, none⟩), .pointer (some ⟨py, 0, none⟩)] 114)).alloc (.cells #[.pointer (some ⟨H3, 0, none⟩)] 112)).drew.heap.size) := hid (by simp; omega)
          have NEWT : Hid (∀ b : Nat, Hid (tot L3 + tot (P3 ++ [(b, Tr.node (wtB x + wtB y) x.2 y.2)]) ≤ 1099511627776 ∧ ∀ z, z ∈ L3 ++ (P3 ++ [(b, Tr.node (wtB x + wtB y) x.2 y.2)]) → Ok n (L3.length + (P3 ++ [(b, Tr.node (wtB x + wtB y) x.2 y.2)]).length) z)) := by
            intro b
            obtain ⟨a1, a2, a3, a4, a5⟩ := HTT.out
            have e1 : tot (P3 ++ [(b, Tr.node (wtB x + wtB y) x.2 y.2)]) = tot P3 + (wtB x + wtB y) := by simp [tot, wtB, Tr.wt]
            have e2 : L3.length + (P3 ++ [(b, Tr.node (wtB x + wtB y) x.2 y.2)]).length + 1 = L1.length + P1.length := by simp; omega
            refine hid ⟨by rw [e1]; exact a1, fun z hz => ?_⟩
            rw [← List.append_assoc] at hz
            rcases List.mem_append.1 hz with hz | hz
            · obtain ⟨b1, b2, b3⟩ := a2 z hz
              exact ⟨b1, b2, by omega⟩
            · simp only [List.mem_singleton] at hz
              subst hz
              obtain ⟨b1, b2, b3⟩ := a3
              obtain ⟨c1, c2, c3⟩ := a4
              refine ⟨by show 0 ≤ wtB x + wtB y; omega, ⟨b2, c2⟩, ?_⟩
              show max x.2.height y.2.height + 1 + _ ≤ n
              have : max x.2.height y.2.height + (L1.length + P1.length) ≤ n := by
                rcases Nat.le_total x.2.height y.2.height with h | h
                · rw [Nat.max_eq_right h]; exact c3
                · rw [Nat.max_eq_left h]; exact b3
              omega
          have hA1 : (w3.alloc (.cells #[.int .i64 (wx + wy), .int .i64 0, .pointer (some ⟨px, 0, none⟩), .pointer (some ⟨py, 0, none⟩)] 114)).cell? ⟨N + 2, 0, none⟩ = some (.slice A3 P3.length c3) := by
            rw [World.cell?_alloc_lt _ _ _ (by show N + 2 < _; omega)]; exact hcp
          have hA2 : ((w3.alloc (.cells #[.int .i64 (wx + wy), .int .i64 0, .pointer (some ⟨px, 0, none⟩), .pointer (some ⟨py, 0, none⟩)] 114)).alloc (.cells #[.pointer (some ⟨H3, 0, none⟩)] 112)).cell? ⟨N + 2, 0, none⟩ = some (.slice A3 P3.length c3) := by
            rw [World.cell?_alloc_lt _ _ _ (by show N + 2 < _; simp; omega)]; exact hA1
          go_wp2_with fail
          go_region_law (refine step_append_q _ rfl (.tmp 46) (.tmp 60) 111 rfl (N + 3) 112 i0 (.pointer none) 1 8 Try.underlying111 hi hz0 hz1 hz2 rfl (by decide) (.slice A3 P3.length c3) P3.length (ptrs P3) (by simp [Act.eval, Act.put]) QA.out ⟨H3 + 1, 0, none⟩ 1 1 [.pointer (some ⟨H3, 0, none⟩)] (by simp [Act.eval, Act.put]) rfl q2.out q3.out (by decide) q4.out q5.out q6.out ?_; intro A4 c4 w4 hq4 hg4 hat4; obtain ⟨R, hb4⟩ := S3.out.pushPair G2.out G1.out LT.out hq4 hg4 (H1 := H3 + 1 + 1) (by simp [hH3]) (by simpa [hH3] using hat4); have RR : Hid _ := hid R; have hc4 : w4.cell? ⟨N + 2, 0, none⟩ = some (.slice A3 P3.length c3) := (by rw [cell_block hb4]; rfl); have hf4 : w4.frozen? ⟨N + 2, 0, none⟩ = false := frozen_block hb4 0; clear hb4 hq4 hg4 hat4 R)
          all_goals
            go_wp2_with fail
            go_roundg kk
            case measure => omega
            case rel =>
              refine ⟨L3, P3 ++ [(H3, Tr.node (wtB x + wtB y) x.2 y.2)], by simp; omega, by simp; omega, hid RR.out.1, hid (HM.out.trans (M3.out.trans RR.out.2)), NEWT.out H3, ?_⟩
              have h := HBd.out
              rw [HBn.out] at h
              rw [← h, List.map_append, List.map_append]
              exact hid rfl
        · have htz : ¬ (L1.length : Int) + (P1.length : Int) > 1 := by omega
          have hfin : Hid (build n ((sortAll L).map Prod.snd) [] = (L1.map Prod.snd, P1.map Prod.snd)) := by
            show _ = _
            rw [← HBd.out]
            exact build_stop (by simp; omega)
          clear HBd
          have hrow : Hid (IntRow wr N (List.replicate n 0)) := hid ((HM.out.below.block N (by omega)).trans R0.out)
          have hBw : Hid (Below N w wr) := hid (HB0.out.trans (HM.out.below.mono (by omega)))
          have hgrown : Hid (∀ xs, xs = finish n (L1.map Prod.snd, P1.map Prod.snd) → GrownOut l xs) := hid (fun xs hxs => ⟨L, HL2.out, by rw [HL.out, hfin.out]; exact hxs⟩)
          cases P1 with
          | nil =>
            cases L1 with
            | nil =>
              go_wp2_with (at_builtin; refine wpList_append_zero rfl (.tmp 62) (.tmp 63) 111 rfl 112 i0 Try.underlying111 hi A A' 0 c1 c2 rfl rfl (Nat.zero_le _) ?_)
              refine wp_loop_rounds 1 ?_
              rw [rounds_succ]
              go_wp2_with fail
              go_ret
              refine ⟨by rw [HN.out]; rfl, by rw [HN.out]; exact hBw.out, _, hgrown.out _ rfl, ?_⟩
              rw [HN.out]
              exact hrow.out
            | cons x L1 =>
              obtain rfl : L1 = [] := by
                cases L1 with
                | nil => rfl
                | cons z L1 => simp at htwo
              obtain ⟨g', off', c', vP', e1, _, _, _, _, hx, hcx, _⟩ := HS.out.popLeaf
              rw [hc1] at e1
              simp only [List.length_nil, Nat.zero_add, List.length_cons, Option.some.injEq, Value.slice.injEq, true_and] at e1
              obtain ⟨rfl, rfl⟩ := e1
              have hcx1 : 1 ≤ c1 := by simpa using hcx
              have hok := HT.out.2 x (by simp)
              have hd : Calls Try.prog 65 #[.pointer (some ⟨x.1, 0, none⟩), .slice (some ⟨N, 0, none⟩) n n, .int .i64 0] wr _ :=
                deepen_calls x.2 x.1 N n 0 (List.replicate n 0) wr (HS.out.lies x (by simp)) hrow.out (by simp) hok.2.1 (by have := hok.2.2; omega) (by omega)
              have HD : Hid _ := hid hd
              obtain ⟨px, hpx⟩ : ∃ q, q = x.1 := ⟨_, rfl⟩
              have HPX : Hid (px = x.1) := hid hpx
              rw [← hpx] at hx
              clear hd hpx hok hcx
              go_wp2_with (at_builtin; refine wpList_append_zero rfl (.tmp 62) (.tmp 63) 111 rfl 112 i0 Try.underlying111 hi (some ⟨g', off', none⟩) A' 1 c1 c2 rfl rfl (by omega) ?_)
              refine wp_loop_rounds 2 ?_
              rw [rounds_succ]
              go_wp2_with fail
              rw [HPX.out]
              refine Calls.mono HD.out ?_
              rintro e w5 ⟨rfl, hr5, hg5⟩
              have R5 : Hid _ := hid hr5
              have G5 : Hid _ := hid hg5
              clear hr5 hg5 HD
              go_wp2_with fail
              rw [rounds_succ]
              go_wp2_with fail
              go_ret
              refine ⟨by rw [HN.out]; rfl, by rw [HN.out]; exact hBw.out.grown G5.out (by have := hBw.out.size; rw [HN.out] at this; exact this) (by intro k hk; cases hk; exact Nat.le_refl _), _, hgrown.out _ rfl, ?_⟩
              rw [HN.out]
              exact R5.out
          | cons y P1 =>
            obtain rfl : P1 = [] := by
              cases P1 with
              | nil => rfl
              | cons z P1 => simp at htwo; omega
            obtain rfl : L1 = [] := by
              cases L1 with
              | nil => rfl
              | cons z L1 => simp at htwo
            obtain ⟨g', off', c', vL', e1, _, _, _, _, hx, hcx, _⟩ := HS.out.popPair
            rw [hc2] at e1
            simp only [List.length_nil, Nat.zero_add, List.length_cons, Option.some.injEq, Value.slice.injEq, true_and] at e1
            obtain ⟨rfl, rfl⟩ := e1
            obtain ⟨vL2, vP2, b1, b2, b3, b4, b5⟩ := HS.out.ex
            have e2 : vL2 = .slice A 0 c1 := by
              have := cell_block b1 0
              rw [hc1] at this
              simpa using this.symm
            subst e2
            have Q3 : Hid (QRow wr (N + 3) 112 1 (.slice A 0 c1) 0 (ptrs [])) := hid b3
            have hok := HT.out.2 y (by simp)
            obtain ⟨py, hpy⟩ : ∃ q, q = y.1 := ⟨_, rfl⟩
            have HPY : Hid (py = y.1) := hid hpy
            have q2 : Hid (∀ j u, [Value.pointer (some ⟨py, 0, none⟩)][j]? = some u → wr.cell? ((⟨g', off', none⟩ : Addr).add j) = some u) := hid (by
              intro j u hj
              match j, hj with
              | 0, hj =>
                simp only [List.getElem?_cons_zero, Option.some.injEq] at hj
                subst hj
                rw [hpy, show ((⟨g', off', none⟩ : Addr).add 0) = ⟨g', off', none⟩ by simp [Addr.add]]
                exact hx)
            have hNs : N + 3 ≤ wr.heap.size := by have := HM.out.below.size; have := Z0.out; omega
            have KP : Hid (∀ w2 : World, wr.grownBy w2 (Value.slice A 0 c1).ownBlock → Keeps wr w2 ∧ Below N w w2 ∧ IntRow w2 N (List.replicate n 0)) := hid (fun w2 hg => by
              refine ⟨Keeps.grown hg (fun k hk c fr hc => by obtain ⟨_, cells, a2⟩ := q_typed Q3.out k hk; rw [a2] at hc; simp at hc), ?_, ?_⟩
              · exact hBw.out.grown hg (by omega) (fun k hk => by have := (q_typed Q3.out k hk).1; omega)
              · exact (hg.block N (by omega) (fun e => by have := (q_typed Q3.out N e.symm).1; omega)).trans hrow.out)
            have LY : Hid (y.2.Lies wr y.1) := hid (HS.out.lies y (by simp))
            have HOK : Hid (Ok n 1 y) := hid (by simpa using hok)
            have q3 : Hid (∀ u ∈ [Value.pointer (some ⟨py, 0, none⟩)], u.oneCell' = true) := hid (by intro u hu; simp at hu; subst hu; rfl)
            have q4 : Hid (0 + 1 ≤ maxLen) := hid (by unfold maxLen; omega)
            clear hpy hok hcx b1 b2 b3 b4 b5 hx
            go_wp2_with (at_builtin; refine wpList_append_q _ rfl (.tmp 62) (.tmp 63) 111 rfl (N + 3) 112 i0 (.pointer none) 1 8 Try.underlying111 hi hz0 hz1 hz2 rfl (by decide) (.slice A 0 c1) 0 (ptrs []) rfl Q3.out ⟨g', off', none⟩ 1 c2 [.pointer (some ⟨py, 0, none⟩)] rfl rfl q2.out q3.out (by decide) q4.out (by decide) hNs ?_)
            intro A2 c4 w2 hq2 hg2 hat2
            obtain ⟨hk2, hb2, hr2⟩ := KP.out w2 hg2
            have hq3 : QRow w2 (N + 3) 112 1 (.slice A2 1 c4) [y].length (ptrs [y]) := by
              have := hq2
              rw [HPY.out] at this
              exact this
            obtain ⟨g2, off2, c5, e3, hx2, hc5, _, _, _, _⟩ := q_first hq3
            simp only [List.length_nil, Nat.zero_add, Value.slice.injEq, true_and] at e3
            obtain ⟨rfl, rfl⟩ := e3
            rw [← HPY.out] at hx2
            have hd : Calls Try.prog 65 #[.pointer (some ⟨y.1, 0, none⟩), .slice (some ⟨N, 0, none⟩) n n, .int .i64 0] w2 _ :=
              deepen_calls y.2 y.1 N n 0 (List.replicate n 0) w2 (LY.out.keeps hk2) hr2 (by simp) HOK.out.2.1 (by have := HOK.out.2.2; omega) (by omega)
            have HD : Hid _ := hid hd
            have B2 : Hid _ := hid hb2
            clear hd hk2 hb2 hr2 hq2 hg2 hat2 hq3 hc5 hc1 hc2
            go_wp2_with fail
            refine wp_loop_rounds 2 ?_
            rw [rounds_succ]
            go_wp2_with fail
            rw [HPY.out]
            refine Calls.mono HD.out ?_
            rintro e w5 ⟨rfl, hr5, hg5⟩
            have R5 : Hid _ := hid hr5
            have G5 : Hid _ := hid hg5
            clear hr5 hg5 HD
            go_wp2_with fail
            rw [rounds_succ]
            go_wp2_with fail
            go_ret
            refine ⟨by rw [HN.out]; rfl, by rw [HN.out]; exact B2.out.grown G5.out (by have := B2.out.size; rw [HN.out] at this; exact this) (by intro k hk; cases hk; exact Nat.le_refl _), _, hgrown.out _ rfl, ?_⟩
            rw [HN.out]
            exact R5.out

end Go.Proofs.Ythgijppajindpaa
