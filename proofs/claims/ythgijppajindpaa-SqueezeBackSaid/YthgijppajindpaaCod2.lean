/-
  prefix.Codes is walked; it and prefix.Kraft in the print's form of a contract.
-/
import Derived.Test.YthgijppajindpaaCods
import Derived.Test.YthgijppajindpaaRdrs
import Derived.Test.YthgijppajindpaaK7x0
set_option linter.unusedVariables false
set_option linter.unusedSimpArgs false
namespace Go.Proofs.Ythgijppajindpaa
open Go.RowKit Go.Proofs.YthgijppajindpaaW.PrintWords Go.Proofs.Ythgijppajindpaa.K7

/-- A symbol's piece, and the words behind it. -/
def codeStep (W : List Int) (k : Int) : S42 × List Int :=
  if 0 < k then (⟨(turnN (W.getD k.toNat 0).toNat k.toNat : Int), k⟩, W.set k.toNat ((W.getD k.toNat 0 + 1) % 4294967296)) else (⟨0, 0⟩, W)
def codesFrom : List Int → List Int → List S42
  | _, [] => []
  | W, k :: l => (codeStep W k).1 :: codesFrom (codeStep W k).2 l
/-- P7.3. -/
def Codes (l : List Int) : List S42 × Int := if isCode l then (codesFrom (wordsTo (cnts l) 16) l, 0) else ([], 70)

/-- A row of pieces. -/
def pcells (ps : List S42) : List Value := ps.flatMap fun p => [.int .u32 p.f0, .int .i64 p.f1]
theorem length_pcells : ∀ ps : List S42, (pcells ps).length = 2 * ps.length
  | [] => rfl
  | p :: ps => by
    have := length_pcells ps
    unfold pcells at *
    simp only [List.flatMap_cons, List.length_append, List.length_cons, List.length_nil]
    omega
def PRow (w : World) (g : Nat) (ps : List S42) : Prop := w.heap[g]? = some (.cells (pcells ps).toArray 42 (0, 0))

theorem pcells_get : ∀ (ps : List S42) (j : Nat) (hj : j < ps.length), (pcells ps)[2 * j]? = some (.int .u32 ps[j].f0) ∧ (pcells ps)[2 * j + 1]? = some (.int .i64 ps[j].f1)
  | p :: ps, 0, _ => ⟨rfl, rfl⟩
  | p :: ps, j + 1, hj => by
    have h := pcells_get ps j (by simpa using hj)
    have e : pcells (p :: ps) = .int .u32 p.f0 :: .int .i64 p.f1 :: pcells ps := rfl
    rw [e, show 2 * (j + 1) = 2 * j + 1 + 1 by omega]
    simp only [List.getElem?_cons_succ, List.getElem_cons_succ]
    exact h
theorem pcells_set : ∀ (ps : List S42) (j : Nat) (p : S42), ((pcells ps).set (2 * j) (.int .u32 p.f0)).set (2 * j + 1) (.int .i64 p.f1) = pcells (ps.set j p)
  | [], j, p => by simp [pcells]
  | q :: ps, 0, p => rfl
  | q :: ps, j + 1, p => by
    have h := pcells_set ps j p
    have e : ∀ (q : S42) (ps : List S42), pcells (q :: ps) = .int .u32 q.f0 :: .int .i64 q.f1 :: pcells ps := fun _ _ => rfl
    rw [List.set_cons_succ, e, e, ← h, show 2 * (j + 1) = 2 * j + 1 + 1 by omega]
    rfl

theorem PRow.set {w : World} {g : Nat} {ps : List S42} (h : PRow w g ps) (j : Nat) (p : S42) : PRow ((w.setCell ⟨g, 2 * j, none⟩ (.int .u32 p.f0)).setCell ⟨g, 2 * j + 1, none⟩ (.int .i64 p.f1)) g (ps.set j p) := by
  unfold PRow at *
  unfold World.setCell
  simp only []
  rw [Array.getElem?_modify, if_pos rfl, Array.getElem?_modify, if_pos rfl, h]
  simp only [Option.map_some, Option.isSome_none, Bool.false_eq_true, if_false]
  rw [← pcells_set]
  simp

theorem reps_pcells (w : World) (base : Nat) (ok : Nat → Prop) (ps : List S42) : Reps (k42.M w base ok) 2 ps (pcells ps) := by
  refine ⟨by rw [length_pcells]; omega, fun j p hj => ?_⟩
  obtain ⟨hl, rfl⟩ := List.getElem?_eq_some_iff.1 hj
  obtain ⟨h1, h2⟩ := pcells_get ps j hl
  have e : ((pcells ps).drop (j * 2)).take 2 = [.int .u32 ps[j].f0, .int .i64 ps[j].f1] := by
    apply List.ext_getElem?
    intro i
    rw [List.getElem?_take]
    match i with
    | 0 => rw [if_pos (by omega), List.getElem?_drop, show j * 2 + 0 = 2 * j by omega, h1]; rfl
    | 1 => rw [if_pos (by omega), List.getElem?_drop, show j * 2 + 1 = 2 * j + 1 by omega, h2]; rfl
    | i + 2 => rw [if_neg (by omega)]; simp
  rw [e]
  exact k42_mkM w base ok _

theorem prow_R {w : World} {g base : Nat} {ps : List S42} (h : PRow w g ps) (hg : base ≤ g) (hx : ps.length ≤ 1000) : Kd.R k42 42 w base (fun _ => True) (.slice (some ⟨g, 0, none⟩) ps.length ps.length) ps := by
  refine ⟨fun _ _ => trivial, pcells ps, ⟨by rw [length_pcells]; show _ = _ * 2; omega, .inr ⟨g, ps.length, _, rfl, hg, h, Nat.le_refl _, by unfold maxLen; omega, ?_, ?_⟩⟩, reps_pcells _ _ _ _⟩
  · rw [List.size_toArray, length_pcells]; show _ = _ * 2; omega
  · show List.take (_ * 2) _ = _
    exact List.take_of_length_le (by show (pcells ps).length ≤ _; rw [length_pcells]; omega)

theorem wordsTo_eU_bound (xs : List Int) (j : Nat) : 0 ≤ (wordsTo xs 16).getD j 0 ∧ (wordsTo xs 16).getD j 0 < 4294967296 := by
  by_cases hj : j < 17
  · rw [wordsTo_getD _ _ _ hj]
    split
    · exact wordAt_bound xs j
    · omega
  · rw [List.getD_eq_getElem?_getD, List.getElem?_eq_none (by rw [length_wordsTo]; omega)]
    simp

theorem below_row {B g : Nat} {w0 w : World} (hb : Below B w0 w) (h : B ≤ g) (cs : Array Value) : Below B w0 (w.setRow g cs) :=
  ⟨hb.os, hb.tape, hb.output, by rw [size_setRow]; exact hb.size, fun k hk => (setRow_other w g k cs (by omega)).trans (hb.block k hk)⟩

theorem heap_put {w : World} {g : Nat} {c : Array Value} {T : TypeId} (h : w.heap[g]? = some (.cells c T (0, 0))) (j : Nat) (v : Value) : (w.setCell ⟨g, j, none⟩ v).heap[g]? = some (.cells (c.setIfInBounds j v) T (0, 0)) := by
  unfold World.setCell
  simp only []
  rw [Array.getElem?_modify, if_pos rfl, h]
  rfl

theorem set_mid (ps : List S42) (k : Nat) (z p : S42) : (ps ++ List.replicate (k + 1) z).set ps.length p = (ps ++ [p]) ++ List.replicate k z := by
  rw [List.set_append_right _ _ (Nat.le_refl _), Nat.sub_self, List.replicate_succ, List.set_cons_zero, List.append_assoc]
  rfl

theorem made_pcells (n : Nat) : madeCells #[Value.int .u32 0, Value.int .i64 0] (n * 2) = (pcells (List.replicate n ⟨0, 0⟩)).toArray := by
  apply Array.ext_getElem?
  intro j
  have hR : (pcells (List.replicate n (⟨0, 0⟩ : S42))).toArray[j]? = (pcells (List.replicate n (⟨0, 0⟩ : S42)))[j]? := by simp
  rw [hR]
  by_cases hj : j < n * 2
  · obtain ⟨q, hq⟩ : ∃ q, j = 2 * q ∨ j = 2 * q + 1 := ⟨j / 2, by omega⟩
    have hg := pcells_get (List.replicate n (⟨0, 0⟩ : S42)) q (by rw [List.length_replicate]; omega)
    rw [List.getElem_replicate] at hg
    have hm : (madeCells #[Value.int .u32 0, Value.int .i64 0] (n * 2))[j]? = some (#[Value.int .u32 0, Value.int .i64 0][j % 2]!) := by
      unfold madeCells
      rw [Array.getElem?_map, Array.getElem?_range, if_pos hj]
      rfl
    rw [hm]
    rcases hq with rfl | rfl
    · rw [hg.1, show 2 * q % 2 = 0 by omega]; rfl
    · rw [hg.2, show (2 * q + 1) % 2 = 1 by omega]; rfl
  · rw [Array.getElem?_eq_none (by rw [size_madeCells]; omega), List.getElem?_eq_none (by rw [length_pcells, List.length_replicate]; omega)]

theorem make_pieces (n : Nat) (hn : n ≤ 1000) (w : World) :
    (Instr.makeSlice 32 (.int .i64 (n : Int)) (.int .i64 (n : Int))).run Try.prog w = .ok (.slice (some ⟨w.heap.size, 0, none⟩) n n) (w.alloc (.cells (pcells (List.replicate n ⟨0, 0⟩)).toArray 42)) := by
  have hi42 : (Try.prog.info? 42).map (fun i => (i.zero, i.size, i.bytes)) = some (some (.agg #[.int .u32 0, .int .i64 0]), 2, 16) := by kernel_rfl
  obtain ⟨i, hi, hz, hs, hb⟩ := info_parts hi42
  have hr := run_make (P := Try.prog) w 32 42 i (.agg #[.int .u32 0, .int .i64 0]) Try.underlying32 hi hz .i64 .i64 n n (by omega) (Int.le_refl _) (by rw [hb]; omega) (by omega)
  simp only [Int.toNat_natCast, hs, Value.cells] at hr
  rw [hr, made_pcells]

set_option maxHeartbeats 4000000 in
set_option maxRecDepth 1000000 in
theorem codes_calls (A : Option Addr) (n c : Nat) (l : List Int) (w : World) (hn : n ≤ 1000) (hR : Rd w A n l) :
    Calls Try.prog 20 #[.slice A n c] w fun e w' => ∃ v, e = .returned (.tuple #[v, .int .i64 (Codes l).2]) ∧ Kd.R k42 42 w' w.heap.size (fun _ => True) v (Codes l).1 ∧ Below w.heap.size w w' := by
  have HRD : Hid (Rd w A n l) := hR
  obtain ⟨hl, hc⟩ := hR
  have HC : Hid _ := hc
  have HL : Hid (l.length = n) := hl
  clear hl hc
  have u77 := Try.underlying77
  have a77 := Try.isAgg77
  have z77 := Try.sizeOf77
  have u80 := Try.underlying80
  have a80 := Try.isAgg80
  have z80 := Try.sizeOf80
  have hcn : Hid _ := counts_calls A n c l w hn HRD.out
  go_enter Try.func20, Try.ntmps20
  go_wp2_with fail
  refine Calls.mono hcn.out ?_
  rintro e w1 ⟨xs, rfl, hxl, hxe, hb1⟩
  obtain ⟨G, hG⟩ : ∃ G, w1.heap.size = G := ⟨_, rfl⟩
  have Z0 : Hid ((w1.alloc (.cells #[Value.int IntKind.i64 0, Value.int IntKind.i64 0, Value.int IntKind.i64 0, Value.int IntKind.i64 0, Value.int IntKind.i64 0, Value.int IntKind.i64 0, Value.int IntKind.i64 0, Value.int IntKind.i64 0, Value.int IntKind.i64 0, Value.int IntKind.i64 0, Value.int IntKind.i64 0, Value.int IntKind.i64 0, Value.int IntKind.i64 0, Value.int IntKind.i64 0, Value.int IntKind.i64 0, Value.int IntKind.i64 0] 77)).heap[G]? = some (.cells #[Value.int IntKind.i64 0, Value.int IntKind.i64 0, Value.int IntKind.i64 0, Value.int IntKind.i64 0, Value.int IntKind.i64 0, Value.int IntKind.i64 0, Value.int IntKind.i64 0, Value.int IntKind.i64 0, Value.int IntKind.i64 0, Value.int IntKind.i64 0, Value.int IntKind.i64 0, Value.int IntKind.i64 0, Value.int IntKind.i64 0, Value.int IntKind.i64 0, Value.int IntKind.i64 0, Value.int IntKind.i64 0] 77 (0, 0))) := by
    show _ = _
    rw [← hG]
    exact heap_alloc_new _ _
  have HGN : Hid (w.heap.size ≤ G) := by show _ ≤ _; rw [← hG]; exact hb1.size
  have HG : Hid (w1.heap.size = G) := hG
  have XL : Hid (xs.length = 16) := hxl
  have XE : Hid (isCode l = true → xs = cnts l) := hxe
  have B1 : Hid (Below w.heap.size w w1) := hb1
  clear hxl hxe hb1 hcn
  cases hcode : isCode l with
  | false =>
    have HCODE : Hid (isCode l = false) := hcode
    clear hcode
    go_wp2_with ((with_reducible refine gate_store (t := 77) (p := 4) rfl ?_); refine wpList_store_row rfl 77 (.tmp 4) (.tmp 13) rfl G _ rfl rfl 77 _ Z0.out (size77 XL.out) (by simp [XL.out]) (one_all _ _) ?_)
    go_ret2
    refine ⟨.slice none 0 0, by rw [Codes, HCODE.out]; rfl, by rw [Codes, HCODE.out]; exact Kd.R_nil _ _ _ _ _, ?_⟩
    exact below_row (B1.out.alloc (by rw [HG.out]; exact HGN.out) _) HGN.out _
  | true =>
    have HCODE : Hid (isCode l = true) := hcode
    clear hcode
    have hxs := XE.out HCODE.out
    subst hxs
    obtain ⟨W2, hW2⟩ : ∃ W, (w1.alloc (.cells #[Value.int IntKind.i64 0, Value.int IntKind.i64 0, Value.int IntKind.i64 0, Value.int IntKind.i64 0, Value.int IntKind.i64 0, Value.int IntKind.i64 0, Value.int IntKind.i64 0, Value.int IntKind.i64 0, Value.int IntKind.i64 0, Value.int IntKind.i64 0, Value.int IntKind.i64 0, Value.int IntKind.i64 0, Value.int IntKind.i64 0, Value.int IntKind.i64 0, Value.int IntKind.i64 0, Value.int IntKind.i64 0] 77)).setRow G ((cnts l).map eI).toArray = W := ⟨_, rfl⟩
    have A2 : Hid (Arr 77 eI W2 G (cnts l)) := by
      show _ = _
      rw [← hW2]
      exact setRow_heap _ _ _ _ _ _ Z0.out
    have B2 : Hid (Below w.heap.size w W2) := by
      show Below _ _ _
      rw [← hW2]
      exact below_row (B1.out.alloc (by rw [HG.out]; exact HGN.out) _) HGN.out _
    have hld := A2.out.ld (n := 16) (length_cnts _)
    go_wp2_with (first
      | ((with_reducible refine gate_store (t := 77) (p := 4) rfl ?_); refine wpList_store_row rfl 77 (.tmp 4) (.tmp 13) rfl G _ rfl rfl 77 _ Z0.out (size77 XL.out) (by simp [XL.out]) (one_all _ _) ?_; rw [hW2])
      | ((with_reducible refine gate_dst (N := 17) rfl ?_); refine wpList_load_row rfl 77 (.tmp 4) rfl G rfl 77 _ (0, 0) _ A2.out u77 rfl (size77 (length_cnts _)) ?_))
    clear hW2
    refine Calls.mono (first_calls (cnts l) _ (length_cnts _) (fun j => ?_)) ?_
    · by_cases hj : j < 16
      · rw [cnts_getD l j hj]
        have := cnt_bound j l
        have := HL.out
        omega
      · rw [List.getD_eq_getElem?_getD, List.getElem?_eq_none (by rw [length_cnts]; omega)]
        simp
    rintro e w3 ⟨rfl, hb3⟩
    obtain ⟨H, hH⟩ : ∃ H, w3.heap.size = H := ⟨_, rfl⟩
    obtain ⟨W0, hW0⟩ : ∃ W, W = wordsTo (cnts l) 16 := ⟨_, rfl⟩
    have hwl : W0.length = 17 := by rw [hW0]; exact length_wordsTo _ _
    have HWB : Hid (∀ j, 0 ≤ W0.getD j 0 ∧ W0.getD j 0 < 4294967296) := hid (fun j => by rw [hW0]; exact wordsTo_eU_bound _ j)
    rw [← hW0]
    have HW0 : Hid (W0 = wordsTo (cnts l) 16) := hW0
    have WL : Hid (W0.length = 17) := hwl
    have Y0 : Hid ((w3.alloc (.cells #[Value.int IntKind.u32 0, Value.int IntKind.u32 0, Value.int IntKind.u32 0, Value.int IntKind.u32 0, Value.int IntKind.u32 0, Value.int IntKind.u32 0, Value.int IntKind.u32 0, Value.int IntKind.u32 0, Value.int IntKind.u32 0, Value.int IntKind.u32 0, Value.int IntKind.u32 0, Value.int IntKind.u32 0, Value.int IntKind.u32 0, Value.int IntKind.u32 0, Value.int IntKind.u32 0, Value.int IntKind.u32 0, Value.int IntKind.u32 0] 80)).heap[H]? = some (.cells #[Value.int IntKind.u32 0, Value.int IntKind.u32 0, Value.int IntKind.u32 0, Value.int IntKind.u32 0, Value.int IntKind.u32 0, Value.int IntKind.u32 0, Value.int IntKind.u32 0, Value.int IntKind.u32 0, Value.int IntKind.u32 0, Value.int IntKind.u32 0, Value.int IntKind.u32 0, Value.int IntKind.u32 0, Value.int IntKind.u32 0, Value.int IntKind.u32 0, Value.int IntKind.u32 0, Value.int IntKind.u32 0, Value.int IntKind.u32 0] 80 (0, 0))) := by
      show _ = _
      rw [← hH]
      exact heap_alloc_new _ _
    have B3 : Hid (Below w.heap.size w w3) := by
      have h1 := B2.out
      exact h1.trans (hb3.mono h1.size)
    have HNH : Hid (w.heap.size ≤ H) := by show _ ≤ _; rw [← hH]; exact B3.out.size
    obtain ⟨W4, hW4⟩ : ∃ W, (w3.alloc (.cells #[Value.int IntKind.u32 0, Value.int IntKind.u32 0, Value.int IntKind.u32 0, Value.int IntKind.u32 0, Value.int IntKind.u32 0, Value.int IntKind.u32 0, Value.int IntKind.u32 0, Value.int IntKind.u32 0, Value.int IntKind.u32 0, Value.int IntKind.u32 0, Value.int IntKind.u32 0, Value.int IntKind.u32 0, Value.int IntKind.u32 0, Value.int IntKind.u32 0, Value.int IntKind.u32 0, Value.int IntKind.u32 0, Value.int IntKind.u32 0] 80)).setRow H (W0.map eU).toArray = W := ⟨_, rfl⟩
    have A4 : Hid (Arr 80 eU W4 H W0) := by
      show _ = _
      rw [← hW4]
      exact setRow_heap _ _ _ _ _ _ Y0.out
    have B4 : Hid (Below w.heap.size w W4) := by
      show Below _ _ _
      rw [← hW4]
      exact below_row (B3.out.alloc (by rw [hH]; exact HNH.out) _) HNH.out _
    have S4 : Hid (W4.heap.size = H + 1) := by
      show _ = _
      rw [← hW4, size_setRow, World.size_alloc, hH]
    have HH : Hid (w3.heap.size = H) := hH
    have hmk := make_pieces n hn W4
    rw [S4.out] at hmk
    clear hb3 hW0 hwl hld
    go_wp2_with ((with_reducible refine gate_store (t := 80) (p := 6) rfl ?_); refine wpList_store_row rfl 80 (.tmp 6) (.tmp 18) rfl H _ rfl rfl 80 _ Y0.out (size80 WL.out) (by simp [WL.out]) (one_all _ _) ?_; rw [hW4])
    clear hW4 hmk hH
    obtain ⟨W5, hW5⟩ : ∃ W, W4.alloc (.cells (pcells (List.replicate n ⟨0, 0⟩)).toArray 42) = W := ⟨_, rfl⟩
    have A5 : Hid (Arr 80 eU W5 H W0) := by
      show _ = _
      rw [← hW5, Below.heap_alloc _ _ _ (by rw [S4.out]; omega)]
      exact A4.out
    have P5 : Hid (PRow W5 (H + 1) ([] ++ List.replicate (n - 0) ⟨0, 0⟩)) := by
      show _ = _
      rw [← hW5, ← S4.out]
      exact heap_alloc_new _ _
    have B5 : Hid (Below w.heap.size w W5) := by
      show Below _ _ _
      rw [← hW5]
      exact B4.out.alloc (by rw [S4.out]; have := HNH.out; omega) _
    rw [hW5]
    clear hW5
    go_loopg [24] n (fun kx s24 wr => ∃ (i : Nat) (W : List Int) (ps : List S42), s24 = .int .i64 i ∧ i ≤ n ∧ n - i ≤ kx ∧ Hid (Arr 80 eU wr H W) ∧ Hid (PRow wr (H + 1) (ps ++ List.replicate (n - i) ⟨0, 0⟩)) ∧ Hid (Below w.heap.size w wr) ∧ Hid (W.length = 17 ∧ ps.length = i ∧ (∀ j, 0 ≤ W.getD j 0 ∧ W.getD j 0 < 4294967296) ∧ ps ++ codesFrom W (l.drop i) = codesFrom W0 l))
    case atStart => exact ⟨0, W0, [], rfl, by omega, by omega, A5, P5, B5, hid ⟨WL.out, rfl, HWB.out, rfl⟩⟩
    case round =>
      obtain ⟨i, W, ps, rfl, hin, hikx, HA, HP, HB, HI⟩ := hrel
      by_cases hlt : i < n
      · have hltz : (i : Int) < (n : Int) := by omega
        obtain ⟨b, off, rfl, hb, hcell⟩ := HC.out (by omega)
        obtain ⟨x, hx⟩ : ∃ x, x = l.getD i 0 := ⟨_, rfl⟩
        have hci : wr.cell? ⟨b, off + i, none⟩ = some (.int .i64 x) := by
          rw [HB.out.cell (p := ⟨b, off + i, none⟩) hb, hcell i hlt, hx]
        clear hcell hb
        have hxb : 0 ≤ x ∧ x ≤ 15 := by
          have h1 : lensOk l = true := by
            have := HCODE.out
            rw [isCode, Bool.and_eq_true] at this
            exact this.1
          unfold lensOk at h1
          rw [List.all_eq_true] at h1
          have := h1 x (by rw [hx, List.getD_eq_getElem?_getD, List.getElem?_eq_getElem (by rw [HL.out]; exact hlt)]; exact List.getElem_mem _)
          simpa using this
        obtain ⟨q, rfl⟩ : ∃ q : Nat, x = (q : Int) := ⟨x.toNat, by omega⟩
        have hq : q ≤ 15 := by omega
        clear hxb
        have HX : Hid ((q : Int) = l.getD i 0) := hx
        clear hx
        have HD : Hid (l.drop i = (q : Int) :: l.drop (i + 1)) := by
          show _ = _
          rw [HX.out, List.drop_eq_getElem_cons (by rw [HL.out]; exact hlt), List.getD_eq_getElem?_getD, List.getElem?_eq_getElem (by rw [HL.out]; exact hlt)]
          rfl
        obtain ⟨u, hu⟩ : ∃ u, u = W.getD q 0 := ⟨_, rfl⟩
        have hcu := HA.out.cell (j := q) (by rw [HI.out.1]; omega)
        rw [← hu] at hcu
        have hub : 0 ≤ u ∧ u < 4294967296 := by rw [hu]; exact HI.out.2.2.1 q
        have HU : Hid (u = W.getD q 0) := hu
        clear hu
        by_cases hq0 : 0 < q
        · have t0 : (0 : Int) < (q : Int) := by omega
          have hf1 : wr.frozen? ⟨H + 1, i * 2, none⟩ = false := frozen_block HP.out _
          have hf2 : wr.frozen? ⟨H + 1, i * 2 + 1, none⟩ = false := frozen_block HP.out _
          have hq17 : (q : Int) < 17 := by omega
          have hq32 : (0 : Int) ≤ 32 - (q : Int) := by omega
          obtain ⟨V, hV⟩ : ∃ V, V = rev32 u / 2 ^ (32 - q) := ⟨_, rfl⟩
          have hlen2 : (pcells (ps ++ List.replicate (n - i) (⟨0, 0⟩ : S42))).length = 2 * n := by rw [length_pcells, List.length_append, List.length_replicate, HI.out.2.1]; omega
          have hc1 : ∃ a, wr.cell? ⟨H + 1, i * 2, none⟩ = some a := by
            rw [cell_block HP.out]
            exact ⟨_, Array.getElem?_eq_getElem (by rw [List.size_toArray, hlen2]; omega)⟩
          obtain ⟨a1, hc1⟩ := hc1
          have hp1 := heap_put HP.out (i * 2) (.int .u32 V)
          have hc2 : ∃ a, (wr.setCell ⟨H + 1, i * 2, none⟩ (.int .u32 V)).cell? ⟨H + 1, i * 2 + 1, none⟩ = some a := by
            rw [cell_block hp1]
            exact ⟨_, Array.getElem?_eq_getElem (by rw [Array.size_setIfInBounds, List.size_toArray, hlen2]; omega)⟩
          obtain ⟨a2, hc2⟩ := hc2
          have hf3 : (wr.setCell ⟨H + 1, i * 2, none⟩ (.int .u32 V)).frozen? ⟨H + 1, i * 2 + 1, none⟩ = false := frozen_block hp1 _
          clear hp1
          obtain ⟨W6, hW6⟩ : ∃ W', (wr.setCell ⟨H + 1, i * 2, none⟩ (.int .u32 V)).setCell ⟨H + 1, i * 2 + 1, none⟩ (.int .i64 (q : Int)) = W' := ⟨_, rfl⟩
          have P6 : Hid (PRow W6 (H + 1) ((ps ++ List.replicate (n - i) (⟨0, 0⟩ : S42)).set i ⟨V, (q : Int)⟩)) := by
            show PRow _ _ _
            rw [← hW6, Nat.mul_comm i 2]
            exact HP.out.set i ⟨V, (q : Int)⟩
          have A6 : Hid (Arr 80 eU W6 H W) := by
            show _ = _
            rw [← hW6, Below.heap_setCell _ ⟨H + 1, i * 2 + 1, none⟩ _ H (by show H ≠ H + 1; omega), Below.heap_setCell _ ⟨H + 1, i * 2, none⟩ _ H (by show H ≠ H + 1; omega)]
            exact HA.out
          have B6 : Hid (Below w.heap.size w W6) := by
            show Below _ _ _
            rw [← hW6]
            exact (HB.out.setCell (by show _ ≤ H + 1; have := HNH.out; omega) _).setCell (by show _ ≤ H + 1; have := HNH.out; omega) _
          have hcu6 := A6.out.cell (j := q) (by rw [HI.out.1]; omega)
          rw [← HU.out] at hcu6
          have hfu6 := A6.out.frozen q
          have HV : Hid (V = rev32 u / 2 ^ (32 - q)) := hV
          rw [hV] at hc2 hf3 hW6
          clear hV
          go_wp2_with (go_at_call 44; ((with_reducible refine (rev32_calls u _).mono ?_); rintro e w6 ⟨rfl, rfl⟩))
          go_roundg (n - (i + 1))
          case measure => omega
          case rel =>
            have hV2 : V = (turnN (W.getD q 0).toNat q : Int) := by
              rw [HV.out, HU.out]
              exact rev32_turn _ q (HI.out.2.2.1 q).1 (HI.out.2.2.1 q).2 (by omega)
            refine ⟨i + 1, W.set q ((u + 1) % 4294967296), ps ++ [⟨V, (q : Int)⟩], by go_num, by omega, by omega, ?_, ?_, ?_, hid ⟨by rw [List.length_set]; exact HI.out.1, by rw [List.length_append, HI.out.2.1]; rfl, fun j => ?_, ?_⟩⟩
            · exact A6.out.set (j := q) (by rw [HI.out.1]; omega) ((u + 1) % 4294967296)
            · show PRow _ _ _
              unfold PRow
              rw [Below.heap_setCell _ ⟨H, q, none⟩ _ (H + 1) (by show H + 1 ≠ H; omega)]
              have h1 := P6.out
              rw [show n - i = (n - (i + 1)) + 1 by omega, ← HI.out.2.1, set_mid ps, HI.out.2.1] at h1
              exact h1
            · show Below _ _ _
              exact B6.out.setCell (by show _ ≤ H; exact HNH.out) _
            · rw [getD_set]
              split
              · omega
              · exact HI.out.2.2.1 j
            · rw [← HI.out.2.2.2, HD.out, codesFrom, codeStep, if_pos t0, List.append_assoc]
              rw [hV2, HU.out]
              rfl
        · have t0 : ¬ (0 : Int) < (q : Int) := by omega
          have hq00 : q = 0 := by omega
          go_wp2_with fail
          go_roundg (n - (i + 1))
          case measure => omega
          case rel =>
            refine ⟨i + 1, W, ps ++ [⟨0, 0⟩], by go_num, by omega, by omega, HA, ?_, HB, hid ⟨HI.out.1, by rw [List.length_append, HI.out.2.1]; rfl, HI.out.2.2.1, ?_⟩⟩
            · have h1 := HP.out
              rw [show n - i = (n - (i + 1)) + 1 by omega, List.replicate_succ, ← List.singleton_append, ← List.append_assoc] at h1
              exact h1
            · rw [← HI.out.2.2.2, HD.out, codesFrom, codeStep, if_neg (show ¬ (0 : Int) < (q : Int) by omega), List.append_assoc]
              rfl
      · have hltz : ¬ (i : Int) < (n : Int) := by omega
        have hin2 : i = n := by omega
        have HPS : Hid (ps = codesFrom W0 l) := by
          have h := HI.out.2.2.2
          rw [show i = l.length by rw [HL.out]; exact hin2, List.drop_length] at h
          show _ = _
          rw [← h, codesFrom, List.append_nil]
        have HPL : Hid (ps.length = n) := by show _ = _; rw [HI.out.2.1]; exact hin2
        have HP2 : Hid (PRow wr (H + 1) ps) := by
          have h := HP.out
          rw [hin2, Nat.sub_self, List.replicate_zero, List.append_nil] at h
          exact h
        have HEN : Hid (Codes l = (ps, 0)) := by
          show _ = _
          rw [Codes, HCODE.out, if_pos rfl, ← HW0.out, HPS.out]
        clear HP HI hin2 HPS
        go_wp2_with fail
        go_ret2
        rw [HEN.out]
        refine ⟨_, rfl, ?_, HB.out⟩
        have h := prow_R HP2.out (base := w.heap.size) (by have := HNH.out; omega) (by rw [HPL.out]; omega)
        rw [HPL.out] at h
        exact h

/-! ### In the print's form -/
def prefix_Codes.f (l0 : List Int) : Option (List S42 × Int) := if l0.length ≤ 1000 then some (Codes l0) else none
def prefix_Kraft.f (l0 : List Int) : Option Int := if l0.length ≤ 1000 then some (Kr l0) else none

theorem rd_of_C {w : World} {A : Option Addr} {n : Nat} {l : List Int} (h : Kd.C (Kd.int .i64) w A n l) : Rd w A n l := by
  obtain ⟨h1, h2⟩ := reads_ints h
  refine ⟨h1, fun hn => ?_⟩
  obtain ⟨b, off, e, hc⟩ := h2 hn
  refine ⟨b, off, e, ?_, hc⟩
  have := hc 0 hn
  unfold World.cell? at this
  cases hb : w.heap[b]? with
  | none => simp [hb] at this
  | some o => exact (Array.getElem?_eq_some_iff.1 hb).1

theorem prefix_Codes.calls (A0 : Option Addr) (c0 : Nat) (l0 : List Int) (r1 : List S42) (r2 : Int) (w : World) (hr0 : Kd.C (Kd.int .i64) w A0 l0.length l0) (hc0 : l0.length ≤ c0) (h : prefix_Codes.f l0 = some (r1, r2)) :
    Calls Try.prog 20 #[.slice A0 l0.length c0] w fun e w' => ∃ v0_ : Value, e = .returned (.tuple #[v0_, .int .i64 r2]) ∧ Kd.R k42 42 w' w.heap.size (fun _ => True) v0_ r1 ∧ Below w.heap.size w w' := by
  unfold prefix_Codes.f at h
  split at h
  · rename_i hl
    have e : Codes l0 = (r1, r2) := Option.some.inj h
    have h1 := codes_calls A0 l0.length c0 l0 w hl (rd_of_C hr0)
    rw [e] at h1
    exact h1
  · cases h

theorem prefix_Kraft.calls (A0 : Option Addr) (c0 : Nat) (l0 : List Int) (r : Int) (w : World) (hr0 : Kd.C (Kd.int .i64) w A0 l0.length l0) (hc0 : l0.length ≤ c0) (h : prefix_Kraft.f l0 = some r) :
    Calls Try.prog 22 #[.slice A0 l0.length c0] w fun e w' => e = .returned (.int .i64 r) ∧ Drawn0 w w' := by
  unfold prefix_Kraft.f at h
  split at h
  · rename_i hl
    have e : Kr l0 = r := Option.some.inj h
    have h1 := kraft_calls A0 l0.length c0 l0 w hl (rd_of_C hr0)
    rw [e] at h1
    refine h1.mono ?_
    rintro e w' ⟨rfl, rfl⟩
    exact ⟨rfl, Drawn0.refl _⟩
  · cases h

end Go.Proofs.Ythgijppajindpaa
