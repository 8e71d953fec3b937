/-
  prefix.Kraft, prefix.counts, prefix.first are walked.
-/
import Derived.Test.YthgijppajindpaaDpth
import Derived.Deep.WholeRow
set_option linter.unusedVariables false
set_option linter.unusedSimpArgs false
namespace Go.Proofs.Ythgijppajindpaa
open Go.RowKit Go.Proofs.YthgijppajindpaaW.PrintWords

/-- One length's share, of 32768. -/
def kr (k : Int) : Int := if 1 ≤ k ∧ k ≤ 15 then 2 ^ (15 - k).toNat else 0
def Kr (l : List Int) : Int := (l.map kr).sum
/-- How many have a length. -/
def cnt (l : List Int) (k : Int) : Int := (l.map fun x => if x = k then 1 else 0).sum
def cnts (l : List Int) : List Int := (List.range 16).map fun k : Nat => cnt l (k : Int)
def lensOk (l : List Int) : Bool := l.all fun k => decide (0 ≤ k ∧ k ≤ 15)
def isCode (l : List Int) : Bool := lensOk l && (decide (l.length ≤ 300) && (decide (Kr l = 32768) || (decide (cnt l 1 = 1) && decide (Kr l = 16384))))

/-- A row that is read, as a walk wants it. -/
def Rd (w : World) (A : Option Addr) (n : Nat) (l : List Int) : Prop := l.length = n ∧ (0 < n → ∃ b off, A = some ⟨b, off, none⟩ ∧ b < w.heap.size ∧ ∀ j, j < n → w.cell? ⟨b, off + j, none⟩ = some (.int .i64 (l.getD j 0)))

theorem kr_bound (k : Int) : 0 ≤ kr k ∧ kr k ≤ 16384 := by
  unfold kr
  split
  · rename_i h
    have h1 : (2 : Nat) ^ (15 - k).toNat ≤ 2 ^ 14 := Nat.pow_le_pow_right (by omega) (by omega)
    have h2 : (2 : Int) ^ (15 - k).toNat = ((2 ^ (15 - k).toNat : Nat) : Int) := by push_cast; rfl
    rw [h2]
    generalize (2 : Nat) ^ (15 - k).toNat = m at h1
    omega
  · omega

theorem Kr_snoc (l : List Int) (k : Int) : Kr (l ++ [k]) = Kr l + kr k := by simp [Kr]
theorem cnt_snoc (l : List Int) (x k : Int) : cnt (l ++ [x]) k = cnt l k + if x = k then 1 else 0 := by simp [cnt]
theorem lensOk_snoc (l : List Int) (k : Int) : lensOk (l ++ [k]) = (lensOk l && decide (0 ≤ k ∧ k ≤ 15)) := by simp [lensOk]

theorem Kr_bound : ∀ l : List Int, 0 ≤ Kr l ∧ Kr l ≤ 16384 * l.length
  | [] => by simp [Kr]
  | x :: l => by
    have h1 := Kr_bound l
    have h2 := kr_bound x
    have e : Kr (x :: l) = kr x + Kr l := rfl
    rw [e, List.length_cons]
    push_cast
    omega

set_option maxHeartbeats 4000000 in
set_option maxRecDepth 1000000 in
theorem kraft_calls (A : Option Addr) (n c : Nat) (l : List Int) (w : World) (hn : n ≤ 1000) (hR : Rd w A n l) :
    Calls Try.prog 22 #[.slice A n c] w fun e w' => e = .returned (.int .i64 (Kr l)) ∧ w = w' := by
  obtain ⟨hl, hc⟩ := hR
  have HC : Hid _ := hc
  have HL : Hid (l.length = n) := hl
  clear hl hc
  go_enter Try.func22, Try.ntmps22
  go_wp2_with fail
  go_loopg [3, 8] n (fun kx s3 s8 wr => ∃ (i : Nat) (u : Int), s3 = .int .i64 u ∧ s8 = .int .i64 i ∧ i ≤ n ∧ n - i ≤ kx ∧ w = wr ∧ 0 ≤ u ∧ u ≤ 16384 * i ∧ Hid (u = Kr (l.take i)))
  case atStart => exact ⟨0, 0, rfl, rfl, by omega, by omega, rfl, by omega, by omega, rfl⟩
  case round =>
    obtain ⟨i, u, rfl, rfl, hin, hikx, rfl, hu0, hu1, HU⟩ := hrel
    by_cases hlt : i < n
    · have hltz : (i : Int) < (n : Int) := by omega
      obtain ⟨b, off, rfl, hb, hcell⟩ := HC.out (by omega)
      obtain ⟨x, hx⟩ : ∃ x, x = l.getD i 0 := ⟨_, rfl⟩
      have hci := hcell i hlt
      rw [← hx] at hci
      clear hcell
      have HX : Hid (x = l.getD i 0) := hx
      clear hx
      have HT : Hid (Kr (l.take (i + 1)) = u + kr x) := by
        show _ = _
        rw [take_snoc (by rw [HL.out]; exact hlt), Kr_snoc, ← HX.out, ← HU.out]
      by_cases hxok : 1 ≤ x ∧ x ≤ 15
      · obtain ⟨hx0, hx1⟩ := hxok
        obtain ⟨m, hm, hmb⟩ : ∃ m : Int, 2 ^ (15 - x).toNat = m ∧ 0 ≤ m ∧ m ≤ 16384 := ⟨_, rfl, by have := kr_bound x; unfold kr at this; rwa [if_pos ⟨hx0, hx1⟩] at this⟩
        have hkr : Hid (kr x = m) := by show _ = _; unfold kr; rw [if_pos ⟨hx0, hx1⟩, hm]
        obtain ⟨hm0, hm1⟩ := hmb
        go_wp2_with fail
        go_roundg (n - (i + 1))
        case measure => omega
        case rel => exact ⟨i + 1, u + m, rfl, by go_num, by omega, by omega, rfl, by omega, by omega, hid (by rw [HT.out, hkr.out])⟩
      · have hkr : Hid (kr x = 0) := by show _ = _; unfold kr; rw [if_neg hxok]
        go_wp2_with fail
        all_goals first
          | (exfalso; omega)
          | (go_roundg (n - (i + 1))
             case measure => omega
             case rel => exact ⟨i + 1, u, rfl, by go_num, by omega, by omega, rfl, by omega, by omega, hid (by rw [HT.out, hkr.out, Int.add_zero])⟩)
    · have hltz : ¬ (i : Int) < (n : Int) := by omega
      go_wp2_with fail
      go_ret
      have e : u = Kr l := by rw [HU.out, show i = l.length by rw [HL.out]; omega, List.take_length]
      exact ⟨by rw [← e]; rfl, rfl⟩

theorem length_cnts (l : List Int) : (cnts l).length = 16 := by simp [cnts]
theorem cnts_getD (l : List Int) (k : Nat) (hk : k < 16) : (cnts l).getD k 0 = cnt l k := by
  unfold cnts
  rw [List.getD_eq_getElem?_getD, List.getElem?_map, List.getElem?_range hk]
  rfl
theorem cnt_bound (k : Int) : ∀ l : List Int, 0 ≤ cnt l k ∧ cnt l k ≤ l.length
  | [] => by simp [cnt]
  | x :: l => by
    have h1 := cnt_bound k l
    have e : cnt (x :: l) k = (if x = k then 1 else 0) + cnt l k := rfl
    rw [e, List.length_cons]
    push_cast
    split <;> omega
theorem cnts_snoc (l : List Int) (x : Nat) (hx : x < 16) : cnts (l ++ [(x : Int)]) = (cnts l).set x (cnt l x + 1) := by
  refine ext_getD (by simp [cnts]) (fun s hs => ?_)
  rw [length_cnts] at hs
  rw [cnts_getD _ s hs, getD_set, length_cnts, cnts_getD _ s hs, cnt_snoc]
  by_cases h : x = s
  · subst h; rw [if_pos rfl, if_pos ⟨rfl, hx⟩]
  · rw [if_neg (by omega), if_neg (by omega), Int.add_zero]

/-- An array's cells in a block of its own. -/
def Arr (T : TypeId) (enc : Int → Value) (w : World) (g : Nat) (xs : List Int) : Prop := w.heap[g]? = some (.cells (xs.map enc).toArray T (0, 0))

theorem Arr.cell {T : TypeId} {enc : Int → Value} {w : World} {g : Nat} {xs : List Int} (h : Arr T enc w g xs) {j : Nat} (hj : j < xs.length) : w.cell? ⟨g, j, none⟩ = some (enc (xs.getD j 0)) := by
  rw [cell_block h]
  simp [List.getD_eq_getElem?_getD, List.getElem?_eq_getElem hj]
theorem Arr.frozen {T : TypeId} {enc : Int → Value} {w : World} {g : Nat} {xs : List Int} (h : Arr T enc w g xs) (j : Nat) : w.frozen? ⟨g, j, none⟩ = false := frozen_block h j
theorem Arr.set {T : TypeId} {enc : Int → Value} {w : World} {g : Nat} {xs : List Int} (h : Arr T enc w g xs) {j : Nat} (hj : j < xs.length) (x : Int) : Arr T enc (w.setCell ⟨g, j, none⟩ (enc x)) g (xs.set j x) := by
  unfold Arr at *
  unfold World.setCell
  simp only []
  rw [Array.getElem?_modify, if_pos rfl, h]
  simp
theorem Arr.ld {T : TypeId} {enc : Int → Value} {w : World} {g : Nat} {xs : List Int} (h : Arr T enc w g xs) {n : Nat} (hn : xs.length = n) : (loadCellsFrom ⟨g, 0, none⟩ 0 n #[]).run Try.prog w = .ok (xs.map enc).toArray w := by
  have := run_loadCells_list (P := Try.prog) w ⟨g, 0, none⟩ (xs.map enc) (fun j v hv => by
    have hadd : (⟨g, 0, none⟩ : Addr).add j = ⟨g, j, none⟩ := by unfold Addr.add; split <;> simp_all
    rw [hadd, cell_block h]
    simpa using hv)
  rw [List.length_map, hn] at this
  exact this
theorem Arr.st {T : TypeId} {enc : Int → Value} {w : World} {g : Nat} {xs ys : List Int} (h : Arr T enc w g xs) (hl : ys.length = xs.length) (h1 : ∀ x, (enc x).oneCell' = true) : (storeCells ⟨g, 0, none⟩ (ys.map enc) 0).run Try.prog w = .ok () (w.setRow g (ys.map enc).toArray) := by
  refine run_storeCells_from (P := Try.prog) g T (ys.map enc) 0 _ w h (by simp; omega) (fun v hv => ?_)
  obtain ⟨x, _, rfl⟩ := List.mem_map.1 hv
  exact h1 x
theorem Arr.same {T : TypeId} {enc : Int → Value} {w : World} {g : Nat} {xs : List Int} (h : Arr T enc w g xs) : w.setRow g (xs.map enc).toArray = w := setRow_self w g _ T _ h
theorem Arr.st_same {T : TypeId} {enc : Int → Value} {w : World} {g : Nat} {xs : List Int} (h : Arr T enc w g xs) (h1 : ∀ x, (enc x).oneCell' = true) : (storeCells ⟨g, 0, none⟩ (xs.map enc) 0).run Try.prog w = .ok () w := by
  rw [h.st rfl h1, h.same]
theorem Arr.row {T : TypeId} {enc : Int → Value} {w : World} {g : Nat} {xs ys : List Int} (h : Arr T enc w g xs) : Arr T enc (w.setRow g (ys.map enc).toArray) g ys := setRow_heap w g _ _ T _ h
theorem Arr.below {T : TypeId} {enc : Int → Value} {w w' : World} {g base : Nat} {xs : List Int} (h : Arr T enc w g xs) (hg : g < base) (hb : Below base w w') : Arr T enc w' g xs := (hb.block g hg).trans h

theorem results_cell_tmp {P : Program} {fn : Func} {p q : Tmp} {ty : TypeId} (h : fn.results = #[.cell p ty, .tmp q]) (tmps : Array Value) (w : World) (g : Nat) (t : TypeId) (cs : Array Value) (fr : Nat × Nat) (d : TypeDesc)
    (hp : tmps.getD p undef = .pointer (some ⟨g, 0, none⟩)) (hg : w.heap[g]? = some (.cells cs t fr))
    (hu : P.underlying ty = some d) (hd : (match d with | .struct _ | .array _ _ => true | _ => false) = true) (hi : (P.info? ty).map (·.size) = some cs.size) :
    (results fn tmps).run P w = .ok (.tuple #[.agg cs, tmps.getD q undef]) w := by
  have hp' : tmps[p]?.getD undef = .pointer (some ⟨g, 0, none⟩) := by simpa using hp
  simp [results, h, hp', asAddr, run_loadVar_row w g t ty cs fr d hg hu hd hi]

theorem size77 {xs : List Int} (h : xs.length = 16) : (Try.prog.info? 77).map (·.size) = some ((xs.map (Value.int .i64)).toArray).size := by
  have : (Try.prog.info? 77).map (·.size) = some 16 := by kernel_rfl
  rw [this]; simp [h]
theorem size80 {xs : List Int} (h : xs.length = 17) : (Try.prog.info? 80).map (·.size) = some ((xs.map (Value.int .u32)).toArray).size := by
  have : (Try.prog.info? 80).map (·.size) = some 17 := by kernel_rfl
  rw [this]; simp [h]
theorem one_all (k : IntKind) (xs : List Int) : ((xs.map (Value.int k)).toArray).all (·.oneCell') = true := by simp [Value.oneCell']

abbrev eI : Int → Value := Value.int .i64
abbrev eU : Int → Value := Value.int .u32

set_option maxHeartbeats 4000000 in
set_option maxRecDepth 1000000 in
theorem counts_calls (A : Option Addr) (n c : Nat) (l : List Int) (w : World) (hn : n ≤ 1000) (hR : Rd w A n l) :
    Calls Try.prog 42 #[.slice A n c] w fun e w' => ∃ xs : List Int, e = .returned (.tuple #[.agg (xs.map eI).toArray, .bool (isCode l)]) ∧ xs.length = 16 ∧ (isCode l = true → xs = cnts l) ∧ Below w.heap.size w w' := by
  obtain ⟨hl, hc⟩ := hR
  have HC : Hid _ := hc
  have HL : Hid (l.length = n) := hl
  clear hl hc
  have u77 := Try.underlying77
  have a77 := Try.isAgg77
  have z77 := Try.sizeOf77
  go_enter Try.func42, Try.ntmps42
  go_wp2_with fail
  obtain ⟨N, hN⟩ : ∃ N, w.heap.size = N := ⟨_, rfl⟩
  rw [hN]
  have HN : Hid (w.heap.size = N) := hN
  have R0 : Hid (Arr 77 eI (w.alloc (.cells ((List.replicate 16 0).map eI).toArray 77)) N (List.replicate 16 0)) := by
    show _ = _
    rw [← hN]
    exact heap_alloc_new _ _
  have B0 : Hid (Below N w (w.alloc (.cells ((List.replicate 16 0).map eI).toArray 77))) := by
    show Below _ _ _
    rw [← hN]
    exact (Below.refl _ _).alloc (Nat.le_refl _) _
  have e0 : ((List.replicate 16 0).map eI).toArray = #[Value.int IntKind.i64 0, Value.int IntKind.i64 0, Value.int IntKind.i64 0, Value.int IntKind.i64 0, Value.int IntKind.i64 0, Value.int IntKind.i64 0, Value.int IntKind.i64 0, Value.int IntKind.i64 0, Value.int IntKind.i64 0, Value.int IntKind.i64 0, Value.int IntKind.i64 0, Value.int IntKind.i64 0, Value.int IntKind.i64 0, Value.int IntKind.i64 0, Value.int IntKind.i64 0, Value.int IntKind.i64 0] := rfl
  rw [e0] at R0 B0
  obtain ⟨W0, hW0⟩ : ∃ W, (w.alloc (.cells #[Value.int IntKind.i64 0, Value.int IntKind.i64 0, Value.int IntKind.i64 0, Value.int IntKind.i64 0, Value.int IntKind.i64 0, Value.int IntKind.i64 0, Value.int IntKind.i64 0, Value.int IntKind.i64 0, Value.int IntKind.i64 0, Value.int IntKind.i64 0, Value.int IntKind.i64 0, Value.int IntKind.i64 0, Value.int IntKind.i64 0, Value.int IntKind.i64 0, Value.int IntKind.i64 0, Value.int IntKind.i64 0] 77)) = W := ⟨_, rfl⟩
  rw [hW0] at R0 B0 ⊢
  clear hW0 e0 hN
  go_loopg [9] n (fun kx s9 wr => ∃ (i : Nat), s9 = .int .i64 i ∧ i ≤ n ∧ n - i ≤ kx ∧ Hid (Arr 77 eI wr N (cnts (l.take i))) ∧ Hid (Below N w wr) ∧ Hid (lensOk (l.take i) = true))
  case atStart => exact ⟨0, rfl, by omega, by omega, R0, B0, hid rfl⟩
  case round =>
    obtain ⟨i, rfl, hin, hikx, HA, HB, HK⟩ := hrel
    by_cases hlt : i < n
    · have hltz : (i : Int) < (n : Int) := by omega
      obtain ⟨b, off, rfl, hb, hcell⟩ := HC.out (by omega)
      obtain ⟨x, hx⟩ : ∃ x, x = l.getD i 0 := ⟨_, rfl⟩
      have hci : wr.cell? ⟨b, off + i, none⟩ = some (.int .i64 x) := by
        rw [HB.out.cell (p := ⟨b, off + i, none⟩) (by show b < N; rw [← HN.out]; exact hb), hcell i hlt, hx]
      clear hcell hb
      have HX : Hid (x = l.getD i 0) := hx
      clear hx
      have HT : Hid (l.take (i + 1) = l.take i ++ [x]) := by
        show _ = _
        rw [take_snoc (by rw [HL.out]; exact hlt), ← HX.out]
      by_cases hxok : 0 ≤ x ∧ x ≤ 15
      · obtain ⟨hx0, hx1⟩ := hxok
        obtain ⟨q, rfl⟩ : ∃ q : Nat, x = (q : Int) := ⟨x.toNat, by omega⟩
        have hq : q < 16 := by omega
        have t4 : ¬ (q : Int) < 0 := by omega
        have t5 : ¬ 15 < (q : Int) := by omega
        obtain ⟨v, hv⟩ : ∃ v, v = cnt (l.take i) q := ⟨_, rfl⟩
        have hcq := HA.out.cell (j := q) (by rw [length_cnts]; exact hq)
        rw [cnts_getD _ q hq, ← hv] at hcq
        have hvb : 0 ≤ v ∧ v ≤ 1000 := by
          have := cnt_bound q (l.take i)
          rw [List.length_take] at this
          omega
        obtain ⟨hv0, hv1⟩ := hvb
        have HV : Hid (v = cnt (l.take i) q) := hv
        clear hv
        have hfq := HA.out.frozen q
        go_wp2_with fail
        go_roundg (n - (i + 1))
        case measure => omega
        case rel =>
          refine ⟨i + 1, by go_num, by omega, by omega, ?_, hid (HB.out.setCell (Nat.le_refl _) _), ?_⟩
          · show Arr _ _ _ _ _
            rw [HT.out, cnts_snoc _ q hq, ← HV.out]
            exact HA.out.set (by rw [length_cnts]; exact hq) (v + 1)
          · show _ = _
            rw [HT.out, lensOk_snoc, HK.out, decide_eq_true (show 0 ≤ (q : Int) ∧ (q : Int) ≤ 15 from ⟨hx0, hx1⟩)]
            rfl
      · have HBAD : Hid (isCode l = false) := by
          show _ = _
          have : lensOk l = false := by
            cases e : lensOk l with
            | false => rfl
            | true =>
              unfold lensOk at e
              rw [List.all_eq_true] at e
              have := e x (by rw [HX.out, List.getD_eq_getElem?_getD, List.getElem?_eq_getElem (by rw [HL.out]; exact hlt)]; exact List.getElem_mem _)
              simp only [decide_eq_true_eq] at this
              exact absurd this hxok
          rw [isCode, this]; rfl
        obtain ⟨ys, hys⟩ : ∃ ys, ys = cnts (l.take i) := ⟨_, rfl⟩
        have hyl : ys.length = 16 := by rw [hys]; exact length_cnts _
        rw [← hys] at HA
        clear hys
        go_wp2_with (first
          | ((with_reducible refine gate_dst (N := 19) rfl ?_); refine wpList_load_row rfl 77 (.tmp 2) rfl N rfl 77 _ (0, 0) _ HA.out u77 rfl (size77 hyl) ?_)
          | ((with_reducible refine gate_store (t := 77) (p := 2) rfl ?_); refine wpList_store_row rfl 77 (.tmp 2) (.tmp 19) rfl N _ rfl rfl 77 _ HA.out (size77 hyl) rfl (one_all _ _) ?_; rw [HA.out.same]))
        all_goals
          refine bodyPost_ret (results_cell_tmp (p := 2) (q := 3) (ty := 77) rfl _ _ N 77 _ (0, 0) _ rfl HA.out u77 rfl (size77 hyl)) rfl ?_
          refine ⟨ys, congrArg (fun b => Ending.returned (.tuple #[.agg (ys.map eI).toArray, .bool b])) HBAD.out.symm, hyl, fun h => ?_, by rw [HN.out]; exact HB.out⟩
          rw [HBAD.out] at h
          cases h
    · have hltz : ¬ (i : Int) < (n : Int) := by omega
      obtain ⟨ys, hys⟩ : ∃ ys, ys = cnts (l.take i) := ⟨_, rfl⟩
      have hyl : ys.length = 16 := by rw [hys]; exact length_cnts _
      rw [← hys] at HA
      have HY : Hid (ys = cnts l) := by
        show _ = _
        rw [hys, show i = l.length by rw [HL.out]; omega, List.take_length]
      have HOK : Hid (lensOk l = true) := by
        have h := HK.out
        rw [show i = l.length by rw [HL.out]; omega, List.take_length] at h
        exact h
      clear hys
      obtain ⟨v, hv⟩ : ∃ v, v = ys.getD 1 0 := ⟨_, rfl⟩
      have hc1 := HA.out.cell (j := 1) (by rw [hyl]; decide)
      rw [← hv] at hc1
      have HV : Hid (v = cnt l 1) := by
        show _ = _
        rw [hv, HY.out]
        exact cnts_getD l 1 (by decide)
      clear hv
      have hkr := kraft_calls A n c l wr hn ⟨HL.out, fun h => by
        obtain ⟨b, off, e, hb, hcell⟩ := HC.out h
        refine ⟨b, off, e, ?_, fun j hj => ?_⟩
        · have := HB.out.size; have := HN.out; omega
        · rw [HB.out.cell (p := ⟨b, off + j, none⟩) (by show b < N; rw [← HN.out]; exact hb)]; exact hcell j hj⟩
      have HKR : Hid _ := hkr
      clear hkr
      go_wp2_with fail
      refine Calls.mono HKR.out ?_
      rintro e w2 ⟨rfl, rfl⟩
      obtain ⟨K, hK⟩ : ∃ K, K = Kr l := ⟨_, rfl⟩
      rw [← hK]
      have HKK : Hid (K = Kr l) := hK
      clear hK HKR
      go_wp2_with (first
          | ((with_reducible refine gate_dst (N := 28) rfl ?_); refine wpList_load_row rfl 77 (.tmp 2) rfl N rfl 77 _ (0, 0) _ HA.out u77 rfl (size77 hyl) ?_)
          | ((with_reducible refine gate_store (t := 77) (p := 2) rfl ?_); refine wpList_store_row rfl 77 (.tmp 2) (.tmp 28) rfl N _ rfl rfl 77 _ HA.out (size77 hyl) rfl (one_all _ _) ?_; rw [HA.out.same]))
      all_goals
        refine bodyPost_ret (results_cell_tmp (p := 2) (q := 3) (ty := 77) rfl _ _ N 77 _ (0, 0) _ rfl HA.out u77 rfl (size77 hyl)) rfl ?_
        refine ⟨ys, congrArg (fun b => Ending.returned (.tuple #[.agg (ys.map eI).toArray, .bool b])) ?_, hyl, fun _ => HY.out, by rw [HN.out]; exact HB.out⟩
        rw [isCode, HOK.out, ← HKK.out, ← HV.out, HL.out, Bool.eq_iff_iff]
        simp
        omega

/-- The first word of each length, of 32 bits. -/
def wordAt (xs : List Int) : Nat → Int
  | 0 => 0
  | 1 => 0
  | k + 2 => (2 * ((wordAt xs (k + 1) + xs.getD (k + 1) 0) % 4294967296)) % 4294967296
/-- The first words, so far. -/
def wordsTo (xs : List Int) (k : Nat) : List Int := (List.range 17).map fun j => if j ≤ k then wordAt xs j else 0
theorem length_wordsTo (xs : List Int) (k : Nat) : (wordsTo xs k).length = 17 := by simp [wordsTo]
theorem wordsTo_getD (xs : List Int) (k j : Nat) (hj : j < 17) : (wordsTo xs k).getD j 0 = if j ≤ k then wordAt xs j else 0 := by
  unfold wordsTo
  rw [List.getD_eq_getElem?_getD, List.getElem?_map, List.getElem?_range hj]
  rfl
theorem wordsTo_one (xs : List Int) : wordsTo xs 1 = List.replicate 17 0 := by
  refine ext_getD (by simp [wordsTo]) (fun j hj => ?_)
  rw [length_wordsTo] at hj
  rw [wordsTo_getD _ _ _ hj]
  have : (List.replicate 17 (0 : Int)).getD j 0 = 0 := by rw [List.getD_eq_getElem?_getD, List.getElem?_replicate, if_pos hj]; rfl
  rw [this]
  split
  · match j with
    | 0 => rfl
    | 1 => rfl
    | j + 2 => omega
  · rfl
theorem wordsTo_step (xs : List Int) (k : Nat) (hk : k + 1 < 17) : (wordsTo xs k).set (k + 1) (wordAt xs (k + 1)) = wordsTo xs (k + 1) := by
  refine ext_getD (by simp [wordsTo]) (fun j hj => ?_)
  rw [List.length_set, length_wordsTo] at hj
  rw [getD_set, length_wordsTo, wordsTo_getD _ _ _ hj, wordsTo_getD _ _ _ hj]
  by_cases h : k + 1 = j
  · subst h; rw [if_pos ⟨rfl, hj⟩, if_pos (Nat.le_refl _)]
  · rw [if_neg (by omega)]
    by_cases h2 : j ≤ k
    · rw [if_pos h2, if_pos (by omega)]
    · rw [if_neg h2, if_neg (by omega)]
theorem wordAt_bound (xs : List Int) : ∀ k, 0 ≤ wordAt xs k ∧ wordAt xs k < 4294967296
  | 0 => by simp [wordAt]
  | 1 => by simp [wordAt]
  | k + 2 => by rw [wordAt]; omega

set_option maxHeartbeats 4000000 in
set_option maxRecDepth 1000000 in
theorem first_calls (xs : List Int) (w : World) (hl : xs.length = 16) (hb : ∀ j, 0 ≤ xs.getD j 0 ∧ xs.getD j 0 ≤ 1000) :
    Calls Try.prog 43 #[.agg (xs.map eI).toArray] w fun e w' => e = .returned (.agg ((wordsTo xs 16).map eU).toArray) ∧ Below w.heap.size w w' := by
  have u77 := Try.underlying77
  have a77 := Try.isAgg77
  have z77 := Try.sizeOf77
  have u80 := Try.underlying80
  have a80 := Try.isAgg80
  have z80 := Try.sizeOf80
  have HL : Hid (xs.length = 16) := hl
  have HB : Hid (∀ j, 0 ≤ xs.getD j 0 ∧ xs.getD j 0 ≤ 1000) := hb
  clear hl hb
  go_enter Try.func43, Try.ntmps43
  go_wp2_with fail
  obtain ⟨N, hN⟩ : ∃ N, w.heap.size = N := ⟨_, rfl⟩
  rw [hN]
  have HN : Hid (w.heap.size = N) := hN
  have e0 : ((wordsTo xs 1).map eU).toArray = #[Value.int IntKind.u32 0, Value.int IntKind.u32 0, Value.int IntKind.u32 0, Value.int IntKind.u32 0, Value.int IntKind.u32 0, Value.int IntKind.u32 0, Value.int IntKind.u32 0, Value.int IntKind.u32 0, Value.int IntKind.u32 0, Value.int IntKind.u32 0, Value.int IntKind.u32 0, Value.int IntKind.u32 0, Value.int IntKind.u32 0, Value.int IntKind.u32 0, Value.int IntKind.u32 0, Value.int IntKind.u32 0, Value.int IntKind.u32 0] := by rw [wordsTo_one]; rfl
  rw [← e0]
  obtain ⟨W0, hW0⟩ : ∃ W, ((w.alloc (.cells (xs.map eI).toArray 77)).alloc (.cells ((wordsTo xs 1).map eU).toArray 80)) = W := ⟨_, rfl⟩
  have R0 : Hid (Arr 77 eI W0 N xs) := by
    show _ = _
    rw [← hW0, ← hN, Below.heap_alloc _ _ _ (by simp)]
    exact heap_alloc_new _ _
  have R1 : Hid (Arr 80 eU W0 (N + 1) (wordsTo xs 1)) := by
    show _ = _
    rw [← hW0, ← hN]
    simpa using heap_alloc_new (w.alloc (.cells (xs.map eI).toArray 77)) (.cells ((wordsTo xs 1).map eU).toArray 80)
  have B0 : Hid (Below N w W0) := by
    show Below _ _ _
    rw [← hW0, ← hN]
    exact ((Below.refl _ _).alloc (Nat.le_refl _) _).alloc (by rw [World.size_alloc]; omega) _
  rw [hW0]
  clear hW0 e0 hN
  go_loopg [3] 16 (fun kx s3 wr => ∃ (k : Nat), s3 = .int .i64 k ∧ 1 ≤ k ∧ k ≤ 16 ∧ 16 - k ≤ kx ∧ Hid (Arr 77 eI wr N xs) ∧ Hid (Arr 80 eU wr (N + 1) (wordsTo xs k)) ∧ Hid (Below N w wr))
  case atStart => exact ⟨1, rfl, by omega, by omega, by omega, R0, R1, B0⟩
  case round =>
    obtain ⟨k, rfl, hk1, hk16, hkx, HA, HW, HBl⟩ := hrel
    by_cases hlt : k ≤ 15
    · have hltz : (k : Int) ≤ 15 := by omega
      obtain ⟨c, hc⟩ : ∃ c, c = xs.getD k 0 := ⟨_, rfl⟩
      obtain ⟨u, hu⟩ : ∃ u, u = wordAt xs k := ⟨_, rfl⟩
      have cc := HA.out.cell (j := k) (by rw [HL.out]; omega)
      rw [← hc] at cc
      have cu := HW.out.cell (j := k) (by rw [length_wordsTo]; omega)
      rw [wordsTo_getD _ _ _ (by omega), if_pos (Nat.le_refl _), ← hu] at cu
      have hcb : 0 ≤ c ∧ c ≤ 1000 := by rw [hc]; exact HB.out k
      have hub : 0 ≤ u ∧ u < 4294967296 := by rw [hu]; exact wordAt_bound xs k
      obtain ⟨hc0, hc1⟩ := hcb
      obtain ⟨hu0, hu1⟩ := hub
      have HC : Hid (c = xs.getD k 0) := hc
      have HU : Hid (u = wordAt xs k) := hu
      clear hc hu
      have pa : (0 : Int) ≤ (k : Int) + 1 := by omega
      have ba : (k : Int) + 1 < 17 := by omega
      have bk : (k : Int) < 16 := by omega
      have bk2 : (k : Int) < 17 := by omega
      have fa := HW.out.frozen (k + 1)
      have c1 := HW.out.cell (j := k + 1) (by rw [length_wordsTo]; omega)
      rw [wordsTo_getD _ _ _ (by omega), if_neg (by omega)] at c1
      go_wp2_with fail
      go_region
      obtain ⟨W1, hW1⟩ : ∃ W, (wr.setCell ⟨N + 1, k + 1, none⟩ (Value.int IntKind.u32 ((u + c) % 4294967296 * 2 % 4294967296))).drew = W := ⟨_, rfl⟩
      have A1 : Hid (Arr 77 eI W1 N xs) := by
        show _ = _
        rw [← hW1]
        show (wr.setCell ⟨N + 1, k + 1, none⟩ _).heap[N]? = _
        rw [Below.heap_setCell wr ⟨N + 1, k + 1, none⟩ _ N (by show N ≠ N + 1; omega)]
        exact HA.out
      have A2 : Hid (Arr 80 eU W1 (N + 1) (wordsTo xs (k + 1))) := by
        have h1 := HW.out.set (j := k + 1) (by rw [length_wordsTo]; omega) ((u + c) % 4294967296 * 2 % 4294967296)
        have e1 : (u + c) % 4294967296 * 2 % 4294967296 = wordAt xs (k + 1) := by
          obtain ⟨k', rfl⟩ : ∃ k', k = k' + 1 := ⟨k - 1, by omega⟩
          rw [wordAt, HU.out, HC.out, Int.mul_comm]
        rw [e1, wordsTo_step xs k (by omega)] at h1
        rw [e1] at hW1
        show _ = _
        rw [← hW1]
        exact h1
      have A3 : Hid (Below N w W1) := by
        show Below _ _ _
        rw [← hW1]
        exact (HBl.out.setCell (by show N ≤ N + 1; omega) _).drew
      rw [hW1]
      clear hW1 cc cu fa c1
      go_wp2_with fail
      go_roundg (16 - (k + 1))
      case measure => omega
      case rel => exact ⟨k + 1, by go_num, by omega, by omega, by omega, A1, A2, A3⟩
    · have hltz : ¬ (k : Int) ≤ 15 := by omega
      have hkk : k = 16 := by omega
      subst hkk
      obtain ⟨ys, hys⟩ : ∃ ys, ys = wordsTo xs 16 := ⟨_, rfl⟩
      have hyl : ys.length = 17 := by rw [hys]; exact length_wordsTo _ _
      rw [← hys] at HW
      have HY : Hid (ys = wordsTo xs 16) := hys
      clear hys
      go_wp2_with (first
          | ((with_reducible refine gate_dst (N := 20) rfl ?_); refine wpList_load_row rfl 80 (.tmp 2) rfl (N + 1) rfl 80 _ (0, 0) _ HW.out u80 rfl (size80 hyl) ?_)
          | ((with_reducible refine gate_store (t := 80) (p := 2) rfl ?_); refine wpList_store_row rfl 80 (.tmp 2) (.tmp 20) rfl (N + 1) _ rfl rfl 80 _ HW.out (size80 hyl) rfl (one_all _ _) ?_; rw [HW.out.same]))
      refine bodyPost_ret (results_cell_row (p := 2) (ty := 80) rfl _ _ (N + 1) 80 _ (0, 0) _ rfl HW.out u80 rfl (size80 hyl)) rfl ?_
      exact ⟨by rw [HY.out], by rw [HN.out]; exact HBl.out⟩

end Go.Proofs.Ythgijppajindpaa
