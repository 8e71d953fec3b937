/-
  bitio.Pack is walked; what a packed text's bits are; a packed symbol is read back.
-/
import Derived.Test.YthgijppajindpaaNxts
import Derived.RangeFuncBox
import Derived.Maps.AppendAt
import Derived.RangeFuncNested
import Derived.RangeFuncBound
import Derived.RangeFuncCalls
import Derived.RangeFuncLeaves
import Derived.Shelf.Abstract
import Derived.Shelf.RegionOpen
import Derived.WalkKit
import Derived.OwnWalkIn
import Derived.TacticsInMore
import Derived.LoopNIn
import Derived.LoopIn
import Derived.Laws.EntriesVeiled
import Derived.Test.YthgijppajindpaaSmal
set_option linter.unusedVariables false
set_option linter.unusedSimpArgs false
namespace Go.Proofs.Ythgijppajindpaa
open Go.RowKit Go.Proofs.YthgijppajindpaaW.PrintWords Go.Proofs.YthgijppajindpaaW.PrintLast Go.Proofs.YthgijppajindpaaW.PrintMore
attribute [local go_sem] max2_int min2_int max_two min_two

/-- What is flushed: what is held, how many bits, and the bytes. -/
def fl (least : Nat) : Nat → Nat → Nat → Nat × Nat × List Int
  | 0, h, d => (h, d, [])
  | k + 1, h, d => if least ≤ d ∧ 0 < d then ((fl least k (h / 256) (d - 8)).1, (fl least k (h / 256) (d - 8)).2.1, ((h % 256 : Nat) : Int) :: (fl least k (h / 256) (d - 8)).2.2) else (h, d, [])

theorem fl_go (least k h d : Nat) (h1 : least ≤ d) (h2 : 0 < d) : fl least (k + 1) h d = ((fl least k (h / 256) (d - 8)).1, (fl least k (h / 256) (d - 8)).2.1, ((h % 256 : Nat) : Int) :: (fl least k (h / 256) (d - 8)).2.2) := by
  rw [fl, if_pos ⟨h1, h2⟩]
theorem fl_stop (least k h d : Nat) (h1 : ¬ (least ≤ d ∧ 0 < d)) : fl least (k + 1) h d = (h, d, []) := by
  rw [fl, if_neg h1]

abbrev eB : Int → Value := Value.int .u8

theorem infoU8 : (Try.prog.info? 5).map (fun i => (i.zero, i.size, i.bytes)) = some (some (.int .u8 0), 1, 1) := by kernel_rfl

/-- The variables that a flush knows, and the row of bytes. -/
structure Fls (n₀ H B O : Nat) (w : World) (h d : Nat) (bs : List Int) : Prop where
  held : Boxed w H 3 (.int .i64 (d : Int))
  hold : Boxed w O 90 (.int .u64 (h : Int))
  row : ∃ v, Boxed w B 55 v ∧ w.ownsRow n₀ 5 1 v bs.length (bs.map eB)

theorem box_far {W : World} {B : Nat} {t : TypeId} {v : Value} (h : Boxed W B t v) {B' : Nat} (hne : B ≠ B') (u : Value) : Boxed (W.setCell ⟨B', 0, none⟩ u) B t v := h.kept (grownBy_setCell' W B' u) (by simpa using hne)
theorem box_over {W w1 : World} {n₀ B : Nat} {t e : TypeId} {size : Nat} {v u : Value} {k : Nat} {xs : List Value} {tmp : Obj} (h : Boxed W B t u) (hte : t ≠ e) (hrow : W.ownsRow n₀ e size v k xs) (hgrow : (W.alloc tmp).grownBy w1 v.ownBlock) : Boxed w1 B t u :=
  (h.alloc tmp).kept hgrow (h.not_row hte hrow)
theorem row_far {W : World} {n₀ : Nat} {e : TypeId} {v : Value} {k : Nat} {xs : List Value} (h : W.ownsRow n₀ e 1 v k xs) {B' : Nat} {t : TypeId} {x : Value} (hb : Boxed W B' t x) (hte : t ≠ e) (u : Value) : (W.setCell ⟨B', 0, none⟩ u).ownsRow n₀ e 1 v k xs :=
  h.kept (grownBy_setCell' W B' u) (.inr (hb.not_row hte h).symm)

theorem fls_step (n₀ H B O : Nat) (w wr w1 : World) (bs cs : List Int) (h' d' : Nat) (sv : Value) (hHB : H ≠ B) (hHO : H ≠ O) (hBO : B ≠ O) (hH : n₀ ≤ H) (hO : n₀ ≤ O)
    (HOt : ∀ Bx t u, Boxed w Bx t u → Bx ≠ H → Bx ≠ B → Bx ≠ O → t ≠ 5 → Boxed wr Bx t u) (HOT2 : ∀ Bx t u, Boxed wr Bx t u → t ≠ 5 → Boxed w1 Bx t u)
    (HV2 : Boxed (w1.setCell ⟨B, 0, none⟩ sv) B 55 sv) (HR2 : (w1.setCell ⟨B, 0, none⟩ sv).ownsRow n₀ 5 1 sv ((bs ++ cs).length + 1) ((bs ++ cs).map eB ++ [.int .u8 ((h' : Int) % 256)]))
    (HK2 : KeepsOthers wr (w1.setCell ⟨B, 0, none⟩ sv)) (HB2 : Below n₀ wr (w1.setCell ⟨B, 0, none⟩ sv)) (BO : Boxed w1 O 90 (.int .u64 (h' : Int))) (BH : Boxed w1 H 3 (.int .i64 (d' : Int))) (HK : KeepsOthers w wr) (HBl : Below n₀ w wr) :
    Fls n₀ H B O (((w1.setCell ⟨B, 0, none⟩ sv).setCell ⟨O, 0, none⟩ (.int .u64 ((h' : Int) / 256))).setCell ⟨H, 0, none⟩ (.int .i64 ((d' - 8 : Nat) : Int))) (h' / 256) (d' - 8) (bs ++ (cs ++ [((h' % 256 : Nat) : Int)])) ∧
    KeepsOthers w (((w1.setCell ⟨B, 0, none⟩ sv).setCell ⟨O, 0, none⟩ (.int .u64 ((h' : Int) / 256))).setCell ⟨H, 0, none⟩ (.int .i64 ((d' - 8 : Nat) : Int))) ∧
    Below n₀ w (((w1.setCell ⟨B, 0, none⟩ sv).setCell ⟨O, 0, none⟩ (.int .u64 ((h' : Int) / 256))).setCell ⟨H, 0, none⟩ (.int .i64 ((d' - 8 : Nat) : Int))) ∧
    (∀ Bx t u, Boxed w Bx t u → Bx ≠ H → Bx ≠ B → Bx ≠ O → t ≠ 5 → Boxed (((w1.setCell ⟨B, 0, none⟩ sv).setCell ⟨O, 0, none⟩ (.int .u64 ((h' : Int) / 256))).setCell ⟨H, 0, none⟩ (.int .i64 ((d' - 8 : Nat) : Int))) Bx t u) := by
  have bO1 := box_far BO (B' := B) (fun e => hBO e.symm) sv
  have bO2 := bO1.set (.int .u64 ((h' : Int) / 256))
  have bO3 := box_far bO2 (B' := H) (fun e => hHO e.symm) (.int .i64 ((d' - 8 : Nat) : Int))
  have bH1 := box_far (box_far BH (B' := B) hHB sv) (B' := O) hHO (.int .u64 ((h' : Int) / 256))
  have bH2 := bH1.set (.int .i64 ((d' - 8 : Nat) : Int))
  have bB1 := box_far (box_far HV2 (B' := O) hBO (.int .u64 ((h' : Int) / 256))) (B' := H) (fun e => hHB e.symm) (.int .i64 ((d' - 8 : Nat) : Int))
  have r1 := row_far (row_far HR2 bO1 (by decide) (.int .u64 ((h' : Int) / 256))) bH1 (by decide) (.int .i64 ((d' - 8 : Nat) : Int))
  refine ⟨⟨bH2, by rw [Int.natCast_ediv]; exact bO3, sv, bB1, ?_⟩, HK.trans ((HK2.trans (KeepsOthers.setCell _ _ _)).trans (KeepsOthers.setCell _ _ _)), HBl.trans ((HB2.setCell (p := ⟨O, 0, none⟩) hO _).setCell (p := ⟨H, 0, none⟩) hH _), fun Bx t u hb h1 h2 h3 h4 => ?_⟩
  · rw [← List.append_assoc, List.length_append (bs := [_]), List.map_append, Int.natCast_emod]
    exact r1
  · exact box_far (box_far (box_far (HOT2 Bx t u (HOt Bx t u hb h1 h2 h3 h4) h4) h2 _) h3 _) h1 _

set_option maxHeartbeats 4000000 in
set_option maxRecDepth 1000000 in
theorem flush_calls (n₀ H B O least q0 d : Nat) (bs : List Int) (w : World) (hl1 : 1 ≤ least) (hl2 : least ≤ 8) (hd : d ≤ 40) (hh : q0 < 18446744073709551616) (hbs : bs.length ≤ 1000000000) (hn : n₀ ≤ w.heap.size)
    (hH : n₀ ≤ H) (hB : n₀ ≤ B) (hO : n₀ ≤ O) (hHB : H ≠ B) (hHO : H ≠ O) (hBO : B ≠ O) (hF : Fls n₀ H B O w q0 d bs) :
    Calls Try.prog 50 #[.int .i64 (least : Int), .pointer (some ⟨H, 0, none⟩), .pointer (some ⟨B, 0, none⟩), .pointer (some ⟨O, 0, none⟩)] w fun e w' => e = .returned (.tuple #[]) ∧
      Fls n₀ H B O w' (fl least 8 q0 d).1 (fl least 8 q0 d).2.1 (bs ++ (fl least 8 q0 d).2.2) ∧ KeepsOthers w w' ∧ Below n₀ w w' ∧ (∀ Bx t u, Boxed w Bx t u → Bx ≠ H → Bx ≠ B → Bx ≠ O → t ≠ 5 → Boxed w' Bx t u) := by
  obtain ⟨i0, hi, hz0, hz1, hz2⟩ := info_parts infoU8
  have HI := hid hi
  have HZ0 := hid hz0
  have HZ1 := hid hz1
  have HZ2 := hid hz2
  clear hi hz0 hz1 hz2
  have HF := hid hF
  clear hF
  have und5 := Try.underlying5
  have und90 := Try.underlying90
  go_enter Try.func50, Try.ntmps50
  go_wp2_with fail
  go_loopg [] 9 (fun kx wr => ∃ (i h' d' : Nat) (cs : List Int), i ≤ 8 ∧ 8 - i ≤ kx ∧ d' + 8 * i ≤ 47 ∧ (d' = 0 ∨ d' + 8 * i ≤ 40) ∧ h' < 18446744073709551616 ∧ bs.length + cs.length ≤ 1000000000 + i ∧ Hid (cs.length = i) ∧ Hid (Fls n₀ H B O wr h' d' (bs ++ cs)) ∧ Hid (KeepsOthers w wr) ∧ Hid (Below n₀ w wr) ∧ Hid (∀ Bx t u, Boxed w Bx t u → Bx ≠ H → Bx ≠ B → Bx ≠ O → t ≠ 5 → Boxed wr Bx t u) ∧
    Hid (fl least 8 q0 d = ((fl least (8 - i) h' d').1, (fl least (8 - i) h' d').2.1, cs ++ (fl least (8 - i) h' d').2.2)))
  case atStart => exact ⟨0, q0, d, [], by omega, by omega, by omega, by omega, hh, by simp; omega, hid rfl, by rw [List.append_nil]; exact HF, KeepsOthers.refl _, Below.refl _ _, hid (fun _ _ _ hb _ _ _ _ => hb), hid rfl⟩
  case round =>
    obtain ⟨i, h', d', cs, hi8, hikx, hdi, hdi2, hh', hbl, HCL, HFr, HK, HBl, HOt, HE⟩ := hrel
    obtain ⟨b1, b2, v, b3, hrow⟩ := HFr.out
    have c1 := b1.cell
    have f1 := b1.frozen
    have c2 := b2.cell
    have f2 := b2.frozen
    have c3 := b3.cell
    have f3 := b3.frozen
    have B1 := hid b1
    have B2 := hid b2
    have B3 := hid b3
    have HROW := hid hrow
    clear b1 b2 b3 hrow
    by_cases hc : least ≤ d' ∧ 0 < d'
    · obtain ⟨hc1, hc2⟩ := hc
      have hi4 : i ≤ 4 := by omega
      have hsz := HBl.out.size
      have hnl : (bs ++ cs).length = bs.length + cs.length := List.length_append
      have HNL := hid hnl
      have hnl2 : (bs ++ cs).length ≤ 1000000008 := by omega
      clear hnl
      go_wp2_with (at_builtin; refine wpList_append_own _ rfl _ _ 55 rfl n₀ 5 i0 (.int .u8 0) 1 1 Try.underlying55 HI.out HZ0.out HZ1.out HZ2.out rfl (by decide) _ _ _ rfl (HROW.out.alloc _) ⟨wr.heap.size, 0, none⟩ 1 1 [.int .u8 ((h' : Int) % 256)] rfl rfl (cell_one_new _ _ _) (by simp [Value.oneCell']) (by unfold maxLen; omega) (by omega) (by simp; omega) ?_; intro v' w1 hown' hgrow _; obtain ⟨g', cap', rfl⟩ := ownsRow_succ hown'; obtain ⟨hv1, hv2, hr2, hk2, hb2⟩ := B3.out.appended (by decide) HROW.out (Nat.le_trans hn hsz) hB hown' hgrow; have hc1 := hv1.cell; have hf1 := hv1.frozen; have bO := box_over B2.out (by decide) HROW.out hgrow; have bH := box_over B1.out (by decide) HROW.out hgrow; have cO := bO.cell; have fO := bO.frozen; have cH := bH.cell; have fH := bH.frozen; have HOT2 : Hid (∀ Bx t u, Boxed wr Bx t u → t ≠ 5 → Boxed w1 Bx t u) := hid (fun Bx t u hb ht => box_over hb ht HROW.out hgrow); have HV2 := hid hv2; have HR2 := hid hr2; have HK2 := hid hk2; have HB2 := hid hb2; have BO := hid bO; have BH := hid bH; clear hown' hgrow hv1 hv2 hr2 hk2 hb2 bO bH)
      all_goals
        go_roundg (8 - (i + 1))
        case measure => omega
        case rel =>
          have hst := fls_step n₀ H B O w wr w1 bs cs h' d' (.slice (some ⟨g', 0, none⟩) ((bs ++ cs).length + 1) cap') hHB hHO hBO hH hO HOt.out HOT2.out HV2.out HR2.out HK2.out HB2.out BO.out BH.out HK.out HBl.out
          rw [HNL.out] at hst
          obtain ⟨s1, s2, s3, s4⟩ := hst
          have HEE : Hid (fl least 8 q0 d = ((fl least (8 - (i + 1)) (h' / 256) (d' - 8)).1, (fl least (8 - (i + 1)) (h' / 256) (d' - 8)).2.1, (cs ++ [((h' % 256 : Nat) : Int)]) ++ (fl least (8 - (i + 1)) (h' / 256) (d' - 8)).2.2)) := by
            show _ = _
            have he := HE.out
            rw [show 8 - i = (8 - (i + 1)) + 1 by omega, fl_go least _ h' d' (by omega) (by omega)] at he
            rw [he, List.append_assoc]
            rfl
          have hdd : (d' : Int) - 8 = ((d' - 8 : Nat) : Int) ∨ (0 : Int) = ((d' - 8 : Nat) : Int) := by omega
          refine ⟨i + 1, h' / 256, d' - 8, cs ++ [((h' % 256 : Nat) : Int)], by omega, by omega, by omega, by omega, by omega, by simp; omega, hid (by simp [HCL.out]), ?_⟩
          first
            | (have hz : (0 : Int) = ((d' - 8 : Nat) : Int) := by omega
               rw [hz]
               exact ⟨s1, s2, s3, s4, HEE⟩)
            | (have hz : (d' : Int) - 8 = ((d' - 8 : Nat) : Int) := by omega
               rw [hz]
               exact ⟨s1, s2, s3, s4, HEE⟩)
    · have hc2 : d' < least ∨ d' = 0 := by omega
      have HEN : Hid (fl least 8 q0 d = (h', d', cs)) := by
        show _ = _
        have he := HE.out
        by_cases e8 : i = 8
        · rw [e8] at he
          rw [he]
          simp [fl]
        · rw [show 8 - i = (7 - i) + 1 by omega, fl_stop least _ h' d' hc] at he
          rw [he]
          simp
      clear hc
      have hc3 : (d' : Int) < least ∨ ¬ (0 : Int) < d' := by omega
      clear hc2
      rcases hc3 with hc3 | hc3
      all_goals
        go_wp2_with fail
        all_goals
          go_end0
          rw [HEN.out]
          exact ⟨rfl, HFr.out, HK.out, HBl.out, HOt.out⟩

end Go.Proofs.Ythgijppajindpaa

namespace Go.Proofs.Ythgijppajindpaa
open Go.RowKit Go.Shelf Go.Proofs.YthgijppajindpaaW.PrintWords Go.Proofs.YthgijppajindpaaW.PrintLast Go.Proofs.YthgijppajindpaaW.PrintMore Go.Proofs.Ythgijppajindpaa.K7
attribute [local go_sem] Oper.semAt_some

/-- A piece that may be. -/
def okP (p : S42) : Prop := 0 ≤ p.f0 ∧ 0 ≤ p.f1 ∧ p.f1 ≤ 24 ∧ p.f0 < 2 ^ p.f1.toNat
instance (p : S42) : Decidable (okP p) := by unfold okP; exact inferInstance
def mayB (p : S42) : Bool := decide (okP p)
abbrev MP := { p : S42 // okP p }
def pick (ps : List S42) : List MP := ps.filterMap fun p => if h : okP p then some ⟨p, h⟩ else none
theorem pick_snoc_yes (ps : List S42) (p : S42) (h : okP p) : pick (ps ++ [p]) = pick ps ++ [⟨p, h⟩] := by simp [pick, h]
theorem pick_snoc_no (ps : List S42) (p : S42) (h : ¬ okP p) : pick (ps ++ [p]) = pick ps := by simp [pick, h]
theorem pick_le (ps : List S42) : (pick ps).length ≤ ps.length := List.length_filterMap_le _ _

set_option maxHeartbeats 4000000 in
theorem may_calls (p : S42) (w : World) (h0 : 0 ≤ p.f0) (h32 : p.f0 < 4294967296) :
    Calls Try.prog 72 #[.agg #[.int .u32 p.f0, .int .i64 p.f1]] w fun e w' => e = .returned (.bool (mayB p)) ∧ Below w.heap.size w w' := by
  obtain ⟨x, y⟩ := p
  dsimp only at h0 h32 ⊢
  by_cases h1 : 0 ≤ y
  · by_cases h2 : y ≤ 24
    · obtain ⟨k, rfl⟩ : ∃ k : Nat, y = k := ⟨y.toNat, by omega⟩
      have hk : (k : Int) ≤ 24 := h2
      have e : mayB ⟨x, (k : Int)⟩ = (x / 2 ^ k == 0) := by
        have hp : (0 : Int) < 2 ^ k := by have := Nat.two_pow_pos k; exact_mod_cast this
        unfold mayB
        rw [Bool.eq_iff_iff, decide_eq_true_iff, beq_iff_eq]
        unfold okP
        dsimp only
        rw [Int.toNat_natCast]
        constructor
        · rintro ⟨_, _, _, h⟩; exact Int.ediv_eq_zero_of_lt h0 h
        · intro h
          refine ⟨h0, h1, h2, ?_⟩
          have := Int.lt_ediv_add_one_mul_self x hp
          rw [h] at this
          omega
      rw [e]
      go_enter Try.func72, Try.ntmps72
      go_wp2
      go_ret
      exact ⟨rfl, (Below.refl _ _).alloc (Nat.le_refl _) _⟩
    · have e : mayB ⟨x, y⟩ = false := by
        unfold mayB
        rw [decide_eq_false]
        rintro ⟨_, _, h, _⟩
        exact h2 h
      rw [e]
      go_enter Try.func72, Try.ntmps72
      go_wp2
      go_ret
      exact ⟨rfl, (Below.refl _ _).alloc (Nat.le_refl _) _⟩
  · have e : mayB ⟨x, y⟩ = false := by
      unfold mayB
      rw [decide_eq_false]
      rintro ⟨_, h, _, _⟩
      exact h1 h
    rw [e]
    go_enter Try.func72, Try.ntmps72
    go_wp2
    go_ret
    exact ⟨rfl, (Below.refl _ _).alloc (Nat.le_refl _) _⟩

/-- A row of pieces that is read. -/
def Rdp (w : World) (A : Option Addr) (n : Nat) (ps : List S42) : Prop := ps.length = n ∧ (0 < n → ∃ b off, A = some ⟨b, off, none⟩ ∧ b < w.heap.size ∧ ∀ j, j < n → w.cell? ⟨b, off + j * 2, none⟩ = some (.int .u32 (ps.getD j z42).f0) ∧ w.cell? ⟨b, off + j * 2 + 1, none⟩ = some (.int .i64 (ps.getD j z42).f1))

theorem right_calls (A : Option Addr) (n c : Nat) (w : World) :
    Calls Try.prog 51 #[.slice A n c] w fun e w' => e = .returned (.func (.func 71) #[] #[.pointer (some ⟨w.heap.size, 0, none⟩)]) ∧ w' = w.alloc (.cells #[.slice A n c] 32) := by
  go_enter Try.func51, Try.ntmps51
  go_wp2
  go_ret
  exact ⟨rfl, rfl⟩

theorem takeP_snoc {ps : List S42} {i : Nat} (hi : i < ps.length) : ps.take (i + 1) = ps.take i ++ [ps.getD i z42] := by
  rw [List.take_succ_eq_append_getElem hi, List.getD_eq_getElem?_getD, List.getElem?_eq_getElem hi]; rfl

set_option maxRecDepth 100000 in
set_option maxHeartbeats 4000000 in
theorem right1_in (N l Bs n₀ : Nat) (hN : 2 ≤ N) (A : Option Addr) (n c : Nat) (ps : List S42) (hn : n ≤ 1000000) (hps : ∀ p, p ∈ ps → 0 ≤ p.f0 ∧ p.f0 < 4294967296) (J Jx : List MP → World → Prop) (B0 : Nat) (hJ : AbidesFrom B0 J) (hJx : AbidesFrom B0 Jx)
    (hY : ∀ pre x W, J pre W → pre.length < n → YieldAt Fence.wide (N - 1) Try.prog l #[.agg #[.int .u32 x.1.f0, .int .i64 x.1.f1]] W fun e W' =>
      (e = .returned (.bool true) ∧ J (pre ++ [x]) W' ∧ Below n₀ W W') ∨ (e = .returned (.bool false) ∧ Jx (pre ++ [x]) W'))
    (W : World) (hBs : W.cell? ⟨Bs, 0, none⟩ = some (.slice A n c)) (hR : Rdp W A n ps) (hA : ∀ ad, A = some ad → 0 < n → ad.block < n₀) (hn₀ : n₀ ≤ W.heap.size) (h0 : J [] W) :
    CallsIn Fence.wide N Try.prog 71 #[.func (.yield l) #[] #[], .pointer (some ⟨Bs, 0, none⟩)] W fun e W' => (∃ v, e = .returned v) ∧
      ((∃ ys, ys = pick ps ∧ J ys W') ∨ (∃ pre, True ∧ Jx pre W')) := by
  have HR := hid hR
  have HY := hid hY
  have HJ := hid hJ
  have HPS := hid hps
  have HA := hid hA
  clear hR hY hJ hps hA
  refine callsIn_of_wp Try.func71 rfl trivial ?_ rfl
  simp only [Try.ntmps71, List.size_toArray, List.length_cons, List.length_nil, Nat.reduceAdd, Nat.reduceSub, Array.replicate_succ, Array.replicate_zero, List.push_toArray, List.append_toArray, List.nil_append, List.cons_append]
  gi_wp2
  gi_loopw [7] (fun i wr => ∃ k : Nat, k ≤ n ∧ i = .int .i64 k ∧ Hid (J (pick (ps.take k)) wr) ∧ Hid (Below n₀ W wr))
    (fun i _ => n - (intOf i).toNat)
  case atStart => exact ⟨0, Nat.zero_le _, rfl, h0, Below.refl _ _⟩
  case round =>
    obtain ⟨k, hk, rfl, hJs, hnx⟩ := hrel
    by_cases hlt : k < n
    · have hltz : (k : Int) < n := by omega
      obtain ⟨b, off, rfl, hb, hcell⟩ := HR.out.2 (by omega)
      have hbn := HA.out _ rfl (by omega)
      obtain ⟨⟨x, y⟩, hp⟩ : ∃ p, p = ps.getD k z42 := ⟨_, rfl⟩
      obtain ⟨hc0, hc1⟩ := hcell k hlt
      rw [← hp] at hc0 hc1
      have hc0' := (hnx.out.cell (p := ⟨b, off + k * 2, none⟩) hbn).trans hc0
      have hc1' := (hnx.out.cell (p := ⟨b, off + k * 2 + 1, none⟩) hbn).trans hc1
      dsimp only at hc0' hc1'
      clear hcell hc0 hc1
      have hxb := HPS.out ⟨x, y⟩ (by rw [hp, List.getD_eq_getElem?_getD, List.getElem?_eq_getElem (by rw [HR.out.1]; exact hlt)]; exact List.getElem_mem _)
      dsimp only at hxb
      have HT := hid (takeP_snoc (ps := ps) (i := k) (by rw [HR.out.1]; exact hlt))
      rw [← hp] at HT
      clear hp
      obtain ⟨m, hm⟩ : ∃ m, wr.heap.size = m := ⟨_, rfl⟩
      have HM := hid hm
      have hJ1 : ∀ w1, Below (m + 1) (wr.alloc (.cells #[.int .u32 x, .int .i64 y] 42)) w1 → J (pick (ps.take k)) w1 := fun w1 hb1 =>
        HJ.out _ _ _ none (HJ.out _ _ _ none hJs.out (World.grownBy_alloc _ _ none) (fun r e => by cases e)) (grown_of_below (hb1.mono (by rw [World.size_alloc, HM.out]; exact Nat.le_refl _)) none) (fun r e => by cases e)
      have HJ1 := hid hJ1
      have hB1 : ∀ w1, Below (m + 1) (wr.alloc (.cells #[.int .u32 x, .int .i64 y] 42)) w1 → Below n₀ W w1 := fun w1 hb1 =>
        (hnx.out.alloc (Nat.le_trans hn₀ hnx.out.size) _).trans (hb1.mono (by have := hnx.out.size; rw [HM.out] at this; omega))
      have HB1 := hid hB1
      have hx0 : ∀ w1, Below (m + 1) (wr.alloc (.cells #[.int .u32 x, .int .i64 y] 42)) w1 → w1.cell? ⟨m, 0, none⟩ = some (.int .u32 x) ∧ w1.cell? ⟨m, 1, none⟩ = some (.int .i64 y) := fun w1 hb1 =>
        ⟨(hb1.cell (p := ⟨m, 0, none⟩) (Nat.lt_succ_self _)).trans (by rw [← HM.out]; simp [go_sem]), (hb1.cell (p := ⟨m, 1, none⟩) (Nat.lt_succ_self _)).trans (by rw [← HM.out]; simp [go_sem])⟩
      have HX0 := hid hx0
      have hmay := may_calls ⟨x, y⟩ (wr.alloc (.cells #[.int .u32 x, .int .i64 y] 42)) hxb.1 hxb.2
      rw [World.size_alloc, hm] at hmay
      have hkl : (pick (ps.take k)).length < n := Nat.lt_of_le_of_lt (pick_le _) (by rw [List.length_take]; omega)
      have HKL := hid hkl
      clear hm hJ1 hB1 hx0 hkl
      by_cases hok : okP ⟨x, y⟩
      · have hmb : mayB ⟨x, y⟩ = true := by unfold mayB; exact decide_eq_true hok
        rw [hmb] at hmay
        have HMAY := hid hmay
        have HT2 := hid (pick_snoc_yes (ps.take k) ⟨x, y⟩ hok)
        clear hmb hmay
        gi_wp2_with fail
        rw [HM.out]
        refine ⟨trivial, fun h => by (cases h), ?_⟩
        refine CallsIn.mono (callsIn_wide.2 HMAY.out) ?_
        rintro e w1 ⟨rfl, hb1⟩
        obtain ⟨hz0, hz1⟩ := HX0.out w1 hb1
        have HBW := hid (HB1.out w1 hb1)
        obtain ⟨fn, tmps, assign, body, hy, hR⟩ := HY.out (pick (ps.take k)) ⟨⟨x, y⟩, hok⟩ w1 (HJ1.out w1 hb1) HKL.out
        dsimp only at hy
        have HRR := hid hR
        clear hb1 hR
        gi_wp2
        refine ⟨fun h => by (cases h), ?_⟩
        refine RoundIn.mono HRR.out ?_
        rintro e W3 (⟨rfl, hJ3, hk3⟩ | ⟨rfl, hJx3⟩)
        · have HJ3 := hid hJ3
          have HK3 := hid hk3
          clear hJ3 hk3
          gi_wp2
          go_roundw
          case rel => exact ⟨k + 1, by omega, by go_num, by show J _ _; rw [HT.out, HT2.out]; exact HJ3.out, HBW.out.trans HK3.out⟩
          case measure => simp [intOf]; omega
        · have HJ3 := hid hJx3
          clear hJx3
          gi_wp2
          refine bodyPost_ret (results_none rfl _ _ _) rfl ?_
          exact ⟨⟨_, rfl⟩, .inr ⟨_, trivial, HJ3.out⟩⟩
      · have hmb : mayB ⟨x, y⟩ = false := by unfold mayB; exact decide_eq_false hok
        rw [hmb] at hmay
        have HMAY := hid hmay
        have HT2 := hid (pick_snoc_no (ps.take k) ⟨x, y⟩ hok)
        clear hmb hmay
        gi_wp2_with fail
        rw [HM.out]
        refine ⟨trivial, fun h => by (cases h), ?_⟩
        refine CallsIn.mono (callsIn_wide.2 HMAY.out) ?_
        rintro e w1 ⟨rfl, hb1⟩
        have HBW := hid (HB1.out w1 hb1)
        have HJW := hid (HJ1.out w1 hb1)
        clear hb1
        gi_wp2_with fail
        refine ⟨fun _ h => by (cases h), ?_⟩
        gi_wp2
        go_roundw
        case rel => exact ⟨k + 1, by omega, by go_num, by show J _ _; rw [HT.out, HT2.out]; exact HJW.out, HBW.out⟩
        case measure => simp [intOf]; omega
    · obtain rfl : k = n := by omega
      gi_wp2
      go_end0
      have e : ps.take k = ps := List.take_of_length_le (by rw [HR.out.1]; exact Nat.le_refl _)
      have hJs' := hJs.out
      rw [e] at hJs'
      exact ⟨⟨_, rfl⟩, .inl ⟨_, rfl, hJs'⟩⟩

end Go.Proofs.Ythgijppajindpaa

namespace Go.Proofs.Ythgijppajindpaa
open Go.RowKit Go.Shelf Go.Proofs.YthgijppajindpaaW.PrintWords Go.Proofs.YthgijppajindpaaW.PrintLast Go.Proofs.YthgijppajindpaaW.PrintMore Go.Proofs.Ythgijppajindpaa.K7
attribute [local go_sem] Oper.semAt_some

/-- One piece more: what is held, how many bits, the bytes. -/
def pstep (st : Nat × Nat × List Int) (x : MP) : Nat × Nat × List Int :=
  ((fl 8 8 (st.1 + x.1.f0.toNat * 2 ^ st.2.1) (st.2.1 + x.1.f1.toNat)).1, (fl 8 8 (st.1 + x.1.f0.toNat * 2 ^ st.2.1) (st.2.1 + x.1.f1.toNat)).2.1, st.2.2 ++ (fl 8 8 (st.1 + x.1.f0.toNat * 2 ^ st.2.1) (st.2.1 + x.1.f1.toNat)).2.2)
def pst (xs : List MP) : Nat × Nat × List Int := xs.foldl pstep (0, 0, [])
theorem pst_snoc (xs : List MP) (x : MP) : pst (xs ++ [x]) = pstep (pst xs) x := by simp [pst]
/-- All the bytes. -/
def packed (xs : List MP) : List Int := (pst xs).2.2 ++ (fl 1 8 (pst xs).1 (pst xs).2.1).2.2
/-- P6.1. -/
def Pack (ps : List S42) : ByteArray × Int := if (pick ps).length < ps.length then (ByteArray.empty, 1) else (strOfNums (packed (pick ps)), 0)

theorem fl_eight (k : Nat) : ∀ h d, d / 8 ≤ k → (fl 8 k h d).1 = h / 2 ^ (8 * (d / 8)) ∧ (fl 8 k h d).2.1 = d % 8 ∧ (fl 8 k h d).2.2 = (List.range (d / 8)).map fun j => ((h / 2 ^ (8 * j) % 256 : Nat) : Int) := by
  induction k with
  | zero =>
    intro h d hk
    have e : d / 8 = 0 := by omega
    rw [e]
    exact ⟨by simp [fl], by simp only [fl]; omega, rfl⟩
  | succ k ih =>
    intro h d hk
    by_cases hc : 8 ≤ d ∧ 0 < d
    · obtain ⟨i1, i2, i3⟩ := ih (h / 256) (d - 8) (by omega)
      rw [fl_go 8 k h d hc.1 hc.2]
      have e : d / 8 = (d - 8) / 8 + 1 := by omega
      have hq : ∀ j, h / 256 / 2 ^ (8 * j) = h / 2 ^ (8 * (j + 1)) := fun j => by
        rw [Nat.div_div_eq_div_mul, show (256 : Nat) = 2 ^ 8 from rfl, ← Nat.pow_add]
        congr 2
        omega
      refine ⟨by rw [i1, hq, e], by rw [i2]; omega, ?_⟩
      rw [i3, e, List.range_succ_eq_map, List.map_cons, List.map_map]
      rw [List.cons.injEq]
      refine ⟨by simp, List.map_congr_left fun j _ => ?_⟩
      show ((h / 256 / 2 ^ (8 * j) % 256 : Nat) : Int) = ((h / 2 ^ (8 * (j + 1)) % 256 : Nat) : Int)
      rw [hq]
    · rw [fl_stop 8 k h d hc]
      have e : d / 8 = 0 := by omega
      rw [e]
      exact ⟨by simp, by show d = d % 8; omega, rfl⟩
theorem fl_one (k : Nat) : ∀ h d, (d + 7) / 8 ≤ k → (fl 1 k h d).2.1 = 0 ∧ (fl 1 k h d).2.2 = (List.range ((d + 7) / 8)).map fun j => ((h / 2 ^ (8 * j) % 256 : Nat) : Int) := by
  induction k with
  | zero =>
    intro h d hk
    have e : (d + 7) / 8 = 0 := by omega
    rw [e]
    exact ⟨by simp only [fl]; omega, rfl⟩
  | succ k ih =>
    intro h d hk
    by_cases hc : 1 ≤ d ∧ 0 < d
    · obtain ⟨i2, i3⟩ := ih (h / 256) (d - 8) (by omega)
      rw [fl_go 1 k h d hc.1 hc.2]
      have e : (d + 7) / 8 = (d - 8 + 7) / 8 + 1 := by omega
      have hq : ∀ j, h / 256 / 2 ^ (8 * j) = h / 2 ^ (8 * (j + 1)) := fun j => by
        rw [Nat.div_div_eq_div_mul, show (256 : Nat) = 2 ^ 8 from rfl, ← Nat.pow_add]
        congr 2
        omega
      refine ⟨i2, ?_⟩
      rw [i3, e, List.range_succ_eq_map, List.map_cons, List.map_map]
      rw [List.cons.injEq]
      refine ⟨by simp, List.map_congr_left fun j _ => ?_⟩
      show ((h / 256 / 2 ^ (8 * j) % 256 : Nat) : Int) = ((h / 2 ^ (8 * (j + 1)) % 256 : Nat) : Int)
      rw [hq]
    · rw [fl_stop 1 k h d hc]
      have e : (d + 7) / 8 = 0 := by omega
      rw [e]
      exact ⟨by show d = 0; omega, rfl⟩

theorem or_low {h k d : Nat} (hh : h < 2 ^ d) (hd : d < 32) {m : Nat} (h1 : h + k * 2 ^ d < m) (h2 : m ≤ 2147483648) : Go.bits .or .u64 (h : Int) (IntKind.u64.wrap (IntKind.u64.wrap (k : Int) * 2 ^ d)) = ((h + k * 2 ^ d : Nat) : Int) := by
  have hp : 0 < 2 ^ d := Nat.two_pow_pos d
  have hk : k ≤ k * 2 ^ d := Nat.le_mul_of_pos_right k hp
  have e : IntKind.u64.wrap (IntKind.u64.wrap (k : Int) * 2 ^ d) = ((k * 2 ^ d : Nat) : Int) := by
    have e1 : IntKind.u64.wrap (k : Int) = (k : Int) := by rw [IntKind.wrap_u64]; omega
    have e2 : (k : Int) * 2 ^ d = ((k * 2 ^ d : Nat) : Int) := by push_cast; rfl
    rw [e1, e2, IntKind.wrap_u64]
    omega
  rw [e, or_u64 (by omega) (by omega)]
  congr 1
  have h3 := Nat.two_pow_add_eq_or_of_lt (i := d) (b := h) hh k
  rw [Nat.mul_comm k, Nat.add_comm h, h3, Nat.or_comm]

/-- One piece, a number and a width. -/
theorem MP.nat (x : MP) : ∃ a b : Nat, x.1 = ⟨(a : Int), (b : Int)⟩ ∧ b ≤ 24 ∧ a < 2 ^ b := by
  obtain ⟨⟨a, b⟩, h1, h2, h3, h4⟩ := x
  dsimp only at h1 h2 h3 h4
  obtain ⟨a, rfl⟩ := Int.eq_ofNat_of_zero_le h1
  obtain ⟨b, rfl⟩ := Int.eq_ofNat_of_zero_le h2
  refine ⟨a, b, rfl, by omega, ?_⟩
  rw [Int.toNat_natCast] at h4
  exact_mod_cast h4

structure PInv (st : Nat × Nat × List Int) (n : Nat) : Prop where
  d : st.2.1 < 8
  h : st.1 < 2 ^ st.2.1
  l : st.2.2.length ≤ 4 * n

theorem step_bound {h d a b : Nat} (hd : d < 8) (hh : h < 2 ^ d) (hb : b ≤ 24) (ha : a < 2 ^ b) : h + a * 2 ^ d < 2 ^ (d + b) ∧ 2 ^ (d + b) ≤ 2147483648 := by
  constructor
  · rw [Nat.pow_add]
    have : (a + 1) * 2 ^ d ≤ 2 ^ b * 2 ^ d := Nat.mul_le_mul_right _ ha
    rw [Nat.add_mul, Nat.one_mul] at this
    rw [Nat.mul_comm (2 ^ d)]
    omega
  · exact Nat.le_trans (Nat.pow_le_pow_right (by decide) (show d + b ≤ 31 by omega)) (by decide)

theorem pstep_inv {st : Nat × Nat × List Int} {n : Nat} (h : PInv st n) (x : MP) : PInv (pstep st x) (n + 1) := by
  obtain ⟨a, b, hx, hb, ha⟩ := x.nat
  obtain ⟨s1, s2⟩ := step_bound h.d h.h hb ha
  obtain ⟨f1, f2, f3⟩ := fl_eight 8 (st.1 + a * 2 ^ st.2.1) (st.2.1 + b) (by have := h.d; omega)
  unfold pstep
  rw [hx]
  dsimp only
  rw [Int.toNat_natCast, Int.toNat_natCast]
  refine ⟨by rw [f2]; exact Nat.mod_lt _ (by decide), ?_, ?_⟩
  · rw [f1, f2, Nat.div_lt_iff_lt_mul (Nat.two_pow_pos _), ← Nat.pow_add]
    have : (st.2.1 + b) % 8 + 8 * ((st.2.1 + b) / 8) = st.2.1 + b := by omega
    rw [this]
    exact s1
  · rw [f3]
    have h1 := h.l
    have h2 := h.d
    simp
    omega
theorem pst_inv (xs : List MP) : PInv (pst xs) xs.length := by
  have key : ∀ (n : Nat) (ys : List MP), ys.length = n → PInv (pst ys) n := by
    intro n
    induction n with
    | zero =>
      intro ys hy
      rw [List.length_eq_zero_iff.1 hy]
      exact ⟨by decide, by decide, by decide⟩
    | succ n ih =>
      intro ys hy
      rcases List.eq_nil_or_concat ys with rfl | ⟨zs, z, rfl⟩
      · simp at hy
      · rw [List.concat_eq_append] at hy ⊢
        rw [pst_snoc]
        exact pstep_inv (ih zs (by simpa using hy)) z
  exact key _ xs rfl

theorem Rdp.below {w w' : World} {A : Option Addr} {n : Nat} {ps : List S42} (h : Rdp w A n ps) (hb : Below w.heap.size w w') : Rdp w' A n ps := by
  refine ⟨h.1, fun h0 => ?_⟩
  obtain ⟨b, off, e, hlt, hc⟩ := h.2 h0
  exact ⟨b, off, e, Nat.lt_of_lt_of_le hlt hb.size, fun j hj => ⟨(hb.cell (p := ⟨b, off + j * 2, none⟩) hlt).trans (hc j hj).1, (hb.cell (p := ⟨b, off + j * 2 + 1, none⟩) hlt).trans (hc j hj).2⟩⟩

theorem fls_own {β : Type} (n₀ H B O : Nat) (h d : β → Nat) (bs : β → List Int) : Own (fun (s : β) W => Fls n₀ H B O W (h s) (d s) (bs s)) := by
  intro s X Y row hs hg hr
  obtain ⟨v, hv⟩ := hs.row
  refine ⟨boxed_own H 3 (fun s => .int .i64 (d s : Int)) s X Y row hs.held hg hr, boxed_own O 90 (fun s => .int .u64 (h s : Int)) s X Y row hs.hold hg hr, ?_⟩
  obtain ⟨v', h1, h2, _⟩ := holdsRow_own n₀ B 55 5 1 (fun s => (bs s).length) (fun s => (bs s).map eB) (fun _ _ => True) s X Y row ⟨v, hv.1, hv.2, trivial⟩ hg hr
  exact ⟨v', h1, h2⟩

theorem Fls.set2 {n₀ H B O : Nat} {W : World} {h d : Nat} {bs : List Int} (hF : Fls n₀ H B O W h d bs) (hHB : H ≠ B) (hHO : H ≠ O) (hBO : B ≠ O) (V q : Nat) :
    Fls n₀ H B O ((W.setCell ⟨O, 0, none⟩ (.int .u64 (V : Int))).setCell ⟨H, 0, none⟩ (.int .i64 (q : Int))).drew V q bs := by
  obtain ⟨h1, h2, v, h3, h4⟩ := hF
  have b2 := h2.set (.int .u64 (V : Int))
  have b1 := box_far h1 (B' := O) hHO (.int .u64 (V : Int))
  exact ⟨b1.set _, box_far b2 (fun e => hHO e.symm) _, v, box_far (box_far h3 (B' := O) hBO _) (B' := H) (fun e => hHB e.symm) _, row_far (row_far h4 h2 (by decide) _) b1 (by decide) _⟩
theorem Fls.far {n₀ H B O : Nat} {W : World} {h d : Nat} {bs : List Int} (hF : Fls n₀ H B O W h d bs) {M : Nat} {y : Value} (hM : Boxed W M 3 y) (h1 : H ≠ M) (h2 : B ≠ M) (h3 : O ≠ M) (u : Value) : Fls n₀ H B O (W.setCell ⟨M, 0, none⟩ u) h d bs := by
  obtain ⟨b1, b2, v, b3, b4⟩ := hF
  exact ⟨box_far b1 h1 _, box_far b2 h3 _, v, box_far b3 h2 _, row_far b4 hM (by decide) _⟩
theorem pst_step {pre : List MP} {x : MP} {k q h d V : Nat} (hx : x.1 = ⟨(k : Int), (q : Int)⟩) (hh : (pst pre).1 = h) (hd : (pst pre).2.1 = d) (hV : h + k * 2 ^ d = V) :
    pst (pre ++ [x]) = ((fl 8 8 V (d + q)).1, (fl 8 8 V (d + q)).2.1, (pst pre).2.2 ++ (fl 8 8 V (d + q)).2.2) := by
  rw [pst_snoc, pstep, hx, hh, hd]
  dsimp only
  rw [Int.toNat_natCast, Int.toNat_natCast, hV]
theorem Fls.alloc {n₀ H B O : Nat} {W : World} {h d : Nat} {bs : List Int} (hF : Fls n₀ H B O W h d bs) (o : Obj) : Fls n₀ H B O (W.alloc o) h d bs := by
  obtain ⟨h1, h2, v, h3, h4⟩ := hF
  exact ⟨h1.alloc _, h2.alloc _, v, h3.alloc _, h4.alloc _⟩
/-- A piece in a block of its own. -/
def PBox (W : World) (B : Nat) (x : MP) : Prop := W.heap[B]? = some (.cells #[.int .u32 x.1.f0, .int .i64 x.1.f1] 42 (0, 0))
theorem pbox_own (B : Nat) (x : MP) : Own (fun (_ : Unit) W => PBox W B x) := fun s X Y row hs hg hrow =>
  (hg.block B (Array.getElem?_eq_some_iff.1 hs).1 (fun e' => by obtain ⟨o, ho, hc⟩ := hrow B e'.symm; rw [show X.heap[B]? = _ from hs] at ho; cases ho; cases hc)).trans hs

set_option maxRecDepth 100000 in
set_option maxHeartbeats 8000000 in
theorem pack_calls (A : Option Addr) (n c : Nat) (ps : List S42) (w : World) (hn : n ≤ 1000000) (hps : ∀ p, p ∈ ps → 0 ≤ p.f0 ∧ p.f0 < 4294967296) (hR : Rdp w A n ps) :
    Calls Try.prog 29 #[.slice A n c] w fun e w' => e = .returned (.tuple #[.string (Pack ps).1, .int .i64 (Pack ps).2]) ∧ Below w.heap.size w w' := by
  obtain ⟨N, hN⟩ : ∃ N, w.heap.size = N := ⟨_, rfl⟩
  have HN := hid hN
  have HR := hid hR
  have HPS := hid hps
  clear hR hps
  rw [hN]
  clear hN
  have hmf : ∀ (fn : Fn) (first cap : Array Value) (w : World), (Instr.makeFunc fn first cap).run Try.prog w = .ok (.func fn first cap) w := fun _ _ _ _ => rfl
  refine (callsIn_wide (n := 10)).1 ?_
  refine callsIn_of_wp_marks Try.func29 rfl trivial ?_ rfl
  simp only [Try.ntmps29, List.size_toArray, List.length_cons, List.length_nil, Nat.reduceAdd, Nat.reduceSub, Array.replicate_succ, Array.replicate_zero, List.push_toArray, List.append_toArray, List.nil_append, List.cons_append]
  gi_wp2_with fail
  refine ⟨trivial, ?_⟩
  refine CallsIn.mono (callsIn_wide.2 (right_calls A n c _)) ?_
  rintro e w' ⟨rfl, rfl⟩
  rw [HN.out]
  obtain ⟨W0, hW0⟩ : ∃ W0, ((((((w.alloc (.cells #[.slice none 0 0] 55)).alloc (.cells #[.int .u64 0] 90)).alloc (.cells #[.int .i64 0] 3)).alloc (.cells #[.int .i64 0] 3)).alloc (.cells #[.func (.func 50) #[] #[.pointer (some ⟨N + 1 + 1, 0, none⟩), .pointer (some ⟨N, 0, none⟩), .pointer (some ⟨N + 1, 0, none⟩)]] 91)).alloc (.cells #[.slice A n c] 32)) = W0 := ⟨_, rfl⟩
  have hsz : W0.heap.size = N + 6 := by rw [← hW0]; simp [HN.out]
  have hB0 : Below N w W0 := by
    rw [← hW0]
    have h0 := HN.out
    exact ((((((Below.refl N w).alloc (by omega) _).alloc (by simp; omega) _).alloc (by simp; omega) _).alloc (by simp; omega) _).alloc (by simp; omega) _).alloc (by simp; omega) _
  have bB : Boxed W0 N 55 (.slice none 0 0) := by
    rw [← hW0, ← HN.out]
    exact (((((Boxed.new w _ _).alloc _).alloc _).alloc _).alloc _).alloc _
  have bO : Boxed W0 (N + 1) 90 (.int .u64 0) := by
    rw [← hW0, ← HN.out]
    have := Boxed.new (w.alloc (.cells #[.slice none 0 0] 55)) 90 (.int .u64 0)
    simp only [World.size_alloc] at this
    exact (((this.alloc _).alloc _).alloc _).alloc _
  have bH : Boxed W0 (N + 1 + 1) 3 (.int .i64 0) := by
    rw [← hW0, ← HN.out]
    have := Boxed.new ((w.alloc (.cells #[.slice none 0 0] 55)).alloc (.cells #[.int .u64 0] 90)) 3 (.int .i64 0)
    simp only [World.size_alloc] at this
    exact ((this.alloc _).alloc _).alloc _
  have bM : Boxed W0 (N + 1 + 1 + 1) 3 (.int .i64 0) := by
    rw [← hW0, ← HN.out]
    have := Boxed.new (((w.alloc (.cells #[.slice none 0 0] 55)).alloc (.cells #[.int .u64 0] 90)).alloc (.cells #[.int .i64 0] 3)) 3 (.int .i64 0)
    simp only [World.size_alloc] at this
    exact (this.alloc _).alloc _
  have bF : Boxed W0 (N + 1 + 1 + 1 + 1) 91 (.func (.func 50) #[] #[.pointer (some ⟨N + 1 + 1, 0, none⟩), .pointer (some ⟨N, 0, none⟩), .pointer (some ⟨N + 1, 0, none⟩)]) := by
    rw [← hW0, ← HN.out]
    have := Boxed.new ((((w.alloc (.cells #[.slice none 0 0] 55)).alloc (.cells #[.int .u64 0] 90)).alloc (.cells #[.int .i64 0] 3)).alloc (.cells #[.int .i64 0] 3)) 91 (.func (.func 50) #[] #[.pointer (some ⟨w.heap.size + 1 + 1, 0, none⟩), .pointer (some ⟨w.heap.size, 0, none⟩), .pointer (some ⟨w.heap.size + 1, 0, none⟩)])
    simp only [World.size_alloc] at this
    exact this.alloc _
  have bL : Boxed W0 (N + 1 + 1 + 1 + 1 + 1) 32 (.slice A n c) := by
    rw [← hW0, ← HN.out]
    have := Boxed.new (((((w.alloc (.cells #[.slice none 0 0] 55)).alloc (.cells #[.int .u64 0] 90)).alloc (.cells #[.int .i64 0] 3)).alloc (.cells #[.int .i64 0] 3)).alloc (.cells #[.func (.func 50) #[] #[.pointer (some ⟨w.heap.size + 1 + 1, 0, none⟩), .pointer (some ⟨w.heap.size, 0, none⟩), .pointer (some ⟨w.heap.size + 1, 0, none⟩)]] 91)) 32 (.slice A n c)
    simp only [World.size_alloc] at this
    exact this
  have hLsz : (((((w.alloc (.cells #[.slice none 0 0] 55)).alloc (.cells #[.int .u64 0] 90)).alloc (.cells #[.int .i64 0] 3)).alloc (.cells #[.int .i64 0] 3)).alloc (.cells #[.func (.func 50) #[] #[.pointer (some ⟨N + 1 + 1, 0, none⟩), .pointer (some ⟨N, 0, none⟩), .pointer (some ⟨N + 1, 0, none⟩)]] 91)).heap.size = N + 1 + 1 + 1 + 1 + 1 := by simp [HN.out]
  rw [hW0, hLsz]
  clear hW0 hLsz
  gi_wp2_with fail
  refine wpIn_rangeFunc_ownH rfl (by decide) (gf := 71) (lb := #[.pointer (some ⟨N + 1 + 1 + 1 + 1 + 1, 0, none⟩)]) rfl trivial (enters_of Try.func71 (by kernel_rfl) rfl)
    (encs := fun x : MP => #[.agg #[.int .u32 x.1.f0, .int .i64 x.1.f1]]) (Kp := Below N) (S := fun ys => ys = pick ps) (Sp := fun _ => True) (N := n) (w0 := W0)
    (fun l J Jx W hW hJ hJx hY h0 => right1_in 9 l (N + 1 + 1 + 1 + 1 + 1) N (by decide) A n c ps hn HPS.out J Jx W.heap.size hJ hJx hY W ((hW.cell (p := ⟨N + 1 + 1 + 1 + 1 + 1, 0, none⟩) (by show N + 1 + 1 + 1 + 1 + 1 < _; omega)).trans bL.cell)
      (HR.out.below ((hB0.mono (by rw [HN.out]; exact Nat.le_refl _)).trans (hW.mono (by have := HN.out; omega)))) (fun ad h1 h2 => by
        obtain ⟨b, off, e, hlt, _⟩ := HR.out.2 h2
        rw [h1] at e
        cases e
        have := HN.out
        show b < N
        omega) (by have := hW.size; omega) h0)
    belowK_t (belowK_b (by omega)) (Below.refl _ _) (fun _ => rfl)
    (fun pre W => (Boxed W (N + 1 + 1 + 1) 3 (.int .i64 (pre.length : Int)) ∧ Boxed W (N + 1 + 1 + 1 + 1) 91 (.func (.func 50) #[] #[.pointer (some ⟨N + 1 + 1, 0, none⟩), .pointer (some ⟨N, 0, none⟩), .pointer (some ⟨N + 1, 0, none⟩)]) ∧ Fls N (N + 1 + 1) N (N + 1) W (pst pre).1 (pst pre).2.1 (pst pre).2.2) ∧ Below N w W)
    (fun _ _ _ => False)
    (OwnFrom.and (OwnFrom.and (Own.from (boxed_own _ _ (fun pre : List MP => .int .i64 (pre.length : Int))) _) (OwnFrom.and (Own.from (boxed_own _ _ _) _) (Own.from (fls_own N (N + 1 + 1) N (N + 1) (fun pre => (pst pre).1) (fun pre => (pst pre).2.1) (fun pre => (pst pre).2.2)) _))) (ownFrom_below (by rw [HN.out]; exact Nat.le_refl _) (by omega)))
    (fun _ _ _ _ _ hs _ _ => hs)
    ⟨⟨bM, bF, bH, bO, _, bB, World.ownsRow_nil _ _ _ _⟩, hB0⟩
    (fun x a' W => ∃ Bx, N + 1 + 1 + 1 + 1 < Bx ∧ PBox W Bx x ∧ a' = { tmps := #[.slice A n c, undef, .string ⟨#[]⟩, .int .i64 0, .pointer (some ⟨N, 0, none⟩), .pointer (some ⟨N + 1, 0, none⟩), .pointer (some ⟨N + 1 + 1, 0, none⟩), .pointer (some ⟨N + 1 + 1 + 1, 0, none⟩), .pointer (some ⟨N + 1 + 1 + 1 + 1, 0, none⟩), .pointer (some ⟨Bx, 0, none⟩),
      .func (.func 50) #[] #[.pointer (some ⟨N + 1 + 1, 0, none⟩), .pointer (some ⟨N, 0, none⟩), .pointer (some ⟨N + 1, 0, none⟩)], .slice A n c, .func (.func 71) #[] #[.pointer (some ⟨N + 1 + 1 + 1 + 1 + 1, 0, none⟩)], .agg #[.int .u32 x.1.f0, .int .i64 x.1.f1], undef, undef, undef, undef, undef, undef, undef, undef, undef, undef, undef, undef, undef, undef, undef, undef, undef, undef, undef, undef, undef, undef, undef], defers := [] })
    (fun x a' _ X Y row hs hg hr => by obtain ⟨Bx, h1, h2, h3⟩ := hs; exact ⟨Bx, h1, pbox_own Bx x () X Y row h2 hg (fun r e => (hr r e).2), h3⟩)
    ?assign ?body ?done ?stop
  case assign =>
    rintro l pre x W K ⟨⟨b1, b2, b3⟩, hB1⟩ hK
    gi_wp2
    have hlt := b2.lt
    have hNW : N ≤ W.heap.size := by omega
    exact hK _ _ ((KeepsOthers.alloc _ _).from _) ((Below.refl _ W).alloc hNW _) ⟨⟨b1.alloc _, b2.alloc _, b3.alloc _⟩, hB1.alloc hNW _⟩ ⟨W.heap.size, hlt, heap_alloc_new _ _, rfl⟩
  case body =>
    rintro l pre x a' W hl ⟨r, hr⟩ ⟨⟨b1, b2, b3⟩, hB1⟩ ⟨Bx, hBx, bX, rfl⟩ hlt
    obtain ⟨k, q, hx, hq24, hkq⟩ := x.nat
    have hpi := pst_inv pre
    obtain ⟨h, hh⟩ : ∃ h, (pst pre).1 = h := ⟨_, rfl⟩
    obtain ⟨d, hd⟩ : ∃ d, (pst pre).2.1 = d := ⟨_, rfl⟩
    obtain ⟨hd8, hhd, hll⟩ := hpi
    rw [hh, hd] at b3
    rw [hd] at hd8
    rw [hh, hd] at hhd
    obtain ⟨sb1, sb2⟩ := step_bound hd8 hhd hq24 hkq
    have HH := hid hh
    have HD := hid hd
    have HX := hid hx
    unfold PBox at bX
    rw [hx] at bX ⊢
    have cX0 : W.cell? ⟨Bx, 0, none⟩ = some (.int .u32 (k : Int)) := by rw [cell_block bX]; rfl
    have cX1 : W.cell? ⟨Bx, 1, none⟩ = some (.int .i64 (q : Int)) := by rw [cell_block bX]; rfl
    have cM := b1.cell
    have cF := b2.cell
    have cO := b3.hold.cell
    have fO := b3.hold.frozen
    have cH := b3.held.cell
    have fH := b3.held.frozen
    have B3 := hid b3
    have BM := hid b1
    have BF := hid b2
    have BX := hid bX
    clear hh hd hx b1 b2 b3 bX
    have hmo : Try.prog.follows Departure.mixedOrders = true := by kernel_rfl
    obtain ⟨V, hV, hV2⟩ : ∃ V : Nat, Go.bits .or .u64 (h : Int) (IntKind.u64.wrap (IntKind.u64.wrap (k : Int) * 2 ^ d)) = (V : Int) ∧ h + k * 2 ^ d = V := ⟨_, or_low hhd (by omega) sb1 sb2, rfl⟩
    have HVB := hid hV
    have HV2 := hid hV2
    have hVlt : V < 2147483648 := by omega
    clear hV hV2
    gi_wp2
    refine wpIn_mono (Q := fun e a' W' => e = Exit.normal ∧ a' = { tmps := #[.slice A n c, undef, .string ⟨#[]⟩, .int .i64 0, .pointer (some ⟨N, 0, none⟩), .pointer (some ⟨N + 1, 0, none⟩), .pointer (some ⟨N + 1 + 1, 0, none⟩), .pointer (some ⟨N + 1 + 1 + 1, 0, none⟩), .pointer (some ⟨N + 1 + 1 + 1 + 1, 0, none⟩), .pointer (some ⟨Bx, 0, none⟩),
      .func (.func 50) #[] #[.pointer (some ⟨N + 1 + 1, 0, none⟩), .pointer (some ⟨N, 0, none⟩), .pointer (some ⟨N + 1, 0, none⟩)], .slice A n c, .func (.func 71) #[] #[.pointer (some ⟨N + 1 + 1 + 1 + 1 + 1, 0, none⟩)], .agg #[.int .u32 (k : Int), .int .i64 (q : Int)],
      .int .u64 (h : Int), .pointer (some ⟨Bx, 0, none⟩), .int .u32 (k : Int), .int .u64 (IntKind.u64.wrap (k : Int)), .int .i64 (d : Int), .int .u64 (IntKind.u64.wrap (IntKind.u64.wrap (k : Int) * 2 ^ d)), .int .u64 (V : Int),
      undef, undef, undef, undef, undef, undef, undef, undef, undef, undef, undef, undef, undef, undef, undef, undef], defers := [] } ∧ W' = (W.setCell ⟨N + 1, 0, none⟩ (.int .u64 (V : Int))).drew) ?region ?rest
    case region =>
      gi_region_o
      all_goals exact ⟨rfl, by rw [← HVB.out], by rw [← HVB.out]⟩
    case rest =>
      rintro e a' W' ⟨rfl, rfl, rfl⟩
      gi_wp2
      refine ⟨trivial, ?_⟩
      have hF2 := B3.out.set2 (by omega) (by omega) (by omega) V (d + q)
      have hdq : ((d + q : Nat) : Int) = (d : Int) + q := by omega
      rw [hdq] at hF2
      have hfl := flush_calls N (N + 1 + 1) N (N + 1) 8 V (d + q) (pst pre).2.2 (((W.setCell ⟨N + 1, 0, none⟩ (.int .u64 (V : Int))).setCell ⟨N + 1 + 1, 0, none⟩ (.int .i64 ((d : Int) + q))).drew) (by decide) (by decide) (by omega) (by omega) (by omega) (by have := hB1.size; have := HN.out; simp [World.setCell, World.drew]; omega) (by omega) (by omega) (by omega) (by omega) (by omega) (by omega) (by rw [← hdq] at hF2; exact hF2)
      refine CallsIn.mono (CallsIn.inRound l (callsIn_wide.2 hfl)) ?_
      rintro e w2 ⟨rfl, hF3, hK3, hB3, hO3⟩
      have bM3 := hO3 (N + 1 + 1 + 1) 3 _ (box_far (box_far BM.out (B' := N + 1) (by omega) _) (B' := N + 1 + 1) (by omega) _) (by omega) (by omega) (by omega) (by decide)
      have bF3 := hO3 (N + 1 + 1 + 1 + 1) 91 _ (box_far (box_far BF.out (B' := N + 1) (by omega) _) (B' := N + 1 + 1) (by omega) _) (by omega) (by omega) (by omega) (by decide)
      have cM3 := bM3.cell
      have fM3 := bM3.frozen
      have F3 := hid hF3
      have K3 := hid hK3
      have B3' := hid hB3
      have M3 := hid bM3
      have FF3 := hid bF3
      have HDQ := hid hdq
      clear hF3 hK3 hB3 hO3 bM3 bF3 hfl hF2 hdq
      gi_wp2
      have hps := pst_step HX.out HH.out HD.out HV2.out
      have hNW : N ≤ W.heap.size := by have := hB1.size; have := HN.out; omega
      have hBW : Below N W (w2.setCell ⟨N + 1 + 1 + 1, 0, none⟩ (.int .i64 ((pre.length : Int) + 1))) := (((((Below.refl N W).setCell (p := ⟨N + 1, 0, none⟩) (by show N ≤ N + 1; omega) _).setCell (p := ⟨N + 1 + 1, 0, none⟩) (by show N ≤ N + 1 + 1; omega) _).drew).trans B3'.out).setCell (p := ⟨N + 1 + 1 + 1, 0, none⟩) (by show N ≤ N + 1 + 1 + 1; omega) _
      refine ⟨((((KeepsOthers.setCell W _ _).trans (KeepsOthers.setCell _ _ _)).trans ((KeepsOthers.drew _).trans K3.out)).trans (KeepsOthers.setCell _ _ _)).from _, hBW, ⟨?_, box_far FF3.out (by omega) _, ?_⟩, hB1.trans hBW⟩
      · have e : (((pre ++ [x]).length : Nat) : Int) = (pre.length : Int) + 1 := by simp
        rw [e]
        exact M3.out.set _
      · rw [hps]
        exact F3.out.far M3.out (by omega) (by omega) (by omega) _
  case done =>
    rintro D ys W hD rfl ⟨⟨b1, b2, b3⟩, hB1⟩ hK
    have cM := b1.cell
    have cF := b2.cell
    by_cases hlt : ((pick ps).length : Int) < n
    · have HE : Hid (Pack ps = (ByteArray.empty, 1)) := by
        show _ = _
        rw [Pack, if_pos (by rw [HR.out.1]; omega)]
      gi_wp2
      refine ⟨by simp, .inl ⟨_, _, rfl, run_takeDeferred hK, ?_⟩⟩
      rw [HE.out]
      exact ⟨_, results_tmp2 rfl _ _ _, rfl, hB1.trans (belowK_b (w := w) (by rw [HN.out]; exact Nat.le_refl _) W D _ _ (by have := HN.out; omega) hK rfl rfl)⟩
    · have HE : Hid (Pack ps = (strOfNums (packed (pick ps)), 0)) := by
        show _ = _
        rw [Pack, if_neg (by rw [HR.out.1]; omega)]
      have hpi := pst_inv (pick ps)
      have hpl := pick_le ps
      rw [HR.out.1] at hpl
      have hfl := flush_calls N (N + 1 + 1) N (N + 1) 1 (pst (pick ps)).1 (pst (pick ps)).2.1 (pst (pick ps)).2.2 W (by decide) (by decide) (by have := hpi.d; omega) (Nat.lt_of_lt_of_le hpi.h (Nat.le_trans (Nat.pow_le_pow_right (by decide) (show (pst (pick ps)).2.1 ≤ 64 by have := hpi.d; omega)) (by decide))) (by have := hpi.l; omega) (by have := hB1.size; have := HN.out; omega) (by omega) (by omega) (by omega) (by omega) (by omega) (by omega) b3
      have HFL := hid hfl
      have HK := hid hK
      have HB := hid hB1
      clear hpi hfl hK hB1 b3
      gi_wp2_with fail
      refine ⟨trivial, ?_⟩
      refine CallsIn.mono (callsIn_wide.2 HFL.out) ?_
      rintro e w2 ⟨rfl, hF3, hK3, hB3, hO3⟩
      obtain ⟨v, hv, hrow⟩ := hF3.row
      obtain ⟨ys, hys⟩ : ∃ ys, (pst (pick ps)).2.2 ++ (fl 1 8 (pst (pick ps)).1 (pst (pick ps)).2.1).2.2 = ys := ⟨_, rfl⟩
      rw [hys] at hrow
      obtain ⟨A', c', rfl, hrd⟩ := own_reads hrow
      have cB := hv.cell
      have hconv := string_of_reads (P := Try.prog) (src := 55) (dst := 9) (e := 5) (c := c') Try.underlying55 Try.underlying5 Try.underlying9 hrd
      have HK2 := hid (hK3.same D _ HK.out rfl)
      have HB2 := hid hB3
      have HEE : Hid (packed (pick ps) = ys) := hid hys
      clear hys hF3 hK3 hB3 hO3 hrow hrd hv
      gi_wp2
      refine ⟨by simp, .inl ⟨_, _, rfl, run_takeDeferred HK2.out, ?_⟩⟩
      rw [HE.out, HEE.out]
      exact ⟨_, results_tmp2 rfl _ _ _, rfl, (HB.out.trans HB2.out).trans (belowK_b (w := w) (by rw [HN.out]; exact Nat.le_refl _) w2 D _ _ (by have := HN.out; omega) HK2.out rfl rfl)⟩
  case stop =>
    rintro D c pre W _ _ h _
    exact h.elim

end Go.Proofs.Ythgijppajindpaa

namespace Go.Proofs.Ythgijppajindpaa
open Go.RowKit Go.Proofs.YthgijppajindpaaW.PrintWords Go.Proofs.YthgijppajindpaaW.PrintLast Go.Proofs.YthgijppajindpaaW.PrintMore Go.Proofs.Ythgijppajindpaa.K7

/-- How many bits; what number they are, the first piece lowest. -/
def catT (xs : List MP) : Nat := (xs.map fun x => x.1.f1.toNat).sum
def catV : List MP → Nat
  | [] => 0
  | x :: xs => x.1.f0.toNat + catV xs * 2 ^ x.1.f1.toNat
theorem catT_snoc (xs : List MP) (x : MP) : catT (xs ++ [x]) = catT xs + x.1.f1.toNat := by simp [catT]
theorem catT_cons (x : MP) (xs : List MP) : catT (x :: xs) = x.1.f1.toNat + catT xs := by simp [catT]
theorem catV_snoc : ∀ (xs : List MP) (x : MP), catV (xs ++ [x]) = catV xs + x.1.f0.toNat * 2 ^ catT xs
  | [], x => by simp [catV, catT]
  | y :: xs, x => by
    rw [List.cons_append, catV, catV_snoc xs x, catV, catT_cons, Nat.add_mul, Nat.mul_assoc, ← Nat.pow_add, Nat.add_comm (catT xs), Nat.add_assoc]
theorem catV_lt : ∀ xs : List MP, catV xs < 2 ^ catT xs
  | [] => by simp [catV, catT]
  | x :: xs => by
    have h := catV_lt xs
    obtain ⟨a, b, hx, hb, ha⟩ := x.nat
    rw [catV, catT_cons, hx]
    dsimp only
    rw [Int.toNat_natCast, Int.toNat_natCast, Nat.pow_add]
    have h1 : (catV xs + 1) * 2 ^ b ≤ 2 ^ catT xs * 2 ^ b := Nat.mul_le_mul_right _ h
    rw [Nat.add_mul, Nat.one_mul] at h1
    rw [Nat.mul_comm (2 ^ b)]
    omega
theorem catV_append : ∀ (xs ys : List MP), catV (xs ++ ys) = catV xs + catV ys * 2 ^ catT xs
  | [], ys => by simp [catV, catT]
  | x :: xs, ys => by
    rw [List.cons_append, catV, catV_append xs ys, catV, catT_cons, Nat.add_mul, Nat.mul_assoc, ← Nat.pow_add, Nat.add_comm (catT xs), Nat.add_assoc]
theorem catT_append (xs ys : List MP) : catT (xs ++ ys) = catT xs + catT ys := by simp [catT]

/-- The bytes of a number. -/
def bytesOf (V m : Nat) : List Int := (List.range m).map fun j => ((V / 2 ^ (8 * j) % 256 : Nat) : Int)
theorem bytesOf_append (V m n : Nat) : bytesOf V (m + n) = bytesOf V m ++ bytesOf (V / 2 ^ (8 * m)) n := by
  unfold bytesOf
  rw [List.range_add, List.map_append, List.map_map]
  congr 1
  refine List.map_congr_left fun j _ => ?_
  show ((V / 2 ^ (8 * (m + j)) % 256 : Nat) : Int) = ((V / 2 ^ (8 * m) / 2 ^ (8 * j) % 256 : Nat) : Int)
  rw [Nat.div_div_eq_div_mul, ← Nat.pow_add, Nat.mul_add]
theorem bytesOf_high (V a T m : Nat) (h : 8 * m ≤ T) : bytesOf (V + a * 2 ^ T) m = bytesOf V m := by
  unfold bytesOf
  refine List.map_congr_left fun j hj => ?_
  have hj : j < m := List.mem_range.1 hj
  have e : a * 2 ^ T = a * 2 ^ (T - 8 * (j + 1)) * 256 * 2 ^ (8 * j) := by
    rw [Nat.mul_assoc, Nat.mul_assoc, show (256 : Nat) = 2 ^ 8 from rfl, ← Nat.pow_add, ← Nat.pow_add]
    congr 2
    omega
  rw [e, Nat.add_mul_div_right _ _ (Nat.two_pow_pos _), Nat.add_mul_mod_self_right]

structure PVal (st : Nat × Nat × List Int) (V T : Nat) : Prop where
  d : st.2.1 = T % 8
  h : st.1 = V / 2 ^ (8 * (T / 8))
  b : st.2.2 = bytesOf V (T / 8)

theorem pstep_val {st : Nat × Nat × List Int} {V T : Nat} (h : PVal st V T) (x : MP) : PVal (pstep st x) (V + x.1.f0.toNat * 2 ^ T) (T + x.1.f1.toNat) := by
  obtain ⟨a, b, hx, hb, ha⟩ := x.nat
  obtain ⟨hd, hh, hbs⟩ := h
  unfold pstep
  rw [hx, hd, hh, hbs]
  dsimp only
  rw [Int.toNat_natCast, Int.toNat_natCast]
  have eT : T = 8 * (T / 8) + T % 8 := by omega
  have eV : V / 2 ^ (8 * (T / 8)) + a * 2 ^ (T % 8) = (V + a * 2 ^ T) / 2 ^ (8 * (T / 8)) := by
    have : a * 2 ^ T = a * 2 ^ (T % 8) * 2 ^ (8 * (T / 8)) := by rw [Nat.mul_assoc, ← Nat.pow_add]; congr 2; omega
    rw [this, Nat.add_mul_div_right _ _ (Nat.two_pow_pos _)]
  rw [eV]
  obtain ⟨f1, f2, f3⟩ := fl_eight 8 ((V + a * 2 ^ T) / 2 ^ (8 * (T / 8))) (T % 8 + b) (by omega)
  have em : (T + b) / 8 = T / 8 + (T % 8 + b) / 8 := by omega
  refine ⟨by rw [f2]; omega, ?_, ?_⟩
  · rw [f1, Nat.div_div_eq_div_mul, ← Nat.pow_add, em, Nat.mul_add]
  · rw [f3, em, bytesOf_append, bytesOf_high V a T (T / 8) (by omega)]
    rfl
theorem pst_val (xs : List MP) : PVal (pst xs) (catV xs) (catT xs) := by
  have key : ∀ (n : Nat) (ys : List MP), ys.length = n → PVal (pst ys) (catV ys) (catT ys) := by
    intro n
    induction n with
    | zero =>
      intro ys hy
      rw [List.length_eq_zero_iff.1 hy]
      exact ⟨rfl, rfl, rfl⟩
    | succ n ih =>
      intro ys hy
      rcases List.eq_nil_or_concat ys with rfl | ⟨zs, z, rfl⟩
      · simp at hy
      · rw [List.concat_eq_append] at hy ⊢
        rw [pst_snoc, catV_snoc, catT_snoc]
        exact pstep_val (ih zs (by simpa using hy)) z
  exact key _ xs rfl

/-- All that is packed. -/
theorem packed_eq (xs : List MP) : packed xs = bytesOf (catV xs) ((catT xs + 7) / 8) := by
  obtain ⟨hd, hh, hb⟩ := pst_val xs
  unfold packed
  rw [hd, hh, hb]
  obtain ⟨f2, f3⟩ := fl_one 8 (catV xs / 2 ^ (8 * (catT xs / 8))) (catT xs % 8) (by omega)
  have em : (catT xs + 7) / 8 = catT xs / 8 + (catT xs % 8 + 7) / 8 := by omega
  rw [f3, em, bytesOf_append]
  rfl

theorem by8_nums (xs : List Int) (h : ∀ x, x ∈ xs → 0 ≤ x ∧ x < 256) (j : Nat) : by8 (strOfNums xs) j = (xs.getD j 0).toNat := by
  unfold by8 strOfNums
  by_cases hj : j < xs.length
  · have hx := h xs[j] (List.getElem_mem hj)
    simp [List.getD_eq_getElem?_getD, List.getElem?_eq_getElem hj]
    omega
  · simp [List.getD_eq_getElem?_getD, List.getElem?_eq_none (show xs.length ≤ j by omega)]

theorem size_nums (xs : List Int) : (strOfNums xs).size = xs.length := by
  unfold strOfNums
  simp [ByteArray.size]

/-- The packed text's bits. -/
theorem packed_size (xs : List MP) : (strOfNums (packed xs)).size = (catT xs + 7) / 8 := by
  rw [size_nums, packed_eq]
  simp [bytesOf]
theorem packed_bit (xs : List MP) (i : Nat) : sbit (strOfNums (packed xs)) i = (catV xs).testBit i := by
  have hb : ∀ x, x ∈ packed xs → 0 ≤ x ∧ x < 256 := by
    intro x hx
    rw [packed_eq] at hx
    obtain ⟨j, _, rfl⟩ := List.mem_map.1 hx
    omega
  unfold sbit
  rw [by8_nums _ hb, packed_eq]
  by_cases hj : i / 8 < (catT xs + 7) / 8
  · have e : (bytesOf (catV xs) ((catT xs + 7) / 8)).getD (i / 8) 0 = ((catV xs / 2 ^ (8 * (i / 8)) % 256 : Nat) : Int) := by
      unfold bytesOf
      rw [List.getD_eq_getElem?_getD, List.getElem?_map, List.getElem?_range hj]
      rfl
    rw [e, Int.toNat_natCast, show (256 : Nat) = 2 ^ 8 from rfl, Nat.testBit_mod_two_pow, decide_eq_true (show i % 8 < 8 by omega), Bool.true_and, ← Nat.shiftRight_eq_div_pow, Nat.testBit_shiftRight]
    congr 1
    omega
  · have e : (bytesOf (catV xs) ((catT xs + 7) / 8)).getD (i / 8) 0 = 0 := by
      rw [List.getD_eq_getElem?_getD, List.getElem?_eq_none (by simp [bytesOf]; omega)]
      rfl
    rw [e]
    have : (catV xs).testBit i = false := Nat.testBit_lt_two_pow (Nat.lt_of_lt_of_le (catV_lt xs) (Nat.pow_le_pow_right (by decide) (by omega)))
    rw [this]
    simp

/-- A piece among others stands where it was put. -/
theorem packed_at (xs ys : List MP) (x : MP) (j : Nat) (hj : j < x.1.f1.toNat) : sbit (strOfNums (packed (xs ++ x :: ys))) (catT xs + j) = x.1.f0.toNat.testBit j := by
  rw [packed_bit, catV_append, catV]
  have h1 := catV_lt xs
  have hc : (catV xs + (x.1.f0.toNat + catV ys * 2 ^ x.1.f1.toNat) * 2 ^ catT xs).testBit (catT xs + j) = (x.1.f0.toNat + catV ys * 2 ^ x.1.f1.toNat).testBit j := by
    rw [Nat.add_comm, Nat.mul_comm, Nat.testBit_two_pow_mul_add _ h1, if_neg (by omega)]
    congr 1
    omega
  obtain ⟨a, b, hx, hb, ha⟩ := x.nat
  rw [hc, hx]
  rw [hx] at hj
  dsimp only at hj ⊢
  rw [Int.toNat_natCast, Int.toNat_natCast]
  rw [Int.toNat_natCast] at hj
  rw [Nat.add_comm, Nat.mul_comm, Nat.testBit_two_pow_mul_add _ ha, if_pos hj]

/-! ### a word is read -/
theorem nx_word {l : List Int} (h : isCode l = true) (s : ByteArray) {i w : Nat} (hi : i < l.length) (hw : l.getD i 0 = (w : Int)) (hw1 : 1 ≤ w) (a : Nat) (hs : a + w ≤ 8 * s.size)
    (hb : ∀ j, j < w → sbit s (a + j) = (wN l i).testBit (w - 1 - j)) (d : Nat) : ∀ k, k + d = w → nx l s (15 - k) (k + 1) (wN l i / 2 ^ (w - k)) (a + k) = ((i : Int), 0, a + w) ∨ d = 0 := by
  have hok := lensOk_get (isCode_ok h) i
  induction d with
  | zero => intro k _; exact .inr rfl
  | succ d ih =>
    intro k hk
    left
    have hbit : bitsAt s (a + k) 1 = (wN l i / 2 ^ (w - (k + 1))) % 2 := by
      have e1 : bitsAt s (a + k) 1 = (sbit s (a + k)).toNat := by
        show 0 ||| ((sbit s (a + k + 0)).toNat <<< 0) = _
        simp
      rw [e1, hb k (by omega), Nat.testBit_eq_decide_div_mod_eq, show w - 1 - k = w - (k + 1) by omega]
      generalize wN l i / 2 ^ (w - (k + 1)) = q
      by_cases e : q % 2 = 1
      · rw [e]; rfl
      · have : q % 2 = 0 := by omega
        rw [this]; rfl
    have hv : 2 * (wN l i / 2 ^ (w - k)) + bitsAt s (a + k) 1 = wN l i / 2 ^ (w - (k + 1)) := by
      rw [hbit]
      have : wN l i / 2 ^ (w - k) = wN l i / 2 ^ (w - (k + 1)) / 2 := by
        rw [Nat.div_div_eq_div_mul, ← Nat.pow_succ]
        congr 2
        omega
      rw [this]
      omega
    rw [show 15 - k = (15 - (k + 1)) + 1 by omega, nx, if_neg (by omega), hv]
    by_cases hlast : k + 1 = w
    · have hlt := wN_lt hi hok.1
      rw [hw, Int.toNat_natCast] at hlt
      rw [hlast, Nat.sub_self, Nat.pow_zero, Nat.div_one, if_pos hlt]
      have hc := (cnt_bound (l.getD i 0) (l.take i)).1
      have hn : nthOf l (w : Int) (wN l i - Fx l w) = i := by
        refine nthOf_eq hi hw ?_
        unfold wN ahead
        rw [hw] at hc ⊢
        rw [Int.toNat_natCast]
        omega
      rw [hn, show a + k + 1 = a + w by omega]
    · obtain ⟨d', hd'⟩ : ∃ d', w = (k + 1) + d' + 1 := ⟨w - (k + 1) - 1, by omega⟩
      have hge : Ex l (k + 1) ≤ wN l i / 2 ^ (w - (k + 1)) := by
        have h1 := Fx_ge l (k + 1) d' (by omega)
        rw [← hd'] at h1
        rw [Nat.le_div_iff_mul_le (Nat.two_pow_pos _), Nat.mul_comm, show w - (k + 1) = d' + 1 by omega]
        refine Nat.le_trans h1 ?_
        unfold wN
        rw [hw, Int.toNat_natCast]
        exact Nat.le_add_right _ _
      have ht : tailC l (k + 1) ≠ 0 := fun e => by
        have := tailC_none (isCode_ok h) (show k + 1 ≤ 15 by omega) e hi
        omega
      rw [if_neg (by omega), if_neg ht]
      rcases ih (k + 1) (by omega) with e | e
      · exact e
      · omega

theorem Nx_word {l : List Int} (h : isCode l = true) (s : ByteArray) {i w : Nat} (hi : i < l.length) (hw : l.getD i 0 = (w : Int)) (hw1 : 1 ≤ w) (a : Nat) (hs : a + w ≤ 8 * s.size)
    (hb : ∀ j, j < w → sbit s (a + j) = (turnN (wN l i) w).testBit j) : Nx l s a = ((i : Int), 0, a + w) := by
  unfold Nx
  rw [h, if_pos rfl]
  have hlt := wN_lt_pow h hi (by omega)
  rw [hw, Int.toNat_natCast] at hlt
  have := nx_word h s hi hw hw1 a hs (fun j hj => by
    rw [hb j hj, turnN_bit, decide_eq_true hj, Bool.true_and]) w 0 (by omega)
  rcases this with e | e
  · rw [Nat.sub_zero, Nat.sub_zero, Nat.div_eq_of_lt hlt] at e
    exact e
  · omega

end Go.Proofs.Ythgijppajindpaa
