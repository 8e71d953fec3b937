/-
  window's chains and Split are walked; what a match is, plain.
-/
import Derived.Test.YthgijppajindpaaFrms
import Derived.StillTailTactics
import Derived.Maps.OwnSet
import Derived.StringKeys
import Derived.BigQuiet
set_option linter.unusedVariables false
set_option linter.unusedSimpArgs false
namespace Go.Proofs.Ythgijppajindpaa
open Go.RowKit Go.Maps Go.Proofs.YthgijppajindpaaW.PrintWords Go.Proofs.YthgijppajindpaaW.PrintLast Go.Proofs.YthgijppajindpaaW.PrintMore
attribute [local go_sem] max2_int min2_int max_two min_two

/-! ### plain -/
/-- The three bytes at a place. -/
def three (s : ByteArray) (q : Nat) : List UInt8 := (s.extract q (q + 3)).data.toList
/-- The last place ahead of n that has these three bytes. -/
def lastB (s : ByteArray) (l : List UInt8) : Nat → Option Nat
  | 0 => none
  | q + 1 => if q + 3 ≤ s.size ∧ three s q = l then some q else lastB s l q
def lastI (s : ByteArray) (l : List UInt8) (n : Nat) : Int := match lastB s l n with | some p => (p : Int) | none => -1
/-- The place ahead of one with the same three bytes. -/
def aheadI (s : ByteArray) (q : Nat) : Int := if q + 3 ≤ s.size then lastI s (three s q) q else -1
def aheads (s : ByteArray) (d : Nat) : List Int := (List.range d).map (aheadI s)
def mapD (s : ByteArray) : Nat → DataW Unit
  | 0 => .map []
  | q + 1 => if q + 3 ≤ s.size then (mapD s q).put (.string (three s q)) (.lit (.int .i64 (q : Int))) else mapD s q

theorem mapD_isMap (s : ByteArray) : ∀ n, IsMap (mapD s n)
  | 0 => ⟨_, rfl⟩
  | n + 1 => by
    rw [mapD]
    split
    · exact (mapD_isMap s n).put _ _
    · exact mapD_isMap s n

theorem mapD_has (s : ByteArray) (l : List UInt8) : ∀ n, has (mapD s n) (.string l) = (lastB s l n).isSome
  | 0 => rfl
  | n + 1 => by
    rw [mapD, lastB]
    by_cases h : n + 3 ≤ s.size
    · rw [if_pos h]
      by_cases e : three s n = l
      · rw [if_pos ⟨h, e⟩, e, has_put_same (mapD_isMap s n) (k := .string l) (show WideAt.IsKeyLit (.string l) from trivial)]
        rfl
      · rw [if_neg (fun h2 => e h2.2), has_put_other (fun e2 => e (Lit.string.inj e2).symm), mapD_has s l n]
    · rw [if_neg h, if_neg (fun h2 => h h2.1), mapD_has s l n]

theorem mapD_at (s : ByteArray) (l : List UInt8) (z : DataW Unit) : ∀ n, (mapD s n).atKey (.string l) z = match lastB s l n with | some p => .lit (.int .i64 (p : Int)) | none => z
  | 0 => rfl
  | n + 1 => by
    rw [mapD, lastB]
    by_cases h : n + 3 ≤ s.size
    · rw [if_pos h]
      by_cases e : three s n = l
      · rw [if_pos ⟨h, e⟩, e, atKey_put_same (mapD_isMap s n) (k := .string l) (show WideAt.IsKeyLit (.string l) from trivial)]
      · rw [if_neg (fun h2 => e h2.2), atKey_put_other (fun e2 => e (Lit.string.inj e2).symm), mapD_at s l z n]
    · rw [if_neg h, if_neg (fun h2 => h h2.1), mapD_at s l z n]

theorem lastB_lt (s : ByteArray) (l : List UInt8) : ∀ n q, lastB s l n = some q → q < n ∧ q + 3 ≤ s.size ∧ three s q = l
  | 0, q, h => by cases h
  | n + 1, q, h => by
    rw [lastB] at h
    split at h
    · cases h; rename_i h2; exact ⟨by omega, h2⟩
    · have := lastB_lt s l n q h; exact ⟨by omega, this.2⟩

theorem aheads_succ (s : ByteArray) (d : Nat) : aheads s (d + 1) = aheads s d ++ [aheadI s d] := by simp [aheads, List.range_succ]
theorem aheads_length (s : ByteArray) (d : Nat) : (aheads s d).length = d := by simp [aheads]

noncomputable abbrev rI : Value → Option (DataW Unit × List MemPlace) := plainElem Try.prog 3
theorem law9 : Keyed Try.prog 9 := string_keyed Try.underlying9
theorem zero3 (w : World) : (zeroValue 3).run Try.prog w = .ok (.int .i64 0) w := by kernel_rfl

/-! ### the chains, in blocks of their own -/
def ChO (w : World) (g : Nat) (s : ByteArray) (mb : Nat) (V : Value) (d : Nat) : Prop := w.heap[g]? = some (.cells #[.string s, .map (some mb), V, .int .i64 (d : Int)] 134 (0, 0))
structure Chn (n₀ g mb : Nat) (w : World) (s : ByteArray) (d : Nat) : Prop where
  map : w.ownsMap Try.prog 9 rI mb d (mapD s d)
  obj : ∃ V, ChO w g s mb V d ∧ w.ownsRow n₀ 3 1 V d ((aheads s d).map eI)
/-- Variables and rows of other types lie as they lay. -/
def KeepT (w w' : World) : Prop := ∀ (j : Nat) (cur : Array Value) (t : TypeId), w.heap[j]? = some (.cells cur t (0, 0)) → t ≠ 3 → t ≠ 134 → w'.heap[j]? = some (.cells cur t (0, 0))
theorem KeepT.refl (w : World) : KeepT w w := fun _ _ _ h _ _ => h
theorem KeepT.trans {a b c : World} (h : KeepT a b) (k : KeepT b c) : KeepT a c := fun j cur t hj h1 h2 => k j cur t (h j cur t hj h1 h2) h1 h2

theorem ChO.c0 {w : World} {g : Nat} {s : ByteArray} {mb : Nat} {V : Value} {d : Nat} (h : ChO w g s mb V d) : w.cell? ⟨g, 0, none⟩ = some (.string s) := by rw [cell_block h]; rfl
theorem ChO.c1 {w : World} {g : Nat} {s : ByteArray} {mb : Nat} {V : Value} {d : Nat} (h : ChO w g s mb V d) : w.cell? ⟨g, 1, none⟩ = some (.map (some mb)) := by rw [cell_block h]; rfl
theorem ChO.c2 {w : World} {g : Nat} {s : ByteArray} {mb : Nat} {V : Value} {d : Nat} (h : ChO w g s mb V d) : w.cell? ⟨g, 2, none⟩ = some V := by rw [cell_block h]; rfl
theorem ChO.c3 {w : World} {g : Nat} {s : ByteArray} {mb : Nat} {V : Value} {d : Nat} (h : ChO w g s mb V d) : w.cell? ⟨g, 3, none⟩ = some (.int .i64 (d : Int)) := by rw [cell_block h]; rfl
theorem ChO.fr {w : World} {g : Nat} {s : ByteArray} {mb : Nat} {V : Value} {d : Nat} (h : ChO w g s mb V d) (j : Nat) : w.frozen? ⟨g, j, none⟩ = false := frozen_block h j
theorem ChO.lt {w : World} {g : Nat} {s : ByteArray} {mb : Nat} {V : Value} {d : Nat} (h : ChO w g s mb V d) : g < w.heap.size := (Array.getElem?_eq_some_iff.1 h).1
theorem ChO.kept {w w' : World} {g : Nat} {s : ByteArray} {mb : Nat} {V : Value} {d : Nat} {row : Option Nat} (h : ChO w g s mb V d) (hg : w.grownBy w' row) (hne : some g ≠ row) : ChO w' g s mb V d := (hg.block g h.lt hne).trans h
theorem ChO.set2 {w : World} {g : Nat} {s : ByteArray} {mb : Nat} {V : Value} {d : Nat} (h : ChO w g s mb V d) (V' : Value) : ChO (w.setCell ⟨g, 2, none⟩ V') g s mb V' d := by
  unfold ChO at *
  unfold World.setCell
  simp only []
  rw [Array.getElem?_modify, if_pos rfl, h]
  rfl
theorem ChO.set3 {w : World} {g : Nat} {s : ByteArray} {mb : Nat} {V : Value} {d : Nat} (h : ChO w g s mb V d) (d' : Nat) : ChO (w.setCell ⟨g, 3, none⟩ (.int .i64 (d' : Int))) g s mb V d' := by
  unfold ChO at *
  unfold World.setCell
  simp only []
  rw [Array.getElem?_modify, if_pos rfl, h]
  rfl
theorem grownBy_setAt (W : World) (b o : Nat) (v : Value) : W.grownBy (W.setCell ⟨b, o, none⟩ v) (some b) :=
  ⟨rfl, rfl, rfl, (KeepsWalks.setCell W _ v).size, fun k _ hk => Below.heap_setCell _ _ _ k (fun e => hk (by rw [e]))⟩
theorem ChO.not_row {w : World} {g : Nat} {s : ByteArray} {mb : Nat} {V : Value} {d : Nat} (h : ChO w g s mb V d) {base size k : Nat} {v : Value} {xs : List Value} (hr : w.ownsRow base 3 size v k xs) : some g ≠ v.ownBlock := by
  rcases hr.2 with ⟨rfl, _⟩ | ⟨g', cap, cur, rfl, _, hgb, _⟩
  · simp [Value.ownBlock]
  · intro e'
    obtain rfl : g = g' := by simpa [Value.ownBlock] using e'
    have := (show w.heap[g]? = _ from h).symm.trans hgb
    simp at this
theorem ownsMap_not {w : World} {mb n : Nat} {D : DataW Unit} (h : w.ownsMap Try.prog 9 rI mb n D) {cur : Array Value} {t : TypeId} {j : Nat} (hj : w.heap[j]? = some (.cells cur t (0, 0))) : mb ≠ j := by
  obtain ⟨es, clock, hb, _⟩ := h
  rintro rfl
  rw [hb] at hj
  cases hj
theorem ownsMap_not_row {w : World} {mb n : Nat} {D : DataW Unit} (h : w.ownsMap Try.prog 9 rI mb n D) {base size k : Nat} {e : TypeId} {v : Value} {xs : List Value} (hr : w.ownsRow base e size v k xs) : some mb ≠ v.ownBlock := by
  rcases hr.2 with ⟨rfl, _⟩ | ⟨g', cap, cur, rfl, _, hgb, _⟩
  · simp [Value.ownBlock]
  · intro e'
    obtain rfl : mb = g' := by simpa [Value.ownBlock] using e'
    exact ownsMap_not h hgb rfl
theorem KeepT.grown {w w' : World} {row : Option Nat} (hg : w.grownBy w' row) (hr : ∀ j, row = some j → ∀ cur t, w.heap[j]? = some (.cells cur t (0, 0)) → t = 3 ∨ t = 134) : KeepT w w' := by
  intro j cur t hj h1 h2
  refine (hg.block j (Array.getElem?_eq_some_iff.1 hj).1 (fun e => ?_)).trans hj
  rcases hr j e.symm cur t hj with h | h
  · exact h1 h
  · exact h2 h

theorem infoI64 : (Try.prog.info? 3).map (fun i => (i.zero, i.size, i.bytes)) = some (some (.int .i64 0), 1, 8) := by kernel_rfl

theorem lk_true {s : ByteArray} {l : List UInt8} {i : Nat} {c : Int} (h : has (mapD s i) (.string l) = true) (hat : (mapD s i).atKey (.string l) (.lit (.int .i64 0)) = .lit (.int .i64 c)) : c = lastI s l i := by
  rw [mapD_has] at h
  rw [mapD_at] at hat
  unfold lastI
  cases hl : lastB s l i with
  | none => rw [hl] at h; cases h
  | some p =>
    rw [hl] at hat
    simp only [DataW.lit.injEq, Lit.int.injEq, true_and] at hat
    exact hat.symm
theorem lk_false {s : ByteArray} {l : List UInt8} {i : Nat} (h : has (mapD s i) (.string l) = false) : lastI s l i = -1 := by
  rw [mapD_has] at h
  unfold lastI
  cases hl : lastB s l i with
  | none => rfl
  | some p => rw [hl] at h; cases h

/-- What a place's round leaves. -/
theorem learn_step (n₀ g mb i : Nat) (s : ByteArray) (wr wm w1 : World) (V V' : Value) (hg : n₀ ≤ g) (hm : n₀ ≤ mb) (hn : n₀ ≤ wr.heap.size)
    (hO : ChO wr g s mb V i) (hM : wr.ownsMap Try.prog 9 rI mb i (mapD s i)) (hR : wr.ownsRow n₀ 3 1 V i ((aheads s i).map eI))
    (hM1 : wm.ownsMap Try.prog 9 rI mb (i + 1) (mapD s (i + 1))) (hG1 : wr.grownBy wm (some mb)) (x : Int) (hx : x = aheadI s i)
    (tmp : Obj) (hown : w1.ownsRow n₀ 3 1 V' (i + 1) ((aheads s i).map eI ++ [.int .i64 x])) (hgrow : (wm.alloc tmp).grownBy w1 V.ownBlock) :
    ChO w1 g s mb V i ∧ Chn n₀ g mb ((w1.setCell ⟨g, 2, none⟩ V').setCell ⟨g, 3, none⟩ (.int .i64 ((i + 1 : Nat) : Int))) s (i + 1) ∧ KeepT wr ((w1.setCell ⟨g, 2, none⟩ V').setCell ⟨g, 3, none⟩ (.int .i64 ((i + 1 : Nat) : Int))) ∧ Below n₀ wr ((w1.setCell ⟨g, 2, none⟩ V').setCell ⟨g, 3, none⟩ (.int .i64 ((i + 1 : Nat) : Int))) := by
  have hgm : mb ≠ g := ownsMap_not hM hO
  have o1 : ChO wm g s mb V i := hO.kept hG1 (fun e => hgm (by cases e; rfl))
  have r1 : wm.ownsRow n₀ 3 1 V i ((aheads s i).map eI) := hR.kept hG1 (.inr (ownsMap_not_row hM hR).symm)
  have o2 : ChO (wm.alloc tmp) g s mb V i := o1.kept (World.grownBy_alloc wm tmp none) (by simp)
  have o3 : ChO w1 g s mb V i := o2.kept hgrow (o1.not_row r1)
  have m2 : w1.ownsMap Try.prog 9 rI mb (i + 1) (mapD s (i + 1)) := (hM1.alloc tmp).kept hgrow (ownsMap_not_row hM1 r1)
  have o4 := o3.set2 V'
  have o5 := o4.set3 (i + 1)
  have m3 := m2.setCell (a := ⟨g, 2, none⟩) hgm V'
  have m4 := m3.setCell (a := ⟨g, 3, none⟩) hgm (.int .i64 ((i + 1 : Nat) : Int))
  have r3 := hown.kept (grownBy_setAt w1 g 2 V') (.inr (o3.not_row hown).symm)
  have r4 := r3.kept (grownBy_setAt _ g 3 (.int .i64 ((i + 1 : Nat) : Int))) (.inr (o4.not_row r3).symm)
  refine ⟨o3, ⟨m4, V', o5, ?_⟩, ?_, ?_⟩
  · rw [aheads_succ, List.map_append, ← hx]
    exact r4
  · have k1 : KeepT wr wm := KeepT.grown hG1 (fun j ej cur t hj => by
      cases ej
      exact absurd rfl (ownsMap_not hM hj))
    have k2 : KeepT wm (wm.alloc tmp) := KeepT.grown (World.grownBy_alloc wm tmp none) (fun j ej => by cases ej)
    have k3 : KeepT (wm.alloc tmp) w1 := KeepT.grown hgrow (fun j ej cur t hj => by
      rcases (r1.alloc tmp).2 with ⟨rfl, _⟩ | ⟨g', cap, cur', rfl, _, hgb, _⟩
      · simp [Value.ownBlock] at ej
      · obtain rfl : g' = j := by simpa [Value.ownBlock] using ej
        rw [hgb] at hj
        cases hj
        exact .inl rfl)
    have k4 : KeepT w1 (w1.setCell ⟨g, 2, none⟩ V') := KeepT.grown (grownBy_setAt w1 g 2 V') (fun j ej cur t hj => by
      cases ej
      rw [show w1.heap[g]? = _ from o3] at hj
      cases hj
      exact .inr rfl)
    have k5 : KeepT (w1.setCell ⟨g, 2, none⟩ V') ((w1.setCell ⟨g, 2, none⟩ V').setCell ⟨g, 3, none⟩ (.int .i64 ((i + 1 : Nat) : Int))) := KeepT.grown (grownBy_setAt _ g 3 _) (fun j ej cur t hj => by
      cases ej
      rw [show (w1.setCell ⟨g, 2, none⟩ V').heap[g]? = _ from o4] at hj
      cases hj
      exact .inr rfl)
    exact (((k1.trans k2).trans k3).trans k4).trans k5
  · have b1 : Below n₀ wr wm := (Below.refl n₀ wr).grown hG1 hn (fun j ej => by cases ej; exact hm)
    have b2 : Below n₀ wr (wm.alloc tmp) := b1.alloc (Nat.le_trans hn hG1.size) tmp
    have b3 : Below n₀ wr w1 := b2.grown hgrow (by have := hG1.size; simp; omega) (fun j ej => (r1.lt j ej).1)
    exact (b3.setCell (p := ⟨g, 2, none⟩) hg V').setCell (p := ⟨g, 3, none⟩) hg _

theorem learn_map (n₀ g mb i : Nat) (s : ByteArray) (wr w2 : World) (V : Value) (h4 : i + 3 ≤ s.size) (hO : ChO wr g s mb V i) (hM : wr.ownsMap Try.prog 9 rI mb i (mapD s i)) (hR : wr.ownsRow n₀ 3 1 V i ((aheads s i).map eI))
    (hown : w2.ownsMap Try.prog 9 rI mb (i + 1) ((mapD s i).put (.string (three s i)) (.lit (.int .i64 (i : Int))))) (hgrow : wr.grownBy w2 (some mb)) :
    w2.ownsMap Try.prog 9 rI mb (i + 1) (mapD s (i + 1)) ∧ wr.grownBy w2 (some mb) ∧ ChO w2 g s mb V i ∧ w2.ownsRow n₀ 3 1 V i ((aheads s i).map eI) :=
  ⟨by rw [mapD, if_pos h4]; exact hown, hgrow, hO.kept hgrow (fun e => ownsMap_not hM hO (by cases e; rfl)), hR.kept hgrow (.inr (ownsMap_not_row hM hR).symm)⟩

theorem three_key (s : ByteArray) (i : Nat) (hs : s.size ≤ 1000000) : keyOf Try.prog 9 (.string (s.extract i (i + 3))) = some (.string (three s i)) :=
  Go.WideMaps.keyOf_string_mk Try.underlying9 (by unfold maxLen; rw [ByteArray.size_extract]; omega)

theorem slice3 (s : ByteArray) (i : Nat) (h : i + 3 ≤ s.size) (W : World) : (Instr.slice 9 (.string s) (some (.int .i64 (i : Int))) (some (.int .i64 ((i : Int) + 3))) none).run Try.prog W = .ok (.string (s.extract i (i + 3))) W := by
  have := run_slice_string (P := Try.prog) W 9 s .i64 .i64 (i : Int) ((i : Int) + 3) Try.underlying9 (by omega) (by omega) (by omega)
  rw [this, Int.toNat_natCast, show ((i : Int) + 3).toNat = i + 3 by omega]

set_option maxHeartbeats 4000000 in
set_option maxRecDepth 1000000 in
theorem learn_calls (n₀ g mb d tt : Nat) (s : ByteArray) (w : World) (hd : d ≤ tt) (hto : tt ≤ s.size) (hs : s.size ≤ 1000000) (hg : n₀ ≤ g) (hm : n₀ ≤ mb) (hn : n₀ ≤ w.heap.size) (hC : Chn n₀ g mb w s d) :
    Calls Try.prog 78 #[.pointer (some ⟨g, 0, none⟩), .int .i64 (tt : Int)] w fun e w' => e = .returned (.tuple #[]) ∧ Chn n₀ g mb w' s tt ∧ KeepT w w' ∧ Below n₀ w w' := by
  obtain ⟨i0, hi, hz0, hz1, hz2⟩ := info_parts infoI64
  have HI := hid hi
  have HZ0 := hid hz0
  have HZ1 := hid hz1
  have HZ2 := hid hz2
  clear hi hz0 hz1 hz2
  have HC := hid hC
  clear hC
  go_enter Try.func78, Try.ntmps78
  go_wp2_with fail
  go_loopg [] (tt - d) (fun kx wr => ∃ i, d ≤ i ∧ i ≤ tt ∧ tt - i ≤ kx ∧ Hid (Chn n₀ g mb wr s i) ∧ Hid (KeepT w wr) ∧ Hid (Below n₀ w wr))
  case atStart => exact ⟨d, by omega, by omega, by omega, HC, hid (KeepT.refl _), hid (Below.refl _ _)⟩
  case round =>
    obtain ⟨i, h1, h2, h3, HCr, HK, HB⟩ := hrel
    obtain ⟨hmap, V, hobj, hrow⟩ := HCr.out
    have c0 := hobj.c0
    have c1 := hobj.c1
    have c2 := hobj.c2
    have c3 := hobj.c3
    have f2 := hobj.fr 2
    have f3 := hobj.fr 3
    have HM := hid hmap
    have HO := hid hobj
    have HR := hid hrow
    clear hmap hobj hrow
    have hkey := three_key s i hs
    have HKEY := hid hkey
    clear hkey
    have hsz := HB.out.size
    have hal : (aheads s i).length = i := aheads_length s i
    have HAL := hid hal
    clear hal
    have hsz := HB.out.size
    have hal : (aheads s i).length = i := aheads_length s i
    have HAL := hid hal
    clear hal
    by_cases h : i < tt
    · have hw3 : IntKind.i64.wrap ((i : Int) + 3) = (i : Int) + 3 := by rw [IntKind.wrap_i64]; omega
      have ht3 : ((i : Int) + 3).toNat = i + 3 := by omega
      by_cases h4 : i + 3 ≤ s.size
      · have hdec : decide ((i : Int) + 3 ≤ (s.size : Int)) = true := decide_eq_true (by omega)
        have hsl := slice3 s i h4
        go_wp2_with fail
        go_quiet (fail)
        go_wp2_with fail
        go_quiet (fail)
        clear hsl
        go_wp2_with (at_lookup; refine wpList_lookup_own_ok_int _ rfl _ _ 132 rfl 9 3 .i64 law9 Try.underlying132 Try.underlying3 (zero3 _) mb i (mapD s i) rfl HM.out _ _ rfl HKEY.out ?_; intro c hat hwc)
        · rename_i hb
          have HX : Hid (c = aheadI s i) := by show _ = _; rw [aheadI, if_pos h4]; exact lk_true (by simpa using hb) hat
          clear hat hwc
          generalize hwq : World.drewN wr _ = wq
          obtain ⟨HOq, HMq, HRq, HGq⟩ : Hid (ChO wq g s mb V i) ∧ Hid (wq.ownsMap Try.prog 9 rI mb i (mapD s i)) ∧ Hid (wq.ownsRow n₀ 3 1 V i ((aheads s i).map eI)) ∧ Hid (wr.grownBy wq.drew (some mb)) := by
            subst hwq
            exact ⟨HO, HM, HR, hid ⟨rfl, rfl, rfl, Nat.le_refl _, fun _ _ _ => rfl⟩⟩
          clear hwq
          have q0 := HOq.out.c0
          have q1 := HOq.out.c1
          have q3 := HOq.out.c3
          go_still_tail 9, (by kernel_rfl)
          change wpList _ _ _ _ _ (World.drew wq)
          go_wp2_with (first | (at_mapUpdate; refine wpList_mapUpdate_own _ rfl _ _ _ 132 rfl 9 3 law9 Try.underlying132 rI mb i (mapD s i) rfl HMq.out (by unfold maxLen; omega) _ _ _ rfl rfl HKEY.out _ [] (plainElem_int Try.underlying3 (WalkArith.wf_i64 (by omega))) ?_; intro w2 hown1 hgrow1; obtain ⟨MM, GG, oo, RR⟩ := learn_map n₀ g mb i s wr w2 V h4 HO.out HM.out HR.out hown1 (World.grownBy.trans HGq.out hgrow1); have k0 := oo.c0; have k1 := oo.c1; have k2 := oo.c2; have k3 := oo.c3; have l2 := oo.fr 2; have hsz2 := GG.size; have HM1 := hid MM; have HG1 := hid GG; have HR1 := hid RR; clear hown1 hgrow1 MM GG oo RR) | (at_builtin; refine wpList_append_own _ rfl _ _ 22 rfl n₀ 3 i0 (.int .i64 0) 1 8 Try.underlying22 HI.out HZ0.out HZ1.out HZ2.out rfl (by decide) _ _ _ rfl (HR1.out.alloc _) ⟨w2.heap.size, 0, none⟩ 1 1 [.int .i64 c] rfl rfl (cell_one_new _ _ _) (by simp [Value.oneCell']) (by unfold maxLen; omega) (by omega) (by simp; omega) ?_; intro v' w1 hown' hgrow _; obtain ⟨g', cap', rfl⟩ := ownsRow_succ hown'; obtain ⟨so, s1, s2, s3⟩ := learn_step n₀ g mb i s wr w2 w1 V _ hg hm (Nat.le_trans hn hsz) HO.out HM.out HR.out HM1.out HG1.out c HX.out _ hown' hgrow; have d2 := so.c2; have d3 := so.c3; have e2 := so.fr 2; have e3 := so.fr 3; have S1 := hid s1; have S2 := hid s2; have S3 := hid s3; clear hown' hgrow so s1 s2 s3))
          all_goals
            go_roundg (tt - (i + 1))
            case measure => omega
            case rel => exact ⟨i + 1, by omega, by omega, by omega, S1, hid (HK.out.trans S2.out), hid (HB.out.trans S3.out)⟩
        · rename_i hb
          have HX : Hid ((-1 : Int) = aheadI s i) := by show _ = _; rw [aheadI, if_pos h4, lk_false (by simpa using hb)]
          clear hat hwc
          generalize hwq : World.drewN wr _ = wq
          obtain ⟨HOq, HMq, HRq, HGq⟩ : Hid (ChO wq g s mb V i) ∧ Hid (wq.ownsMap Try.prog 9 rI mb i (mapD s i)) ∧ Hid (wq.ownsRow n₀ 3 1 V i ((aheads s i).map eI)) ∧ Hid (wr.grownBy wq.drew (some mb)) := by
            subst hwq
            exact ⟨HO, HM, HR, hid ⟨rfl, rfl, rfl, Nat.le_refl _, fun _ _ _ => rfl⟩⟩
          clear hwq
          have q0 := HOq.out.c0
          have q1 := HOq.out.c1
          have q3 := HOq.out.c3
          go_still_tail 9, (by kernel_rfl)
          change wpList _ _ _ _ _ (World.drew wq)
          go_wp2_with (first | (at_mapUpdate; refine wpList_mapUpdate_own _ rfl _ _ _ 132 rfl 9 3 law9 Try.underlying132 rI mb i (mapD s i) rfl HMq.out (by unfold maxLen; omega) _ _ _ rfl rfl HKEY.out _ [] (plainElem_int Try.underlying3 (WalkArith.wf_i64 (by omega))) ?_; intro w2 hown1 hgrow1; obtain ⟨MM, GG, oo, RR⟩ := learn_map n₀ g mb i s wr w2 V h4 HO.out HM.out HR.out hown1 (World.grownBy.trans HGq.out hgrow1); have k0 := oo.c0; have k1 := oo.c1; have k2 := oo.c2; have k3 := oo.c3; have l2 := oo.fr 2; have hsz2 := GG.size; have HM1 := hid MM; have HG1 := hid GG; have HR1 := hid RR; clear hown1 hgrow1 MM GG oo RR) | (at_builtin; refine wpList_append_own _ rfl _ _ 22 rfl n₀ 3 i0 (.int .i64 0) 1 8 Try.underlying22 HI.out HZ0.out HZ1.out HZ2.out rfl (by decide) _ _ _ rfl (HR1.out.alloc _) ⟨w2.heap.size, 0, none⟩ 1 1 [.int .i64 (-1)] rfl rfl (cell_one_new _ _ _) (by simp [Value.oneCell']) (by unfold maxLen; omega) (by omega) (by simp; omega) ?_; intro v' w1 hown' hgrow _; obtain ⟨g', cap', rfl⟩ := ownsRow_succ hown'; obtain ⟨so, s1, s2, s3⟩ := learn_step n₀ g mb i s wr w2 w1 V _ hg hm (Nat.le_trans hn hsz) HO.out HM.out HR.out HM1.out HG1.out (-1) HX.out _ hown' hgrow; have d2 := so.c2; have d3 := so.c3; have e2 := so.fr 2; have e3 := so.fr 3; have S1 := hid s1; have S2 := hid s2; have S3 := hid s3; clear hown' hgrow so s1 s2 s3))
          all_goals
            go_roundg (tt - (i + 1))
            case measure => omega
            case rel => exact ⟨i + 1, by omega, by omega, by omega, S1, hid (HK.out.trans S2.out), hid (HB.out.trans S3.out)⟩
      · have hdec : decide ((i : Int) + 3 ≤ (s.size : Int)) = false := decide_eq_false (by omega)
        have HM1 : Hid (wr.ownsMap Try.prog 9 rI mb (i + 1) (mapD s (i + 1))) := by
          show World.ownsMap _ _ _ _ _ _ _
          rw [mapD, if_neg h4]
          exact HM.out.mono (Nat.le_succ i)
        have HG1 : Hid (wr.grownBy wr (some mb)) := hid ⟨rfl, rfl, rfl, Nat.le_refl _, fun _ _ _ => rfl⟩
        have HX : Hid ((-1 : Int) = aheadI s i) := by show _ = _; rw [aheadI, if_neg h4]
        go_wp2_with fail
        go_quiet (fail)
        go_wp2_with (at_builtin; refine wpList_append_own _ rfl _ _ 22 rfl n₀ 3 i0 (.int .i64 0) 1 8 Try.underlying22 HI.out HZ0.out HZ1.out HZ2.out rfl (by decide) _ _ _ rfl (HR.out.alloc _) ⟨wr.heap.size, 0, none⟩ 1 1 [.int .i64 (-1)] rfl rfl (cell_one_new _ _ _) (by simp [Value.oneCell']) (by unfold maxLen; omega) (by omega) (by simp; omega) ?_; intro v' w1 hown' hgrow _; obtain ⟨g', cap', rfl⟩ := ownsRow_succ hown'; obtain ⟨so, s1, s2, s3⟩ := learn_step n₀ g mb i s wr (wr.drewN nq) w1 V _ hg hm (Nat.le_trans hn hsz) HO.out HM.out HR.out HM1.out ⟨rfl, rfl, rfl, Nat.le_refl _, fun _ _ _ => rfl⟩ (-1) HX.out _ hown' hgrow; have d2 := so.c2; have d3 := so.c3; have e2 := so.fr 2; have e3 := so.fr 3; have S1 := hid s1; have S2 := hid s2; have S3 := hid s3; clear hown' hgrow so s1 s2 s3)
        all_goals
          go_roundg (tt - (i + 1))
          case measure => omega
          case rel => exact ⟨i + 1, by omega, by omega, by omega, S1, hid (HK.out.trans S2.out), hid (HB.out.trans S3.out)⟩
    · go_wp2_with fail
      go_end0
      have e : i = tt := by omega
      subst e
      exact ⟨rfl, HCr.out, HK.out, HB.out⟩

end Go.Proofs.Ythgijppajindpaa

namespace Go.Proofs.Ythgijppajindpaa
open Go.RowKit Go.Maps Go.Proofs.YthgijppajindpaaW.PrintWords Go.Proofs.YthgijppajindpaaW.PrintLast Go.Proofs.YthgijppajindpaaW.PrintMore
attribute [local go_sem] max2_int min2_int max_two min_two

/-! ### plain -/
/-- How many bytes from two places on are the same: n are, f more may be. -/
def runGo (s : ByteArray) (a b : Nat) : Nat → Nat → Nat
  | 0, n => n
  | f + 1, n => if b + n < s.size ∧ by8 s (a + n) = by8 s (b + n) then runGo s a b f (n + 1) else n
def runN (s : ByteArray) (a b : Nat) : Nat := runGo s a b 34 0

theorem runGo_le (s : ByteArray) (a b : Nat) : ∀ f n, n ≤ runGo s a b f n ∧ runGo s a b f n ≤ n + f
  | 0, n => ⟨Nat.le_refl _, Nat.le_refl _⟩
  | f + 1, n => by
    rw [runGo]
    split
    · have := runGo_le s a b f (n + 1); omega
    · omega
theorem runN_le (s : ByteArray) (a b : Nat) : runN s a b ≤ 34 := by have := (runGo_le s a b 34 0).2; simpa [runN] using this
theorem runGo_same (s : ByteArray) (a b : Nat) : ∀ f n j, n ≤ j → j < runGo s a b f n → b + j < s.size ∧ by8 s (a + j) = by8 s (b + j)
  | 0, n, j, h1, h2 => by rw [runGo] at h2; omega
  | f + 1, n, j, h1, h2 => by
    rw [runGo] at h2
    split at h2
    · rename_i h
      by_cases e : j = n
      · subst e; exact h
      · exact runGo_same s a b f (n + 1) j (by omega) h2
    · omega
theorem runN_same (s : ByteArray) (a b j : Nat) (h : j < runN s a b) : b + j < s.size ∧ by8 s (a + j) = by8 s (b + j) := runGo_same s a b 34 0 j (Nat.zero_le _) h
theorem runN_ge3 (s : ByteArray) (a b : Nat) (hb : b + 3 ≤ s.size) (h : ∀ j, j < 3 → by8 s (a + j) = by8 s (b + j)) : 3 ≤ runN s a b := by
  unfold runN
  rw [runGo, if_pos ⟨by omega, h 0 (by omega)⟩, runGo, if_pos ⟨by omega, h 1 (by omega)⟩, runGo, if_pos ⟨by omega, h 2 (by omega)⟩]
  exact (runGo_le s a b 31 3).1

theorem three_get (s : ByteArray) (q j : Nat) : (three s q)[j]? = if j < 3 then s.data.toList[q + j]? else none := by
  unfold three
  rw [ByteArray.data_extract, Array.toList_extract, List.extract_eq_take_drop, List.getElem?_take]
  rw [show q + 3 - q = 3 by omega]
  split
  · rw [List.getElem?_drop]
  · rfl
theorem three_eq {s : ByteArray} {p q : Nat} (hp : p + 3 ≤ s.size) (hq : q + 3 ≤ s.size) : three s p = three s q ↔ ∀ j, j < 3 → by8 s (p + j) = by8 s (q + j) := by
  have hl : s.data.toList.length = s.size := by simp
  constructor
  · intro h j hj
    have e := three_get s p j
    rw [h, three_get s q j, if_pos hj, if_pos hj] at e
    unfold by8
    rw [List.getD_eq_getElem?_getD, List.getD_eq_getElem?_getD, e]
  · intro h
    apply List.ext_getElem?
    intro j
    rw [three_get, three_get]
    split
    · rename_i hj
      have e := h j hj
      unfold by8 at e
      rw [List.getD_eq_getElem?_getD, List.getD_eq_getElem?_getD, List.getElem?_eq_getElem (by omega), List.getElem?_eq_getElem (by omega)] at e
      rw [List.getElem?_eq_getElem (by omega), List.getElem?_eq_getElem (by omega)]
      congr 1
      exact UInt8.toNat_inj.1 e
    · rfl

/-- The longest run of the first k places ahead, the nearest of them. -/
def mt (s : ByteArray) (at' : Nat) : Nat → Nat × Nat
  | 0 => (0, 0)
  | k + 1 => if (mt s at' k).1 < runN s (at' - (k + 1)) at' then (runN s (at' - (k + 1)) at', k + 1) else mt s at' k
def fin3 (r : Nat × Nat) : Nat × Nat := if r.1 < 3 then (0, 0) else r
def Mt (s : ByteArray) (at' : Nat) : Nat × Nat := fin3 (mt s at' (min at' 512))

theorem mt_le (s : ByteArray) (a : Nat) : ∀ k, (mt s a k).1 ≤ 34 ∧ (mt s a k).2 ≤ k
  | 0 => ⟨by simp [mt], by simp [mt]⟩
  | k + 1 => by
    have := mt_le s a k
    have := runN_le s (a - (k + 1)) a
    rw [mt]
    split
    · exact ⟨by omega, Nat.le_refl _⟩
    · omega
theorem mt_run (s : ByteArray) (a : Nat) : ∀ k, (mt s a k).1 ≠ 0 → 1 ≤ (mt s a k).2 ∧ (mt s a k).1 = runN s (a - (mt s a k).2) a
  | 0, h => absurd rfl h
  | k + 1, h => by
    rw [mt] at h ⊢
    split
    · exact ⟨by simp, rfl⟩
    · rename_i hc
      rw [if_neg hc] at h
      exact mt_run s a k h
theorem fin3_skip {s : ByteArray} {a k : Nat} (h : runN s (a - (k + 1)) a < 3) : fin3 (mt s a (k + 1)) = fin3 (mt s a k) := by
  rw [mt]
  split
  · unfold fin3
    rw [if_pos h, if_pos (by omega)]
  · rfl
theorem fin3_skips {s : ByteArray} {a m : Nat} : ∀ n, m ≤ n → (∀ k, m < k → k ≤ n → runN s (a - k) a < 3) → fin3 (mt s a n) = fin3 (mt s a m) := by
  intro n hn
  induction hn with
  | refl => intro _; rfl
  | step h ih =>
    rename_i n
    have h' : m ≤ n := h
    intro hk
    rw [fin3_skip (hk (n + 1) (by omega) (Nat.le_refl _)), ih (fun k h1 h2 => hk k h1 (by omega))]
theorem fin3_step {s : ByteArray} {a k : Nat} (h : 3 ≤ runN s (a - (k + 1)) a) : fin3 (mt s a (k + 1)) = if (fin3 (mt s a k)).1 < runN s (a - (k + 1)) a then (runN s (a - (k + 1)) a, k + 1) else fin3 (mt s a k) := by
  rw [mt]
  by_cases hc : (mt s a k).1 < 3
  · rw [if_pos (by omega)]
    have e : fin3 (mt s a k) = (0, 0) := by unfold fin3; rw [if_pos hc]
    rw [e, if_pos (by simp; omega)]
    unfold fin3
    rw [if_neg (by simp; omega)]
  · have e : fin3 (mt s a k) = mt s a k := by unfold fin3; rw [if_neg hc]
    rw [e]
    split
    · unfold fin3
      rw [if_neg (by simp; omega)]
    · unfold fin3
      rw [if_neg hc]
theorem mt_full {s : ByteArray} {a m : Nat} (h : 34 ≤ (mt s a m).1) : ∀ n, m ≤ n → mt s a n = mt s a m := by
  intro n hn
  induction hn with
  | refl => rfl
  | step h1 ih =>
    rename_i n
    have := runN_le s (a - (n + 1)) a
    rw [mt, ih, if_neg (by omega)]

theorem fin3_cases (r : Nat × Nat) : (r.1 < 3 ∧ fin3 r = (0, 0)) ∨ (3 ≤ r.1 ∧ fin3 r = r) := by
  unfold fin3
  by_cases h : r.1 < 3
  · exact .inl ⟨h, if_pos h⟩
  · exact .inr ⟨by omega, if_neg h⟩

theorem Mt_spec (s : ByteArray) (a : Nat) : Mt s a = (0, 0) ∨ (3 ≤ (Mt s a).1 ∧ (Mt s a).1 ≤ 34 ∧ 1 ≤ (Mt s a).2 ∧ (Mt s a).2 ≤ 512 ∧ (Mt s a).2 ≤ a ∧ a + (Mt s a).1 ≤ s.size ∧ ∀ j, j < (Mt s a).1 → by8 s (a - (Mt s a).2 + j) = by8 s (a + j)) := by
  unfold Mt
  rcases fin3_cases (mt s a (min a 512)) with ⟨_, e⟩ | ⟨h, e⟩
  · exact .inl e
  · right
    rw [e]
    have h1 := mt_le s a (min a 512)
    obtain ⟨h2, h3⟩ := mt_run s a (min a 512) (by omega)
    refine ⟨h, h1.1, h2, by omega, by omega, ?_, fun j hj => ?_⟩
    · have := (runN_same s (a - (mt s a (min a 512)).2) a ((mt s a (min a 512)).1 - 1) (by omega)).1
      omega
    · rw [h3] at hj
      exact (runN_same s _ a j hj).2

theorem lastB_none {s : ByteArray} {l : List UInt8} : ∀ n, lastB s l n = none → ∀ q, q < n → q + 3 ≤ s.size → three s q ≠ l
  | 0, _, q, h, _ => by omega
  | n + 1, h, q, hq, hs => by
    rw [lastB] at h
    split at h
    · cases h
    · rename_i hc
      by_cases e : q = n
      · subst e; exact fun e2 => hc ⟨hs, e2⟩
      · exact lastB_none n h q (by omega) hs
theorem lastB_some {s : ByteArray} {l : List UInt8} : ∀ n p, lastB s l n = some p → ∀ q, p < q → q < n → q + 3 ≤ s.size → three s q ≠ l
  | 0, p, h, q, _, _, _ => by cases h
  | n + 1, p, h, q, hp, hq, hs => by
    rw [lastB] at h
    split at h
    · cases h; omega
    · rename_i hc
      by_cases e : q = n
      · subst e; exact fun e2 => hc ⟨hs, e2⟩
      · exact lastB_some n p h q hp (by omega) hs

/-- Where the three bytes are others, fewer than three are the same. -/
theorem run_other {s : ByteArray} {p a : Nat} (hp : p ≤ a) (ha : a + 3 ≤ s.size) (h : three s p ≠ three s a) : runN s p a < 3 := by
  rcases Nat.lt_or_ge (runN s p a) 3 with h1 | h1
  · exact h1
  · exact absurd ((three_eq (by omega) ha).2 (fun j hj => (runN_same s p a j (by omega)).2)) h
theorem run_three {s : ByteArray} {p a : Nat} (hp : p ≤ a) (ha : a + 3 ≤ s.size) (h : three s p = three s a) : 3 ≤ runN s p a := runN_ge3 s p a ha ((three_eq (by omega) ha).1 h)

theorem Mt_short {s : ByteArray} {a : Nat} (h : s.size < a + 3) : Mt s a = (0, 0) := by
  rcases Mt_spec s a with e | ⟨h1, _, _, _, _, h2, _⟩
  · exact e
  · omega

/-- The chain is at its end, or beyond the window. -/
theorem Mt_end {s : ByteArray} {a D : Nat} (ha : a + 3 ≤ s.size) (hD : D ≤ a) (h : lastI s (three s a) (a - D) < 0 ∨ 512 < (a : Int) - lastI s (three s a) (a - D)) : Mt s a = fin3 (mt s a (min D 512)) := by
  refine fin3_skips (min a 512) (by omega) (fun k h1 h2 => ?_)
  refine run_other (by omega) ha ?_
  unfold lastI at h
  cases hl : lastB s (three s a) (a - D) with
  | none => exact lastB_none _ hl (a - k) (by omega) (by omega)
  | some p =>
    rw [hl] at h
    have h' : 512 < (a : Int) - (p : Int) := by simpa [show ¬ (p : Int) < 0 by omega] using h
    have := lastB_lt s _ _ p hl
    exact lastB_some _ p hl (a - k) (by omega) (by omega) (by omega)

theorem Mt_full {s : ByteArray} {a D : Nat} (hD : D ≤ a) (h : 34 ≤ (fin3 (mt s a (min D 512))).1) : Mt s a = fin3 (mt s a (min D 512)) := by
  have h1 : 34 ≤ (mt s a (min D 512)).1 := by
    rcases fin3_cases (mt s a (min D 512)) with ⟨_, e⟩ | ⟨_, e⟩
    · rw [e] at h; simp at h
    · rw [e] at h; exact h
  unfold Mt
  rw [mt_full h1 (min a 512) (by omega)]

/-- One place of the chain more. -/
theorem Mt_one {s : ByteArray} {a D q : Nat} (ha : a + 3 ≤ s.size) (hD : D ≤ a) (hl : lastB s (three s a) (a - D) = some q) (hw : a - q ≤ 512) :
    fin3 (mt s a (min (a - q) 512)) = (if (fin3 (mt s a (min D 512))).1 < runN s q a then (runN s q a, a - q) else fin3 (mt s a (min D 512))) := by
  obtain ⟨h1, h2, h3⟩ := lastB_lt s _ _ q hl
  have e1 : min (a - q) 512 = (a - q - 1) + 1 := by omega
  have e2 : a - ((a - q - 1) + 1) = q := by omega
  rw [e1, fin3_step (by rw [e2]; exact run_three (by omega) ha h3), e2]
  have e3 : fin3 (mt s a (a - q - 1)) = fin3 (mt s a (min D 512)) := fin3_skips (a - q - 1) (by omega) (fun k k1 k2 => run_other (by omega) ha (lastB_some _ q hl (a - k) (by omega) (by omega) (by omega)))
  rw [e3]
  rw [show a - q - 1 + 1 = a - q by omega]

/-! ### walked -/
theorem index_by8 (s : ByteArray) (z : Int) (h0 : 0 ≤ z) (h1 : z < s.size) (W : World) : (Instr.index 9 (.string s) (.int .i64 z)).run Try.prog W = .ok (.int .u8 (by8 s z.toNat : Int)) W := by
  rw [run_index_string (P := Try.prog) W 9 s .i64 z Try.underlying9, dif_pos ⟨h0, h1⟩, by8_get s z.toNat (by omega)]
theorem index_sum (s : ByteArray) (a n : Nat) (h1 : a + n < s.size) (W : World) : (Instr.index 9 (.string s) (.int .i64 ((a : Int) + (n : Int)))).run Try.prog W = .ok (.int .u8 (by8 s (a + n) : Int)) W := by
  rw [index_by8 s _ (by omega) (by omega) W, show ((a : Int) + (n : Int)).toNat = a + n by omega]

set_option maxHeartbeats 4000000 in
set_option maxRecDepth 1000000 in
theorem same_calls (g mb a b : Nat) (s : ByteArray) (V : Value) (d : Nat) (w : World) (hab : a ≤ b) (hb : b ≤ s.size) (hs : s.size ≤ 1000000) (hO : ChO w g s mb V d) :
    Calls Try.prog 79 #[.pointer (some ⟨g, 0, none⟩), .int .i64 (a : Int), .int .i64 (b : Int)] w fun e w' => e = .returned (.int .i64 (runN s a b : Int)) ∧ ∃ m, w' = w.drewN m := by
  have HO := hid hO
  have c0 := hO.c0
  clear hO
  go_enter Try.func79, Try.ntmps79
  go_wp2_with fail
  all_goals
    rename_i hc
    go_loopg [7] 34 (fun kx s7 wr => ∃ n : Nat, s7 = .int .i64 (n : Int) ∧ n ≤ 34 ∧ b + n ≤ s.size ∧ 34 - n ≤ kx ∧ (∃ m, wr = w.drewN m) ∧ Hid (runN s a b = runGo s a b (34 - n) n))
    case atStart => exact ⟨0, rfl, by omega, by omega, by omega, ⟨0, rfl⟩, hid rfl⟩
    case round =>
      obtain ⟨n, rfl, h1, h2, h3, ⟨m, rfl⟩, HE⟩ := hrel
      by_cases hl : n < 34 ∧ b + n < s.size
      · obtain ⟨hl1, hl2⟩ := hl
        have hd1 : decide ((n : Int) < 34) = true := decide_eq_true (by omega)
        have hd2 : decide ((n : Int) < (s.size : Int) - b) = true := decide_eq_true (by omega)
        have hw1 : IntKind.i64.wrap ((a : Int) + n) = (a : Int) + n := by rw [IntKind.wrap_i64]; omega
        have hw2 : IntKind.i64.wrap ((b : Int) + n) = (b : Int) + n := by rw [IntKind.wrap_i64]; omega
        have hx1 := index_sum s a n (by omega)
        have hx2 := index_sum s b n (by omega)
        obtain ⟨x, hx⟩ : ∃ x, x = by8 s (a + n) := ⟨_, rfl⟩
        obtain ⟨y, hy⟩ : ∃ y, y = by8 s (b + n) := ⟨_, rfl⟩
        rw [← hx] at hx1
        rw [← hy] at hx2
        by_cases he : x = y
        · subst he
          have HEE : Hid (runN s a b = runGo s a b (34 - (n + 1)) (n + 1)) := by
            show _ = _
            rw [HE.out, show 34 - n = (34 - (n + 1)) + 1 by omega, runGo, if_pos ⟨hl2, hx.symm.trans hy⟩]
          clear hx hy
          go_wp2_with fail
          go_quiet (fail)
          go_wp2_with fail
          clear hx1 hx2 hw1 hw2
          go_roundg (34 - (n + 1))
          case measure => omega
          case rel => exact ⟨n + 1, by go_num, by omega, by omega, by omega, ⟨_, by first | exact World.drewN_drewN _ _ _ | rfl⟩, HEE⟩
        · have hd3 : decide ((x : Int) = (y : Int)) = false := decide_eq_false (by omega)
          have HEE : Hid (runN s a b = n) := by
            show _ = _
            rw [HE.out, show 34 - n = (34 - (n + 1)) + 1 by omega, runGo, if_neg (fun h => he (hx.trans (h.2.trans hy.symm)))]
          clear hx hy
          go_wp2_with fail
          go_quiet (fail)
          go_wp2_with fail
          go_ret
          rw [HEE.out]
          exact ⟨rfl, ⟨_, World.drewN_drewN _ _ _⟩⟩
      · have HEE : Hid (runN s a b = n) := by
          show _ = _
          rw [HE.out]
          by_cases e : n = 34
          · subst e; rfl
          · rw [show 34 - n = (34 - (n + 1)) + 1 by omega, runGo, if_neg (fun h => hl ⟨by omega, h.1⟩)]
        first
          | (have hd1 : decide ((n : Int) < 34) = false := decide_eq_false (by omega)
             go_wp2_with fail
             go_quiet (fail)
             go_wp2_with fail
             go_ret
             rw [HEE.out]
             exact ⟨rfl, ⟨_, World.drewN_drewN _ _ _⟩⟩)
          | (have hd1 : decide ((n : Int) < (s.size : Int) - b) = false := decide_eq_false (by omega)
             go_wp2_with fail
             go_quiet (fail)
             go_wp2_with fail
             go_ret
             rw [HEE.out]
             exact ⟨rfl, ⟨_, World.drewN_drewN _ _ _⟩⟩)

def lookI (s : ByteArray) (a : Nat) : Int := match lastB s (three s a) a with | some p => (p : Int) | none => 0
theorem look_eq {w : World} {mb n a : Nat} {s : ByteArray} (h : w.ownsMap Try.prog 9 rI mb n (mapD s a)) (hk : keyOf Try.prog 9 (.string (s.extract a (a + 3))) = some (.string (three s a))) :
    (Instr.lookup 132 (.map (some mb)) (.string (s.extract a (a + 3))) true).run Try.prog w = .ok (.tuple #[.int .i64 (lookI s a), .bool (lastB s (three s a) a).isSome]) w := by
  obtain ⟨v, ps, hrun, hv⟩ := h.look_ok (zd := .lit (.int .i64 0)) law9 Try.underlying132 (zero3 w) (plainElem_int Try.underlying3 (by decide)) hk
  obtain ⟨c, rfl, hc, _⟩ := plainElem_int_inv Try.underlying3 hv
  have hc' : (mapD s a).atKey (.string (three s a)) (.lit (.int .i64 0)) = .lit (.int .i64 c) := congrArg Prod.fst hc
  rw [mapD_at] at hc'
  rw [hrun, mapD_has]
  have e : c = lookI s a := by
    unfold lookI
    cases hl : lastB s (three s a) a with
    | none => rw [hl] at hc'; simp only [DataW.lit.injEq, Lit.int.injEq, true_and] at hc'; exact hc'.symm
    | some p => rw [hl] at hc'; simp only [DataW.lit.injEq, Lit.int.injEq, true_and] at hc'; exact hc'.symm
  rw [e]

theorem chained_calls (s : ByteArray) (w : World) :
    Calls Try.prog 60 #[.string s] w fun e w' => ∃ mb g, e = .returned (.pointer (some ⟨g, 0, none⟩)) ∧ w.heap.size ≤ g ∧ w.heap.size ≤ mb ∧ Chn w.heap.size g mb w' s 0 ∧ Below w.heap.size w w' := by
  have hmm := @run_makeMap Try.prog
  go_enter Try.func60, Try.ntmps60
  go_wp2
  go_ret
  refine ⟨w.heap.size, w.heap.size + 1, rfl, by omega, by omega, ⟨(World.ownsMap_made w Try.prog 9 rI).alloc _, .slice none 0 0, ?_, World.ownsRow_nil _ _ _ _⟩, ((Below.refl _ w).alloc (Nat.le_refl _) _).alloc (by simp) _⟩
  have := heap_alloc_new (w.alloc (.map #[] 0)) (.cells #[.string s, .map (some w.heap.size), .slice none 0 0, .int .i64 0] 134)
  simpa [ChO] using this

set_option maxHeartbeats 4000000 in
set_option maxRecDepth 1000000 in
theorem match_calls (n₀ g mb d a : Nat) (s : ByteArray) (w : World) (hd : d ≤ a) (ha : a ≤ s.size) (hs : s.size ≤ 1000000) (hg : n₀ ≤ g) (hm : n₀ ≤ mb) (hn : n₀ ≤ w.heap.size) (hC : Chn n₀ g mb w s d) :
    Calls Try.prog 61 #[.pointer (some ⟨g, 0, none⟩), .int .i64 (a : Int)] w fun e w' => e = .returned (.tuple #[.int .i64 ((Mt s a).1 : Int), .int .i64 ((Mt s a).2 : Int)]) ∧ Chn n₀ g mb w' s a ∧ KeepT w w' ∧ Below n₀ w w' := by
  have HC := hid hC
  clear hC
  by_cases h3 : a + 3 ≤ s.size
  · have hw3 : IntKind.i64.wrap ((a : Int) + 3) = (a : Int) + 3 := by rw [IntKind.wrap_i64]; omega
    go_enter Try.func61, Try.ntmps61
    go_wp2_with (first | (go_at_call 78; refine (learn_calls n₀ g mb d a s _ hd ha hs hg hm hn HC.out).mono ?_; rintro e w1 ⟨rfl, HC1, HK1, HB1⟩; obtain ⟨hmap, V, hobj, hrow⟩ := HC1; have c0 := hobj.c0; have c1 := hobj.c1; have c2 := hobj.c2; have c3 := hobj.c3; have HM := hid hmap; have HO := hid hobj; have HR := hid hrow; have HK1 := hid HK1; have HB1 := hid HB1; clear hmap hobj hrow))
    have hkey := three_key s a hs
    have HKEY := hid hkey
    clear hkey
    have hsl := slice3 s a h3
    have hlk : ∀ m, (Instr.lookup 132 (.map (some mb)) (.string (s.extract a (a + 3))) true).run Try.prog (w1.drewN m) = .ok (.tuple #[.int .i64 (lookI s a), .bool (lastB s (three s a) a).isSome]) (w1.drewN m) := fun m => look_eq (w := w1.drewN m) HM.out HKEY.out
    have HEND : ∀ m, Hid (Chn n₀ g mb (w1.drewN m) s a ∧ KeepT w (w1.drewN m) ∧ Below n₀ w (w1.drewN m)) := fun m => hid ⟨⟨HM.out, V, HO.out, HR.out⟩, HK1.out, ⟨HB1.out.os, HB1.out.tape, HB1.out.output, HB1.out.size, HB1.out.block⟩⟩
    unfold lookI at hlk
    cases hl : lastB s (three s a) a with
    | none =>
      rw [hl] at hlk
      have HE : Hid (Mt s a = (0, 0)) := by
        show _ = _
        have := Mt_end (D := 0) h3 (Nat.zero_le _) (.inl (by rw [Nat.sub_zero]; unfold lastI; rw [hl]; decide))
        rw [this]
        rfl
      clear hl
      simp only [Option.isSome_none] at hlk
      go_quiet (fail)
      go_wp2_with fail
      clear hlk hsl
      go_loopg [4, 5] 0 (fun kx s4 s5 wr => s4 = .int .i64 0 ∧ s5 = .int .i64 0 ∧ ∃ m, wr = w1.drewN m)
      case atStart => exact ⟨rfl, rfl, _, rfl⟩
      case round =>
        obtain ⟨rfl, rfl, m, rfl⟩ := hrel
        go_wp2_with fail
        go_ret2
        rw [HE.out]
        exact ⟨rfl, (HEND _).out⟩
    | some p0 =>
      rw [hl] at hlk
      have HL : Hid (lastB s (three s a) a = some p0) := hid hl
      obtain ⟨hp0, hp1, hp2⟩ := lastB_lt s _ _ p0 hl
      clear hl hp1 hp2
      simp only [Option.isSome_some] at hlk
      obtain ⟨g', cap, HV, hcells⟩ : ∃ g' cap, Hid (V = .slice (some ⟨g', 0, none⟩) a cap) ∧ Hid (∀ q, q < a → w1.cell? ⟨g', q, none⟩ = some (.int .i64 (aheadI s q))) := by
        rcases HR.out.2 with ⟨_, h0⟩ | ⟨g', cap, cur, hv, _⟩
        · omega
        · refine ⟨g', cap, hid hv, hid (fun q hq => ?_)⟩
          have := HR.out.cells (g := g') (by rw [hv]; rfl) q (.int .i64 (aheadI s q)) (by simp [aheads, hq])
          have hadd : (⟨g', 0, none⟩ : Addr).add q = ⟨g', q, none⟩ := by unfold Addr.add; split <;> simp_all
          rwa [hadd] at this
      rw [HV.out] at c2
      go_quiet (fail)
      go_wp2_with fail
      clear hlk hsl
      go_loopg [4, 5, 6, 8] a (fun kx s4 s5 s6 s8 wr => ∃ (best back D : Nat) (p : Int), s4 = .int .i64 (best : Int) ∧ s5 = .int .i64 (back : Int) ∧ s6 = .int .i64 p ∧ best ≤ 34 ∧ back ≤ 512 ∧ D ≤ a ∧ a - D ≤ kx ∧ -1 ≤ p ∧ p < ((a - D : Nat) : Int) ∧ (∃ m, wr = w1.drewN m) ∧ Hid ((best, back) = fin3 (mt s a (min D 512))) ∧ Hid (p = lastI s (three s a) (a - D)))
      case atStart => exact ⟨0, 0, 0, (p0 : Int), rfl, rfl, rfl, by omega, by omega, by omega, by omega, by omega, by omega, ⟨_, rfl⟩, hid rfl, hid (by rw [Nat.sub_zero]; unfold lastI; rw [HL.out])⟩
      case round =>
        obtain ⟨best, back, D, p, rfl, rfl, rfl, hb1, hb2, hD, hkx, hpa, hpb, ⟨m, rfl⟩, HBB, HP⟩ := hrel
        by_cases hc : 0 ≤ p ∧ (a : Int) - p ≤ 512 ∧ best < 34
        · obtain ⟨hc1, hc2, hc3⟩ := hc
          obtain ⟨q, rfl⟩ := Int.eq_ofNat_of_zero_le hc1
          have hqa : q < a := by omega
          have hcq := hcells.out q hqa
          have HQ : Hid (lastB s (three s a) (a - D) = some q) := by
            show _ = _
            have := HP.out
            unfold lastI at this
            cases hl2 : lastB s (three s a) (a - D) with
            | none => rw [hl2] at this; exact absurd this (by simp)
            | some q' => rw [hl2] at this; rw [Int.ofNat_inj.1 (show (q : Int) = (q' : Int) from this)]
          have hM := Mt_one h3 hD HQ.out (by omega)
          have hrn := runN_le s q a
          have hai : aheadI s q = lastI s (three s a) (a - (a - q)) := by
            obtain ⟨_, h4, h5⟩ := lastB_lt s _ _ q HQ.out
            rw [aheadI, if_pos h4, h5, show a - (a - q) = q by omega]
          have hai1 : -1 ≤ aheadI s q ∧ aheadI s q < (q : Int) := by
            unfold aheadI lastI
            split
            · split
              · rename_i p' hp'; have := lastB_lt s _ _ p' hp'; omega
              · omega
            · omega
          rw [← HBB.out] at hM
          have HMO := hid hM
          clear hM
          have HAI := hid hai
          clear hai
          obtain ⟨x, hx⟩ : ∃ x, x = aheadI s q := ⟨_, rfl⟩
          rw [← hx] at hcq hai1
          have HX := hid hx
          clear hx
          obtain ⟨r, hr⟩ : ∃ r, r = runN s q a := ⟨_, rfl⟩
          rw [← hr] at hrn
          have HRN := hid hr
          clear hr
          go_wp2_with (go_at_call 79; refine (same_calls g mb q a s V a (w1.drewN m) (by omega) ha hs HO.out).mono ?_; rintro e w2 ⟨rfl, m2, rfl⟩; rw [← HRN.out])
          · rename_i hgt
            go_roundg q
            case measure => omega
            case rel =>
              refine ⟨r, a - q, a - q, x, rfl, by go_num, rfl, by omega, by omega, by omega, by omega, by omega, by omega, ⟨_, by first | exact World.drewN_drewN _ _ _ | rfl⟩, ?_, hid (by rw [HX.out, HAI.out])⟩
              show _ = _
              rw [HMO.out, ← HRN.out, if_pos (show best < r by omega)]
          · rename_i hgt
            go_roundg q
            case measure => omega
            case rel =>
              refine ⟨best, back, a - q, x, rfl, rfl, rfl, by omega, by omega, by omega, by omega, by omega, by omega, ⟨_, by first | exact World.drewN_drewN _ _ _ | rfl⟩, ?_, hid (by rw [HX.out, HAI.out])⟩
              show _ = _
              rw [HMO.out, ← HRN.out, if_neg (show ¬ best < r by omega)]
        · have HE : Hid (Mt s a = (best, back)) := by
            show _ = _
            rw [HBB.out]
            by_cases h34 : 34 ≤ best
            · exact Mt_full hD (by rw [← HBB.out]; exact h34)
            · exact Mt_end h3 hD (by rw [← HP.out]; omega)
          have hc' : p < 0 ∨ 512 < (a : Int) - p ∨ (34 : Int) ≤ best := by omega
          clear hc
          go_wp2_with fail
          all_goals
            first
              | omega
              | (go_ret2
                 rw [HE.out]
                 exact ⟨rfl, (HEND _).out⟩)
  · go_enter Try.func61, Try.ntmps61
    go_wp2_with (first | (go_at_call 78; refine (learn_calls n₀ g mb d a s _ hd ha hs hg hm hn HC.out).mono ?_; rintro e w1 ⟨rfl, HC1, HK1, HB1⟩; have c0 := HC1.obj.choose_spec.1.c0; have HC1 := hid HC1; have HK1 := hid HK1; have HB1 := hid HB1))
    go_ret2
    rw [Mt_short (by omega)]
    exact ⟨rfl, HC1.out, HK1.out, HB1.out⟩

end Go.Proofs.Ythgijppajindpaa

namespace Go.Proofs.Ythgijppajindpaa
open Go.RowKit Go.Maps Go.Proofs.YthgijppajindpaaW.PrintWords Go.Proofs.YthgijppajindpaaW.PrintLast Go.Proofs.YthgijppajindpaaW.PrintMore
attribute [local go_sem] max2_int min2_int max_two min_two

/-- A token. -/
structure Tok where
  c : Int
  n : Int
  b : Int
  deriving Repr, DecidableEq
def tcells (ts : List Tok) : List Value := ts.flatMap fun t => [.int .u8 t.c, .int .i64 t.n, .int .i64 t.b]
theorem length_tcells : ∀ ts : List Tok, (tcells ts).length = ts.length * 3
  | [] => rfl
  | t :: ts => by
    have := length_tcells ts
    unfold tcells at *
    simp [this]
    omega
theorem tcells_snoc (ts : List Tok) (t : Tok) : tcells (ts ++ [t]) = tcells ts ++ [.int .u8 t.c, .int .i64 t.n, .int .i64 t.b] := by simp [tcells]

def splitGo (s : ByteArray) : Nat → Nat → List Tok
  | 0, _ => []
  | f + 1, a => if a < s.size then (if (Mt s a).1 = 0 then ⟨(by8 s a : Int), 0, 0⟩ :: splitGo s f (a + 1) else ⟨0, ((Mt s a).1 : Int), ((Mt s a).2 : Int)⟩ :: splitGo s f (a + (Mt s a).1)) else []
def SplitT (s : ByteArray) : List Tok := splitGo s s.size 0

theorem splitGo_fuel (s : ByteArray) : ∀ f f' a, s.size - a ≤ f → s.size - a ≤ f' → splitGo s f a = splitGo s f' a
  | 0, 0, a, _, _ => rfl
  | 0, f' + 1, a, h, _ => by rw [splitGo, splitGo, if_neg (by omega)]
  | f + 1, 0, a, _, h => by rw [splitGo, splitGo, if_neg (by omega)]
  | f + 1, f' + 1, a, h, h' => by
    rw [splitGo, splitGo]
    split
    · split
      · rw [splitGo_fuel s f f' (a + 1) (by omega) (by omega)]
      · rw [splitGo_fuel s f f' (a + (Mt s a).1) (by omega) (by omega)]
    · rfl
theorem splitGo_lit (s : ByteArray) {a : Nat} (h : a < s.size) (h0 : (Mt s a).1 = 0) : splitGo s (s.size - a) a = ⟨(by8 s a : Int), 0, 0⟩ :: splitGo s (s.size - (a + 1)) (a + 1) := by
  rw [show s.size - a = (s.size - (a + 1)) + 1 by omega, splitGo, if_pos h, if_pos h0]
theorem splitGo_copy (s : ByteArray) {a : Nat} (h : a < s.size) (h0 : (Mt s a).1 ≠ 0) : splitGo s (s.size - a) a = ⟨0, ((Mt s a).1 : Int), ((Mt s a).2 : Int)⟩ :: splitGo s (s.size - (a + (Mt s a).1)) (a + (Mt s a).1) := by
  rw [show s.size - a = (s.size - (a + 1)) + 1 by omega, splitGo, if_pos h, if_neg h0, splitGo_fuel s _ (s.size - (a + (Mt s a).1)) _ (by omega) (by omega)]

theorem cells_new (w : World) (cs : Array Value) (t : TypeId) : ∀ j u, cs.toList[j]? = some u → (w.alloc (.cells cs t)).cell? ((⟨w.heap.size, 0, none⟩ : Addr).add j) = some u := by
  intro j u h
  have hadd : (⟨w.heap.size, 0, none⟩ : Addr).add j = ⟨w.heap.size, j, none⟩ := by unfold Addr.add; split <;> simp_all
  rw [hadd, cell_of_row _ _ j cs t (0, 0) (heap_alloc_new w _)]
  simpa using h

theorem infoTok : (Try.prog.info? 68).map (fun i => (i.zero, i.size, i.bytes)) = some (some (.agg #[.int .u8 0, .int .i64 0, .int .i64 0]), 3, 24) := by kernel_rfl

theorem row_not_row {w : World} {b1 b2 s1 s2 k1 k2 : Nat} {e1 e2 : TypeId} {v1 v2 : Value} {x1 x2 : List Value} (h1 : w.ownsRow b1 e1 s1 v1 k1 x1) (h2 : w.ownsRow b2 e2 s2 v2 k2 x2) (he : e1 ≠ e2) : v1.ownBlock = none ∨ v1.ownBlock ≠ v2.ownBlock := by
  rcases h1.2 with ⟨rfl, _⟩ | ⟨g, cap, cur, rfl, _, hg, _⟩
  · exact .inl rfl
  · right
    rcases h2.2 with ⟨rfl, _⟩ | ⟨g', cap', cur', rfl, _, hg', _⟩
    · simp [Value.ownBlock]
    · intro e
      obtain rfl : g = g' := by simpa [Value.ownBlock] using e
      rw [hg] at hg'
      simp at hg'
      exact he hg'.2
theorem Chn.grown {n₀ g mb : Nat} {w w1 : World} {s : ByteArray} {d : Nat} (h : Chn n₀ g mb w s d) {e : TypeId} {size k : Nat} {v : Value} {xs : List Value} {tmp : Obj} (hr : w.ownsRow n₀ e size v k xs) (he3 : 3 ≠ e) (he4 : 134 ≠ e) (hgrow : (w.alloc tmp).grownBy w1 v.ownBlock) : Chn n₀ g mb w1 s d := by
  obtain ⟨hm, V, hO, hR⟩ := h
  refine ⟨(hm.alloc tmp).kept hgrow (ownsMap_not_row hm hr), V, ?_, (hR.alloc tmp).kept hgrow (row_not_row hR hr he3)⟩
  refine (hO.kept (World.grownBy_alloc w tmp none) (by simp)).kept hgrow (fun e' => ?_)
  rcases hr.2 with ⟨rfl, _⟩ | ⟨g', cap, cur, rfl, _, hgb, _⟩
  · simp [Value.ownBlock] at e'
  · obtain rfl : g = g' := by simpa [Value.ownBlock] using e'
    have := (show w.heap[g]? = _ from hO).symm.trans hgb
    simp at this
    exact he4 this.2
theorem ownsRow_keepT {w w' : World} {n₀ size k : Nat} {e : TypeId} {v : Value} {xs : List Value} (h : w.ownsRow n₀ e size v k xs) (hk : KeepT w w') (h3 : e ≠ 3) (h4 : e ≠ 134) : w'.ownsRow n₀ e size v k xs := by
  refine ⟨h.1, ?_⟩
  rcases h.2 with hn | ⟨g, cap, cur, rfl, hb, hgg, rest⟩
  · exact .inl hn
  · exact .inr ⟨g, cap, cur, rfl, hb, hk g cur e hgg h3 h4, rest⟩

theorem split_step {n₀ g mb a k : Nat} {s : ByteArray} {w w2 w3 : World} {v v' : Value} {ts : List Tok} {news : List Value} {tmp : Obj} (HC2 : Chn n₀ g mb w2 s a) (HR2 : w2.ownsRow n₀ 68 3 v k (tcells ts)) (HB2 : Below n₀ w w2) (hn : n₀ ≤ w2.heap.size)
    (hown : w3.ownsRow n₀ 68 3 v' (k + 1) (tcells ts ++ news)) (hgrow : (w2.alloc tmp).grownBy w3 v.ownBlock) : Hid (Chn n₀ g mb w3 s a) ∧ Hid (w3.ownsRow n₀ 68 3 v' (k + 1) (tcells ts ++ news)) ∧ Hid (Below n₀ w w3) :=
  ⟨hid (HC2.grown HR2 (by decide) (by decide) hgrow), hid hown, hid ((HB2.alloc hn tmp).grown hgrow (by simp; omega) (fun j ej => (HR2.lt j ej).1))⟩

set_option maxHeartbeats 4000000 in
set_option maxRecDepth 1000000 in
theorem split_calls (s : ByteArray) (w : World) (hs : s.size ≤ 1000000) :
    Calls Try.prog 37 #[.string s] w fun e w' => ∃ v, e = .returned v ∧ w'.ownsRow w.heap.size 68 3 v (SplitT s).length (tcells (SplitT s)) ∧ Below w.heap.size w w' := by
  have hmf : ∀ (fn : Fn) (first cap : Array Value) (w : World), (Instr.makeFunc fn first cap).run Try.prog w = .ok (.func fn first cap) w := fun _ _ _ _ => rfl
  obtain ⟨i0, hi, hz0, hz1, hz2⟩ := info_parts infoTok
  have HI := hid hi
  have HZ0 := hid hz0
  have HZ1 := hid hz1
  have HZ2 := hid hz2
  clear hi hz0 hz1 hz2
  go_enter Try.func37, Try.ntmps37
  go_wp2_with (first | (go_at_call 60; refine (chained_calls s _).mono ?_; rintro e w1 ⟨mb, g, rfl, hg, hm, HC1, HB1⟩; have HC1 := hid HC1; have HB1 := hid HB1))
  have hsz1 := HB1.out.size
  go_loopg [3, 5] s.size (fun kx s3 s5 wr => ∃ (a k : Nat) (v : Value) (ts : List Tok), s3 = v ∧ s5 = .int .i64 (a : Int) ∧ a ≤ s.size ∧ s.size - a ≤ kx ∧ k ≤ a ∧ Hid (ts.length = k) ∧ (∃ d, d ≤ a ∧ Hid (Chn w.heap.size g mb wr s d)) ∧ Hid (wr.ownsRow w.heap.size 68 3 v k (tcells ts)) ∧ Hid (Below w.heap.size w wr) ∧ Hid (SplitT s = ts ++ splitGo s (s.size - a) a))
  case atStart => exact ⟨0, 0, _, [], rfl, rfl, by omega, by omega, by omega, hid rfl, ⟨0, by omega, HC1⟩, hid (World.ownsRow_nil _ _ _ _), HB1, hid rfl⟩
  case round =>
    obtain ⟨a, k, v, ts, rfl, rfl, ha, hkx, hka, HTL, ⟨d, hd, HC⟩, HR, HB, HE⟩ := hrel
    have hszr := HB.out.size
    by_cases h : a < s.size
    · obtain ⟨x, hx⟩ : ∃ x, x = (Mt s a).1 := ⟨_, rfl⟩
      obtain ⟨y, hy⟩ : ∃ y, y = (Mt s a).2 := ⟨_, rfl⟩
      have hb : x = 0 ∨ (3 ≤ x ∧ x ≤ 34 ∧ 1 ≤ y ∧ y ≤ 512 ∧ a + x ≤ s.size) := by
        rcases Mt_spec s a with e | ⟨h1, h2, h3, h4, _, h5, _⟩
        · rw [e] at hx; exact .inl hx
        · rw [← hx] at h1 h2 h5; rw [← hy] at h3 h4; exact .inr ⟨h1, h2, h3, h4, h5⟩
      have HX := hid hx
      have HY := hid hy
      clear hx hy
      rcases hb with rfl | ⟨h1, h2, h3, h4, h5⟩
      · go_wp2_with (first | (go_at_call 61; refine (match_calls w.heap.size g mb d a s _ hd ha hs hg hm hszr HC.out).mono ?_; rintro e w2 ⟨rfl, HC2, HK2, HB2⟩; rw [← HX.out, ← HY.out]; have HR2 := hid (ownsRow_keepT HR.out HK2 (by decide) (by decide)); have hszr2 := Nat.le_trans hszr HB2.size; have HC2 := hid HC2; have HB2 := hid (HB.out.trans HB2); clear HK2) | (at_builtin; refine wpList_append_own _ rfl _ _ 64 rfl w.heap.size 68 i0 (.agg #[.int .u8 0, .int .i64 0, .int .i64 0]) 3 24 Try.underlying64 HI.out HZ0.out HZ1.out HZ2.out rfl (by decide) _ _ _ rfl (HR2.out.alloc _) ⟨w2.heap.size, 0, none⟩ 1 1 [.int .u8 ((s[a].toNat : Nat) : Int), .int .i64 0, .int .i64 0] rfl rfl (cells_new _ _ _) (by simp [Value.oneCell']) (by unfold maxLen; omega) (by omega) (by simp; omega) ?_; intro v' w3 hown' hgrow _; obtain ⟨HC3, HR3, HB3⟩ := split_step HC2.out HR2.out HB2.out hszr2 hown' hgrow; clear hown' hgrow))
        go_roundg (s.size - (a + 1))
        case measure => omega
        case rel =>
          refine ⟨a + 1, k + 1, v', ts ++ [⟨(by8 s a : Int), 0, 0⟩], rfl, by go_num, by omega, by omega, by omega, hid (by simp [HTL.out]), ⟨a, by omega, HC3⟩, ?_, HB3, hid (by rw [HE.out, splitGo_lit s h HX.out.symm, List.append_assoc]; rfl)⟩
          show World.ownsRow _ _ _ _ _ _ _
          rw [tcells_snoc, by8_get s a h]
          exact HR3.out
      · go_wp2_with (first | (go_at_call 61; refine (match_calls w.heap.size g mb d a s _ hd ha hs hg hm hszr HC.out).mono ?_; rintro e w2 ⟨rfl, HC2, HK2, HB2⟩; rw [← HX.out, ← HY.out]; have HR2 := hid (ownsRow_keepT HR.out HK2 (by decide) (by decide)); have hszr2 := Nat.le_trans hszr HB2.size; have HC2 := hid HC2; have HB2 := hid (HB.out.trans HB2); clear HK2) | (at_builtin; refine wpList_append_own _ rfl _ _ 64 rfl w.heap.size 68 i0 (.agg #[.int .u8 0, .int .i64 0, .int .i64 0]) 3 24 Try.underlying64 HI.out HZ0.out HZ1.out HZ2.out rfl (by decide) _ _ _ rfl (HR2.out.alloc _) ⟨w2.heap.size, 0, none⟩ 1 1 [.int .u8 0, .int .i64 (x : Int), .int .i64 (y : Int)] rfl rfl (cells_new _ _ _) (by simp [Value.oneCell']) (by unfold maxLen; omega) (by omega) (by simp; omega) ?_; intro v' w3 hown' hgrow _; obtain ⟨HC3, HR3, HB3⟩ := split_step HC2.out HR2.out HB2.out hszr2 hown' hgrow; clear hown' hgrow))
        go_roundg (s.size - (a + x))
        case measure => omega
        case rel =>
          refine ⟨a + x, k + 1, v', ts ++ [⟨0, (x : Int), (y : Int)⟩], rfl, by go_num, by omega, by omega, by omega, hid (by simp [HTL.out]), ⟨a, by omega, HC3⟩, ?_, HB3, hid (by rw [HE.out, splitGo_copy s h (by rw [← HX.out]; omega), List.append_assoc, ← HX.out, ← HY.out]; rfl)⟩
          show World.ownsRow _ _ _ _ _ _ _
          rw [tcells_snoc]
          exact HR3.out
    · have HEE : Hid (SplitT s = ts) := by
        show _ = _
        rw [HE.out, show s.size - a = 0 by omega]
        simp [splitGo]
      go_wp2_with fail
      go_ret
      rw [HEE.out, HTL.out]
      exact ⟨_, rfl, HR.out, HB.out⟩

end Go.Proofs.Ythgijppajindpaa
