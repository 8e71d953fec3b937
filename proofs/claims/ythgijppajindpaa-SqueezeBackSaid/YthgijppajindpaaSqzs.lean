/-
  squeeze.symbol, Freq, Squeeze are walked.
-/
import Derived.Test.YthgijppajindpaaWins
import Derived.Test.YthgijppajindpaaMps
set_option linter.unusedVariables false
set_option linter.unusedSimpArgs false
namespace Go.Proofs.Ythgijppajindpaa
open Go.RowKit Go.Maps Go.Proofs.YthgijppajindpaaW.PrintWords Go.Proofs.YthgijppajindpaaW.PrintLast Go.Proofs.YthgijppajindpaaW.PrintMore
attribute [local go_sem] max2_int min2_int max_two min_two

def zT : Tok := ⟨0, 0, 0⟩
/-- The symbol of a token. -/
def symK (t : Tok) : Int × Bool := if t.n = 0 then (t.c, true) else if t.n < 3 ∨ 34 < t.n then (0, false) else (256 + t.n - 3, true)
def bump (xs : List Int) (t : Tok) : List Int := if (symK t).2 then xs.set (symK t).1.toNat (xs.getD (symK t).1.toNat 0 + 1) else xs
def FreqT (ts : List Tok) : List Int := (ts.foldl bump (List.replicate 289 0)).set 288 1

theorem symK_bound {t : Tok} (h0 : 0 ≤ t.c) (h1 : t.c < 256) : 0 ≤ (symK t).1 ∧ (symK t).1 < 288 := by
  unfold symK
  split
  · simp; omega
  · split
    · simp
    · simp; omega
theorem length_bump (xs : List Int) (t : Tok) : (bump xs t).length = xs.length := by
  unfold bump; split <;> simp
theorem length_bumps (ts : List Tok) : ∀ xs, (ts.foldl bump xs).length = xs.length := by
  induction ts with
  | nil => intro xs; rfl
  | cons t ts ih => intro xs; rw [List.foldl_cons, ih, length_bump]
theorem bump_bound {xs : List Int} {i : Int} (hi : 0 ≤ i) (h : ∀ j, 0 ≤ xs.getD j 0 ∧ xs.getD j 0 ≤ i) (t : Tok) : ∀ j, 0 ≤ (bump xs t).getD j 0 ∧ (bump xs t).getD j 0 ≤ i + 1 := by
  intro j
  have hj := h j
  have hk := h (symK t).1.toNat
  unfold bump
  split
  · rw [List.getD_eq_getElem?_getD, List.getElem?_set]
    split
    · split
      · exact ⟨by show 0 ≤ xs.getD _ 0 + 1; omega, by show xs.getD _ 0 + 1 ≤ i + 1; omega⟩
      · exact ⟨Int.le_refl 0, by show (0 : Int) ≤ i + 1; omega⟩
    · rw [← List.getD_eq_getElem?_getD]; omega
  · omega

/-- The tokens can be read. -/
def Rdt (w : World) (A : Option Addr) (n : Nat) (ts : List Tok) : Prop := ts.length = n ∧ (0 < n → ∃ b off, A = some ⟨b, off, none⟩ ∧ b < w.heap.size ∧ ∀ j, j < n → w.cell? ⟨b, off + j * 3, none⟩ = some (.int .u8 (ts.getD j zT).c) ∧ w.cell? ⟨b, off + j * 3 + 1, none⟩ = some (.int .i64 (ts.getD j zT).n) ∧ w.cell? ⟨b, off + j * 3 + 2, none⟩ = some (.int .i64 (ts.getD j zT).b))

theorem symbol_calls (t : Tok) (w : World) (hc0 : 0 ≤ t.c) (hc1 : t.c < 256) :
    Calls Try.prog 53 #[.agg #[.int .u8 t.c, .int .i64 t.n, .int .i64 t.b]] w fun e w' => e = .returned (.tuple #[.int .i64 (symK t).1, .bool (symK t).2]) ∧ Below w.heap.size w w' := by
  obtain ⟨c, n, b⟩ := t
  simp only at hc0 hc1
  have HB : Hid (Below w.heap.size w (w.alloc (.cells #[.int .u8 c, .int .i64 n, .int .i64 b] 68))) := hid ((Below.refl _ _).alloc (Nat.le_refl _) _)
  unfold symK
  simp only
  by_cases h0 : n = 0
  · subst h0
    go_enter Try.func53, Try.ntmps53
    go_wp2_with fail
    go_ret2
    exact ⟨rfl, HB.out⟩
  · rw [if_neg h0]
    by_cases h1 : n < 3 ∨ 34 < n
    · rw [if_pos h1]
      go_enter Try.func53, Try.ntmps53
      go_wp2_with fail
      all_goals
        go_ret2
        exact ⟨rfl, HB.out⟩
    · rw [if_neg h1]
      go_enter Try.func53, Try.ntmps53
      go_wp2_with fail
      all_goals
        go_ret2
        exact ⟨rfl, HB.out⟩

theorem takeT_snoc {ts : List Tok} {i : Nat} (hi : i < ts.length) : ts.take (i + 1) = ts.take i ++ [ts.getD i zT] := by
  rw [List.take_succ_eq_append_getElem hi, List.getD_eq_getElem?_getD, List.getElem?_eq_getElem hi]; rfl

theorem made_ints (n : Nat) : madeCells (Value.int .i64 0).cells n = ((List.replicate n 0).map eI).toArray := by
  apply Array.ext_getElem?
  intro j
  have hm : (madeCells (Value.int .i64 0).cells n)[j]? = if j < n then some (.int .i64 0) else none := by
    unfold madeCells
    rw [Array.getElem?_map, Array.getElem?_range]
    split
    · simp [Value.cells, Nat.mod_one]
    · rfl
  rw [hm, List.getElem?_toArray, List.getElem?_map, List.getElem?_replicate]
  split <;> rfl
theorem make289 (w : World) : (Instr.makeSlice 22 (.int .i64 289) (.int .i64 289)).run Try.prog w = .ok (.slice (some ⟨w.heap.size, 0, none⟩) 289 289) (w.alloc (.cells ((List.replicate 289 0).map eI).toArray 3)) := by
  obtain ⟨i, hi, hz, hs, hb⟩ := info_parts infoI64
  have hr := run_make (P := Try.prog) w 22 3 i (.int .i64 0) Try.underlying22 hi hz .i64 .i64 289 289 (by omega) (Int.le_refl _) (by rw [hb]; omega) (by omega)
  rw [hr, hs, show (289 : Int).toNat * 1 = 289 from rfl, made_ints]
  rfl

theorem freq_step {N : Nat} {w wr w2 : World} {xs : List Int} {o : Obj} (hA : Arr 3 eI wr N xs) (hB : Below N w wr) (hN : N < wr.heap.size) (hb : Below (wr.alloc o).heap.size (wr.alloc o) w2) : Arr 3 eI w2 N xs ∧ Below N w w2 ∧ N < w2.heap.size := by
  have b1 : Below wr.heap.size wr (wr.alloc o) := (Below.refl _ _).alloc (Nat.le_refl _) o
  have hs : wr.heap.size ≤ (wr.alloc o).heap.size := b1.size
  have b2 : Below wr.heap.size wr w2 := b1.trans (hb.mono hs)
  exact ⟨hA.below hN b2, hB.trans (b2.mono (Nat.le_of_lt hN)), Nat.lt_of_lt_of_le hN b2.size⟩

set_option maxHeartbeats 4000000 in
set_option maxRecDepth 1000000 in
theorem freq_calls (A : Option Addr) (n c : Nat) (ts : List Tok) (w : World) (hn : n ≤ 1000000) (hR : Rdt w A n ts) (hcs : ∀ t, t ∈ ts → 0 ≤ t.c ∧ t.c < 256) :
    Calls Try.prog 35 #[.slice A n c] w fun e w' => ∃ g, e = .returned (.slice (some ⟨g, 0, none⟩) 289 289) ∧ w.heap.size ≤ g ∧ Arr 3 eI w' g (FreqT ts) ∧ Below w.heap.size w w' := by
  obtain ⟨arr, harr⟩ : ∃ arr, arr = ((List.replicate 289 0).map eI).toArray := ⟨_, rfl⟩
  have hm := make289 w
  rw [← harr] at hm
  have HARR := hid harr
  clear harr
  obtain ⟨hl, hc⟩ := hR
  have HC := hid hc
  have HL := hid hl
  have HCS := hid hcs
  clear hl hc hcs
  go_enter Try.func35, Try.ntmps35
  go_wp2_with fail
  clear hm
  obtain ⟨N, hN⟩ : ∃ N, w.heap.size = N := ⟨_, rfl⟩
  rw [hN]
  have HN := hid hN
  obtain ⟨W0, hW0⟩ : ∃ W, (w.alloc (.cells arr 3)) = W := ⟨_, rfl⟩
  have R0 : Hid (Arr 3 eI W0 N (List.replicate 289 0)) := by
    show _ = _
    rw [← hN, ← hW0, ← HARR.out]
    exact heap_alloc_new _ _
  have B0 : Hid (Below N w W0) := by
    show Below _ _ _
    rw [← hN, ← hW0]
    exact (Below.refl _ _).alloc (Nat.le_refl _) _
  rw [hW0]
  clear hW0 hN
  go_loopg [11] n (fun kx s11 wr => ∃ (i : Nat) (xs : List Int), s11 = .int .i64 i ∧ i ≤ n ∧ n - i ≤ kx ∧ Hid (xs.length = 289) ∧ Hid (xs = (ts.take i).foldl bump (List.replicate 289 0)) ∧ Hid (∀ j, 0 ≤ xs.getD j 0 ∧ xs.getD j 0 ≤ (i : Int)) ∧ Hid (Arr 3 eI wr N xs) ∧ Hid (Below N w wr) ∧ N < wr.heap.size)
  case atStart => exact ⟨0, List.replicate 289 0, rfl, by omega, by omega, hid (by simp), hid rfl, hid (fun j => by rw [List.getD_eq_getElem?_getD, List.getElem?_replicate]; split <;> simp), R0, B0, (Array.getElem?_eq_some_iff.1 R0.out).1⟩
  case round =>
    obtain ⟨i, xs, rfl, hin, hikx, HXL, HX, HXB, HA, HB, hNs⟩ := hrel
    by_cases hlt : i < n
    · obtain ⟨b, off, rfl, hb, hcell⟩ := HC.out (by omega)
      obtain ⟨t, ht⟩ : ∃ t, t = ts.getD i zT := ⟨_, rfl⟩
      have hbn : b < N := by rw [← HN.out]; exact hb
      obtain ⟨k0, k1, k2⟩ := hcell i hlt
      have c0 := (HB.out.cell (p := ⟨b, off + i * 3, none⟩) hbn).trans k0
      have c1 := (HB.out.cell (p := ⟨b, off + i * 3 + 1, none⟩) hbn).trans k1
      have c2 := (HB.out.cell (p := ⟨b, off + i * 3 + 2, none⟩) hbn).trans k2
      clear k0 k1 k2 hcell hb hbn
      rw [← ht] at c0 c1 c2
      have hct : 0 ≤ t.c ∧ t.c < 256 := HCS.out t (by rw [ht, List.getD_eq_getElem?_getD, List.getElem?_eq_getElem (by rw [HL.out]; exact hlt)]; exact List.getElem_mem _)
      have hk := symK_bound hct.1 hct.2
      have HT := hid ht
      clear ht
      obtain ⟨k, hkk⟩ : ∃ k : Nat, (symK t).1 = (k : Int) := ⟨(symK t).1.toNat, by omega⟩
      have HKK := hid hkk
      rw [hkk] at hk
      clear hkk
      obtain ⟨v, hv⟩ : ∃ v, v = xs.getD k 0 := ⟨_, rfl⟩
      have hvb := HXB.out k
      rw [← hv] at hvb
      have HV := hid hv
      clear hv
      have HS : Hid (bump xs t = if (symK t).2 = true then xs.set k (v + 1) else xs) := by
        show _ = _
        unfold bump
        rw [HKK.out, Int.toNat_natCast, ← HV.out]
      obtain ⟨bb, hbb⟩ : ∃ bb, bb = (symK t).2 := ⟨_, rfl⟩
      have HBB := hid hbb
      clear hbb
      have hsz : k < 289 := by omega
      go_wp2_with (first | (go_at_call 53; refine (symbol_calls t (wr.alloc (Obj.cells #[.int .u8 t.c, .int .i64 t.n, .int .i64 t.b] 68)) hct.1 hct.2).mono ?_; rintro e w2 ⟨rfl, HB2⟩; rw [HKK.out, ← HBB.out]; obtain ⟨a2, b2, n2⟩ := freq_step HA.out HB.out hNs HB2; have d1 := a2.cell (j := k) (by rw [HXL.out]; exact hsz); rw [← HV.out] at d1; have d2 := a2.frozen k; have HA2 := hid a2; have HB2 := hid b2; clear a2 b2))
      · rename_i hb
        go_roundg (n - (i + 1))
        case measure => omega
        case rel =>
          have hbt : (symK t).2 = true := by rw [← HBB.out]; simpa using hb
          have e1 : xs.set k (v + 1) = bump xs t := by rw [HS.out, if_pos hbt]
          refine ⟨i + 1, bump xs t, by go_num, by omega, by omega, hid (by rw [length_bump, HXL.out]), ?_, ?_, ?_, hid (HB2.out.setCell (p := ⟨N, k, none⟩) (Nat.le_refl _) _), by simpa [World.setCell] using n2⟩
          · show _ = _
            rw [takeT_snoc (by rw [HL.out]; exact hlt), List.foldl_append, ← HX.out, ← HT.out]
            rfl
          · have := bump_bound (by omega) HXB.out t
            exact hid (by push_cast; exact this)
          · show Arr _ _ _ _ _
            rw [← e1]
            exact HA2.out.set (by rw [HXL.out]; exact hsz) (v + 1)
      · rename_i hb
        go_roundg (n - (i + 1))
        case measure => omega
        case rel =>
          have hbt : ¬ (symK t).2 = true := by rw [← HBB.out]; simpa using hb
          have e1 : xs = bump xs t := by rw [HS.out, if_neg hbt]
          refine ⟨i + 1, xs, by go_num, by omega, by omega, HXL, ?_, ?_, HA2, HB2, n2⟩
          · show _ = _
            rw [takeT_snoc (by rw [HL.out]; exact hlt), List.foldl_append, ← HX.out, ← HT.out]
            exact e1
          · exact hid (fun j => by have := HXB.out j; omega)
    · have hf := HA.out.frozen 288
      have hcl := HA.out.cell (j := 288) (by rw [HXL.out]; omega)
      have HE : Hid (xs.set 288 1 = FreqT ts) := by
        show _ = _
        rw [HX.out, FreqT, show i = ts.length by rw [HL.out]; omega, List.take_length]
      go_wp2_with fail
      go_ret
      refine ⟨N, rfl, by rw [HN.out]; exact Nat.le_refl _, ?_, by rw [HN.out]; exact HB.out.setCell (p := ⟨N, 288, none⟩) (Nat.le_refl _) _⟩
      rw [← HE.out]
      exact HA.out.set (by rw [HXL.out]; omega) 1

end Go.Proofs.Ythgijppajindpaa

namespace Go.Proofs.Ythgijppajindpaa
open Go.RowKit Go.Maps Go.Proofs.YthgijppajindpaaW.PrintWords Go.Proofs.YthgijppajindpaaW.PrintLast Go.Proofs.YthgijppajindpaaW.PrintMore Go.Proofs.Ythgijppajindpaa.K7
attribute [local go_sem] max2_int min2_int max_two min_two

/-! ### plain -/
def TokOk (t : Tok) : Prop := (t.n = 0 ∧ 0 ≤ t.c ∧ t.c < 256 ∧ t.b = 0) ∨ (t.c = 0 ∧ 3 ≤ t.n ∧ t.n ≤ 34 ∧ 1 ≤ t.b ∧ t.b ≤ 512)
theorem TokOk.byte {t : Tok} (h : TokOk t) : 0 ≤ t.c ∧ t.c < 256 := by unfold TokOk at h; omega

theorem splitGo_ok (s : ByteArray) : ∀ f a t, t ∈ splitGo s f a → TokOk t
  | 0, a, t, h => by simp [splitGo] at h
  | f + 1, a, t, h => by
    rw [splitGo] at h
    split at h
    · split at h
      · rcases List.mem_cons.1 h with rfl | h
        · have := by8_lt s a
          exact .inl ⟨rfl, by show (0 : Int) ≤ ((by8 s a : Nat) : Int); omega, by show ((by8 s a : Nat) : Int) < 256; omega, rfl⟩
        · exact splitGo_ok s f _ t h
      · rename_i h0
        rcases List.mem_cons.1 h with rfl | h
        · rcases Mt_spec s a with e | ⟨h1, h2, h3, h4, _⟩
          · exact absurd (by rw [e]) h0
          · exact .inr ⟨rfl, by show (3 : Int) ≤ (((Mt s a).1 : Nat) : Int); omega, by show (((Mt s a).1 : Nat) : Int) ≤ 34; omega, by show (1 : Int) ≤ (((Mt s a).2 : Nat) : Int); omega, by show (((Mt s a).2 : Nat) : Int) ≤ 512; omega⟩
        · exact splitGo_ok s f _ t h
    · cases h
theorem SplitT_ok (s : ByteArray) : ∀ t, t ∈ SplitT s → TokOk t := splitGo_ok s _ _
theorem splitGo_len (s : ByteArray) : ∀ f a, (splitGo s f a).length ≤ f
  | 0, a => by simp [splitGo]
  | f + 1, a => by
    rw [splitGo]
    split
    · split
      · have := splitGo_len s f (a + 1); simp; omega
      · have := splitGo_len s f (a + (Mt s a).1); simp; omega
    · simp
theorem SplitT_len (s : ByteArray) : (SplitT s).length ≤ s.size := splitGo_len s _ _

theorem bumps_bound : ∀ (ts : List Tok) (xs : List Int) (i : Int), 0 ≤ i → (∀ j, 0 ≤ xs.getD j 0 ∧ xs.getD j 0 ≤ i) → ∀ j, 0 ≤ (ts.foldl bump xs).getD j 0 ∧ (ts.foldl bump xs).getD j 0 ≤ i + ts.length
  | [], xs, i, h0, h => fun j => by simpa using h j
  | t :: ts, xs, i, h0, h => fun j => by
    have := bumps_bound ts (bump xs t) (i + 1) (by omega) (bump_bound h0 h t) j
    rw [List.foldl_cons, List.length_cons]
    push_cast
    omega
theorem length_FreqT (ts : List Tok) : (FreqT ts).length = 289 := by unfold FreqT; rw [List.length_set, length_bumps, List.length_replicate]
theorem FreqT_get (ts : List Tok) (j : Nat) : 0 ≤ (FreqT ts).getD j 0 ∧ (FreqT ts).getD j 0 ≤ ts.length + 1 := by
  have h := bumps_bound ts (List.replicate 289 0) 0 (by omega) (fun j => by rw [List.getD_eq_getElem?_getD, List.getElem?_replicate]; split <;> simp) j
  unfold FreqT
  rw [List.getD_eq_getElem?_getD, List.getElem?_set]
  split
  · split
    · exact ⟨by decide, by show (1 : Int) ≤ _; omega⟩
    · exact ⟨by decide, by show (0 : Int) ≤ _; omega⟩
  · rw [← List.getD_eq_getElem?_getD]; omega
theorem FreqT_end (ts : List Tok) : (FreqT ts).getD 288 0 = 1 := by
  unfold FreqT
  rw [List.getD_eq_getElem?_getD, List.getElem?_set, if_pos rfl, if_pos (by rw [length_bumps, List.length_replicate]; omega)]
  rfl
theorem FreqT_ok (ts : List Tok) (h : ts.length ≤ 1000000) : freqOk (FreqT ts) = true := (freqOk_iff _).2 (fun j => by have := FreqT_get ts j; omega)
theorem used_le : ∀ l : List Int, used l ≤ l.length
  | [] => by simp [used]
  | x :: l => by rw [used_cons, List.length_cons]; have := used_le l; push_cast; omega
theorem used_ge : ∀ (l : List Int) (j : Nat), (∀ x, x ∈ l → 0 ≤ x) → 1 ≤ l.getD j 0 → 1 ≤ used l
  | [], j, _, h => by simp at h
  | x :: l, 0, h0, h => by
    rw [used_cons]
    have hn : ∀ l : List Int, (∀ x, x ∈ l → 0 ≤ x) → 0 ≤ used l := by
      intro l
      induction l with
      | nil => intro _; simp [used]
      | cons y l ih => intro hy; rw [used_cons]; have := ih (fun z hz => hy z (by simp [hz])); have := hy y (by simp); omega
    have := hn l (fun z hz => h0 z (by simp [hz]))
    have : 1 ≤ x := by simpa using h
    omega
  | x :: l, j + 1, h0, h => by
    rw [used_cons]
    have := used_ge l j (fun z hz => h0 z (by simp [hz])) (by simpa using h)
    have := h0 x (by simp)
    omega

/-- The lengths of a text's symbols. -/
def LenT (ts : List Tok) : List Int := lens 20 15 (FreqT ts)
theorem LenT_good (ts : List Tok) (h : ts.length ≤ 1000000) : Lens (FreqT ts) 15 = (LenT ts, 0) ∧ (LenT ts).length = 289 ∧ isCode (LenT ts) = true ∧ (∀ j, 0 ≤ (LenT ts).getD j 0 ∧ (LenT ts).getD j 0 ≤ 15) ∧ (∀ j, j < 289 → ((LenT ts).getD j 0 = 0 ↔ ¬ 0 < (FreqT ts).getD j 0)) := by
  have hl := length_FreqT ts
  have hu := used_le (FreqT ts)
  have hp : (2 : Int) ^ 15 = 32768 := by decide
  obtain ⟨h1, g⟩ := Lens_good (FreqT ts) 15 (by omega) (by decide) (by decide) (FreqT_ok ts h) (by omega)
  have e : ((15 : Nat) : Int) = 15 := rfl
  rw [e] at g h1
  have hnn : ∀ x, x ∈ FreqT ts → 0 ≤ x := fun x hx => by obtain ⟨j, _, rfl⟩ := mem_getD hx; exact (FreqT_get ts j).1
  have hu1 := used_ge (FreqT ts) 288 hnn (by rw [FreqT_end]; decide)
  refine ⟨h1, g.len.trans hl, ?_, fun j => ?_, fun j hj => (g.at_ j (by omega)).2.2⟩
  · by_cases e1 : used (FreqT ts) = 1
    · exact (g.one e1).2
    · exact (g.whole (by omega)).2
  · by_cases hj : j < 289
    · have := g.at_ j (by omega)
      exact ⟨this.1, this.2.1⟩
    · have : (lens 20 15 (FreqT ts)).length ≤ j := by rw [g.len]; omega
      show 0 ≤ (lens 20 15 (FreqT ts)).getD j 0 ∧ (lens 20 15 (FreqT ts)).getD j 0 ≤ 15
      rw [List.getD_eq_getElem?_getD, List.getElem?_eq_none this]
      decide

def tabTo (L : List Int) (k : Nat) : List S42 := (List.range k).flatMap fun i => if 0 < L.getD i 0 then [⟨(i : Int), 9⟩, ⟨L.getD i 0, 4⟩] else []
theorem tabTo_succ (L : List Int) (k : Nat) : tabTo L (k + 1) = tabTo L k ++ (if 0 < L.getD k 0 then [⟨(k : Int), 9⟩, ⟨L.getD k 0, 4⟩] else []) := by
  unfold tabTo
  rw [List.range_succ, List.flatMap_append]
  simp
def bodyT (L : List Int) (t : Tok) : List S42 := P42 L (symK t).1.toNat :: (if 256 ≤ (symK t).1 then [⟨t.b - 1, 9⟩] else [])
/-- The pieces that a text is squeezed to. -/
def sqP (ts : List Tok) : List S42 := (⟨usedK (LenT ts), 9⟩ :: tabTo (LenT ts) 289) ++ ts.flatMap (bodyT (LenT ts)) ++ [P42 (LenT ts) 288]
/-- P9.2. -/
def Sqz (s : ByteArray) : ByteArray × Int := if 4096 < s.size then (ByteArray.empty, 90) else Pack (sqP (SplitT s))

theorem pcells_snoc (ps : List S42) (p : S42) : pcells (ps ++ [p]) = pcells ps ++ [.int .u32 p.f0, .int .i64 p.f1] := by simp [pcells]
theorem pcells_append (ps qs : List S42) : pcells (ps ++ qs) = pcells ps ++ pcells qs := by simp [pcells]
theorem infoPc : (Try.prog.info? 42).map (fun i => (i.zero, i.size, i.bytes)) = some (some (.agg #[.int .u32 0, .int .i64 0]), 2, 16) := by kernel_rfl

set_option maxHeartbeats 4000000 in
set_option maxRecDepth 1000000 in
theorem put_calls (n₀ B k x q : Nat) (v : Value) (ps : List S42) (w : World) (hx : x < 4294967296) (hk : k ≤ 1000000) (hB : n₀ ≤ B) (hn : n₀ ≤ w.heap.size) (hb : Boxed w B 32 v) (hr : w.ownsRow n₀ 42 2 v k (pcells ps)) :
    Calls Try.prog 52 #[.int .i64 (x : Int), .int .i64 (q : Int), .pointer (some ⟨B, 0, none⟩)] w fun e w' => e = .returned (.tuple #[]) ∧ ∃ v', Boxed w' B 32 v' ∧ w'.ownsRow n₀ 42 2 v' (k + 1) (pcells (ps ++ [⟨(x : Int), (q : Int)⟩])) ∧ Below n₀ w w' := by
  obtain ⟨i0, hi, hz0, hz1, hz2⟩ := info_parts infoPc
  have HI := hid hi
  have HZ0 := hid hz0
  have HZ1 := hid hz1
  have HZ2 := hid hz2
  clear hi hz0 hz1 hz2
  have c1 := hb.cell
  have f1 := hb.frozen
  have HB := hid hb
  have HR := hid hr
  clear hb hr
  have hw : IntKind.u32.wrap (x : Int) = x := by rw [IntKind.wrap_u32]; omega
  have hmod : (x : Int) % 4294967296 = x := by omega
  go_enter Try.func52, Try.ntmps52
  go_wp2_with (at_builtin; refine wpList_append_own _ rfl _ _ 32 rfl n₀ 42 i0 (.agg #[.int .u32 0, .int .i64 0]) 2 16 Try.underlying32 HI.out HZ0.out HZ1.out HZ2.out rfl (by decide) _ _ _ rfl (HR.out.alloc _) ⟨w.heap.size, 0, none⟩ 1 1 [.int .u32 (x : Int), .int .i64 (q : Int)] rfl rfl (cells_new _ _ _) (by simp [Value.oneCell']) (by unfold maxLen; omega) (by omega) (by simp; omega) ?_; intro v' w1 hown' hgrow _; obtain ⟨g', cap', rfl⟩ := ownsRow_succ hown'; obtain ⟨hv1, hv2, hr2, hk2, hb2⟩ := HB.out.appended (by decide) HR.out hn hB hown' hgrow; have d1 := hv1.cell; have e1 := hv1.frozen; have V2 := hid hv2; have R2 := hid hr2; have B2 := hid hb2; clear hown' hgrow hv1 hv2 hr2 hk2 hb2)
  go_end0
  refine ⟨rfl, _, V2.out, ?_, B2.out⟩
  rw [pcells_snoc]
  exact R2.out

end Go.Proofs.Ythgijppajindpaa

namespace Go.Proofs.Ythgijppajindpaa
open Go.RowKit Go.Maps Go.Proofs.YthgijppajindpaaW.PrintWords Go.Proofs.YthgijppajindpaaW.PrintLast Go.Proofs.YthgijppajindpaaW.PrintMore Go.Proofs.Ythgijppajindpaa.K7
attribute [local go_sem] max2_int min2_int max_two min_two

theorem tcells_get : ∀ (ts : List Tok) (j : Nat), j < ts.length → (tcells ts)[j * 3]? = some (.int .u8 (ts.getD j zT).c) ∧ (tcells ts)[j * 3 + 1]? = some (.int .i64 (ts.getD j zT).n) ∧ (tcells ts)[j * 3 + 2]? = some (.int .i64 (ts.getD j zT).b)
  | t :: ts, 0, _ => ⟨rfl, rfl, rfl⟩
  | t :: ts, j + 1, h => by
    have h1 := tcells_get ts j (by simpa using h)
    have e : tcells (t :: ts) = .int .u8 t.c :: .int .i64 t.n :: .int .i64 t.b :: tcells ts := rfl
    rw [e, show (j + 1) * 3 = j * 3 + 3 by omega]
    simpa using h1

theorem rdt_of_row {w : World} {n₀ n : Nat} {v : Value} {ts : List Tok} (hl : ts.length = n) (h : w.ownsRow n₀ 68 3 v n (tcells ts)) : ∃ A c, v = .slice A n c ∧ Rdt w A n ts := by
  rcases h.2 with ⟨rfl, rfl⟩ | ⟨g, cap, cur, rfl, hb, hg, _⟩
  · exact ⟨none, 0, rfl, hl, fun h => absurd h (Nat.lt_irrefl 0)⟩
  · refine ⟨_, _, rfl, hl, fun _ => ⟨g, 0, rfl, (Array.getElem?_eq_some_iff.1 hg).1, fun j hj => ?_⟩⟩
    have hadd : ∀ m, (⟨g, 0, none⟩ : Addr).add m = ⟨g, m, none⟩ := fun m => by unfold Addr.add; split <;> simp_all
    obtain ⟨h0, h1, h2⟩ := tcells_get ts j (by omega)
    have k0 := h.cells (g := g) rfl _ _ h0
    have k1 := h.cells (g := g) rfl _ _ h1
    have k2 := h.cells (g := g) rfl _ _ h2
    rw [hadd] at k0 k1 k2
    simp only [Nat.zero_add]
    exact ⟨k0, k1, k2⟩
theorem rdp_of_row {w : World} {n₀ n : Nat} {v : Value} {ps : List S42} (hl : ps.length = n) (h : w.ownsRow n₀ 42 2 v n (pcells ps)) : ∃ A c, v = .slice A n c ∧ Rdp w A n ps := by
  rcases h.2 with ⟨rfl, rfl⟩ | ⟨g, cap, cur, rfl, hb, hg, _⟩
  · exact ⟨none, 0, rfl, hl, fun h => absurd h (Nat.lt_irrefl 0)⟩
  · refine ⟨_, _, rfl, hl, fun _ => ⟨g, 0, rfl, (Array.getElem?_eq_some_iff.1 hg).1, fun j hj => ?_⟩⟩
    have hadd : ∀ m, (⟨g, 0, none⟩ : Addr).add m = ⟨g, m, none⟩ := fun m => by unfold Addr.add; split <;> simp_all
    obtain ⟨h0, h1⟩ := pcells_get ps j (by omega)
    have e : ps.getD j z42 = ps[j]'(by omega) := by rw [List.getD_eq_getElem?_getD, List.getElem?_eq_getElem (by omega)]; rfl
    have k0 := h.cells (g := g) rfl _ _ h0
    have k1 := h.cells (g := g) rfl _ _ h1
    rw [hadd] at k0 k1
    rw [e, show 0 + j * 2 = 2 * j by omega]
    exact ⟨k0, k1⟩
theorem Rdt.below {w w' : World} {A : Option Addr} {n : Nat} {ts : List Tok} (h : Rdt w A n ts) (hb : Below w.heap.size w w') : Rdt w' A n ts := by
  refine ⟨h.1, fun h0 => ?_⟩
  obtain ⟨b, off, e, hlt, hc⟩ := h.2 h0
  exact ⟨b, off, e, Nat.lt_of_lt_of_le hlt hb.size, fun j hj => ⟨(hb.cell (p := ⟨b, off + j * 3, none⟩) hlt).trans (hc j hj).1, (hb.cell (p := ⟨b, off + j * 3 + 1, none⟩) hlt).trans (hc j hj).2.1, (hb.cell (p := ⟨b, off + j * 3 + 2, none⟩) hlt).trans (hc j hj).2.2⟩⟩
theorem Rd.below {w w' : World} {A : Option Addr} {n : Nat} {l : List Int} (h : Rd w A n l) (hb : Below w.heap.size w w') : Rd w' A n l := by
  refine ⟨h.1, fun h0 => ?_⟩
  obtain ⟨b, off, e, hlt, hc⟩ := h.2 h0
  exact ⟨b, off, e, Nat.lt_of_lt_of_le hlt hb.size, fun j hj => (hb.cell (p := ⟨b, off + j, none⟩) hlt).trans (hc j hj)⟩
theorem hc_of_arr {w : World} {g : Nat} {xs : List Int} (h : Arr 3 eI w g xs) : 0 < xs.length → ∃ b off, (some ⟨g, 0, none⟩ : Option Addr) = some ⟨b, off, none⟩ ∧ ∀ j, j < xs.length → w.cell? ⟨b, off + j, none⟩ = some (.int .i64 (xs.getD j 0)) :=
  fun _ => ⟨g, 0, rfl, fun j hj => by rw [Nat.zero_add]; exact h.cell hj⟩

theorem sym_copy {t : Tok} (h : TokOk t) (hk : 256 ≤ (symK t).1) : 1 ≤ t.b ∧ t.b ≤ 512 := by
  unfold TokOk at h
  unfold symK at hk
  rcases h with ⟨h0, h1, h2, _⟩ | ⟨_, _, _, h1, h2⟩
  · rw [if_pos h0] at hk
    simp at hk
    omega
  · exact ⟨h1, h2⟩
theorem usedK_take_succ {L : List Int} {i : Nat} (hi : i < L.length) : usedK (L.take (i + 1)) = usedK (L.take i) + if 0 < L.getD i 0 then 1 else 0 := by
  rw [List.take_succ_eq_append_getElem hi, usedK_snoc, List.getD_eq_getElem?_getD, List.getElem?_eq_getElem hi]
  rfl
theorem tabTo_len (L : List Int) : ∀ k, (tabTo L k).length ≤ 2 * k
  | 0 => by simp [tabTo]
  | k + 1 => by
    have := tabTo_len L k
    rw [tabTo_succ, List.length_append]
    split <;> simp <;> omega
theorem LenT_end (ts : List Tok) (h : ts.length ≤ 1000000) : 0 < (LenT ts).getD 288 0 := by
  obtain ⟨_, _, _, h3, h4⟩ := LenT_good ts h
  have h1 := h3 288
  have h2 := (h4 288 (by decide)).1
  rw [FreqT_end] at h2
  rcases Int.lt_or_le 0 ((LenT ts).getD 288 0) with h | h
  · exact h
  · exact absurd (by decide) (h2 (by omega))

theorem pcells_one (ps : List S42) : ∀ u ∈ pcells ps, u.oneCell' = true := by
  intro u hu
  unfold pcells at hu
  obtain ⟨p, _, hp⟩ := List.mem_flatMap.1 hu
  rcases List.mem_cons.1 hp with rfl | hp
  · rfl
  · rcases List.mem_cons.1 hp with rfl | hp
    · rfl
    · cases hp
theorem World.size_alloc_lt (w : World) (o : Obj) : w.heap.size < (w.alloc o).heap.size := by simp
theorem grown_of_below {w w' : World} (h : Below w.heap.size w w') : w.grownBy w' none := ⟨h.os, h.tape, h.output, h.size, fun k hk _ => h.block k hk⟩
theorem sq_sym {N6 m : Nat} {wb wr wq : World} {v x0 x1 x2 : Value} {xs : List Value} (hr : wr.ownsRow N6 42 2 v m xs) (hb : Below N6 wb wr) (hs : N6 ≤ wr.heap.size) (hq : Below (wr.alloc (.cells #[x0, x1, x2] 68)).heap.size (wr.alloc (.cells #[x0, x1, x2] 68)) wq) :
    wq.ownsRow N6 42 2 v m xs ∧ Below N6 wb wq ∧ wq.heap[wr.heap.size]? = some (.cells #[x0, x1, x2] 68 (0, 0)) ∧ N6 ≤ wq.heap.size := by
  have g := grown_of_below hq
  have hlt := World.size_alloc_lt wr (.cells #[x0, x1, x2] 68)
  refine ⟨(hr.alloc _).kept g (by cases hv : v.ownBlock <;> simp), hb.trans (((Below.refl _ wr).alloc hs _).trans (hq.mono (by omega))), (hq.block _ hlt).trans (heap_alloc_new wr _), Nat.le_trans hs (Nat.le_trans (Nat.le_of_lt hlt) hq.size)⟩
theorem sq_app {N6 m B : Nat} {wb wq wA : World} {v v' x0 x1 x2 : Value} {xs news : List Value} {tmp : Obj} (hr : wq.ownsRow N6 42 2 v m xs) (hb : Below N6 wb wq) (hs : N6 ≤ wq.heap.size) (hc : wq.heap[B]? = some (.cells #[x0, x1, x2] 68 (0, 0)))
    (hown : wA.ownsRow N6 42 2 v' (m + 1) (xs ++ news)) (hg : (wq.alloc tmp).grownBy wA v.ownBlock) : wA.ownsRow N6 42 2 v' (m + 1) (xs ++ news) ∧ Below N6 wb wA ∧ wA.heap[B]? = some (.cells #[x0, x1, x2] 68 (0, 0)) ∧ N6 ≤ wA.heap.size := by
  have hlt := World.size_alloc_lt wq tmp
  have hBl := (Array.getElem?_eq_some_iff.1 hc).1
  refine ⟨hown, (hb.alloc hs tmp).grown hg (by omega) (fun j ej => (hr.lt j ej).1), (hg.block B (by omega) (fun e => ?_)).trans ((Below.heap_alloc wq tmp B hBl).trans hc), Nat.le_trans hs (Nat.le_trans (Nat.le_of_lt hlt) hg.size)⟩
  rcases hr.2 with ⟨rfl, _⟩ | ⟨g, cap, cur, rfl, _, hgb, _⟩
  · simp [Value.ownBlock] at e
  · obtain rfl : B = g := by simpa [Value.ownBlock] using e
    rw [hc] at hgb
    simp at hgb
theorem end_app {N6 n₀ m : Nat} {w wr wA : World} {v : Value} {xs : List Value} {tmp : Obj} (hr : wr.ownsRow N6 42 2 v m xs) (hb : Below n₀ w wr) (hs : N6 ≤ wr.heap.size) (hn : n₀ ≤ N6) (hg : (wr.alloc tmp).grownBy wA v.ownBlock) : Below n₀ w wA :=
  (hb.alloc (Nat.le_trans hn hs) tmp).grown hg (by have := World.size_alloc_lt wr tmp; omega) (fun j ej => Nat.le_trans hn (hr.lt j ej).1)
theorem mem_tabTo {L : List Int} {k : Nat} {p : S42} (h : p ∈ tabTo L k) : ∃ i, i < k ∧ 0 < L.getD i 0 ∧ (p = ⟨(i : Int), 9⟩ ∨ p = ⟨L.getD i 0, 4⟩) := by
  unfold tabTo at h
  obtain ⟨i, hi, hp⟩ := List.mem_flatMap.1 h
  split at hp
  · rename_i h0
    refine ⟨i, List.mem_range.1 hi, h0, ?_⟩
    simpa using hp
  · cases hp
theorem okP_at {L : List Int} (hc : isCode L = true) (i : Nat) : 0 ≤ (P42 L i).f0 ∧ (P42 L i).f0 < 4294967296 := by
  by_cases hi : i < L.length ∧ 0 < L.getD i 0
  · obtain ⟨h0, h1, h2, h3⟩ := okP_P42 hc hi.1 hi.2
    refine ⟨h0, Int.lt_of_lt_of_le h3 ?_⟩
    have : (2 : Int) ^ (P42 L i).f1.toNat ≤ 2 ^ 32 := by
      have h4 : (2 : Nat) ^ (P42 L i).f1.toNat ≤ 2 ^ 32 := Nat.pow_le_pow_right (by decide) (by omega)
      exact_mod_cast h4
    exact this
  · have e : P42 L i = ⟨0, 0⟩ := by
      unfold P42 pcOf
      rw [if_neg (fun h0 => hi ⟨by
        rcases Nat.lt_or_ge i L.length with h | h
        · exact h
        · rw [List.getD_eq_getElem?_getD, List.getElem?_eq_none h] at h0
          exact absurd h0 (by decide), h0⟩)]
    rw [e]
    exact ⟨by decide, by decide⟩
theorem usedK_289 {L : List Int} (h : L.length = 289) : 0 ≤ usedK L ∧ usedK L ≤ 289 := by have := usedK_bound L; rw [h] at this; exact this
theorem sqP_f0 {L : List Int} {ts : List Tok} (hl : L.length = 289) (hc : isCode L = true) (hok : ∀ t, t ∈ ts → TokOk t) : ∀ p, p ∈ (⟨usedK L, 9⟩ :: tabTo L 289) ++ ts.flatMap (bodyT L) ++ [P42 L 288] → 0 ≤ p.f0 ∧ p.f0 < 4294967296 := by
  intro p hp
  have hu := usedK_289 hl
  simp only [List.mem_append, List.mem_cons, List.not_mem_nil, or_false] at hp
  rcases hp with ((rfl | hp) | hp) | rfl
  · exact ⟨hu.1, by show usedK L < _; omega⟩
  · obtain ⟨i, hi, h0, rfl | rfl⟩ := mem_tabTo hp
    · exact ⟨by show (0 : Int) ≤ (i : Int); omega, by show (i : Int) < _; omega⟩
    · have := lensOk_get (isCode_ok hc) i
      exact ⟨by show 0 ≤ L.getD i 0; omega, by show L.getD i 0 < _; omega⟩
  · obtain ⟨t, ht, hp⟩ := List.mem_flatMap.1 hp
    unfold bodyT at hp
    rcases List.mem_cons.1 hp with rfl | hp
    · exact okP_at hc _
    · split at hp
      · rename_i hk
        have := sym_copy (hok t ht) hk
        rcases List.mem_cons.1 hp with rfl | hp
        · exact ⟨by show 0 ≤ t.b - 1; omega, by show t.b - 1 < _; omega⟩
        · cases hp
      · cases hp
  · exact okP_at hc _
theorem tab_far {wr wa : World} {N k : Nat} {v u : Value} {xs : List Value} {o : Obj} (hr : wr.ownsRow N 42 2 v k xs) (hb : Boxed wr N 32 u) (hg : (wr.alloc o).grownBy wa (Value.ownBlock (.slice none 0 0))) : wa.ownsRow N 42 2 v k xs ∧ wa.cell? ⟨N, 0, none⟩ = some u := by
  have hg' : (wr.alloc o).grownBy wa none := hg
  exact ⟨(hr.alloc o).kept hg' (by cases hv : v.ownBlock <;> simp), ((hb.alloc o).kept hg' (by simp)).cell⟩

set_option maxHeartbeats 8000000 in
set_option maxRecDepth 1000000 in
theorem squeeze_calls (s : ByteArray) (w : World) :
    Calls Try.prog 32 #[.string s] w fun e w' => e = .returned (.tuple #[.string (Sqz s).1, .int .i64 (Sqz s).2]) ∧ Below w.heap.size w w' := by
  by_cases hbig : 4096 < s.size
  · have HE : Hid (Sqz s = (ByteArray.empty, 90)) := by show _ = _; rw [Sqz, if_pos hbig]
    go_enter Try.func32, Try.ntmps32
    go_wp2_with fail
    go_ret2
    rw [HE.out]
    exact ⟨rfl, Below.refl _ _⟩
  have hmf : ∀ (fn : Fn) (first cap : Array Value) (w : World), (Instr.makeFunc fn first cap).run Try.prog w = .ok (.func fn first cap) w := fun _ _ _ _ => rfl
  obtain ⟨i0, hi, hz0, hz1, hz2⟩ := info_parts infoPc
  have HI := hid hi
  have HZ0 := hid hz0
  have HZ1 := hid hz1
  have HZ2 := hid hz2
  clear hi hz0 hz1 hz2
  obtain ⟨ts, hts⟩ : ∃ ts, ts = SplitT s := ⟨_, rfl⟩
  have hlen := SplitT_len s
  have hok := SplitT_ok s
  rw [← hts] at hlen hok
  obtain ⟨n, hn⟩ : ∃ n, ts.length = n := ⟨_, rfl⟩
  obtain ⟨g1, g2, g3, g4, g5⟩ := LenT_good ts (by omega)
  have gend := LenT_end ts (by omega)
  have hcodes : Codes (LenT ts) = ((List.range 289).map (P42 (LenT ts)), 0) := by rw [Codes_eq, if_pos g3, g2]
  have HE : Hid (Sqz s = Pack (sqP ts)) := by show _ = _; rw [Sqz, if_neg hbig, hts]
  have HSP : Hid (sqP ts = (⟨usedK (LenT ts), 9⟩ :: tabTo (LenT ts) 289) ++ ts.flatMap (bodyT (LenT ts)) ++ [P42 (LenT ts) 288]) := hid rfl
  have hfl := length_FreqT ts
  rw [hn] at hlen
  obtain ⟨L, hL⟩ : ∃ L, L = LenT ts := ⟨_, rfl⟩
  rw [← hL] at g1 g2 g3 g4 gend hcodes HSP
  have HTS := hid hts
  have HN := hid hn
  have HOK := hid hok
  have HG1 := hid g1
  have HG2 := hid g2
  have HG3 := hid g3
  have HG4 := hid g4
  have HGE := hid gend
  have HCO := hid hcodes
  have HFL := hid hfl
  clear hts hn hok g1 g2 g3 g4 g5 gend hcodes hfl hL
  go_enter Try.func32, Try.ntmps32
  go_wp2_with (first
    | (go_at_call 37; refine (split_calls s _ (by omega)).mono ?_; rintro e w1 ⟨v, rfl, hr, hb⟩; rw [← HTS.out, HN.out] at hr; obtain ⟨At, ct, rfl, hrd⟩ := rdt_of_row HN.out hr; have HRT := hid hrd; have HB1 := hid hb; clear hr hrd hb)
    | (go_at_call 35; refine (freq_calls At n ct ts _ (by omega) HRT.out (fun t ht => (HOK.out t ht).byte)).mono ?_; rintro e w2 ⟨gf, rfl, hgf, hA, hb⟩; have HA := hid hA; have HB2 := hid hb; clear hA hb)
    | (go_at_call 17; refine (lengths_calls (some ⟨gf, 0, none⟩) 289 289 (FreqT ts) 15 _ HFL.out (by have := hc_of_arr HA.out; rw [HFL.out] at this; exact this)).mono ?_; rintro e w3 ⟨v, rfl, hr, hb⟩; rw [HG1.out] at hr ⊢; obtain ⟨Al, cl, rfl, _, hC⟩ := Kd.R_reads hr; have hrd := rd_of_C hC; simp only [HG2.out] at hrd ⊢; have HRL := hid hrd; have HB3 := hid hb; clear hr hC hrd hb)
    | (go_at_call 20; refine (codes_calls Al 289 cl L _ (by omega) HRL.out).mono ?_; rintro e w4 ⟨v, rfl, hr, hb⟩; rw [HCO.out] at hr ⊢; obtain ⟨Ac, cc, rfl, _, hC⟩ := Kd.R_reads hr; have hrd := rdp_of_C hC; simp only [List.length_map, List.length_range] at hrd ⊢; have HRC := hid hrd; have HB4 := hid hb; clear hr hC hrd hb))
  have HB04 : Hid (Below w.heap.size w w4) := hid (((HB1.out.trans (HB2.out.mono HB1.out.size)).trans (HB3.out.mono (Nat.le_trans HB1.out.size HB2.out.size))).trans (HB4.out.mono (Nat.le_trans (Nat.le_trans HB1.out.size HB2.out.size) HB3.out.size)))
  have HRT4 : Hid (Rdt w4 At n ts) := hid (((HRT.out.below HB2.out).below HB3.out).below HB4.out)
  have HRL4 : Hid (Rd w4 Al 289 L) := hid (HRL.out.below HB4.out)
  clear HRT HRL HB1 HB2 HB3 HB4 HA hgf
  obtain ⟨N, hN⟩ : ∃ N, w4.heap.size = N := ⟨_, rfl⟩
  have HNN := hid hN
  have hb0 : Boxed (w4.alloc (.cells #[.slice none 0 0] 32)) N 32 (.slice none 0 0) := by rw [← hN]; exact Boxed.new _ _ _
  have hB0 : Below N w4 (w4.alloc (.cells #[.slice none 0 0] 32)) := by rw [← hN]; exact (Below.refl _ _).alloc (Nat.le_refl _) _
  rw [hN]
  have HB00 := hid hb0
  have HBB0 := hid hB0
  obtain ⟨bl, ol, hAl, hbl, hcl⟩ := HRL4.out.2 (by decide)
  rw [hN] at hbl
  have HCL := hid hcl
  subst hAl
  clear hb0 hB0 hN hcl
  go_loopg [11, 43] 289 (fun kx s11 s43 wr => ∃ (i k u : Nat) (v : Value), s11 = .int .i64 (u : Int) ∧ s43 = .int .i64 (i : Int) ∧ i ≤ 289 ∧ 289 - i ≤ kx ∧ u ≤ i ∧ k ≤ 2 * i ∧ N < wr.heap.size ∧ Hid ((u : Int) = usedK (L.take i)) ∧ Hid ((tabTo L i).length = k) ∧ Hid (Boxed wr N 32 v) ∧ Hid (wr.ownsRow N 42 2 v k (pcells (tabTo L i))) ∧ Hid (Below N w4 wr))
  case atStart => exact ⟨0, 0, 0, .slice none 0 0, rfl, rfl, by omega, by omega, by omega, by omega, HB00.out.lt, hid (by simp [usedK]), hid rfl, HB00, hid (World.ownsRow_nil _ _ _ _), HBB0⟩
  case round =>
    obtain ⟨i, k, u, v, rfl, rfl, hi, hkx, hu, hk, hNs, HU, HK, HBX, HR, HB⟩ := hrel
    by_cases hlt : i < 289
    · obtain ⟨x, hx⟩ : ∃ x, x = L.getD i 0 := ⟨_, rfl⟩
      have hci : wr.cell? ⟨bl, ol + i, none⟩ = some (.int .i64 x) := by
        rw [HB.out.cell (p := ⟨bl, ol + i, none⟩) hbl, HCL.out i hlt, hx]
      have hxb := HG4.out i
      rw [← hx] at hxb
      have HX := hid hx
      clear hx
      by_cases hx0 : 0 < x
      · obtain ⟨q, rfl⟩ : ∃ q : Nat, x = (q : Int) := ⟨x.toNat, by omega⟩
        go_wp2_with (first
          | (go_at_call 52; refine (put_calls N N k i 9 v (tabTo L i) _ (by omega) (by omega) (Nat.le_refl _) (Nat.le_of_lt hNs) HBX.out HR.out).mono ?_; rintro e wa ⟨rfl, va, hba, hra, hBa⟩; have HBXa := hid hba; have HRa := hid hra; have HBa := hid hBa; have hNa := hba.lt; clear hba hra hBa)
          | (go_at_call 52; refine (put_calls N N (k + 1) q 4 va (tabTo L i ++ [⟨(i : Int), 9⟩]) _ (by omega) (by omega) (Nat.le_refl _) (Nat.le_of_lt hNa) HBXa.out HRa.out).mono ?_; rintro e wb ⟨rfl, vb, hbb, hrb, hBb⟩; have HBXb := hid hbb; have HRb := hid hrb; have HBb := hid hBb; have hNb := hbb.lt; clear hbb hrb hBb))
        go_roundg (289 - (i + 1))
        case measure => omega
        case rel =>
          have e1 : tabTo L (i + 1) = tabTo L i ++ [⟨(i : Int), 9⟩] ++ [⟨(q : Int), 4⟩] := by
            rw [tabTo_succ, ← HX.out, if_pos hx0, List.append_assoc]
            rfl
          refine ⟨i + 1, k + 2, u + 1, vb, by go_num, by go_num, by omega, by omega, by omega, by omega, hNb, ?_, ?_, HBXb, ?_, hid ((HB.out.trans HBa.out).trans HBb.out)⟩
          · show _ = _
            rw [usedK_take_succ (by rw [HG2.out]; exact hlt), ← HX.out, if_pos hx0, ← HU.out]
            push_cast
            rfl
          · show _ = _
            rw [e1, List.length_append, List.length_append, HK.out]
            rfl
          · show World.ownsRow _ _ _ _ _ _ _
            rw [e1]
            exact HRb.out
      · go_wp2_with fail
        go_roundg (289 - (i + 1))
        case measure => omega
        case rel =>
          have e1 : tabTo L (i + 1) = tabTo L i := by
            rw [tabTo_succ, ← HX.out, if_neg (by omega), List.append_nil]
          refine ⟨i + 1, k, u, v, rfl, by go_num, by omega, by omega, by omega, by omega, hNs, ?_, ?_, HBX, ?_, HB⟩
          · show _ = _
            rw [usedK_take_succ (by rw [HG2.out]; exact hlt), ← HX.out, if_neg (by omega), ← HU.out, Int.add_zero]
          · show _ = _
            rw [e1, HK.out]
          · show World.ownsRow _ _ _ _ _ _ _
            rw [e1]
            exact HR.out
    · have e289 : i = 289 := by omega
      subst e289
      have hk1 : 1 ≤ k := by
        have := HK.out
        rw [show (289 : Nat) = 288 + 1 from rfl, tabTo_succ, if_pos HGE.out, List.length_append] at this
        simp at this
        omega
      obtain ⟨k', rfl⟩ : ∃ k', k = k' + 1 := ⟨k - 1, by omega⟩
      obtain ⟨gt, capt, hv⟩ := ownsRow_succ HR.out
      subst hv
      have hcb := HBX.out.cell
      obtain ⟨N6, hN6⟩ : ∃ N6, wr.heap.size = N6 := ⟨_, rfl⟩
      have hN6l : N6 ≤ wr.heap.size := Nat.le_of_eq hN6.symm
      have hNN6 : N < N6 := by omega
      have HN6 := hid hN6
      clear hN6
      have hwu : IntKind.u32.wrap (u : Int) = u := by rw [IntKind.wrap_u32]; omega
      have hmu : (u : Int) % 4294967296 = u := by omega
      go_wp2_with (first
        | (at_builtin; refine wpList_append_own _ rfl _ _ 32 rfl N6 42 i0 (.agg #[.int .u32 0, .int .i64 0]) 2 16 Try.underlying32 HI.out HZ0.out HZ1.out HZ2.out rfl (by decide) (.slice none 0 0) 0 [] rfl (World.ownsRow_nil _ _ _ _) ⟨wr.heap.size, 0, none⟩ 1 1 [.int .u32 (u : Int), .int .i64 9] rfl rfl (cells_new _ _ _) (by simp [Value.oneCell']) (by unfold maxLen; omega) (by omega) (by simp; omega) ?_; intro v1 wa hown1 hgrow1 _; obtain ⟨g1, cap1, rfl⟩ := ownsRow_succ hown1; have hta := tab_far HR.out HBX.out hgrow1; obtain ⟨ra, ca⟩ := hta; have hsa := hgrow1.size; have BA := hid (hgrow1); have RA := hid hown1; have TA := hid ra; have hla := Nat.le_trans (Nat.le_of_lt (World.size_alloc_lt wr _)) hsa; clear hown1 hgrow1 ra)
        | (at_builtin; refine wpList_append_own _ rfl _ _ 32 rfl N6 42 i0 (.agg #[.int .u32 0, .int .i64 0]) 2 16 Try.underlying32 HI.out HZ0.out HZ1.out HZ2.out rfl (by decide) _ _ _ rfl RA.out ⟨gt, 0, none⟩ (k' + 1) capt (pcells (tabTo L 289)) rfl (by rw [length_pcells, HK.out]; omega) (TA.out.cells (g := gt) rfl) (pcells_one _) (by unfold maxLen; omega) (by omega) (by omega) ?_; intro v2 wb hown2 hgrow2 _; obtain ⟨g2, cap2, rfl⟩ := ownsRow_succ (show wb.ownsRow N6 42 2 v2 ((1 + k') + 1) _ from hown2); have hsb := hgrow2.size; have BBB := hid hgrow2; have RB := hid hown2; clear hown2 hgrow2))
      have HBW : Hid (Below N w4 wb) := hid (HB.out.trans (((((Below.refl N6 wr).alloc hN6l _).grown BA.out (by simp; omega) (fun j ej => by cases ej)).grown BBB.out (by omega) (fun j ej => (RA.out.lt j ej).1)).mono (Nat.le_of_lt hNN6)))
      obtain ⟨pre, hpre⟩ : ∃ pre, pre = (⟨(u : Int), 9⟩ :: tabTo L 289 : List S42) := ⟨_, rfl⟩
      have HRB : Hid (wb.ownsRow N6 42 2 (.slice (some ⟨g2, 0, none⟩) (1 + k' + 1) cap2) (k' + 2) (pcells pre)) := by
        show World.ownsRow _ _ _ _ _ _ _
        rw [hpre, show k' + 2 = 1 + (k' + 1) by omega]
        exact RB.out
      have HPL : Hid (pre.length = k' + 2) := by show _ = _; rw [hpre, List.length_cons, HK.out]
      have HPRE : Hid (pre = (⟨usedK L, 9⟩ :: tabTo L 289 : List S42)) := by
        show _ = _
        rw [hpre, HU.out, List.take_of_length_le (by rw [HG2.out]; exact Nat.le_refl _)]
      have hS6 : N6 ≤ wb.heap.size := by omega
      have hk2 : k' + 2 ≤ 600 := by omega
      have HW6 : Hid (w.heap.size ≤ N6) := hid (Nat.le_trans HB04.out.size (by rw [HNN.out]; omega))
      clear hpre RB BA BBB TA RA ca hcb hsa hsb hla hwu hmu HBX HR
      obtain ⟨bc, oc, hAc, hbc, hcc⟩ := HRC.out.2 (by decide)
      rw [HNN.out] at hbc
      have HCC := hid hcc
      subst hAc
      clear hcc
      have HGET : Hid (∀ q, q < 289 → ((List.range 289).map (P42 L)).getD q z42 = P42 L q) := hid (fun q hq => by rw [List.getD_eq_getElem?_getD, List.getElem?_map, List.getElem?_range hq]; rfl)
      go_loopg [8, 70] n (fun kx s8 s70 wr2 => ∃ (i m : Nat) (v : Value), s8 = v ∧ s70 = .int .i64 (i : Int) ∧ i ≤ n ∧ n - i ≤ kx ∧ m ≤ 600 + 2 * i ∧ N6 ≤ wr2.heap.size ∧ Hid ((pre ++ (ts.take i).flatMap (bodyT L)).length = m) ∧ Hid (wr2.ownsRow N6 42 2 v m (pcells (pre ++ (ts.take i).flatMap (bodyT L)))) ∧ Hid (Below N6 wb wr2))
      case atStart => exact ⟨0, k' + 2, _, rfl, rfl, by omega, by omega, by omega, hS6, hid (by simp [HPL.out]), hid (by rw [List.take_zero, List.flatMap_nil, List.append_nil]; exact HRB.out), hid (Below.refl _ _)⟩
      case round =>
        obtain ⟨i, m, v, rfl, rfl, hi, hkx, hm, hS2, HM, HR2, HB2⟩ := hrel
        by_cases hlt : i < n
        · obtain ⟨b, off, rfl, hb, hcell⟩ := HRT4.out.2 (by omega)
          rw [HNN.out] at hb
          obtain ⟨t, ht⟩ : ∃ t, t = ts.getD i zT := ⟨_, rfl⟩
          obtain ⟨k0, k1, k2⟩ := hcell i hlt
          have hbz := HBW.out.trans (HB2.out.mono (Nat.le_of_lt hNN6))
          have c0 := (hbz.cell (p := ⟨b, off + i * 3, none⟩) hb).trans k0
          have c1 := (hbz.cell (p := ⟨b, off + i * 3 + 1, none⟩) hb).trans k1
          have c2 := (hbz.cell (p := ⟨b, off + i * 3 + 2, none⟩) hb).trans k2
          clear k0 k1 k2 hcell hb hbz
          rw [← ht] at c0 c1 c2
          have htm : t ∈ ts := by rw [ht, List.getD_eq_getElem?_getD, List.getElem?_eq_getElem (by rw [HN.out]; exact hlt)]; exact List.getElem_mem _
          have hto := HOK.out t htm
          have htk := hto.byte
          have hsc := sym_copy hto
          have hk := symK_bound htk.1 htk.2
          obtain ⟨q, hq⟩ : ∃ q : Nat, (symK t).1 = (q : Int) := ⟨(symK t).1.toNat, by omega⟩
          rw [hq] at hk hsc
          have hq289 : q < 289 := by omega
          have HKK := hid hq
          have HT := hid ht
          clear hq ht htm hto
          obtain ⟨f0, hf0⟩ : ∃ f0, f0 = (P42 L q).f0 := ⟨_, rfl⟩
          obtain ⟨f1, hf1⟩ : ∃ f1, f1 = (P42 L q).f1 := ⟨_, rfl⟩
          have HF0 : Hid (w4.cell? ⟨bc, oc + q * 2, none⟩ = some (.int .u32 f0)) := by
            have := (HCC.out q hq289).1
            rw [HGET.out q hq289, ← hf0] at this
            exact this
          have HF1 : Hid (w4.cell? ⟨bc, oc + q * 2 + 1, none⟩ = some (.int .i64 f1)) := by
            have := (HCC.out q hq289).2
            rw [HGET.out q hq289, ← hf1] at this
            exact this
          have HP : Hid (P42 L q = ⟨f0, f1⟩) := by show _ = _; rw [hf0, hf1]
          clear hf0 hf1
          have HTK : Hid (ts.take (i + 1) = ts.take i ++ [t]) := by show _ = _; rw [takeT_snoc (by rw [HN.out]; exact hlt), ← HT.out]
          have HBO : Hid (bodyT L t = ⟨f0, f1⟩ :: (if 256 ≤ (q : Int) then [⟨t.b - 1, 9⟩] else [])) := by
            show _ = _
            unfold bodyT
            rw [HKK.out, Int.toNat_natCast, HP.out]
          by_cases h256 : 256 ≤ (q : Int)
          · obtain ⟨hsb1, hsb2⟩ := hsc h256
            have hwb : IntKind.u32.wrap (t.b - 1) = t.b - 1 := by rw [IntKind.wrap_u32]; omega
            have hmb : (t.b - 1) % 4294967296 = t.b - 1 := by omega
            clear hsc
            go_wp2_with (first
              | (go_at_call 53; refine (symbol_calls t (wr.alloc (Obj.cells #[.int .u8 t.c, .int .i64 t.n, .int .i64 t.b] 68)) htk.1 htk.2).mono ?_; rintro e wq ⟨rfl, hbq⟩; rw [HKK.out]; obtain ⟨rq, bq, cq, sq⟩ := sq_sym HR2.out HB2.out hS2 hbq; have cq2 := cell_of_row _ _ 2 _ _ _ cq; have q0 := (HBW.out.trans (bq.mono (Nat.le_of_lt hNN6))).cell (p := ⟨bc, oc + q * 2, none⟩) hbc; have q1 := (HBW.out.trans (bq.mono (Nat.le_of_lt hNN6))).cell (p := ⟨bc, oc + q * 2 + 1, none⟩) hbc; have p0 := q0.trans HF0.out; have p1 := q1.trans HF1.out; have HRq := hid rq; have HBq := hid bq; clear rq bq q0 q1 hbq)
              | (at_builtin; refine wpList_append_own _ rfl _ _ 32 rfl N6 42 i0 (.agg #[.int .u32 0, .int .i64 0]) 2 16 Try.underlying32 HI.out HZ0.out HZ1.out HZ2.out rfl (by decide) _ _ _ rfl (HRA.out.alloc _) ⟨wA.heap.size, 0, none⟩ 1 1 [.int .u32 (t.b - 1), .int .i64 9] rfl rfl (cells_new _ _ _) (by simp [Value.oneCell']) (by unfold maxLen; omega) (by omega) (by simp; omega) ?_; intro v'' wC hown'' hgrow'' _; obtain ⟨rC, bC, cC, sC⟩ := sq_app HRA.out HBA.out sA cA hown'' hgrow''; have HRC2 := hid rC; have HBC := hid bC; clear hown'' hgrow'' rC bC)
              | (at_builtin; refine wpList_append_own _ rfl _ _ 32 rfl N6 42 i0 (.agg #[.int .u32 0, .int .i64 0]) 2 16 Try.underlying32 HI.out HZ0.out HZ1.out HZ2.out rfl (by decide) _ _ _ rfl (HRq.out.alloc _) ⟨wq.heap.size, 0, none⟩ 1 1 [.int .u32 f0, .int .i64 f1] rfl rfl (cells_new _ _ _) (by simp [Value.oneCell']) (by unfold maxLen; omega) (by omega) (by simp; omega) ?_; intro v' wA hown' hgrow' _; obtain ⟨rA, bA, cA, sA⟩ := sq_app HRq.out HBq.out sq cq hown' hgrow'; have cA2 := cell_of_row _ _ 2 _ _ _ cA; simp only [List.getElem?_toArray, List.getElem?_cons_succ, List.getElem?_cons_zero] at cA2; have HRA := hid rA; have HBA := hid bA; clear hown' hgrow' rA bA))
            go_roundg (n - (i + 1))
            case measure => omega
            case rel =>
              have e1 : pre ++ (ts.take (i + 1)).flatMap (bodyT L) = pre ++ (ts.take i).flatMap (bodyT L) ++ [⟨f0, f1⟩] ++ [⟨t.b - 1, 9⟩] := by
                rw [HTK.out, List.flatMap_append, List.flatMap_cons, List.flatMap_nil, HBO.out, if_pos h256]
                simp
              refine ⟨i + 1, m + 2, v'', rfl, by go_num, by omega, by omega, by omega, sC, ?_, ?_, HBC⟩
              · show _ = _
                rw [e1, List.length_append, List.length_append, HM.out]
                rfl
              · show World.ownsRow _ _ _ _ _ _ _
                rw [e1, pcells_snoc, pcells_snoc]
                exact HRC2.out
          · clear hsc
            go_wp2_with (first
              | (go_at_call 53; refine (symbol_calls t (wr.alloc (Obj.cells #[.int .u8 t.c, .int .i64 t.n, .int .i64 t.b] 68)) htk.1 htk.2).mono ?_; rintro e wq ⟨rfl, hbq⟩; rw [HKK.out]; obtain ⟨rq, bq, cq, sq⟩ := sq_sym HR2.out HB2.out hS2 hbq; have cq2 := cell_of_row _ _ 2 _ _ _ cq; have q0 := (HBW.out.trans (bq.mono (Nat.le_of_lt hNN6))).cell (p := ⟨bc, oc + q * 2, none⟩) hbc; have q1 := (HBW.out.trans (bq.mono (Nat.le_of_lt hNN6))).cell (p := ⟨bc, oc + q * 2 + 1, none⟩) hbc; have p0 := q0.trans HF0.out; have p1 := q1.trans HF1.out; have HRq := hid rq; have HBq := hid bq; clear rq bq q0 q1 hbq)
              | (at_builtin; refine wpList_append_own _ rfl _ _ 32 rfl N6 42 i0 (.agg #[.int .u32 0, .int .i64 0]) 2 16 Try.underlying32 HI.out HZ0.out HZ1.out HZ2.out rfl (by decide) _ _ _ rfl (HRq.out.alloc _) ⟨wq.heap.size, 0, none⟩ 1 1 [.int .u32 f0, .int .i64 f1] rfl rfl (cells_new _ _ _) (by simp [Value.oneCell']) (by unfold maxLen; omega) (by omega) (by simp; omega) ?_; intro v' wA hown' hgrow' _; obtain ⟨rA, bA, cA, sA⟩ := sq_app HRq.out HBq.out sq cq hown' hgrow'; have cA2 := cell_of_row _ _ 2 _ _ _ cA; simp only [List.getElem?_toArray, List.getElem?_cons_succ, List.getElem?_cons_zero] at cA2; have HRA := hid rA; have HBA := hid bA; clear hown' hgrow' rA bA))
            go_roundg (n - (i + 1))
            case measure => omega
            case rel =>
              have e1 : pre ++ (ts.take (i + 1)).flatMap (bodyT L) = pre ++ (ts.take i).flatMap (bodyT L) ++ [⟨f0, f1⟩] := by
                rw [HTK.out, List.flatMap_append, List.flatMap_cons, List.flatMap_nil, HBO.out, if_neg (by omega)]
                simp
              refine ⟨i + 1, m + 1, v', rfl, by go_num, by omega, by omega, by omega, sA, ?_, ?_, HBA⟩
              · show _ = _
                rw [e1, List.length_append, HM.out]
                rfl
              · show World.ownsRow _ _ _ _ _ _ _
                rw [e1, pcells_snoc]
                exact HRA.out
        · have ei : i = n := by omega
          subst ei
          have HFULL : Hid (sqP ts = pre ++ (ts.take i).flatMap (bodyT L) ++ [P42 L 288]) := by
            show _ = _
            rw [HSP.out, HPRE.out, show i = ts.length from HN.out.symm, List.take_length]
          have hbz := HBW.out.trans (HB2.out.mono (Nat.le_of_lt hNN6))
          obtain ⟨f0, hf0⟩ : ∃ f0, f0 = (P42 L 288).f0 := ⟨_, rfl⟩
          obtain ⟨f1, hf1⟩ : ∃ f1, f1 = (P42 L 288).f1 := ⟨_, rfl⟩
          have p0 := (hbz.cell (p := ⟨bc, oc + 288 * 2, none⟩) hbc).trans (HCC.out 288 (by decide)).1
          have p1 := (hbz.cell (p := ⟨bc, oc + 288 * 2 + 1, none⟩) hbc).trans (HCC.out 288 (by decide)).2
          rw [HGET.out 288 (by decide), ← hf0] at p0
          rw [HGET.out 288 (by decide), ← hf1] at p1
          have HP : Hid (P42 L 288 = ⟨f0, f1⟩) := by show _ = _; rw [hf0, hf1]
          clear hf0 hf1
          have HBZ : Hid (Below w.heap.size w wr) := hid (HB04.out.trans (hbz.mono (by rw [← HNN.out]; exact HB04.out.size)))
          clear hbz
          have HPS : Hid (∀ p, p ∈ sqP ts → 0 ≤ p.f0 ∧ p.f0 < 4294967296) := by
            show ∀ p, p ∈ sqP ts → _
            intro p hp
            rw [HSP.out] at hp
            exact sqP_f0 HG2.out HG3.out HOK.out p hp
          go_wp2_with (first
            | (at_builtin; refine wpList_append_own _ rfl _ _ 32 rfl N6 42 i0 (.agg #[.int .u32 0, .int .i64 0]) 2 16 Try.underlying32 HI.out HZ0.out HZ1.out HZ2.out rfl (by decide) _ _ _ rfl (HR2.out.alloc _) ⟨wr.heap.size, 0, none⟩ 1 1 [.int .u32 f0, .int .i64 f1] rfl rfl (cells_new _ _ _) (by simp [Value.oneCell']) (by unfold maxLen; omega) (by omega) (by simp; omega) ?_; intro v' wA hown' hgrow' _; have HLEN : Hid ((sqP ts).length = m + 1) := by { show _ = _; rw [HFULL.out, List.length_append, HM.out]; rfl }; have HRA : Hid (wA.ownsRow N6 42 2 v' (m + 1) (pcells (sqP ts))) := by { show World.ownsRow _ _ _ _ _ _ _; rw [HFULL.out, pcells_snoc, HP.out]; exact hown' }; have hszA := hgrow'.size; have hltA := World.size_alloc_lt wr (Obj.cells #[.int .u32 f0, .int .i64 f1] 42); have HBA : Hid (Below w.heap.size w wA) := hid (end_app HR2.out HBZ.out hS2 HW6.out hgrow'); clear hown' hgrow')
            | (go_at_call 29; obtain ⟨Ap, cp, hvp, hrp⟩ := rdp_of_row (ps := sqP ts) (n := m + 1) HLEN.out HRA.out; rw [hvp]; refine (pack_calls Ap (m + 1) cp (sqP ts) wA (by omega) HPS.out hrp).mono ?_; rintro e wz ⟨rfl, hbp⟩))
          go_ret2
          rw [HE.out]
          exact ⟨rfl, HBA.out.trans (hbp.mono HBA.out.size)⟩

end Go.Proofs.Ythgijppajindpaa
