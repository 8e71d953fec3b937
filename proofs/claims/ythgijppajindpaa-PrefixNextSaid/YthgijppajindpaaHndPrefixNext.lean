/-
  The law PrefixNext is walked: it comes to true.
-/
import Derived.Test.YthgijppajindpaaNxt2
import Derived.Test.YthgijppajindpaaRnx2
import Derived.Test.YthgijppajindpaaK7x12
set_option linter.unusedVariables false
set_option linter.unusedSimpArgs false
namespace Go.Proofs.Ythgijppajindpaa
open Go.RowKit Go.Proofs.YthgijppajindpaaW.PrintWords Go.Proofs.YthgijppajindpaaW.PrintLast Go.Proofs.YthgijppajindpaaW.PrintMore Go.Proofs.Ythgijppajindpaa.K7

theorem shown_true (w : World) : Calls Try.prog 16 #[] w fun e w' => e = .returned (.bool true) ∧ Below w.heap.size w w' := by
  obtain ⟨k, hk⟩ := shownK_ev.ex
  exact hanaperlaw07_shown.calls k true w hk

/-- A reader of the document's, in a block of its own. -/
def Rdd (w : World) (g : Nat) (s : ByteArray) (a : Nat) : Prop := w.heap[g]? = some (.cells #[.string s, .int .i64 (a : Int)] 48 (0, 0))

theorem nx_at (l : List Int) (s : ByteArray) : ∀ d K v a, a ≤ 8 * s.size → (nx l s d K v a).2.2 ≤ 8 * s.size
  | 0, _, _, _, h => h
  | d + 1, K, v, a, h => by
    rw [nx]
    split
    · exact h
    · split
      · show a + 1 ≤ _; omega
      · split
        · show a + 1 ≤ _; omega
        · exact nx_at l s d _ _ _ (by omega)
theorem Nx_at (l : List Int) (s : ByteArray) (a : Nat) (h : a ≤ 8 * s.size) : (Nx l s a).2.2 ≤ 8 * s.size := by
  unfold Nx
  split
  · exact nx_at l s _ _ _ _ h
  · exact h

set_option maxHeartbeats 8000000 in
set_option maxRecDepth 1000000 in
theorem next_law (A : Option Addr) (c : Nat) (l : List Int) (s : ByteArray) (w : World) (hC : Kd.C (Kd.int .i64) w A l.length l) (hc : l.length ≤ c) (hl : l.length ≤ 140737488351232) (hs : s.size ≤ 140737488351232) :
    Calls Try.prog 8 #[.slice A l.length c, .string s] w fun e w' => e = .returned (.bool true) ∧ Below w.heap.size w w' := by
  obtain ⟨N, hN⟩ : ∃ N, w.heap.size = N := ⟨_, rfl⟩
  have HC : Hid (Kd.C (Kd.int .i64) w A l.length l) := hC
  have HCC : Hid (l.length ≤ c) := hc
  have HN : Hid (w.heap.size = N) := hN
  obtain ⟨n, hn⟩ : ∃ n, l.length = n := ⟨_, rfl⟩
  have HL : Hid (l.length = n) := hn
  rw [hn] at hl ⊢
  rw [hN]
  clear hC hc hN hn
  by_cases hbig : (310 : Int) < n ∨ (200 : Int) < s.size
  · have HR : ∀ w0, Below N w w0 → Calls Try.prog 16 #[] w0 fun e w' => e = .returned (.bool true) ∧ Below N w w' := fun w0 h0 => (shown_true w0).mono (by
      rintro e w' ⟨rfl, h1⟩
      exact ⟨rfl, h0.trans (h1.mono (by have := h0.size; rw [HN.out] at this; exact this))⟩)
    have HRR : Hid _ := HR
    clear HR
    rcases hbig with hb | hb
    all_goals
      go_enter Try.func8, Try.ntmps8
      go_wp2_with (go_at_call 16; refine (HRR.out _ (Below.refl _ _)).mono ?_; rintro e w' ⟨rfl, hb1⟩)
      all_goals
        go_ret
        exact ⟨rfl, hb1⟩
  · have hn310 : (n : Int) ≤ 310 := by omega
    have hs200 : (s.size : Int) ≤ 200 := by omega
    have hs2 : s.size ≤ 140737488355328 := by omega
    clear hbig
    have HRR : Hid (Calls Try.prog 16 #[] w fun e w' => e = .returned (.bool true) ∧ Below N w w') := hid ((shown_true w).mono (by
      rintro e w' ⟨rfl, h1⟩
      exact ⟨rfl, h1.mono (by rw [HN.out]; exact Nat.le_refl _)⟩))
    go_enter Try.func8, Try.ntmps8
    go_wp2_with (go_at_call 16; refine HRR.out.mono ?_; rintro e w1 ⟨rfl, hb1⟩)
    refine Calls.mono (new_calls s _) ?_
    rintro e w2 ⟨rfl, hR2, hT2⟩
    obtain ⟨g, hg⟩ : ∃ g, w1.heap.size = g := ⟨_, rfl⟩
    rw [hg] at hR2 ⊢
    have hNg : N ≤ g := by
      have := hb1.size
      rw [HN.out] at this
      omega
    have HB2 : Hid (Below N w w2) := hid (hb1.trans (hT2.below.mono (by rw [hg]; exact hNg)))
    have HR2 : Hid (Rdr w2 g s 0) := hR2
    have hlt2 := hR2.lt
    clear hb1 hT2 hR2 hg
    obtain ⟨q, hq⟩ : ∃ q, w2.heap.size = q := ⟨_, rfl⟩
    have HQ : Hid (w2.heap.size = q) := hq
    rw [hq] at hlt2
    clear hq
    go_wp2_with fail
    rw [HQ.out]
    have R3 : Hid (Rdr (w2.alloc (Obj.cells #[Value.string s, Value.int IntKind.i64 0] 48)) g s 0) := HR2.out.alloc _
    have D3 : Hid (Rdd (w2.alloc (Obj.cells #[Value.string s, Value.int IntKind.i64 0] 48)) q s 0) := by
      show _ = _
      rw [← HQ.out]
      exact heap_alloc_new _ _
    have B3 : Hid (Below N w (w2.alloc (Obj.cells #[Value.string s, Value.int IntKind.i64 0] 48))) := hid (HB2.out.alloc (by rw [HQ.out]; omega) _)
    obtain ⟨W, hW⟩ : ∃ W, w2.alloc (Obj.cells #[Value.string s, Value.int IntKind.i64 0] 48) = W := ⟨_, rfl⟩
    rw [hW] at R3 D3 B3 ⊢
    clear hW
    go_loopg [7] 41 (fun kx s7 wr => ∃ (i a : Nat), s7 = .int .i64 i ∧ i ≤ 40 ∧ 40 - i ≤ kx ∧ a ≤ 8 * s.size ∧ Hid (Rdr wr g s a) ∧ Hid (Rdd wr q s a) ∧ Hid (Below N w wr))
    case atStart => exact ⟨0, 0, rfl, by omega, by omega, by omega, R3, D3, B3⟩
    case round =>
      obtain ⟨i, a, rfl, hi, hik, ha, HR, HD, HB⟩ := hrel
      by_cases hlt : (i : Int) < 40
      · obtain ⟨⟨x, e, b⟩, hx⟩ : ∃ y, Nx l s a = y := ⟨_, rfl⟩
        have hb := Nx_at l s a ha
        have h1 := next_calls A n c l g s a wr (by omega) (by rw [← HL.out]; exact rd_of_C (Kd.C_below HC.out (HB.out.mono (by rw [HN.out]; exact Nat.le_refl _)))) hs2 ha HR.out (by
          intro ad h h0 e
          have := rd_of_C HC.out
          obtain ⟨b', off, e', hlt', _⟩ := this.2 (by rw [HL.out]; exact h0)
          rw [h] at e'
          cases e'
          have := HN.out
          have : b' = g := e
          omega)
        have h2 := refNext_ev l (by rw [HL.out]; omega) s a hs2 ha
        rw [hx] at hb h1 h2
        obtain ⟨k, hk⟩ := h2.ex
        dsimp only at hb h1 hk
        have H1 := hid h1
        have HK := hid hk
        clear h1 h2 hk hx
        have hgq : g ≠ q := by omega
        have hcall2 : Hid (∀ w', Tch (oneB g) wr w' → Calls Try.prog 26 #[.pointer (some ⟨q, 0, none⟩), .slice A n c] w' fun e' w'' => e' = .returned (.tuple #[.int .i64 x, .int .i64 e]) ∧ IsS48 w w'' q s b ∧ Below w.heap.size w w'' ∧ KeepBut w' w'' q none) := hid (fun w' hT => by
          have hB' : Below w.heap.size w w' := by
            refine ⟨hT.os.trans HB.out.os, hT.tape.trans HB.out.tape, hT.output.trans HB.out.output, Nat.le_trans HB.out.size hT.size, fun j hj => ?_⟩
            rw [hT.block j (Nat.lt_of_lt_of_le hj HB.out.size) (fun e' => by have : j = g := e'; have := HN.out; omega)]
            exact HB.out.block j (by rw [← HN.out]; exact hj)
          have h3 := hanaperref07_Next.calls k q s (a : Int) A c l x e s (b : Int) w w' ⟨hT.heap HD.out (fun e' => hgq e'.symm), by rw [HN.out]; omega⟩ hB' (Kd.C_below HC.out hB') HCC.out (by
            intro ad h h0 e'
            obtain ⟨b', off, e2, hlt', _⟩ := (rd_of_C HC.out).2 h0
            rw [h] at e2
            cases e2
            have := HN.out
            have : b' = q := e'
            omega) HK.out
          rw [HL.out] at h3
          exact h3)
        by_cases he : e = 0
        · have he0 : (e != 0) = false := by simpa using he
          go_wp2_with (first | (go_at_call 25; refine Calls.mono H1.out ?_; rintro e' w' ⟨rfl, hR', hT'⟩) | (go_at_call 26; refine Calls.mono (hcall2.out _ hT') ?_; rintro e' w'' ⟨rfl, hD', hB', hK'⟩))
          have hR2 : Hid (Rdr w'' g s b) := (hK'.2 g hR'.lt hgq (by simp)).trans hR'
          have HD2 := hid hD'
          have HB2 := hid hB'
          clear hT' hK' hD' hB' hR'
          refine Calls.mono (left_calls g s b w'' hs2 hb hR2.out) ?_
          rintro e' w3 ⟨rfl, m, rfl⟩
          have hLL := hid (hanaperref06_Reader_Left.calls q s (b : Int) (8 * (s.size : Int) - b) s (b : Int) w (w''.drewN m) (HD2.out.drewN m) ⟨HB2.out.os, HB2.out.tape, HB2.out.output, HB2.out.size, HB2.out.block⟩ (by
            rw [hanaperref06_Reader_Left.f, w64 (x := 8 * (s.size : Int)) (by omega), w64 (by omega)]))
          go_wp2_with fail
          refine Calls.mono hLL.out ?_
          rintro e' w4 ⟨rfl, hD4, hB4, hK4⟩
          have R4 : Hid (Rdr w4 g s b) := (hK4.2 g hR2.out.lt hgq (by simp)).trans hR2.out
          have D4 : Hid (Rdd w4 q s b) := hD4.1
          have B4 : Hid (Below N w w4) := hid (by rw [← HN.out]; exact hB4)
          clear hD4 hB4 hK4 hLL
          go_wp2_with fail
          go_roundg (40 - (i + 1))
          case measure => omega
          case rel => exact ⟨i + 1, b, by go_num, by omega, by omega, hb, R4, D4, B4⟩
        · have he0 : (e != 0) = true := by simpa using he
          go_wp2_with (first | (go_at_call 25; refine Calls.mono H1.out ?_; rintro e' w' ⟨rfl, hR', hT'⟩) | (go_at_call 26; refine Calls.mono (hcall2.out _ hT') ?_; rintro e' w'' ⟨rfl, hD', hB', hK'⟩))
          have hR2 : Hid (Rdr w'' g s b) := (hK'.2 g hR'.lt hgq (by simp)).trans hR'
          have HD2 := hid hD'
          have HB2 := hid hB'
          clear hT' hK' hD' hB' hR'
          refine Calls.mono (left_calls g s b w'' hs2 hb hR2.out) ?_
          rintro e' w3 ⟨rfl, m, rfl⟩
          have hLL := hid (hanaperref06_Reader_Left.calls q s (b : Int) (8 * (s.size : Int) - b) s (b : Int) w (w''.drewN m) (HD2.out.drewN m) ⟨HB2.out.os, HB2.out.tape, HB2.out.output, HB2.out.size, HB2.out.block⟩ (by
            rw [hanaperref06_Reader_Left.f, w64 (x := 8 * (s.size : Int)) (by omega), w64 (by omega)]))
          go_wp2_with fail
          refine Calls.mono hLL.out ?_
          rintro e' w4 ⟨rfl, hD4, hB4, hK4⟩
          have R4 : Hid (Rdr w4 g s b) := (hK4.2 g hR2.out.lt hgq (by simp)).trans hR2.out
          have D4 : Hid (Rdd w4 q s b) := hD4.1
          have B4 : Hid (Below N w w4) := hid (by rw [← HN.out]; exact hB4)
          clear hD4 hB4 hK4 hLL
          go_wp2_with fail
          go_ret
          exact ⟨rfl, B4.out⟩
      · have hi40 : i = 40 := by omega
        subst hi40
        go_wp2_with fail
        go_ret
        exact ⟨rfl, HB.out⟩

theorem prefixNext_walk (a0 : Option Addr) (len0 cap0 : Nat) (z0 : List Int) (a1 : ByteArray) (w : World) (w0 : (a0 = none ∧ len0 = 0 ∧ cap0 = 0 ∧ z0 = []) ∨ ∃ x, a0 = some x ∧ len0 ≤ cap0 ∧ cap0 ≤ maxLen ∧ z0.length = cap0 ∧ (∀ i, i < z0.length → w.cell? (x.add i) = some (.int .i64 (z0.getD i 0))) ∧ ∀ n ∈ z0, (Lit.int .i64 n).wf = true) (y0 : len0 * 8 ≤ 140737488351232) (w1 : a1.size ≤ 140737488351232) :
    Calls Try.prog 8 #[.slice a0 len0 cap0, .string a1] w fun e w' => e = .returned (.bool true) ∧ Below w.heap.size w w' := by
  obtain ⟨l0, rfl, hr0, hm0, hw0, hc0⟩ := ReadsInt.ofRowC w0
  exact next_law _ _ l0 a1 w (Kd.C_of_reads (d := (0 : Int)) (h1 := fun _ => rfl) hr0) hc0 (by omega) w1

end Go.Proofs.Ythgijppajindpaa
