/-
  squeeze's reader and Expand are walked.
-/
import Derived.Test.YthgijppajindpaaSqzs
import Derived.Recover
import Derived.WalkSmall
import Derived.Deep.RegionWith
set_option linter.unusedVariables false
set_option linter.unusedSimpArgs false
namespace Go.Proofs.Ythgijppajindpaa
open Go.RowKit Go.Maps Go.Proofs.YthgijppajindpaaW.PrintWords Go.Proofs.YthgijppajindpaaW.PrintLast Go.Proofs.YthgijppajindpaaW.PrintMore Go.Proofs.Ythgijppajindpaa.K7
attribute [local go_sem] max2_int min2_int max_two min_two

/-- The panic with an errno. -/
def pan (e : Int) : Ending := .panicked [{ v := .iface 24 (.int .i64 e), recovered := false }]

theorem must_ok (w : World) : Calls Try.prog 59 #[.int .i64 0] w fun e w' => e = .returned (.tuple #[]) ∧ w' = w := by
  go_enter Try.func59, Try.ntmps59
  go_wp2
  go_end0
  exact ⟨rfl, rfl⟩
theorem must_bad (k : Int) (hk : k ≠ 0) (w : World) : Calls Try.prog 59 #[.int .i64 k] w fun e w' => e = pan k ∧ w' = w := by
  go_enter Try.func59, Try.ntmps59
  go_wp2
  exact ⟨rfl, rfl, rfl⟩

/-- The reader of squeeze, in a block of its own. -/
def rscells (rg : Nat) (L : List Int) : Array Value := (Value.pointer (some ⟨rg, 0, none⟩) :: L.map eI).toArray
def RS (w : World) (g rg : Nat) (L : List Int) : Prop := w.heap[g]? = some (.cells (rscells rg L) 103 (0, 0))
theorem RS.c0 {w : World} {g rg : Nat} {L : List Int} (h : RS w g rg L) : w.cell? ⟨g, 0, none⟩ = some (.pointer (some ⟨rg, 0, none⟩)) := by rw [cell_block h]; rfl
theorem RS.cell {w : World} {g rg : Nat} {L : List Int} (h : RS w g rg L) {j : Nat} (hj : j < L.length) : w.cell? ⟨g, 1 + j, none⟩ = some (.int .i64 (L.getD j 0)) := by
  rw [cell_block h]
  unfold rscells
  rw [List.getElem?_toArray, Nat.add_comm, List.getElem?_cons_succ, List.getElem?_map, List.getD_eq_getElem?_getD, List.getElem?_eq_getElem hj]
  rfl
theorem RS.fr {w : World} {g rg : Nat} {L : List Int} (h : RS w g rg L) (j : Nat) : w.frozen? ⟨g, j, none⟩ = false := frozen_block h j
theorem RS.lt {w : World} {g rg : Nat} {L : List Int} (h : RS w g rg L) : g < w.heap.size := (Array.getElem?_eq_some_iff.1 h).1
theorem RS.tch {w w' : World} {S : Nat → Prop} {g rg : Nat} {L : List Int} (h : RS w g rg L) (ht : Tch S w w') (hn : ¬ S g) : RS w' g rg L := ht.heap h hn
theorem RS.set {w : World} {g rg : Nat} {L : List Int} (h : RS w g rg L) (j : Nat) (x : Int) : RS (w.setCell ⟨g, 1 + j, none⟩ (.int .i64 x)) g rg (L.set j x) := by
  unfold RS at *
  unfold World.setCell
  simp only []
  rw [Array.getElem?_modify, if_pos rfl, h]
  simp only [Option.map_some]
  congr 2
  unfold rscells
  rw [List.map_set, Nat.add_comm]
  simp
theorem RS.rd {w : World} {g rg : Nat} {L : List Int} (h : RS w g rg L) (hl : L.length = 289) : Rd w (some ⟨g, 1, none⟩) 289 L :=
  ⟨hl, fun _ => ⟨g, 1, rfl, h.lt, fun j hj => h.cell (by omega)⟩⟩

theorem number_ok (g rg a n : Nat) (s : ByteArray) (L : List Int) (w : World) (hs : s.size ≤ 1000000) (hn : n ≤ 24) (ha : a + n ≤ 8 * s.size) (hR : Rdr w rg s a) (hS : RS w g rg L) :
    Calls Try.prog 77 #[.pointer (some ⟨g, 0, none⟩), .int .i64 (n : Int)] w fun e w' => e = .returned (.int .i64 (bitsAt s a n : Int)) ∧ Rdr w' rg s (a + n) ∧ Tch (oneB rg) w w' := by
  have c0 := hS.c0
  obtain ⟨v, hv⟩ : ∃ v, v = bitsAt s a n := ⟨_, rfl⟩
  have hvb : v < 16777216 := by rw [hv]; exact Nat.lt_of_lt_of_le (bitsAt_lt s a n) (Nat.pow_le_pow_right (n := 2) (by decide) hn)
  have HV := hid hv
  clear hv
  have HR := hid hR
  clear hR hS
  go_enter Try.func77, Try.ntmps77
  go_wp2_with (first
    | (go_at_call 47; refine (take_ok rg s a n w (by omega) hn ha HR.out).mono ?_; rintro e w1 ⟨rfl, hr, ht⟩; rw [← HV.out]; have HR1 := hid hr; have HT1 := hid ht; clear hr ht)
    | (go_at_call 59; refine (must_ok _).mono ?_; rintro e w2 ⟨rfl, rfl⟩))
  go_ret
  rw [← HV.out]
  exact ⟨rfl, HR1.out, HT1.out⟩
theorem number_short (g rg a n : Nat) (s : ByteArray) (L : List Int) (w : World) (hs : s.size ≤ 1000000) (hn : n ≤ 24) (ha : a ≤ 8 * s.size) (hsh : 8 * s.size < a + n) (hR : Rdr w rg s a) (hS : RS w g rg L) :
    Calls Try.prog 77 #[.pointer (some ⟨g, 0, none⟩), .int .i64 (n : Int)] w fun e w' => e = pan 40 ∧ Rdr w' rg s a ∧ Tch noB w w' := by
  have c0 := hS.c0
  have HR := hid hR
  clear hR hS
  go_enter Try.func77, Try.ntmps77
  go_wp2_with (first
    | (go_at_call 47; refine (take_short rg s a n w (by omega) hn ha hsh HR.out).mono ?_; rintro e w1 ⟨rfl, hr, ht⟩; have HR1 := hid hr; have HT1 := hid ht; clear hr ht)
    | (go_at_call 59; refine (must_bad 40 (by decide) _).mono ?_; rintro e w2 ⟨rfl, rfl⟩; unfold pan))
  exact ⟨rfl, rfl, HR1.out, HT1.out⟩

theorem assert24 (k : Int) (W : World) : (Instr.typeAssert (.iface 24 (.int .i64 k)) 20 24 true).run Try.prog W = .ok (.tuple #[.int .i64 k, .bool true]) W := by kernel_rfl

set_option maxRecDepth 100000 in
theorem catch_panicking (p q : Addr) (x : ByteArray) (y k : Int) (older : List PanicEntry) (w : World) (hp : w.cell? p = some (.string x)) (hpf : w.frozen? p = false) (hq : w.cell? q = some (.int .i64 y)) (hqf : w.frozen? q = false) (hpq : p.block ≠ q.block) :
    CallsD Try.prog 56 #[.pointer (some p), .pointer (some q)] (.panicking ({ v := .iface 24 (.int .i64 k), recovered := false } :: older)) w fun e u' w' =>
      e = .returned (.tuple #[]) ∧ u' = .panicking ({ v := .iface 24 (.int .i64 k), recovered := true } :: older) ∧ w' = (w.setCell p (.string { data := #[] })).setCell q (.int .i64 k) := by
  refine callsD_of_wpS Try.func56 rfl fun c₀ cs hu => ?_
  simp only [Try.ntmps56, List.size_toArray, List.length_cons, List.length_nil, Nat.reduceAdd, Nat.reduceSub, Array.replicate_succ, Array.replicate_zero, List.push_toArray, List.append_toArray, List.nil_append, List.cons_append]
  apply wpS_seq
  apply wpS_region
  simp [wpOpsS, go_sem, recoverD, hu, Exit.thenS]
  refine wpS_of_wp ?_
  have hta : ∀ W, (Instr.typeAssert (.iface 24 (.int .i64 k)) 20 24 true).run Try.prog W = .ok (.tuple #[.int .i64 k, .bool true]) W := fun W => assert24 k W
  have hq2 : (w.setCell p (.string { data := #[] })).cell? q = some (.int .i64 y) := by
    unfold World.cell?
    rw [Below.heap_setCell _ _ _ _ (fun e => hpq e.symm)]
    exact hq
  have hq3 : (w.setCell p (.string { data := #[] })).frozen? q = false := by
    unfold World.frozen?
    rw [Below.heap_setCell _ _ _ _ (fun e => hpq e.symm)]
    exact hqf
  go_wp2
  cases c₀
  simp [bodyPostS, results, Try.results56]

set_option maxRecDepth 100000 in
theorem catch_idle (p q : Addr) (w : World) :
    CallsD Try.prog 56 #[.pointer (some p), .pointer (some q)] .returning w fun e u' w' => e = .returned (.tuple #[]) ∧ u' = .returning ∧ w' = w := by
  refine callsD_of_wpS Try.func56 rfl fun c₀ cs hu => ?_
  simp only [Try.ntmps56, List.size_toArray, List.length_cons, List.length_nil, Nat.reduceAdd, Nat.reduceSub, Array.replicate_succ, Array.replicate_zero, List.push_toArray, List.append_toArray, List.nil_append, List.cons_append]
  apply wpS_seq
  apply wpS_region
  simp [wpOpsS, go_sem, recoverD, hu, Exit.thenS]
  refine wpS_of_wp ?_
  go_wp2
  cases c₀
  simp_all [bodyPostS, results, Try.results56]

/-! ### the table -/
/-- An error, or the lengths and the place behind them. -/
inductive TabR
  | bad (e : Int)
  | ok (L : List Int) (a : Nat)
def tabGo (s : ByteArray) : Nat → List Int → Int → Nat → TabR
  | 0, L, b, a => .ok L a
  | c + 1, L, b, a => if 8 * s.size < a + 13 then .bad 40 else if 289 ≤ bitsAt s a 9 ∨ (bitsAt s a 9 : Int) ≤ b ∨ bitsAt s (a + 9) 4 = 0 then .bad 70 else tabGo s c (L.set (bitsAt s a 9) (bitsAt s (a + 9) 4)) (bitsAt s a 9 : Int) (a + 13)
def tabEnd : TabR → TabR
  | .bad e => .bad e
  | .ok L a => if isCode L = false ∨ L.getD 288 0 = 0 then .bad 70 else .ok L a
def tabR (s : ByteArray) : TabR := if 8 * s.size < 9 then .bad 40 else if 289 < bitsAt s 0 9 then .bad 70 else tabEnd (tabGo s (bitsAt s 0 9) (List.replicate 289 0) (-1) 9)

/-- What the reading of the table leaves. -/
def TabPost (g rg : Nat) (s : ByteArray) (w : World) (r : TabR) (e : Ending) (w' : World) : Prop :=
  (match r with
    | .bad k => e = pan k ∧ k ≠ 0
    | .ok L a => e = .returned (.tuple #[]) ∧ L.length = 289 ∧ a ≤ 8 * s.size ∧ RS w' g rg L ∧ Rdr w' rg s a) ∧ Tch (fun k => k = g ∨ k = rg) w w'

set_option maxHeartbeats 4000000 in
set_option maxRecDepth 1000000 in
theorem table_calls (g rg : Nat) (s : ByteArray) (w : World) (hs : s.size ≤ 1000000) (hgr : g ≠ rg) (hR : Rdr w rg s 0) (hS : RS w g rg (List.replicate 289 0)) :
    Calls Try.prog 57 #[.pointer (some ⟨g, 0, none⟩)] w fun e w' => TabPost g rg s w (tabR s) e w' := by
  have HR := hid hR
  have HS := hid hS
  clear hR hS
  by_cases h9 : 8 * s.size < 9
  · have HE : Hid (tabR s = .bad 40) := by show _ = _; rw [tabR, if_pos h9]
    go_enter Try.func57, Try.ntmps57
    go_wp2_with (first | (go_at_call 77; refine (number_short g rg 0 9 s _ w hs (by decide) (by omega) (by omega) HR.out HS.out).mono ?_; rintro e w1 ⟨rfl, hr, ht⟩; unfold pan))
    refine ⟨rfl, ?_⟩
    rw [HE.out]
    exact ⟨⟨rfl, by decide⟩, ht.mono (fun _ _ h => h.elim)⟩
  obtain ⟨n, hn⟩ : ∃ n, n = bitsAt s 0 9 := ⟨_, rfl⟩
  have hnb : n < 512 := by rw [hn]; exact bitsAt_lt s 0 9
  have HN := hid hn
  clear hn
  by_cases hbig : 289 < n
  · have HE : Hid (tabR s = .bad 70) := by show _ = _; rw [tabR, if_neg h9, ← HN.out, if_pos hbig]
    go_enter Try.func57, Try.ntmps57
    go_wp2_with (first | (go_at_call 77; refine (number_ok g rg 0 9 s _ w hs (by decide) (by omega) HR.out HS.out).mono ?_; rintro e w1 ⟨rfl, hr, ht⟩; rw [← HN.out]; have HT := hid ht; clear hr ht))
    refine ⟨rfl, ?_⟩
    rw [HE.out]
    exact ⟨⟨rfl, by decide⟩, HT.out.mono (fun _ _ h => .inr h)⟩
  have HE : Hid (tabR s = tabEnd (tabGo s n (List.replicate 289 0) (-1) 9)) := by show _ = _; rw [tabR, if_neg h9, ← HN.out, if_neg hbig]
  go_enter Try.func57, Try.ntmps57
  go_wp2_with (first | (go_at_call 77; refine (number_ok g rg 0 9 s _ w hs (by decide) (by omega) HR.out HS.out).mono ?_; rintro e w1 ⟨rfl, hr, ht⟩; rw [← HN.out]; have HT := hid ht; have HR1 := hid hr; clear hr ht))
  have HS1 : Hid (RS w1 g rg (List.replicate 289 0)) := hid (HS.out.tch HT.out hgr)
  have HT1 : Hid (Tch (fun k => k = g ∨ k = rg) w w1) := hid (HT.out.mono (fun _ _ h => .inr h))
  clear HT HS HR
  go_loopg [3, 14] n (fun kx s3 s14 wr => ∃ (i a : Nat) (b : Int) (L : List Int), s3 = .int .i64 b ∧ s14 = .int .i64 (i : Int) ∧ i ≤ n ∧ n - i ≤ kx ∧ -1 ≤ b ∧ b < 289 ∧ a ≤ 8 * s.size ∧ Hid (L.length = 289) ∧ Hid (RS wr g rg L) ∧ Hid (Rdr wr rg s a) ∧ Hid (Tch (fun k => k = g ∨ k = rg) w wr) ∧ Hid (tabGo s n (List.replicate 289 0) (-1) 9 = tabGo s (n - i) L b a))
  case atStart => exact ⟨0, 0 + 9, -1, List.replicate 289 0, rfl, rfl, by omega, by omega, by omega, by omega, by omega, hid (by simp), HS1, HR1, HT1, hid rfl⟩
  case round =>
    obtain ⟨i, a, b, L, rfl, rfl, hi, hkx, hb0, hb1, ha, HL, HSr, HRr, HTr, HG⟩ := hrel
    by_cases hlt : i < n
    · by_cases h40 : 8 * s.size < a + 13
      · have HEE : Hid (tabR s = .bad 40) := by
          show _ = _
          rw [HE.out, HG.out, show n - i = (n - (i + 1)) + 1 by omega, tabGo, if_pos h40]
          rfl
        by_cases h41 : 8 * s.size < a + 9
        · go_wp2_with (first | (go_at_call 77; refine (number_short g rg a 9 s L wr hs (by decide) (by omega) (by omega) HRr.out HSr.out).mono ?_; rintro e w2 ⟨rfl, hr, ht⟩; unfold pan))
          refine ⟨rfl, ?_⟩
          rw [HEE.out]
          exact ⟨⟨rfl, by decide⟩, HTr.out.trans ht (fun _ h => h.elim)⟩
        · go_wp2_with (first
            | (go_at_call 77; refine (number_short g rg (a + 9) 4 s L w2 hs (by decide) (by omega) (by omega) HRa.out HSa.out).mono ?_; rintro e w3 ⟨rfl, hr, ht⟩; unfold pan)
            | (go_at_call 77; refine (number_ok g rg a 9 s L wr hs (by decide) (by omega) HRr.out HSr.out).mono ?_; rintro e w2 ⟨rfl, hr, ht⟩; have HRa := hid hr; have HSa := hid (HSr.out.tch ht hgr); have HTa := hid (HTr.out.trans ht (fun i h => .inl (.inr h))); clear hr ht))
          refine ⟨rfl, ?_⟩
          rw [HEE.out]
          exact ⟨⟨rfl, by decide⟩, HTa.out.trans ht (fun _ h => h.elim)⟩
      · obtain ⟨k, hk⟩ : ∃ k, k = bitsAt s a 9 := ⟨_, rfl⟩
        have hkb : k < 512 := by rw [hk]; exact bitsAt_lt s a 9
        obtain ⟨m, hm⟩ : ∃ m, m = bitsAt s (a + 9) 4 := ⟨_, rfl⟩
        have hmb : m < 16 := by rw [hm]; exact bitsAt_lt s (a + 9) 4
        have HK := hid hk
        have HM := hid hm
        clear hk hm
        by_cases hbad : 289 ≤ k ∨ (k : Int) ≤ b ∨ m = 0
        · have HEE : Hid (tabR s = .bad 70) := by
            show _ = _
            rw [HE.out, HG.out, show n - i = (n - (i + 1)) + 1 by omega, tabGo, if_neg h40, ← HK.out, ← HM.out, if_pos hbad]
            rfl
          have hbad' : (289 : Int) ≤ k ∨ (k : Int) ≤ b ∨ (m : Int) = 0 := by omega
          clear hbad
          rcases hbad' with hbad | hbad | hbad
          all_goals
            go_wp2_with (first
              | (go_at_call 77; refine (number_ok g rg (a + 9) 4 s L w2 hs (by decide) (by omega) HRa.out HSa.out).mono ?_; rintro e w3 ⟨rfl, hr, ht⟩; rw [← HM.out]; have HTb := hid (HTa.out.trans ht (fun i h => .inl (.inr h))); clear hr ht)
              | (go_at_call 77; refine (number_ok g rg a 9 s L wr hs (by decide) (by omega) HRr.out HSr.out).mono ?_; rintro e w2 ⟨rfl, hr, ht⟩; rw [← HK.out]; have HRa := hid hr; have HSa := hid (HSr.out.tch ht hgr); have HTa := hid (HTr.out.trans ht (fun i h => .inl (.inr h))); clear hr ht))
            all_goals
              refine ⟨rfl, ?_⟩
              rw [HEE.out]
              exact ⟨⟨rfl, by decide⟩, HTb.out⟩
        · have HEE : Hid (tabGo s n (List.replicate 289 0) (-1) 9 = tabGo s (n - (i + 1)) (L.set k (m : Int)) (k : Int) (a + 13)) := by
            show _ = _
            rw [HG.out, show n - i = (n - (i + 1)) + 1 by omega, tabGo, if_neg h40, ← HK.out, ← HM.out, if_neg hbad]
          have hk1 : k < 289 := by omega
          have hk2 : b < (k : Int) := by omega
          have hm1 : 0 < m := by omega
          have hd1 : decide ((289 : Int) ≤ (k : Int)) = false := decide_eq_false (by omega)
          have hd2 : decide ((k : Int) ≤ b) = false := decide_eq_false (by omega)
          have hd3 : ((m : Int) == 0) = false := by simp; omega
          clear hbad
          go_wp2_with (first
            | (go_at_call 77; refine (number_ok g rg (a + 9) 4 s L w2 hs (by decide) (by omega) HRa.out HSa.out).mono ?_; rintro e w3 ⟨rfl, hr, ht⟩; rw [← HM.out]; have hsb := HSa.out.tch ht hgr; have d1 := hsb.cell (j := k) (by rw [HL.out]; exact hk1); have d2 := hsb.fr (1 + k); have HSb := hid hsb; have HRb := hid hr; have HTb := hid (HTa.out.trans ht (fun i h => .inl (.inr h))); clear hr ht hsb)
            | (go_at_call 77; refine (number_ok g rg a 9 s L wr hs (by decide) (by omega) HRr.out HSr.out).mono ?_; rintro e w2 ⟨rfl, hr, ht⟩; rw [← HK.out]; have HRa := hid hr; have HSa := hid (HSr.out.tch ht hgr); have HTa := hid (HTr.out.trans ht (fun i h => .inl (.inr h))); clear hr ht))
          go_roundg (n - (i + 1))
          case measure => omega
          case rel =>
            refine ⟨i + 1, a + 13, (k : Int), L.set k (m : Int), rfl, by go_num, by omega, by omega, by omega, by omega, by omega, hid (by rw [List.length_set, HL.out]), hid (HSb.out.set k (m : Int)), ?_, hid (HTb.out.setCell ⟨g, 1 + k, none⟩ _ (.inl (.inl rfl))), HEE⟩
            have h1 : Rdr w3 rg s (a + 13) := HRb.out
            exact hid ((Below.heap_setCell w3 ⟨g, 1 + k, none⟩ _ rg (fun e => hgr e.symm)).trans h1)
    · have HEE : Hid (tabR s = tabEnd (.ok L a)) := by
        show _ = _
        rw [HE.out, HG.out, show n - i = 0 by omega]
        rfl
      have hc288 := HSr.out.cell (j := 288) (by rw [HL.out]; omega)
      obtain ⟨x, hx⟩ : ∃ x, x = L.getD 288 0 := ⟨_, rfl⟩
      rw [← hx] at hc288
      have HX := hid hx
      clear hx
      have HCD : Hid ((Codes L).2 = if isCode L then 0 else 70) := hid (by rw [Codes_eq]; split <;> rfl)
      by_cases hcode : isCode L = true
      · have HCE : Hid ((Codes L).2 = 0) := by show _ = _; rw [HCD.out, if_pos hcode]
        by_cases hx0 : x = 0
        · subst hx0
          go_wp2_with (first | (go_at_call 20; refine (codes_calls (some ⟨g, 1, none⟩) 289 289 L wr (by omega) (HSr.out.rd HL.out)).mono ?_; rintro e w2 ⟨v, rfl, _, hb⟩; rw [HCE.out]; have d := (hb.cell (p := ⟨g, 1 + 288, none⟩) HSr.out.lt).trans hc288; have HB2 := hid hb; clear hb))
          refine ⟨rfl, ?_⟩
          rw [HEE.out, tabEnd, if_pos (.inr HX.out.symm)]
          exact ⟨⟨rfl, by decide⟩, HTr.out.trans (Tch.of_below HB2.out noB) (fun _ h => h.elim)⟩
        · go_wp2_with (first | (go_at_call 20; refine (codes_calls (some ⟨g, 1, none⟩) 289 289 L wr (by omega) (HSr.out.rd HL.out)).mono ?_; rintro e w2 ⟨v, rfl, _, hb⟩; rw [HCE.out]; have d := (hb.cell (p := ⟨g, 1 + 288, none⟩) HSr.out.lt).trans hc288; have HB2 := hid hb; clear hb))
          go_end0
          rw [HEE.out, tabEnd, if_neg (fun h => h.elim (fun h => by rw [hcode] at h; cases h) (fun h => hx0 (HX.out.trans h)))]
          have ht := Tch.of_below HB2.out noB
          exact ⟨⟨rfl, HL.out, ha, HSr.out.tch ht (fun h => h), HRr.out.tch ht (fun h => h)⟩, HTr.out.trans ht (fun _ h => h.elim)⟩
      · have HCE : Hid ((Codes L).2 = 70) := by show _ = _; rw [HCD.out, if_neg hcode]
        go_wp2_with (first | (go_at_call 20; refine (codes_calls (some ⟨g, 1, none⟩) 289 289 L wr (by omega) (HSr.out.rd HL.out)).mono ?_; rintro e w2 ⟨v, rfl, _, hb⟩; rw [HCE.out]; have d := (hb.cell (p := ⟨g, 1 + 288, none⟩) HSr.out.lt).trans hc288; have HB2 := hid hb; clear hb))
        all_goals
          refine ⟨rfl, ?_⟩
          rw [HEE.out, tabEnd, if_pos (.inl (by simpa using hcode))]
          exact ⟨⟨rfl, by decide⟩, HTr.out.trans (Tch.of_below HB2.out noB) (fun _ h => h.elim)⟩

end Go.Proofs.Ythgijppajindpaa

namespace Go.Proofs.Ythgijppajindpaa
open Go.RowKit Go.Maps Go.Proofs.YthgijppajindpaaW.PrintWords Go.Proofs.YthgijppajindpaaW.PrintLast Go.Proofs.YthgijppajindpaaW.PrintMore Go.Proofs.Ythgijppajindpaa.K7
attribute [local go_sem] max2_int min2_int max_two min_two

theorem nthOf_le : ∀ (l : List Int) (k : Int) (n : Nat), nthOf l k n ≤ l.length
  | [], _, _ => Nat.le_refl _
  | x :: l, k, n => by
    rw [nthOf]
    split
    · split
      · simp
      · have := nthOf_le l k (n - 1); simp; omega
    · have := nthOf_le l k n; simp; omega
theorem nx_bound (l : List Int) (s : ByteArray) : ∀ d k v a, a ≤ 8 * s.size → 0 ≤ (nx l s d k v a).1 ∧ (nx l s d k v a).1 ≤ l.length ∧ a ≤ (nx l s d k v a).2.2 ∧ (nx l s d k v a).2.2 ≤ 8 * s.size
  | 0, k, v, a, h => by rw [nx]; exact ⟨Int.le_refl _, by show (0 : Int) ≤ _; omega, Nat.le_refl _, h⟩
  | d + 1, k, v, a, h => by
    rw [nx]
    split
    · exact ⟨Int.le_refl _, by show (0 : Int) ≤ _; omega, Nat.le_refl _, h⟩
    · rename_i h1
      split
      · have := nthOf_le l k (2 * v + bitsAt s a 1 - Fx l k)
        exact ⟨by show (0 : Int) ≤ ((_ : Nat) : Int); omega, by show ((_ : Nat) : Int) ≤ _; omega, by show a ≤ a + 1; omega, by show a + 1 ≤ _; omega⟩
      · split
        · exact ⟨Int.le_refl _, by show (0 : Int) ≤ _; omega, by show a ≤ a + 1; omega, by show a + 1 ≤ _; omega⟩
        · have := nx_bound l s d (k + 1) (2 * v + bitsAt s a 1) (a + 1) (by omega)
          exact ⟨this.1, this.2.1, by omega, this.2.2.2⟩
theorem Nx_bound (l : List Int) (s : ByteArray) (a : Nat) (h : a ≤ 8 * s.size) : 0 ≤ (Nx l s a).1 ∧ (Nx l s a).1 ≤ l.length ∧ a ≤ (Nx l s a).2.2 ∧ (Nx l s a).2.2 ≤ 8 * s.size := by
  unfold Nx
  split
  · exact nx_bound l s _ _ _ _ h
  · exact ⟨Int.le_refl _, by show (0 : Int) ≤ _; omega, Nat.le_refl _, h⟩

inductive TokR
  | bad (e : Int)
  | fin (a : Nat)
  | tok (t : Tok) (a : Nat)
def tokR (s : ByteArray) (L : List Int) (a : Nat) : TokR :=
  if (Nx L s a).2.1 ≠ 0 then .bad (Nx L s a).2.1
  else if (Nx L s a).1 = 288 then .fin (Nx L s a).2.2
  else if (Nx L s a).1 < 256 then .tok ⟨(Nx L s a).1, 0, 0⟩ (Nx L s a).2.2
  else if 8 * s.size < (Nx L s a).2.2 + 9 then .bad 40
  else .tok ⟨0, (Nx L s a).1 - 256 + 3, (bitsAt s (Nx L s a).2.2 9 : Int) + 1⟩ ((Nx L s a).2.2 + 9)

def tokV (t : Tok) : Value := .agg #[.int .u8 t.c, .int .i64 t.n, .int .i64 t.b]
def TokPost (g rg : Nat) (s : ByteArray) (L : List Int) (w : World) (r : TokR) (e : Ending) (w' : World) : Prop :=
  (match r with
    | .bad k => e = pan k ∧ k ≠ 0
    | .fin a => e = .returned (.tuple #[tokV zT, .bool false]) ∧ a ≤ 8 * s.size ∧ Rdr w' rg s a
    | .tok t a => e = .returned (.tuple #[tokV t, .bool true]) ∧ a ≤ 8 * s.size ∧ Rdr w' rg s a ∧ 0 ≤ t.c ∧ t.c < 256 ∧ 0 ≤ t.n ∧ t.n ≤ 36 ∧ 0 ≤ t.b ∧ t.b ≤ 512 ∧ (t.n ≠ 0 → 1 ≤ t.b)) ∧ Tch (oneB rg) w w'

theorem size68 (c n b : Int) : (Try.prog.info? 68).map (·.size) = some (#[Value.int .u8 c, .int .i64 n, .int .i64 b]).size := by
  have : (Try.prog.info? 68).map (·.size) = some 3 := by kernel_rfl
  rw [this]; rfl

theorem set3_heap {w : World} {N : Nat} {a b c a' b' c' : Value} (h : w.heap[N]? = some (.cells #[a, b, c] 68 (0, 0))) : (((w.setCell ⟨N, 0, none⟩ a').setCell ⟨N, 1, none⟩ b').setCell ⟨N, 2, none⟩ c').heap[N]? = some (.cells #[a', b', c'] 68 (0, 0)) := by
  have h1 : (w.setCell ⟨N, 0, none⟩ a').heap[N]? = some (.cells #[a', b, c] 68 (0, 0)) := by
    unfold World.setCell
    simp only []
    rw [Array.getElem?_modify, if_pos rfl, h]
    rfl
  have h2 : ((w.setCell ⟨N, 0, none⟩ a').setCell ⟨N, 1, none⟩ b').heap[N]? = some (.cells #[a', b', c] 68 (0, 0)) := by
    unfold World.setCell at h1 ⊢
    simp only [] at h1 ⊢
    rw [Array.getElem?_modify, if_pos rfl, h1]
    rfl
  unfold World.setCell at h2 ⊢
  simp only [] at h2 ⊢
  rw [Array.getElem?_modify, if_pos rfl, h2]
  rfl

set_option maxHeartbeats 4000000 in
set_option maxRecDepth 1000000 in
theorem token_calls (g rg a : Nat) (s : ByteArray) (L : List Int) (w : World) (hs : s.size ≤ 1000000) (hgr : g ≠ rg) (ha : a ≤ 8 * s.size) (hL : L.length = 289) (hR : Rdr w rg s a) (hS : RS w g rg L) :
    Calls Try.prog 58 #[.pointer (some ⟨g, 0, none⟩)] w fun e w' => TokPost g rg s L w (tokR s L a) e w' := by
  obtain ⟨N, hN⟩ : ∃ N, w.heap.size = N := ⟨_, rfl⟩
  have hlt1 := hS.lt
  have hlt2 := hR.lt
  obtain ⟨hb1, hb2, hb3, hb4⟩ := Nx_bound L s a ha
  rw [hL] at hb2
  obtain ⟨W, hW⟩ : ∃ W, W = w.alloc (.cells #[.int .u8 0, .int .i64 0, .int .i64 0] 68) := ⟨_, rfl⟩
  have HR : Hid (Rdr W rg s a) := by rw [hW]; exact hR.alloc _
  have hS1 : RS W g rg L := by rw [hW]; exact (Below.heap_alloc w _ g hlt1).trans hS
  have HS := hid hS1
  have c0 := hS1.c0
  have HWN : Hid (W.heap[N]? = some (.cells #[.int .u8 0, .int .i64 0, .int .i64 0] 68 (0, 0))) := by rw [hW, ← hN]; exact heap_alloc_new w _
  have HT0 : Hid (Tch noB w W) := by rw [hW]; exact (Tch.refl _ _).alloc _
  obtain ⟨x, hx⟩ : ∃ x, x = (Nx L s a).1 := ⟨_, rfl⟩
  obtain ⟨er, her⟩ : ∃ er, er = (Nx L s a).2.1 := ⟨_, rfl⟩
  obtain ⟨b, hb⟩ : ∃ b, b = (Nx L s a).2.2 := ⟨_, rfl⟩
  rw [← hx] at hb1 hb2
  rw [← hb] at hb3 hb4
  have HE : Hid (tokR s L a = if er ≠ 0 then .bad er else if x = 288 then .fin b else if x < 256 then .tok ⟨x, 0, 0⟩ b else if 8 * s.size < b + 9 then .bad 40 else .tok ⟨0, x - 256 + 3, (bitsAt s b 9 : Int) + 1⟩ (b + 9)) := by
    show _ = _
    rw [tokR, ← hx, ← her, ← hb]
  have HX := hid hx
  have HER := hid her
  have HBB := hid hb
  have hrgN : rg ≠ N := by omega
  clear hx her hb hS hR hS1 hlt1 hlt2
  obtain ⟨x', rfl⟩ : ∃ x' : Nat, x = (x' : Int) := ⟨x.toNat, by omega⟩
  have HNN := hid hN
  go_enter Try.func58, Try.ntmps58
  go_wp2_with fail
  rw [← hW]
  clear hW hN
  go_region_with (go_at_call 25; refine (next_calls (some ⟨g, 1, none⟩) 289 289 L rg s a (World.drew W) (by omega) (HS.out.rd hL) (by omega) ha HR.out (fun ad e _ => by cases e; exact hgr)).mono ?_; rintro e w2 ⟨rfl, hr, ht⟩; rw [← HX.out, ← HER.out]; rw [← HBB.out] at hr; have hw2 := ht.heap (k := N) HWN.out (fun e => hrgN e.symm); have k0 := cell_of_row _ _ 0 _ _ _ hw2; have k1 := cell_of_row _ _ 1 _ _ _ hw2; have k2 := cell_of_row _ _ 2 _ _ _ hw2; simp only [List.getElem?_toArray, List.getElem?_cons_succ, List.getElem?_cons_zero] at k0 k1 k2; have f0 := frozen_block hw2 0; have f1 := frozen_block hw2 1; have f2 := frozen_block hw2 2; have HW2 := hid hw2; have HR2 := hid hr; have HT2 : Hid (Tch (oneB rg) w w2) := hid ((HT0.out.mono (fun _ _ h => h.elim)).trans (show Tch (oneB rg) W w2 from ⟨ht.os, ht.tape, ht.output, ht.size, ht.block⟩) (fun i h => .inl h)); have HS2 := hid (HS.out.tch (show Tch (oneB rg) W w2 from ⟨ht.os, ht.tape, ht.output, ht.size, ht.block⟩) hgr); clear hr ht hw2)
  by_cases hz : er = 0
  · subst hz
    by_cases h288 : (x' : Int) = 288
    · obtain rfl : x' = 288 := by omega
      go_wp2_with (go_at_call 59; refine (must_ok _).mono ?_; rintro e w3 ⟨rfl, rfl⟩)
      refine bodyPost_ret (results_cell_tmp (p := 2) (q := 3) (ty := 68) rfl _ _ N 68 #[.int .u8 0, .int .i64 0, .int .i64 0] (0, 0) _ rfl (set3_heap HW2.out) Try.underlying68 rfl (size68 _ _ _)) rfl ?_
      rw [HE.out, if_neg (fun h => h rfl), if_pos (show ((288 : Nat) : Int) = 288 from rfl)]
      exact ⟨⟨rfl, hb4, ((Below.heap_setCell _ _ _ rg hrgN).trans ((Below.heap_setCell _ _ _ rg hrgN).trans ((Below.heap_setCell _ _ _ rg hrgN).trans HR2.out)))⟩, (((HT2.out.setCell ⟨N, 0, none⟩ _ (.inr (Nat.le_of_eq HNN.out))).setCell ⟨N, 1, none⟩ _ (.inr (Nat.le_of_eq HNN.out))).setCell ⟨N, 2, none⟩ _ (.inr (Nat.le_of_eq HNN.out)))⟩
    · by_cases h256 : (x' : Int) < 256
      · have hmod : (x' : Int) % 256 = x' := by omega
        go_wp2_with (go_at_call 59; refine (must_ok _).mono ?_; rintro e w3 ⟨rfl, rfl⟩)
        refine bodyPost_ret (results_cell_tmp (p := 2) (q := 3) (ty := 68) rfl _ _ N 68 #[.int .u8 x', .int .i64 0, .int .i64 0] (0, 0) _ rfl (set3_heap HW2.out) Try.underlying68 rfl (size68 _ _ _)) rfl ?_
        rw [HE.out, if_neg (fun h => h rfl), if_neg h288, if_pos h256]
        exact ⟨⟨rfl, hb4, ((Below.heap_setCell _ _ _ rg hrgN).trans ((Below.heap_setCell _ _ _ rg hrgN).trans ((Below.heap_setCell _ _ _ rg hrgN).trans HR2.out))), by show (0 : Int) ≤ (x' : Int); omega, h256, Int.le_refl 0, by show (0 : Int) ≤ 36; decide, Int.le_refl 0, by show (0 : Int) ≤ 512; decide, fun h => absurd rfl h⟩, (((HT2.out.setCell ⟨N, 0, none⟩ _ (.inr (Nat.le_of_eq HNN.out))).setCell ⟨N, 1, none⟩ _ (.inr (Nat.le_of_eq HNN.out))).setCell ⟨N, 2, none⟩ _ (.inr (Nat.le_of_eq HNN.out)))⟩
      · by_cases h40 : 8 * s.size < b + 9
        · go_wp2_with (first
            | (go_at_call 59; refine (must_ok _).mono ?_; rintro e w3 ⟨rfl, rfl⟩)
            | (go_at_call 77; refine (number_short g rg b 9 s L _ hs (by decide) hb4 (by omega) HR2.out HS2.out).mono ?_; rintro e w4 ⟨rfl, hr, ht⟩; unfold pan))
          refine ⟨rfl, ?_⟩
          rw [HE.out, if_neg (fun h => h rfl), if_neg h288, if_neg (show ¬ (x' : Int) < 256 by omega), if_pos h40]
          exact ⟨⟨rfl, by decide⟩, HT2.out.trans ht (fun _ h => h.elim)⟩
        · obtain ⟨y, hy⟩ : ∃ y, y = bitsAt s b 9 := ⟨_, rfl⟩
          have hyb : y < 512 := by rw [hy]; exact bitsAt_lt s b 9
          have HY := hid hy
          clear hy
          go_wp2_with (first
            | (go_at_call 59; refine (must_ok _).mono ?_; rintro e w3 ⟨rfl, rfl⟩)
            | (go_at_call 77; refine (number_ok g rg b 9 s L _ hs (by decide) (by omega) HR2.out HS2.out).mono ?_; rintro e w4 ⟨rfl, hr, ht⟩; rw [← HY.out]; have hw4 := ht.heap (k := N) HW2.out (fun e => hrgN e.symm); have j0 := cell_of_row _ _ 0 _ _ _ hw4; have j1 := cell_of_row _ _ 1 _ _ _ hw4; have j2 := cell_of_row _ _ 2 _ _ _ hw4; simp only [List.getElem?_toArray, List.getElem?_cons_succ, List.getElem?_cons_zero] at j0 j1 j2; have l0 := frozen_block hw4 0; have l1 := frozen_block hw4 1; have l2 := frozen_block hw4 2; have HW4 := hid hw4; have HR4 := hid hr; have HT4 := hid (HT2.out.trans ht (fun i h => .inl h)); clear hr ht hw4))
          refine bodyPost_ret (results_cell_tmp (p := 2) (q := 3) (ty := 68) rfl _ _ N 68 #[.int .u8 0, .int .i64 ((x' : Int) - 256 + 3), .int .i64 ((y : Int) + 1)] (0, 0) _ rfl (set3_heap HW4.out) Try.underlying68 rfl (size68 _ _ _)) rfl ?_
          rw [HE.out, if_neg (fun h => h rfl), if_neg h288, if_neg (show ¬ (x' : Int) < 256 by omega), if_neg h40, ← HY.out]
          exact ⟨⟨rfl, by omega, ((Below.heap_setCell _ _ _ rg hrgN).trans ((Below.heap_setCell _ _ _ rg hrgN).trans ((Below.heap_setCell _ _ _ rg hrgN).trans HR4.out))), Int.le_refl 0, by show (0 : Int) < 256; decide, by show 0 ≤ (x' : Int) - 256 + 3; omega, by show (x' : Int) - 256 + 3 ≤ 36; omega, by show 0 ≤ (y : Int) + 1; omega, by show (y : Int) + 1 ≤ 512; omega, fun _ => by show 1 ≤ (y : Int) + 1; omega⟩, (((HT4.out.setCell ⟨N, 0, none⟩ _ (.inr (Nat.le_of_eq HNN.out))).setCell ⟨N, 1, none⟩ _ (.inr (Nat.le_of_eq HNN.out))).setCell ⟨N, 2, none⟩ _ (.inr (Nat.le_of_eq HNN.out)))⟩
  · go_wp2_with (go_at_call 59; refine (must_bad er hz _).mono ?_; rintro e w3 ⟨rfl, rfl⟩; unfold pan)
    refine ⟨rfl, ?_⟩
    rw [HE.out, if_pos hz]
    exact ⟨⟨rfl, hz⟩, HT2.out⟩

end Go.Proofs.Ythgijppajindpaa

namespace Go.Proofs.Ythgijppajindpaa
open Go.RowKit Go.Maps Go.Proofs.YthgijppajindpaaW.PrintWords Go.Proofs.YthgijppajindpaaW.PrintLast Go.Proofs.YthgijppajindpaaW.PrintMore Go.Proofs.Ythgijppajindpaa.K7
attribute [local go_sem] max2_int min2_int max_two min_two

def copyN : Nat → Int → List Int → List Int
  | 0, _, b => b
  | n + 1, k, b => copyN n k (b ++ [b.getD (b.length - k.toNat) 0])
def expGo (s : ByteArray) (L : List Int) (most : Int) : Nat → List Int → Nat → Option (List Int × Int)
  | 0, _, _ => none
  | f + 1, b, a => match tokR s L a with
    | .bad e => some ([], e)
    | .fin a' => (bitio_Reader_End.f s a').map fun r => if r.1 = 0 then (b, 0) else ([], r.1)
    | .tok t a' =>
      if t.n = 0 then (if most < ((b.length + 1 : Nat) : Int) then some ([], 90) else expGo s L most f (b ++ [t.c]) a')
      else if (b.length : Int) < t.b then some ([], 80)
      else if most < ((copyN t.n.toNat t.b b).length : Int) then some ([], 90) else expGo s L most f (copyN t.n.toNat t.b b) a'
/-- P9.3. -/
def ExpR (s : ByteArray) (most : Int) (F : Nat) : Option (ByteArray × Int) := match tabR s with
  | .bad e => some (strOfNums [], e)
  | .ok L a => (expGo s L most F [] a).map fun r => (strOfNums r.1, r.2)

theorem copyN_length : ∀ n k b, (copyN n k b).length = b.length + n
  | 0, _, b => rfl
  | n + 1, k, b => by rw [copyN, copyN_length n k]; simp; omega

theorem zero103 (v : Value) : Try.zeroCells103.setIfInBounds 0 v = (v :: (List.replicate 289 0).map eI).toArray := by kernel_rfl
theorem str_nil : strOfNums [] = { data := #[] } := rfl
theorem infoU8' : (Try.prog.info? 5).map (fun i => (i.zero, i.size, i.bytes)) = some (some (.int .u8 0), 1, 1) := by kernel_rfl

/-- The boxes of the results. -/
structure BX (w : World) (N : Nat) : Prop where
  p : Boxed w N 9 (.string { data := #[] })
  q : Boxed w (N + 1) 24 (.int .i64 0)
theorem BX.tch {w w' : World} {S : Nat → Prop} {N : Nat} (h : BX w N) (ht : Tch S w w') (h1 : ¬ S N) (h2 : ¬ S (N + 1)) : BX w' N := ⟨ht.heap h.p h1, ht.heap h.q h2⟩

theorem World.size_alloc_lt' (w : World) (o : Obj) : w.heap.size < (w.alloc o).heap.size := by simp
theorem panic_end {N : Nat} {k : Int} {tm : Array Value} {w w2 : World} {r : ByteArray × Int} (h4 : tm.getD 4 undef = .pointer (some ⟨N, 0, none⟩)) (h5 : tm.getD 5 undef = .pointer (some ⟨N + 1, 0, none⟩)) (hN : w.heap.size = N) (hB : Below N w w2) (hX : BX w2 N) (hr : r = (strOfNums [], k)) :
    bodyPostD Try.prog Try.f34 (fun e w' => e = .returned (.tuple #[.string r.1, .int .i64 r.2]) ∧ Below w.heap.size w w') (Exit.panic [{ v := .iface 24 (.int .i64 k), recovered := false }])
      { tmps := tm, defers := [{ target := Target.fn (Fn.func 56) #[.pointer (some ⟨N, 0, none⟩), .pointer (some ⟨N + 1, 0, none⟩)], args := #[] }] } w2 := by
  refine leaves_cons (f := 56) (args := #[.pointer (some ⟨N, 0, none⟩), .pointer (some ⟨N + 1, 0, none⟩)]) (by simp) (by simp [go_sem]) ?_
  refine (catch_panicking ⟨N, 0, none⟩ ⟨N + 1, 0, none⟩ { data := #[] } 0 k [] w2 hX.p.cell hX.p.frozen hX.q.cell hX.q.frozen (by simp)).mono ?_
  rintro e u' w'' ⟨rfl, rfl, rfl⟩
  have hq : Boxed ((w2.setCell ⟨N, 0, none⟩ (.string { data := #[] })).setCell ⟨N + 1, 0, none⟩ (.int .i64 k)) (N + 1) 24 (.int .i64 k) := (box_far hX.q (show N + 1 ≠ N by omega) _).set _
  have hp : Boxed ((w2.setCell ⟨N, 0, none⟩ (.string { data := #[] })).setCell ⟨N + 1, 0, none⟩ (.int .i64 k)) N 9 (.string { data := #[] }) := box_far (hX.p.set _) (show N ≠ N + 1 by omega) _
  have hB2 : Below N w ((w2.setCell ⟨N, 0, none⟩ (.string { data := #[] })).setCell ⟨N + 1, 0, none⟩ (.int .i64 k)) := (hB.setCell (p := ⟨N, 0, none⟩) (Nat.le_refl _) _).setCell (p := ⟨N + 1, 0, none⟩) (Nat.le_succ _) _
  generalize (w2.setCell ⟨N, 0, none⟩ (.string { data := #[] })).setCell ⟨N + 1, 0, none⟩ (.int .i64 k) = wz at hq hp hB2
  have hqc := hq.cell
  have hpc := hp.cell
  have g4 : tm[4]?.getD undef = .pointer (some ⟨N, 0, none⟩) := by simpa using h4
  have g5 : tm[5]?.getD undef = .pointer (some ⟨N + 1, 0, none⟩) := by simpa using h5
  simp [Leaves, settle, results, Try.results34, go_sem, g4, g5, hqc, hpc, hr, str_nil, hN, hB2]

theorem normal_end {N : Nat} {x : Exit} (hx : x = .ret ∨ x = .normal) {tm : Array Value} {w w2 : World} {r : ByteArray × Int} (h4 : tm.getD 4 undef = .pointer (some ⟨N, 0, none⟩)) (h5 : tm.getD 5 undef = .pointer (some ⟨N + 1, 0, none⟩)) (hN : w.heap.size = N) (hB : Below N w w2) (hp : Boxed w2 N 9 (.string r.1)) (hq : Boxed w2 (N + 1) 24 (.int .i64 r.2)) :
    bodyPostD Try.prog Try.f34 (fun e w' => e = .returned (.tuple #[.string r.1, .int .i64 r.2]) ∧ Below w.heap.size w w') x
      { tmps := tm, defers := [{ target := Target.fn (Fn.func 56) #[.pointer (some ⟨N, 0, none⟩), .pointer (some ⟨N + 1, 0, none⟩)], args := #[] }] } w2 := by
  have hqc := hq.cell
  have hpc := hp.cell
  have g4 : tm[4]?.getD undef = .pointer (some ⟨N, 0, none⟩) := by simpa using h4
  have g5 : tm[5]?.getD undef = .pointer (some ⟨N + 1, 0, none⟩) := by simpa using h5
  rcases hx with rfl | rfl
  all_goals
    refine leaves_cons (f := 56) (args := #[.pointer (some ⟨N, 0, none⟩), .pointer (some ⟨N + 1, 0, none⟩)]) (by simp) (by simp [go_sem]) ?_
    refine (catch_idle ⟨N, 0, none⟩ ⟨N + 1, 0, none⟩ w2).mono ?_
    rintro e u' w'' ⟨rfl, rfl, rfl⟩
    simp [Leaves, settle, results, Try.results34, go_sem, g4, g5, hqc, hpc, hN, hB]

/-- Variables of other types lie as they lay. -/
def KeepU (w w' : World) : Prop := ∀ (j : Nat) (cur : Array Value) (t : TypeId), w.heap[j]? = some (.cells cur t (0, 0)) → t ≠ 5 → w'.heap[j]? = some (.cells cur t (0, 0))
theorem app_keepU {n k : Nat} {w w1 : World} {v : Value} {xs : List Value} {tmp : Obj} (hr : w.ownsRow n 5 1 v k xs) (hg : (w.alloc tmp).grownBy w1 v.ownBlock) : KeepU w w1 := by
  intro j cur t hj ht
  have hlt := (Array.getElem?_eq_some_iff.1 hj).1
  refine (hg.block j (by have := World.size_alloc_lt' w tmp; omega) (fun e => ?_)).trans ((Below.heap_alloc w tmp j hlt).trans hj)
  rcases hr.2 with ⟨rfl, _⟩ | ⟨g, cap, cur', rfl, _, hgb, _⟩
  · simp [Value.ownBlock] at e
  · obtain rfl : j = g := by simpa [Value.ownBlock] using e
    rw [hj] at hgb
    simp at hgb
    exact ht hgb.2
theorem size_alloc_eq (w : World) (o : Obj) : (w.alloc o).heap.size = w.heap.size + 1 := by simp
theorem new_at (w : World) (o : Obj) (x : Value) : ∀ j u, [x][j]? = some u → ((w.alloc o).alloc (.cells #[x] 5)).cell? ((⟨w.heap.size + 1, 0, none⟩ : Addr).add j) = some u := by
  have := cell_one_new (w.alloc o) x 5
  rw [size_alloc_eq] at this
  exact this
theorem alloc_le {N : Nat} {w : World} (h : N ≤ w.heap.size) (o : Obj) : N ≤ (w.alloc o).heap.size := by rw [size_alloc_eq]; omega
/-- What stands while bytes come. -/
structure ES (N rg g : Nat) (w0 w : World) (s : ByteArray) (L : List Int) (a : Nat) : Prop where
  bx : BX w N
  rs : RS w g rg L
  rd : Rdr w rg s a
  be : Below N w0 w
  sz : N ≤ w.heap.size
theorem ES.app {N rg g : Nat} {w0 w w1 : World} {s : ByteArray} {L : List Int} {a k : Nat} {v : Value} {xs : List Value} {tmp : Obj} (h : ES N rg g w0 w s L a) (hr : w.ownsRow N 5 1 v k xs) (hg : (w.alloc tmp).grownBy w1 v.ownBlock) : ES N rg g w0 w1 s L a := by
  have k1 := app_keepU hr hg
  have hlt := World.size_alloc_lt' w tmp
  have hz := h.sz
  exact ⟨⟨k1 _ _ _ h.bx.p (by decide), k1 _ _ _ h.bx.q (by decide)⟩, k1 _ _ _ h.rs (by decide), k1 _ _ _ h.rd (by decide), (h.be.alloc h.sz tmp).grown hg (by omega) (fun j ej => (hr.lt j ej).1), by have := hg.size; omega⟩
theorem ES.alloc {N rg g : Nat} {w0 w : World} {s : ByteArray} {L : List Int} {a : Nat} (h : ES N rg g w0 w s L a) (o : Obj) : ES N rg g w0 (w.alloc o) s L a :=
  ⟨⟨h.bx.p.alloc o, h.bx.q.alloc o⟩, (Below.heap_alloc w o g h.rs.lt).trans h.rs, h.rd.alloc o, h.be.alloc h.sz o, by have := World.size_alloc_lt' w o; have := h.sz; omega⟩
theorem ES.tch {N rg g : Nat} {w0 w w1 : World} {s : ByteArray} {L : List Int} {a a' : Nat} (h : ES N rg g w0 w s L a) (ht : Tch (oneB rg) w w1) (hr : Rdr w1 rg s a') (hgr : g ≠ rg) (hrg : N + 2 ≤ rg) : ES N rg g w0 w1 s L a' :=
  ⟨h.bx.tch ht (fun e => by have : N = rg := e; omega) (fun e => by have : N + 1 = rg := e; omega), h.rs.tch ht hgr, hr, h.be.trans ⟨ht.os, ht.tape, ht.output, ht.size, fun k hk => ht.block k (by have := h.sz; omega) (fun e => by have : k = rg := e; omega)⟩, Nat.le_trans h.sz ht.size⟩
theorem row_tch {rg n k a : Nat} {w w1 : World} {s : ByteArray} {v : Value} {xs : List Value} (h : w.ownsRow n 5 1 v k xs) (hr : Rdr w rg s a) (ht : Tch (oneB rg) w w1) : w1.ownsRow n 5 1 v k xs := by
  refine h.kept ht.grown ?_
  rcases h.2 with ⟨rfl, _⟩ | ⟨g, cap, cur', rfl, _, hgb, _⟩
  · exact .inl rfl
  · right
    intro e
    obtain rfl : g = rg := by simpa [Value.ownBlock] using e
    have := (show w.heap[g]? = _ from hr).symm.trans hgb
    simp at this

theorem end_calls {w0 w : World} {rg a : Nat} {s s' : ByteArray} {e a' : Int} (hR : Rdr w rg s a) (hB : Below w0.heap.size w0 w) (hg : w0.heap.size ≤ rg) (h : bitio_Reader_End.f s a = some (e, s', a')) :
    Calls Try.prog 30 #[.pointer (some ⟨rg, 0, none⟩)] w fun x w' => x = .returned (.int .i64 e) ∧ Tch (oneB rg) w w' := by
  refine (bitio_Reader_End.calls rg s a e s' a' w0 w ⟨hR, hg⟩ hB h).mono ?_
  rintro x w' ⟨rfl, hi, hb, hk⟩
  exact ⟨rfl, hb.os.trans hB.os.symm, hb.tape.trans hB.tape.symm, hb.output.trans hB.output.symm, hk.1, fun k hk1 hk2 => hk.2 k hk1 hk2 (by simp)⟩

theorem table_world {N g : Nat} {w W1 w1 w2 : World} {o : Obj} (hB : Below N w W1) (hX : BX W1 N) (hs : W1.heap.size = N + 2) (ht : Tch noB W1 w1) (hg : g = w1.heap.size) (h2 : Tch (fun k => k = g ∨ k = N + 2) (w1.alloc o) w2) : Below N w w2 ∧ BX w2 N ∧ N ≤ w2.heap.size := by
  have h1 := ht.size
  have hlt := World.size_alloc_lt' w1 o
  have e : Tch (fun k => k = g ∨ k = N + 2) W1 w2 := ((ht.alloc o).mono (fun _ _ h => h.elim)).trans h2 (fun i h => .inl h)
  refine ⟨hB.trans ⟨e.os, e.tape, e.output, e.size, fun k hk => e.block k (by omega) (fun h => by rcases h with h | h <;> omega)⟩, hX.tch e (by omega) (by omega), by have := e.size; omega⟩

set_option maxHeartbeats 4000000 in
set_option maxRecDepth 1000000 in
theorem expand_calls (s : ByteArray) (most : Int) (F : Nat) (r : ByteArray × Int) (w : World) (hs : s.size ≤ 1000000) (hF : F ≤ 1000000) (h : ExpR s most F = some r) :
    Calls Try.prog 34 #[.string s, .int .i64 most] w fun e w' => e = .returned (.tuple #[.string r.1, .int .i64 r.2]) ∧ Below w.heap.size w w' := by
  have hmf : ∀ (fn : Fn) (first cap : Array Value) (w : World), (Instr.makeFunc fn first cap).run Try.prog w = .ok (.func fn first cap) w := fun _ _ _ _ => rfl
  obtain ⟨N, hN⟩ : ∃ N, w.heap.size = N := ⟨_, rfl⟩
  obtain ⟨W1, hW1⟩ : ∃ W1, (w.alloc (.cells #[.string { data := #[] }] 9)).alloc (.cells #[.int .i64 0] 24) = W1 := ⟨_, rfl⟩
  have HBX1 : Hid (BX W1 N) := by
    rw [← hW1, ← hN]
    refine ⟨(Boxed.new w 9 _).alloc _, ?_⟩
    have := Boxed.new (w.alloc (.cells #[.string { data := #[] }] 9)) 24 (.int .i64 0)
    simpa using this
  have hsz1 : W1.heap.size = N + 2 := by rw [← hW1, ← hN]; simp
  have HB1 : Hid (Below N w W1) := by
    show Below _ _ _
    rw [← hW1, ← hN]
    exact ((Below.refl _ w).alloc (Nat.le_refl _) _).alloc (by simp) _
  have HN := hid hN
  have HSZ1 := hid hsz1
  go_enter_defers Try.func34, Try.ntmps34
  cases hT : tabR s with
  | bad k =>
    have HR : Hid (r = (strOfNums [], k)) := by
      show _ = _
      unfold ExpR at h
      rw [hT] at h
      exact (Option.some.inj h).symm
    clear h
    go_wp2_with (first
      | (go_at_call 57; rw [zero103]; refine (table_calls w1.heap.size (N + 2) s (w1.alloc (.cells (rscells (N + 2) (List.replicate 289 0)) 103)) hs (by have := HRD.out.lt; omega) (HRD.out.alloc _) (heap_alloc_new w1 _)).mono ?_; rw [hT]; rintro e w2 ⟨⟨rfl, hk⟩, ht2⟩; unfold pan)
      | (go_at_call 24; refine (new_calls s W1).mono ?_; rw [HSZ1.out]; rintro e w1 ⟨rfl, hr, ht⟩; have HRD := hid hr; have HT1 := hid ht; clear hr ht))
    obtain ⟨b1, b2, _⟩ := table_world HB1.out HBX1.out HSZ1.out HT1.out rfl ht2
    exact panic_end rfl rfl HN.out b1 b2 HR.out
  | ok L a =>
    obtain ⟨r0, hr0, hr⟩ : ∃ r0, expGo s L most F [] a = some r0 ∧ r = (strOfNums r0.1, r0.2) := by
      unfold ExpR at h
      rw [hT] at h
      obtain ⟨r0, h1, h2⟩ := Option.map_eq_some_iff.1 h
      exact ⟨r0, h1, h2.symm⟩
    have HR := hid hr
    have HR0 := hid hr0
    clear h hr hr0
    go_wp2_with (first
      | (go_at_call 57; rw [zero103]; refine (table_calls w1.heap.size (N + 2) s (w1.alloc (.cells (rscells (N + 2) (List.replicate 289 0)) 103)) hs (by have := HRD.out.lt; omega) (HRD.out.alloc _) (heap_alloc_new w1 _)).mono ?_; rw [hT]; rintro e w2 ⟨⟨rfl, hL, ha, hrs, hrd⟩, ht2⟩; obtain ⟨b1, b2, b3⟩ := table_world HB1.out HBX1.out HSZ1.out HT1.out rfl ht2; have HES : Hid (ES N (N + 2) w1.heap.size w w2 s L a) := hid ⟨b2, hrs, hrd, b1, b3⟩; clear hrs hrd b1 b2 b3 ht2)
      | (go_at_call 24; refine (new_calls s W1).mono ?_; rw [HSZ1.out]; rintro e w1 ⟨rfl, hr, ht⟩; have HRD := hid hr; have HT1 := hid ht; clear hr ht))
    obtain ⟨g, hg⟩ : ∃ g, w1.heap.size = g := ⟨_, rfl⟩
    have hgr : g ≠ N + 2 := by have := HRD.out.lt; omega
    rw [hg] at HES ⊢
    clear hg HRD HT1 hT hW1 hN hsz1
    have HLL := hid hL
    obtain ⟨i0, hi, hz0, hz1, hz2⟩ := info_parts infoU8'
    have HI := hid hi
    have HZ0 := hid hz0
    have HZ1 := hid hz1
    have HZ2 := hid hz2
    clear hi hz0 hz1 hz2
    generalize Value.agg _ = va
    go_loopg [7] F (fun kx s7 wr => ∃ (f a' : Nat) (b : List Int) (v : Value), s7 = v ∧ f ≤ kx ∧ f ≤ F ∧ b.length ≤ 36 * (F - f) ∧ a' ≤ 8 * s.size ∧ Hid (expGo s L most f b a' = some r0) ∧ Hid (ES N (N + 2) g w wr s L a') ∧ Hid (wr.ownsRow N 5 1 v b.length (b.map eB)))
    case atStart => exact ⟨F, a, [], _, rfl, Nat.le_refl _, Nat.le_refl _, by simp, ha, HR0, HES, hid (World.ownsRow_nil _ _ _ _)⟩
    case round =>
      obtain ⟨f, a', b, v, rfl, hfk, hfF, hbl, ha', HG, HESr, HRW⟩ := hrel
      cases f with
      | zero => exact absurd HG.out (by simp [expGo])
      | succ f =>
        cases hT : tokR s L a' with
        | bad k =>
          have HRR : Hid (r = (strOfNums [], k)) := by
            show _ = _
            have := HG.out
            rw [expGo, hT] at this
            rw [HR.out, ← Option.some.inj this]
          go_wp2_with (go_at_call 58; refine (token_calls g (N + 2) a' s L wr hs hgr ha' HLL.out HESr.out.rd HESr.out.rs).mono ?_; rw [hT]; rintro e w3 ⟨⟨rfl, hk⟩, ht⟩; unfold pan)
          exact panic_end rfl rfl HN.out (HESr.out.be.trans ⟨ht.os, ht.tape, ht.output, ht.size, fun k hk => ht.block k (by have := HESr.out.sz; omega) (fun e => by have : k = N + 2 := e; omega)⟩) (HESr.out.bx.tch ht (fun e => by have : N = N + 2 := e; omega) (fun e => by have : N + 1 = N + 2 := e; omega)) HRR.out
        | fin a2 =>
          obtain ⟨⟨e, s', a3⟩, hq, hr0⟩ : ∃ q, bitio_Reader_End.f s a2 = some q ∧ (if q.1 = 0 then (b, 0) else ([], q.1)) = r0 := by
            have := HG.out
            rw [expGo, hT] at this
            exact Option.map_eq_some_iff.1 this
          have HQ := hid hq
          dsimp only at hr0
          clear hq
          by_cases he : e = 0
          · subst he
            rw [if_pos rfl] at hr0
            have HRR : Hid (r = (strOfNums b, 0)) := by show _ = _; rw [HR.out, ← hr0]
            clear hr0
            go_wp2_with (first
              | (go_at_call 58; refine (token_calls g (N + 2) a' s L wr hs hgr ha' HLL.out HESr.out.rd HESr.out.rs).mono ?_; rw [hT]; rintro e w3 ⟨⟨rfl, ha2, hrd⟩, ht⟩; have HES3 := hid ((HESr.out.tch ht hrd hgr (Nat.le_refl _)).alloc (.cells #[.int .u8 0, .int .i64 0, .int .i64 0] 68)); have HRW3 := hid ((row_tch HRW.out HESr.out.rd ht).alloc (.cells #[.int .u8 0, .int .i64 0, .int .i64 0] 68)); have cc := HES3.out.rs.c0; clear hrd ht; unfold tokV zT)
              | (go_at_call 30; refine (end_calls (w0 := w) HES3.out.rd (by rw [HN.out]; exact HES3.out.be) (by rw [HN.out]; omega) HQ.out).mono ?_; rintro e w4 ⟨rfl, ht⟩; have hx4 := HES3.out.bx.tch ht (fun e => by have : N = N + 2 := e; omega) (fun e => by have : N + 1 = N + 2 := e; omega); have hb4 : Below N w w4 := HES3.out.be.trans ⟨ht.os, ht.tape, ht.output, ht.size, fun k hk => ht.block k (by have := HES3.out.sz; omega) (fun e => by have : k = N + 2 := e; omega)⟩; have hrw4 := row_tch HRW3.out HES3.out.rd ht; obtain ⟨A', c', hv', hrd4⟩ := own_reads hrw4; have hcv := string_of_reads (P := Try.prog) (src := 55) (dst := 9) (e := 5) (c := c') Try.underlying55 Try.underlying5 Try.underlying9 hrd4; rw [← hv'] at hcv; have px := hx4.p.cell; have pf := hx4.p.frozen; have qx := hx4.q.cell; have qf := hx4.q.frozen; have HX4 := hid hx4; have HB4 := hid hb4; have HRD4 := hid hrd4; have HV := hid hv'; clear ht hx4 hb4 hrw4 hrd4 hv')
              | (go_at_call 59; refine (must_ok _).mono ?_; rintro e w5 ⟨rfl, rfl⟩))
            all_goals
              refine normal_end (by first | exact .inl rfl | exact .inr rfl) rfl rfl HN.out ((HB4.out.setCell (p := ⟨N, 0, none⟩) (Nat.le_refl _) _).setCell (p := ⟨N + 1, 0, none⟩) (Nat.le_succ _) _) ?_ ?_
              · rw [HRR.out]
                exact box_far (HX4.out.p.set _) (show N ≠ N + 1 by omega) _
              · rw [HRR.out]
                exact (box_far HX4.out.q (show N + 1 ≠ N by omega) _).set _
          · rw [if_neg he] at hr0
            have HRR : Hid (r = (strOfNums [], e)) := by show _ = _; rw [HR.out, ← hr0]
            clear hr0
            go_wp2_with (first
              | (go_at_call 58; refine (token_calls g (N + 2) a' s L wr hs hgr ha' HLL.out HESr.out.rd HESr.out.rs).mono ?_; rw [hT]; rintro e w3 ⟨⟨rfl, ha2, hrd⟩, ht⟩; have HES3 := hid ((HESr.out.tch ht hrd hgr (Nat.le_refl _)).alloc (.cells #[.int .u8 0, .int .i64 0, .int .i64 0] 68)); have HRW3 := hid ((row_tch HRW.out HESr.out.rd ht).alloc (.cells #[.int .u8 0, .int .i64 0, .int .i64 0] 68)); have cc := HES3.out.rs.c0; clear hrd ht; unfold tokV zT)
              | (go_at_call 30; refine (end_calls (w0 := w) HES3.out.rd (by rw [HN.out]; exact HES3.out.be) (by rw [HN.out]; omega) HQ.out).mono ?_; rintro e w4 ⟨rfl, ht⟩; have hx4 := HES3.out.bx.tch ht (fun e => by have : N = N + 2 := e; omega) (fun e => by have : N + 1 = N + 2 := e; omega); have hb4 : Below N w w4 := HES3.out.be.trans ⟨ht.os, ht.tape, ht.output, ht.size, fun k hk => ht.block k (by have := HES3.out.sz; omega) (fun e => by have : k = N + 2 := e; omega)⟩; have hrw4 := row_tch HRW3.out HES3.out.rd ht; obtain ⟨A', c', hv', hrd4⟩ := own_reads hrw4; have HX4 := hid hx4; have HB4 := hid hb4; have HRD4 := hid hrd4; have HV := hid hv'; clear ht hx4 hb4 hrw4 hrd4 hv')
              | (go_at_call 59; refine (must_bad e he _).mono ?_; rintro e w5 ⟨rfl, rfl⟩; unfold pan))
            exact panic_end rfl rfl HN.out HB4.out HX4.out HRR.out
        | tok t a2 =>
          obtain ⟨c, n, bk⟩ := t
          by_cases h0 : n = 0
          · subst h0
            have hG := HG.out
            rw [expGo, hT] at hG
            simp only [if_pos] at hG
            by_cases hm : most < ((b.length + 1 : Nat) : Int)
            · rw [if_pos hm] at hG
              have HRR : Hid (r = (strOfNums [], 90)) := by show _ = _; rw [HR.out, ← Option.some.inj hG]
              clear hG
              go_wp2_with (first
                | (at_builtin; refine wpList_append_own _ rfl _ _ 55 rfl N 5 i0 (.int .u8 0) 1 1 Try.underlying55 HI.out HZ0.out HZ1.out HZ2.out rfl (by decide) _ _ _ rfl (HRW3.out.alloc _) ⟨w3.heap.size + 1, 0, none⟩ 1 1 [.int .u8 c] rfl rfl (new_at w3 _ (.int .u8 c)) (by simp [Value.oneCell']) (by unfold maxLen; omega) (by omega) (alloc_le HES3.out.sz _) ?_; intro v4 w4 hown4 hgrow4 _; obtain ⟨g4, cap4, rfl⟩ := ownsRow_succ hown4; have es4 := HES3.out.app HRW3.out hgrow4; have x4 := app_keepU HRW3.out hgrow4 _ _ _ (heap_alloc_new w3 (.cells #[.int .u8 c, .int .i64 0, .int .i64 bk] 68)) (by decide); have x41 := cell_of_row _ _ 1 _ _ _ x4; simp only [List.getElem?_toArray, List.getElem?_cons_succ, List.getElem?_cons_zero] at x41; have HES4 := hid es4; have HRW4 := hid hown4; clear hown4 hgrow4 es4 x4)
                | (go_at_call 58; refine (token_calls g (N + 2) a' s L wr hs hgr ha' HLL.out HESr.out.rd HESr.out.rs).mono ?_; rw [hT]; rintro e w3 ⟨⟨rfl, ha2, hrd, hc0, hc1, hn0, hn1, hk0, hk1, hk2⟩, ht⟩; simp only at hc0 hc1 hn0 hn1 hk0 hk1 hk2; have HES3 := hid ((HESr.out.tch ht hrd hgr (Nat.le_refl _)).alloc (.cells #[.int .u8 c, .int .i64 0, .int .i64 bk] 68)); have HRW3 := hid ((row_tch HRW.out HESr.out.rd ht).alloc (.cells #[.int .u8 c, .int .i64 0, .int .i64 bk] 68)); clear hrd ht; unfold tokV))
              go_loopg [7, 42] 0 (fun kx s7 s42 wr => s7 = .slice (some ⟨g4, 0, none⟩) (b.length + 1) cap4 ∧ s42 = .int .i64 0 ∧ wr = w4)
              case atStart => exact ⟨rfl, rfl, rfl⟩
              case round =>
                obtain ⟨rfl, rfl, rfl⟩ := hrel
                go_wp2_with fail
                exact panic_end rfl rfl HN.out HES4.out.be HES4.out.bx HRR.out
            · rw [if_neg hm] at hG
              have HGG := hid hG
              clear hG
              go_wp2_with (first
                | (at_builtin; refine wpList_append_own _ rfl _ _ 55 rfl N 5 i0 (.int .u8 0) 1 1 Try.underlying55 HI.out HZ0.out HZ1.out HZ2.out rfl (by decide) _ _ _ rfl (HRW3.out.alloc _) ⟨w3.heap.size + 1, 0, none⟩ 1 1 [.int .u8 c] rfl rfl (new_at w3 _ (.int .u8 c)) (by simp [Value.oneCell']) (by unfold maxLen; omega) (by omega) (alloc_le HES3.out.sz _) ?_; intro v4 w4 hown4 hgrow4 _; obtain ⟨g4, cap4, rfl⟩ := ownsRow_succ hown4; have es4 := HES3.out.app HRW3.out hgrow4; have x4 := app_keepU HRW3.out hgrow4 _ _ _ (heap_alloc_new w3 (.cells #[.int .u8 c, .int .i64 0, .int .i64 bk] 68)) (by decide); have x41 := cell_of_row _ _ 1 _ _ _ x4; simp only [List.getElem?_toArray, List.getElem?_cons_succ, List.getElem?_cons_zero] at x41; have HES4 := hid es4; have HRW4 := hid hown4; clear hown4 hgrow4 es4 x4)
                | (go_at_call 58; refine (token_calls g (N + 2) a' s L wr hs hgr ha' HLL.out HESr.out.rd HESr.out.rs).mono ?_; rw [hT]; rintro e w3 ⟨⟨rfl, ha2, hrd, hc0, hc1, hn0, hn1, hk0, hk1, hk2⟩, ht⟩; simp only at hc0 hc1 hn0 hn1 hk0 hk1 hk2; have HES3 := hid ((HESr.out.tch ht hrd hgr (Nat.le_refl _)).alloc (.cells #[.int .u8 c, .int .i64 0, .int .i64 bk] 68)); have HRW3 := hid ((row_tch HRW.out HESr.out.rd ht).alloc (.cells #[.int .u8 c, .int .i64 0, .int .i64 bk] 68)); clear hrd ht; unfold tokV))
              go_loopg [7, 42] 0 (fun kx s7 s42 wr => s7 = .slice (some ⟨g4, 0, none⟩) (b.length + 1) cap4 ∧ s42 = .int .i64 0 ∧ wr = w4)
              case atStart => exact ⟨rfl, rfl, rfl⟩
              case round =>
                obtain ⟨rfl, rfl, rfl⟩ := hrel
                go_wp2_with fail
                go_roundg f
                case measure => omega
                case rel =>
                  refine ⟨f, a2, b ++ [c], _, rfl, Nat.le_refl _, by omega, by simp; omega, ha2, HGG, HES4, ?_⟩
                  show World.ownsRow _ _ _ _ _ _ _
                  rw [List.length_append, List.map_append]
                  exact HRW4.out
          · have hG := HG.out
            rw [expGo, hT] at hG
            simp only [if_neg h0] at hG
            have hnd0 : (n == 0) = false := by simp; exact h0
            by_cases hbk : (b.length : Int) < bk
            · rw [if_pos hbk] at hG
              have HRR : Hid (r = (strOfNums [], 80)) := by show _ = _; rw [HR.out, ← Option.some.inj hG]
              clear hG
              obtain ⟨Av, cv, hv, _⟩ := own_reads HRW.out
              subst hv
              go_wp2_with (go_at_call 58; refine (token_calls g (N + 2) a' s L wr hs hgr ha' HLL.out HESr.out.rd HESr.out.rs).mono ?_; rw [hT]; rintro e w3 ⟨⟨rfl, ha2, hrd, hc0, hc1, hn0, hn1, hk0, hk1, hk2⟩, ht⟩; simp only at hc0 hc1 hn0 hn1 hk0 hk1 hk2; have HES3 := hid ((HESr.out.tch ht hrd hgr (Nat.le_refl _)).alloc (.cells #[.int .u8 c, .int .i64 n, .int .i64 bk] 68)); have HRW3 := hid ((row_tch HRW.out HESr.out.rd ht).alloc (.cells #[.int .u8 c, .int .i64 n, .int .i64 bk] 68)); clear hrd ht; unfold tokV)
              all_goals
                exact panic_end rfl rfl HN.out HES3.out.be HES3.out.bx HRR.out
            · rw [if_neg hbk] at hG
              have HGG := hid hG
              clear hG
              obtain ⟨Av, cv, hv, _⟩ := own_reads HRW.out
              subst hv
              go_wp2_with (go_at_call 58; refine (token_calls g (N + 2) a' s L wr hs hgr ha' HLL.out HESr.out.rd HESr.out.rs).mono ?_; rw [hT]; rintro e w3 ⟨⟨rfl, ha2, hrd, hc0, hc1, hn0, hn1, hk0, hk1, hk2⟩, ht⟩; simp only at hc0 hc1 hn0 hn1 hk0 hk1 hk2; have HES3 := hid ((HESr.out.tch ht hrd hgr (Nat.le_refl _)).alloc (.cells #[.int .u8 c, .int .i64 n, .int .i64 bk] 68)); have HRW3 := hid ((row_tch HRW.out HESr.out.rd ht).alloc (.cells #[.int .u8 c, .int .i64 n, .int .i64 bk] 68)); clear hrd ht; unfold tokV)
              obtain ⟨n', rfl⟩ := Int.eq_ofNat_of_zero_le hn0
              obtain ⟨k, rfl⟩ := Int.eq_ofNat_of_zero_le hk0
              have hk1' : 1 ≤ k := by have := hk2 h0; omega
              rw [show decide ((b.length : Int) < (k : Int)) = false from decide_eq_false (by omega)]
              have hkb : k ≤ b.length := by omega
              obtain ⟨m, hm⟩ : ∃ m, b.length = m + 1 := ⟨b.length - 1, by omega⟩
              obtain ⟨gv, cpv, hv2⟩ := ownsRow_succ (by have := HRW3.out; rw [hm] at this; exact this)
              rw [← hm] at hv2
              rw [hv2] at HRW3 ⊢
              clear hm
              obtain ⟨xb, hxb⟩ : ∃ xb, xb = w3.heap.size := ⟨_, rfl⟩
              have HXB3 : Hid ((w3.alloc (.cells #[.int .u8 c, .int .i64 (n' : Int), .int .i64 (k : Int)] 68)).heap[xb]? = some (.cells #[.int .u8 c, .int .i64 (n' : Int), .int .i64 (k : Int)] 68 (0, 0))) := by rw [hxb]; exact heap_alloc_new w3 _
              rw [← hxb]
              clear hxb
              go_loopg [7, 42] n' (fun kx s7 s42 wr => ∃ (j q g' cap' : Nat) (b' : List Int), s7 = .slice (some ⟨g', 0, none⟩) q cap' ∧ s42 = .int .i64 (j : Int) ∧ j ≤ n' ∧ n' - j ≤ kx ∧ k ≤ q ∧ q ≤ 36 * F ∧ Hid (q = b.length + j) ∧ Hid (b'.length = q) ∧ Hid (copyN (n' - j) (k : Int) b' = copyN n' (k : Int) b) ∧ Hid (ES N (N + 2) g w wr s L a2) ∧ Hid (wr.ownsRow N 5 1 (.slice (some ⟨g', 0, none⟩) q cap') q (b'.map eB)) ∧ Hid (wr.heap[xb]? = some (.cells #[.int .u8 c, .int .i64 (n' : Int), .int .i64 (k : Int)] 68 (0, 0))))
              case atStart => exact ⟨0, b.length, gv, cpv, b, rfl, rfl, by omega, by omega, by omega, by omega, hid rfl, hid rfl, hid rfl, HES3, HRW3, HXB3⟩
              case round =>
                obtain ⟨j, q, g', cap', b', rfl, rfl, hj, hjk, hkq, hqF, HQ, HBL, HCP, HESi, HRWi, HXB⟩ := hrel
                have x2 := cell_of_row _ _ 2 _ _ _ HXB.out
                have x1 := cell_of_row _ _ 1 _ _ _ HXB.out
                simp only [List.getElem?_toArray, List.getElem?_cons_succ, List.getElem?_cons_zero] at x1 x2
                by_cases hlt : j < n'
                · obtain ⟨y, hy⟩ : ∃ y, y = b'.getD (q - k) 0 := ⟨_, rfl⟩
                  have hcy : wr.cell? ⟨g', q - k, none⟩ = some (.int .u8 y) := by
                    have := HRWi.out.cells (g := g') rfl (q - k) (.int .u8 y) (by rw [List.getElem?_map, List.getElem?_eq_getElem (by rw [HBL.out]; omega), hy, List.getD_eq_getElem?_getD, List.getElem?_eq_getElem (by rw [HBL.out]; omega)]; rfl)
                    have hadd : (⟨g', 0, none⟩ : Addr).add (q - k) = ⟨g', q - k, none⟩ := by unfold Addr.add; split <;> simp_all
                    rwa [hadd] at this
                  have HY := hid hy
                  clear hy
                  have hqF2 : q + 1 ≤ 36 * F := by have := HQ.out; omega
                  have hix : ((q : Int) - (k : Int)).toNat = q - k := by omega
                  go_wp2_with (at_builtin; refine wpList_append_own _ rfl _ _ 55 rfl N 5 i0 (.int .u8 0) 1 1 Try.underlying55 HI.out HZ0.out HZ1.out HZ2.out rfl (by decide) _ _ _ rfl (HRWi.out.alloc _) ⟨wr.heap.size, 0, none⟩ 1 1 [.int .u8 y] rfl rfl (cell_one_new _ _ _) (by simp [Value.oneCell']) (by unfold maxLen; omega) (by omega) (alloc_le HESi.out.sz _) ?_; intro v4 w4 hown4 hgrow4 _; obtain ⟨g4, cap4, rfl⟩ := ownsRow_succ hown4; have HES4 := hid (HESi.out.app HRWi.out hgrow4); have HX4 := hid (app_keepU HRWi.out hgrow4 _ _ _ HXB.out (by decide)); have HRW4 := hid hown4; clear hown4 hgrow4)
                  go_roundg (n' - (j + 1))
                  case measure => omega
                  case rel =>
                    refine ⟨j + 1, q + 1, g4, cap4, b' ++ [y], rfl, by go_num, by omega, by omega, by omega, hqF2, hid (by rw [HQ.out]; omega), hid (by rw [List.length_append, HBL.out]; rfl), ?_, HES4, ?_, HX4⟩
                    · show _ = _
                      rw [← HCP.out, show n' - j = (n' - (j + 1)) + 1 by omega, copyN, HBL.out, Int.toNat_natCast, ← HY.out]
                    · show World.ownsRow _ _ _ _ _ _ _
                      rw [List.map_append]
                      exact HRW4.out
                · have hjn : j = n' := by omega
                  subst hjn
                  have hcp : b' = copyN j (k : Int) b := by have := HCP.out; rw [Nat.sub_self] at this; exact this
                  have hGG := HGG.out
                  rw [Int.toNat_natCast, ← hcp, HBL.out] at hGG
                  clear hcp
                  by_cases hm : most < (q : Int)
                  · rw [if_pos hm] at hGG
                    have HRR : Hid (r = (strOfNums [], 90)) := by show _ = _; rw [HR.out, ← Option.some.inj hGG]
                    clear hGG
                    go_wp2_with fail
                    exact panic_end rfl rfl HN.out HESi.out.be HESi.out.bx HRR.out
                  · rw [if_neg hm] at hGG
                    have HG2 := hid hGG
                    clear hGG
                    have hql : q ≤ 36 * (F - f) := by have := HQ.out; omega
                    go_wp2_with fail
                    go_roundg f
                    case measure => omega
                    case rel => exact ⟨f, a2, b', _, rfl, Nat.le_refl _, by omega, by rw [HBL.out]; exact hql, ha2, HG2, HESi, by rw [HBL.out]; exact HRWi⟩

end Go.Proofs.Ythgijppajindpaa
