/-
  prefix.Lengths is walked.
-/
import Derived.Test.YthgijppajindpaaLen1
set_option linter.unusedVariables false
set_option linter.unusedSimpArgs false
namespace Go.Proofs.Ythgijppajindpaa
open Go.RowKit Go.Proofs.YthgijppajindpaaW.PrintWords

set_option maxHeartbeats 4000000 in
set_option maxRecDepth 1000000 in
theorem lengths_calls (A : Option Addr) (n c : Nat) (l : List Int) (k : Int) (w : World) (hl : l.length = n) (hc : 0 < n → ∃ b off, A = some ⟨b, off, none⟩ ∧ ∀ j, j < n → w.cell? ⟨b, off + j, none⟩ = some (.int .i64 (l.getD j 0))) :
    Calls Try.prog 17 #[.slice A n c, .int .i64 k] w fun e w' => ∃ v, e = .returned (.tuple #[v, .int .i64 (Lens l k).2]) ∧ Kd.R (Kd.int .i64) 3 w' w.heap.size (fun _ => True) v (Lens l k).1 ∧ Below w.heap.size w w' := by
  have HC : Hid _ := hc
  clear hc
  have HL : Hid (l.length = n) := hl
  clear hl
  have BAD : Hid (Lens l k = ([], 1) → ∃ v, Ending.returned (.tuple #[.slice none 0 0, .int .i64 1]) = .returned (.tuple #[v, .int .i64 (Lens l k).2]) ∧ Kd.R (Kd.int .i64) 3 w w.heap.size (fun _ => True) v (Lens l k).1 ∧ Below w.heap.size w w) :=
    hid (fun h => ⟨_, by rw [h], by rw [h]; exact Kd.R_nil _ _ _ _ _, Below.refl _ _⟩)
  by_cases h1 : n ≤ 300 ∧ 1 ≤ k ∧ k ≤ 15
  · obtain ⟨h300, hk1, hk15⟩ := h1
    have t1 : ¬ (300 : Int) < (n : Int) := by omega
    have t2 : ¬ k < 1 := by omega
    have t3 : ¬ 15 < k := by omega
    go_enter Try.func17, Try.ntmps17
    go_wp2_with fail
    go_loopg [6, 25] n (fun kx s6 s25 wr => ∃ (i : Nat) (u : Int), s6 = .int .i64 u ∧ s25 = .int .i64 i ∧ i ≤ n ∧ n - i ≤ kx ∧ w = wr ∧ 0 ≤ u ∧ u ≤ i ∧ Hid (u = used (l.take i) ∧ freqOk (l.take i) = true))
    case atStart => exact ⟨0, 0, rfl, rfl, by omega, by omega, rfl, by omega, by omega, hid ⟨rfl, rfl⟩⟩
    case round =>
      obtain ⟨i, u, rfl, rfl, hin, hikx, rfl, hu0, hu1, HU⟩ := hrel
      by_cases hlt : i < n
      · have hltz : (i : Int) < (n : Int) := by omega
        obtain ⟨b, off, rfl, hcell⟩ := HC.out (by omega)
        obtain ⟨x, hx⟩ : ∃ x, x = l.getD i 0 := ⟨_, rfl⟩
        have hci := hcell i hlt
        rw [← hx] at hci
        clear hcell
        have HX : Hid (x = l.getD i 0) := hx
        clear hx
        by_cases hxok : 0 ≤ x ∧ x ≤ 1048576
        · obtain ⟨hx0, hx1⟩ := hxok
          have t4 : ¬ x < 0 := by omega
          have t5 : ¬ 1048576 < x := by omega
          go_wp2_with fail
          go_roundg (n - (i + 1))
          case measure => omega
          case rel =>
            refine ⟨i + 1, u + min x 1, ?_, by go_num, by omega, by omega, rfl, by omega, by omega, ?_⟩
            · first | rfl | (congr 1; done) | (congr 1; omega)
            · show _ ∧ _
              rw [take_snoc (by rw [HL.out]; exact hlt), used_snoc, freqOk_snoc, ← HX.out, ← HU.out.1, HU.out.2]
              exact ⟨rfl, by simp [hx0, hx1]⟩
        · have ht : x < 0 ∨ 1048576 < x := by omega
          have HB : Hid (Lens l k = ([], 1)) := by
            show _ = _
            rw [Lens, if_neg]
            rintro ⟨_, _, _, h, _⟩
            have := (freqOk_iff l).1 h i
            rw [← HX.out] at this
            exact hxok this
          rcases ht with t4 | t5
          · go_wp2_with fail
            go_ret2
            exact BAD.out HB.out
          · have t4 : ¬ x < 0 := by omega
            go_wp2_with fail
            go_ret2
            exact BAD.out HB.out
      · have hltz : ¬ (i : Int) < (n : Int) := by omega
        have hw : wrap64 (2 ^ k.toNat) = 2 ^ k.toNat := by
          have h1 : (2 : Nat) ^ k.toNat ≤ 2 ^ 15 := Nat.pow_le_pow_right (by omega) (by omega)
          have h2 : (2 : Int) ^ k.toNat = ((2 ^ k.toNat : Nat) : Int) := by push_cast; rfl
          obtain ⟨m, hm⟩ : ∃ m, m = (2 : Nat) ^ k.toNat := ⟨_, rfl⟩
          rw [← hm] at h1 h2
          rw [h2]
          exact IntWalk.wrap64_in _ (by omega)
        have HU2 : Hid (u = used l ∧ freqOk l = true) := by
          show _
          have h := HU.out
          rw [show i = l.length by rw [HL.out]; omega, List.take_length] at h
          exact h
        by_cases hov : u ≤ 2 ^ k.toNat
        · have t6 : ¬ 2 ^ k.toNat < u := by omega
          have HOV : Hid (u ≤ 2 ^ k.toNat) := hov
          have HG : Hid (Lens l k = (lens 20 k l, 0)) := by
            show _ = _
            rw [Lens, if_pos ⟨by rw [HL.out]; exact h300, hk1, hk15, HU2.out.2, by rw [← HU2.out.1]; exact hov⟩]
          clear BAD
          go_wp2_with (go_at_call 38; ((with_reducible refine (clone_calls A n c l _ HL.out h300 HC.out).mono ?_); rintro e w1 ⟨A1, c1, rfl, hb1, hrow1⟩))
          obtain ⟨N, hN⟩ : ∃ N, N = w.heap.size := ⟨_, rfl⟩
          rw [← hN] at hb1 hrow1
          have HN : Hid (N = w.heap.size) := hN
          have B1 : Hid (Below N w w1) := hb1
          have R1 : Hid (0 < n → ∃ g, A1 = some ⟨g, 0, none⟩ ∧ N ≤ g ∧ Ints w1 g l) := hrow1
          clear hN hb1 hrow1 HU HC hw t6 hov
          go_loopg [] 20 (fun kx wr => ∃ f : List Int, f.length = n ∧ Hid (Below N w wr) ∧ Hid (0 < n → ∃ g, A1 = some ⟨g, 0, none⟩ ∧ N ≤ g ∧ Ints wr g f) ∧ Hid (∀ x, x ∈ f → 0 ≤ x ∧ x ≤ 2 ^ kx) ∧ Hid (kx ≤ 20 ∧ used f = u ∧ lens kx k f = lens 20 k l))
          case atStart =>
            refine ⟨l, HL.out, B1, R1, hid (fun x hx => ?_), hid ⟨Nat.le_refl _, HU2.out.1.symm, rfl⟩⟩
            obtain ⟨j, _, rfl⟩ := mem_getD hx
            exact (freqOk_iff l).1 HU2.out.2 j
          case round =>
            obtain ⟨f, hfn, HB, HR, HF, HE⟩ := hrel
            have HFN : Hid (f.length = n) := hfn
            have hgr := grown_one A1 n c1 f wr hfn h300 (fun h => by
              obtain ⟨g, rfl, hg, hi⟩ := HR.out h
              exact ⟨g, rfl, hi.lt, fun j hj => hi.cell (by rw [hfn]; exact hj)⟩) (fun j => by
              by_cases hj : j < f.length
              · have := HF.out (f.getD j 0) (by rw [List.getD_eq_getElem?_getD, List.getElem?_eq_getElem hj]; exact List.getElem_mem hj)
                have h2 : (2 : Int) ^ gk ≤ 2 ^ 20 := by
                  have : (2 : Nat) ^ gk ≤ 2 ^ 20 := Nat.pow_le_pow_right (by omega) HE.out.1
                  exact_mod_cast this
                have h3 : (2 : Int) ^ 20 = 1048576 := by decide
                omega
              · rw [List.getD_eq_getElem?_getD, List.getElem?_eq_none (by omega)]; simp)
            have HGR : Hid _ := hgr
            clear hgr hfn
            go_wp2_with fail
            refine Calls.mono HGR.out ?_
            rintro e w2 ⟨rfl, hb2, xs, hg2, hr2⟩
            have hxs := grown_is hg2
            subst hxs
            have hlen : (dpt f).length = n := by rw [length_dpt]; exact HFN.out
            obtain ⟨H, hH⟩ : ∃ H, H = wr.heap.size := ⟨_, rfl⟩
            rw [← hH] at hb2 hr2 ⊢
            have HH : Hid (H = wr.heap.size) := hH
            have B2 : Hid (Below H wr w2) := hb2
            have R2 : Hid (IntRow w2 H (dpt f)) := hr2
            have HLEN : Hid ((dpt f).length = n) := hlen
            have HNH : Hid (N ≤ H) := by
              have h1 := HB.out.size
              have h2 := HN.out
              have h3 := HH.out
              show _ ≤ _
              omega
            have B3 : Hid (Below N w w2) := by
              have h1 := HNH.out
              have h2 := HH.out
              exact HB.out.trans (B2.out.mono h1)
            have GOOD : Hid (∀ m, m = n → fits k (dpt f) = true → ∃ v, Ending.returned (.tuple #[.slice (some ⟨H, 0, none⟩) m m, .int .i64 0]) = .returned (.tuple #[v, .int .i64 (Lens l k).2]) ∧ Kd.R (Kd.int .i64) 3 w2 w.heap.size (fun _ => True) v (Lens l k).1 ∧ Below w.heap.size w w2) := hid (fun m hm h => by
              subst hm
              have e : lens gk k f = dpt f := by
                cases gk with
                | zero => rfl
                | succ q => rw [lens, if_pos h]
              rw [HG.out, ← HE.out.2.2, e, ← HN.out]
              refine ⟨_, rfl, ?_, B3.out⟩
              have := row_R R2.out HNH.out (by rw [hlen]; exact h300)
              rw [hlen] at this
              exact this)
            clear hg2 hr2 hb2 hH HGR hlen
            rcases Nat.eq_zero_or_pos n with h0 | h0
            · have hz : (n : Int) = 0 := by omega
              go_wp2_with fail
              go_ret2
              refine GOOD.out _ h0.symm ?_
              have := HLEN.out
              rw [h0] at this
              rw [List.eq_nil_of_length_eq_zero this]
              rfl
            · have hz : ¬ (n : Int) = 0 := by omega
              have hmax := Try.slices_Max_int H 0 n n (dpt f) w2 h0 (by rw [HLEN.out]; exact Nat.le_refl _) (by omega) (fun j hj => by rw [Nat.zero_add]; exact (Ints.of_row R2.out).cell hj)
              have HMAX : Hid _ := hmax
              clear hmax
              go_wp2_with fail
              refine Calls.mono HMAX.out ?_
              rintro e w3 ⟨rfl, rfl⟩
              have hfit := maxOf_le (dpt f) (by rw [HLEN.out]; exact h0) k
              rw [HLEN.out] at hfit
              obtain ⟨M, hM⟩ : ∃ M, M = Go.Lib.maxOf (List.take n (dpt f)) := ⟨_, rfl⟩
              rw [← hM] at hfit ⊢
              have HFIT : Hid (fits k (dpt f) = decide (M ≤ k)) := hfit
              clear hfit hM HMAX
              by_cases hmk : M ≤ k
              · go_wp2_with fail
                go_ret2
                exact GOOD.out _ rfl (by rw [HFIT.out]; simpa using hmk)
              · have HNF : Hid (fits k (dpt f) = false) := by
                  show _ = _
                  rw [HFIT.out]; simpa using hmk
                clear GOOD
                have hgk : gk ≠ 0 := fun e => by
                  subst e
                  have hd := dpt_ones f k.toNat (by omega) (fun x hx => by simpa using HF.out x hx) (by rw [HE.out.2.1]; exact HOV.out)
                  rw [show ((k.toNat : Nat) : Int) = k by omega, HNF.out] at hd
                  cases hd
                obtain ⟨q, rfl⟩ : ∃ q, gk = q + 1 := ⟨gk - 1, by omega⟩
                clear hgk
                obtain ⟨g, rfl, hg, hi⟩ := HR.out h0
                have I2 : Hid (Ints w3 g f) := hi.below (by have := hi.lt; have := HH.out; omega) B2.out
                clear hi HR
                go_wp2_with fail
                · rename_i hh
                  exfalso
                  rcases hh with hh | hh
                  · simp at hh; omega
                  · omega
                go_loopg [60] n (fun kx s60 wr => ∃ i : Nat, s60 = .int .i64 i ∧ i ≤ n ∧ n - i ≤ kx ∧ Hid (Ints wr g (halfway i f)) ∧ Hid (Below N w wr))
                case atStart => exact ⟨0, rfl, by omega, by omega, hid (by rw [halfway_zero]; exact I2.out), B3⟩
                case round =>
                  obtain ⟨i, rfl, hin, hikx, HI, HB4⟩ := hrel
                  by_cases hlt : i < n
                  · have hltz : (i : Int) < (n : Int) := by omega
                    obtain ⟨x, hx⟩ : ∃ x, x = f.getD i 0 := ⟨_, rfl⟩
                    have hci := HI.out.cell (j := i) (by rw [length_halfway, HFN.out]; exact hlt)
                    rw [halfway_getD i f (by rw [HFN.out]; exact hlt), ← hx] at hci
                    have hfi := HI.out.frozen i
                    have hx0 : 0 ≤ x ∧ x ≤ 1048576 := by
                      have h3 := HF.out x (by rw [hx, List.getD_eq_getElem?_getD, List.getElem?_eq_getElem (by rw [HFN.out]; exact hlt)]; exact List.getElem_mem _)
                      have h2 : (2 : Int) ^ (q + 1) ≤ 2 ^ 20 := by
                        have : (2 : Nat) ^ (q + 1) ≤ 2 ^ 20 := Nat.pow_le_pow_right (by omega) HE.out.1
                        exact_mod_cast this
                      have h4 : (2 : Int) ^ 20 = 1048576 := by decide
                      omega
                    obtain ⟨hx0, hx1⟩ := hx0
                    have HX : Hid (x = f.getD i 0) := hx
                    clear hx
                    go_wp2_with fail
                    go_roundg (n - (i + 1))
                    case measure => omega
                    case rel =>
                      refine ⟨i + 1, by go_num, by omega, by omega, ?_, hid (HB4.out.setCell hg _)⟩
                      have h1 := HI.out.set (j := i) (by rw [length_halfway, HFN.out]; exact hlt) ((x + 1) / 2)
                      rw [HX.out, halfway_set i f (by rw [HFN.out]; exact hlt)] at h1
                      rw [HX.out]
                      exact h1
                  · have hltz : ¬ (i : Int) < (n : Int) := by omega
                    go_wp2_with fail
                    go_roundg q
                    case measure => omega
                    case rel =>
                      have HI2 : Hid (Ints wr g (halve f)) := by
                        have h1 := HI.out
                        rw [show i = f.length by rw [HFN.out]; omega, halfway_all] at h1
                        exact h1
                      refine ⟨halve f, by rw [length_halve]; exact HFN.out, HB4, hid (fun _ => ⟨g, rfl, hg, HI2.out⟩), hid (halve_le f q HF.out), hid ⟨by have := HE.out.1; omega, ?_, ?_⟩⟩
                      · rw [used_halve f (fun x hx => (HF.out x hx).1)]; exact HE.out.2.1
                      · have h1 := HE.out.2.2
                        rw [lens, if_neg (by rw [HNF.out]; decide)] at h1
                        exact h1
        · have HOV : Hid (2 ^ k.toNat < u) := hid (by omega)
          have t6 : ¬ u ≤ 2 ^ k.toNat := hov
          go_wp2_with fail
          go_ret2
          refine BAD.out ?_
          rw [Lens, if_neg]
          rintro ⟨_, _, _, _, h⟩
          rw [← HU2.out.1] at h
          exact absurd h (Int.not_le.2 HOV.out)
  · have HB : Hid (Lens l k = ([], 1)) := by
      show _ = _
      rw [Lens, if_neg]
      rintro ⟨a, b, c, _⟩
      rw [HL.out] at a
      exact h1 ⟨a, b, c⟩
    go_enter Try.func17, Try.ntmps17
    go_wp2_with fail
    all_goals (first | omega | (go_ret2; exact BAD.out HB.out))

end Go.Proofs.Ythgijppajindpaa
