/-
  SqueezeBack, plain.
-/
import Derived.Test.YthgijppajindpaaQ9x5
import Derived.Test.YthgijppajindpaaSqzG
import Derived.Test.YthgijppajindpaaSqzS
set_option linter.unusedVariables false
namespace Go.Proofs.Ythgijppajindpaa
open Go.RowKit Go.Proofs.Ythgijppajindpaa.K7 Go.Proofs.YthgijppajindpaaW.PrintWords

theorem str_bytesS (s : ByteArray) : strOfNums (bytesS s) = s := by
  have hl : s.data.toList.length = s.size := by simp
  have e : bytesS s = s.data.toList.map fun x => ((x.toNat : Nat) : Int) := by
    apply List.ext_getElem?
    intro i
    by_cases hi : i < s.size
    · rw [bytesS_get hi, List.getElem?_map, List.getElem?_eq_getElem (by omega)]
      unfold by8
      rw [List.getD_eq_getElem?_getD, List.getElem?_eq_getElem (by omega)]
      rfl
    · rw [List.getElem?_eq_none (by rw [bytesS_len]; omega), List.getElem?_eq_none (by rw [List.length_map]; omega)]
  rw [e]
  unfold strOfNums
  rw [List.map_map]
  have h : ((fun n : Int => UInt8.ofNat n.toNat) ∘ fun x : UInt8 => ((x.toNat : Nat) : Int)) = id := funext fun x => by simp
  rw [h, List.map_id]

theorem back_size {s : ByteArray} (hs : s.size ≤ 4096) : (Sqz s).1.size ≤ 100000 ∧ (Sqz s).2 = 0 ∧ 1 ≤ (Sqz s).1.size := by
  obtain ⟨e1, e2⟩ := Sqz_ok hs
  have hn : (SplitT s).length ≤ 4096 := Nat.le_trans (SplitT_len s) hs
  obtain ⟨_, hL, hc, _, _⟩ := LenT_good (SplitT s) (by omega)
  have h1 := Wd_tab (LenT (SplitT s)) 289
  have h2 := Wd_body hc (SplitT s)
  have h3 : Wd [P42 (LenT (SplitT s)) 288] ≤ 15 := by
    obtain ⟨h3, h4⟩ := okP_any hc 288
    have := h3.2.1
    rw [Wd_cons]
    have e : Wd [] = 0 := rfl
    rw [e]; omega
  have h4 : Wd (sqP (SplitT s)) ≤ 200000 ∧ 9 ≤ Wd (sqP (SplitT s)) := by
    rw [sqP_eq, Wd_append, Wd_append, Wd_pre0]
    omega
  rw [e1]
  refine ⟨?_, rfl, ?_⟩
  · show ByteArray.size _ ≤ _
    rw [e2]
    omega
  · show _ ≤ ByteArray.size _
    rw [e2]
    omega

theorem expand_less {s : ByteArray} (hs : s.size ≤ 4096) (F : Nat) (hF : s.size < F) : ∃ u, ExpR (Sqz s).1 ((s.size : Int) - 1) F = some (u, if s.size = 0 then 0 else 90) := by
  by_cases h0 : s.size = 0
  · have e : SplitT s = [] := by unfold SplitT; rw [h0]; rfl
    have e1 : (Sqz s).1 = PkT (sqP (SplitT s)) := by rw [(Sqz_ok hs).1]; rfl
    have hp := sqP_ok (ts := SplitT s) (by rw [e]; simp) (SplitT_ok s)
    obtain ⟨F', rfl⟩ : ∃ F', F = F' + 1 := ⟨F - 1, by omega⟩
    have h := fin_read (ts := SplitT s) (by rw [e]; simp) (SplitT_ok s) ((s.size : Int) - 1) F' []
    have hw : Wd (pre0 (SplitT s) ++ (SplitT s).flatMap (bodyT (LenT (SplitT s)))) = 9 + Wd (tabTo (LenT (SplitT s)) 289) := by
      rw [Wd_append, Wd_pre0, show (SplitT s).flatMap (bodyT (LenT (SplitT s))) = [] by rw [e]; rfl]
      rfl
    rw [hw] at h
    refine ⟨strOfNums [], ?_⟩
    rw [e1, ExpR, tabR_read (Ag.self hp) (by rw [e]; simp) (SplitT_ok s)]
    dsimp only
    rw [h, if_pos h0]
    rfl
  · refine ⟨strOfNums [], ?_⟩
    rw [expand_most hs _ (Int.le_refl _) (.inl (by omega)) F hF, if_neg (by omega), if_neg h0]

end Go.Proofs.Ythgijppajindpaa

namespace Go.Proofs.Ythgijppajindpaa.Pure
open Go.RowKit Go.Proofs.Ythgijppajindpaa.Q9 Go.Proofs.Ythgijppajindpaa.K7 Go.Proofs.YthgijppajindpaaW.PrintWords Go.Proofs.YthgijppajindpaaW.PrintLast

theorem by8_cut (t : ByteArray) (c : Nat) (h : c ≤ t.size) : (t.extract 0 c).size = c ∧ ∀ i, i < c → by8 (t.extract 0 c) i = by8 t i := by
  refine ⟨by rw [ByteArray.size_extract]; omega, fun i hi => ?_⟩
  unfold by8
  rw [ByteArray.data_extract, Array.toList_extract, List.extract_eq_take_drop, List.getD_eq_getElem?_getD, List.getElem?_take, if_pos (by omega), List.drop_zero, ← List.getD_eq_getElem?_getD]

theorem SqueezeBack : hanaperlaw09_SqueezeBack.Pure := by
  intro s a1 _ h1
  simp [Lit.wf, IntKind.min, IntKind.max, IntKind.signed, IntKind.bits] at h1
  have g1 : 0 ≤ a1 ∧ a1 ≤ 65535 := by omega
  by_cases hs : (s.size : Int) > 1500
  · refine ⟨1, ?_⟩
    rw [hanaperlaw09_SqueezeBack.f, if_pos hs, hanaperlaw09_SqueezeBack.j0, if_pos rfl, shown9]
    rfl
  · obtain ⟨z1, z2, z3⟩ := back_size (s := s) (by omega)
    have hb := expand_back (s := s) (by omega) (s.size : Int) (Int.le_refl _) 100000 (by omega)
    obtain ⟨u, hl⟩ := expand_less (s := s) (by omega) 100000 (by omega)
    have hm : Int.tmod (wrap64 a1) ((Sqz s).1.size : Int) = a1 % ((Sqz s).1.size : Int) := by rw [w64 (by omega), Int.tmod_eq_emod_of_nonneg g1.1]
    have m1 := Int.emod_lt_of_pos a1 (show (0 : Int) < ((Sqz s).1.size : Int) by omega)
    have m2 := Int.emod_nonneg a1 (show ((Sqz s).1.size : Int) ≠ 0 by omega)
    obtain ⟨c, hc⟩ : ∃ c : Nat, a1 % ((Sqz s).1.size : Int) = c := ⟨(a1 % ((Sqz s).1.size : Int)).toNat, by omega⟩
    rw [hc] at hm m1
    obtain ⟨k1, k2⟩ := by8_cut (Sqz s).1 c (by omega)
    have hcut := expand_cut (s := s) (T := (Sqz s).1.extract 0 c) (by omega) (by rw [k1]; omega) (fun i hi => k2 i (by rw [k1] at hi; exact hi)) 100000 (by omega)
    have hw : wrap64 ((s.size : Int) - 1) = (s.size : Int) - 1 := w64 (by omega)
    refine ⟨2, ?_⟩
    have hne : ((((Sqz s).1.size : Int) == 0) = true) = False := eq_false (fun h => by have := beq_iff_eq.1 h; omega)
    rw [hanaperlaw09_SqueezeBack.f, if_neg hs, shown9, Option.bind_some, hanaperlaw09_SqueezeBack.j0, if_neg (by decide), squeeze_Squeeze.f, Option.bind_some, if_pos z2, hanaperlaw09_SqueezeBack.j1, if_neg (by rw [hne]; exact id), squeeze_Expand.f, if_pos (by omega), hb, Option.bind_some, squeeze_Expand.f, if_pos (by omega), hw, hl, Option.bind_some, if_neg (by omega), hm, if_pos (by omega), if_pos (by omega), Int.toNat_natCast, squeeze_Expand.f, if_pos (by rw [k1]; omega), hcut, Option.bind_some]
    dsimp only
    rw [str_bytesS, if_pos rfl, if_pos rfl]
    by_cases h0 : s.size = 0
    · rw [if_pos (by omega), if_pos (by decide +kernel)]
      rfl
    · rw [if_neg (by omega), if_neg h0, if_pos rfl, if_pos (by decide +kernel)]
      rfl

end Go.Proofs.Ythgijppajindpaa.Pure
