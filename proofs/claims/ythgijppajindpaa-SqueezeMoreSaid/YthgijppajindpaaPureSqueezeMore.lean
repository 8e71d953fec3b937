/-
  SqueezeMore, plain.
-/
import Derived.Test.YthgijppajindpaaQ9x4
import Derived.Test.YthgijppajindpaaSqzE
import Derived.Test.YthgijppajindpaaSqzS
set_option linter.unusedVariables false
namespace Go.Proofs.Ythgijppajindpaa
open Go.RowKit Go.Proofs.Ythgijppajindpaa.K7 Go.Proofs.YthgijppajindpaaW.PrintWords

theorem by8_append (a b : ByteArray) {i : Nat} (h : i < a.size) : by8 (a ++ b) i = by8 a i := by
  unfold by8
  rw [ByteArray.data_append, Array.toList_append, List.getD_eq_getElem?_getD, List.getElem?_append_left (by simpa using h), ← List.getD_eq_getElem?_getD]

/-- Behind the end of the pieces more stands. -/
theorem more_read {T : ByteArray} {ts : List Tok} (hA : Ag T (sqP ts)) (hT : (Wd (sqP ts) + 7) / 8 + 1 ≤ T.size) (hTb : T.size ≤ 1000000) (hn : ts.length ≤ 4096) (hok : ∀ t, t ∈ ts → TokOk t) (most : Int) (F : Nat) (b : List Int) :
    expGo T (LenT ts) most (F + 1) b (Wd (pre0 ts ++ ts.flatMap (bodyT (LenT ts)))) = some ([], 42) := by
  obtain ⟨_, hl, hc, hb, _⟩ := LenT_good ts (by omega)
  have hp := sqP_ok (by omega) hok
  have hx := LenT_end ts (by omega)
  have hnx := Nx_piece hA hp hc (i := 288) (by omega) hx (by rw [sqP_eq])
  have hTk : tokR T (LenT ts) (Wd (pre0 ts ++ ts.flatMap (bodyT (LenT ts)))) = .fin (Wd (pre0 ts ++ ts.flatMap (bodyT (LenT ts))) + ((LenT ts).getD 288 0).toNat) := by
    rw [tokR, hnx]
    rfl
  have hw : Wd (sqP ts) = Wd (pre0 ts ++ ts.flatMap (bodyT (LenT ts))) + ((LenT ts).getD 288 0).toNat := by
    rw [sqP_eq, Wd_append, Wd_cons, P42_wd hc (by omega) hx]
    rfl
  rw [← hw] at hTk
  rw [expGo, hTk]
  dsimp only
  have hL : bitio_Reader_Left.f T (Wd (sqP ts) : Int) = some (8 * (T.size : Int) - Wd (sqP ts), T, (Wd (sqP ts) : Int)) := by
    rw [bitio_Reader_Left.f, w64 (x := 8 * (T.size : Int)) (by omega), w64 (by omega)]
  have he : bitio_Reader_End.f T (Wd (sqP ts) : Int) = some (42, T, (Wd (sqP ts) : Int)) := by
    rw [bitio_Reader_End.f, hL, Option.bind_some]
    dsimp only
    rw [if_pos (by omega)]
  rw [he]
  rfl

theorem expand_more {s T : ByteArray} (hs : s.size ≤ 4096) (hsz : (Sqz s).1.size + 1 ≤ T.size) (hTb : T.size ≤ 1000000) (hby : ∀ i, i < (Sqz s).1.size → by8 T i = by8 (Sqz s).1 i) (F : Nat) (hF : s.size < F) : ExpR T (s.size : Int) F = some (strOfNums [], 42) := by
  have hn : (SplitT s).length ≤ 4096 := Nat.le_trans (SplitT_len s) hs
  have hp := sqP_ok (ts := SplitT s) (by omega) (SplitT_ok s)
  have e : (Sqz s).1 = PkT (sqP (SplitT s)) := by rw [(Sqz_ok hs).1]; rfl
  rw [e] at hsz hby
  have hz := PkT_size hp
  have hA : Ag T (sqP (SplitT s)) := ⟨by omega, fun i hi => by unfold sbit; rw [hby (i / 8) (by omega)]⟩
  have h := exp_read (R := fun _ => some ([], 42)) hA rfl hs (s.size : Int) (by omega) (fun F b => more_read hA (by omega) hTb hn (SplitT_ok s) _ F b) s.size 0 [] F (by omega) (by omega) rfl hF (.inr (Int.le_refl _))
  rw [List.flatMap_nil, List.append_nil, Wd_pre0, List.take_zero, if_pos (Int.le_refl _)] at h
  rw [ExpR, tabR_read hA (by omega) (SplitT_ok s)]
  dsimp only
  rw [h]
  rfl

end Go.Proofs.Ythgijppajindpaa

namespace Go.Proofs.Ythgijppajindpaa.Pure
open Go.RowKit Go.Proofs.Ythgijppajindpaa.Q9 Go.Proofs.Ythgijppajindpaa.K7 Go.Proofs.YthgijppajindpaaW.PrintWords Go.Proofs.YthgijppajindpaaW.PrintLast

theorem Sqz_size {s : ByteArray} (hs : s.size ≤ 4096) : (Sqz s).1.size ≤ 100000 ∧ (Sqz s).2 = 0 := by
  obtain ⟨e1, e2⟩ := Sqz_ok hs
  have hn : (SplitT s).length ≤ 4096 := Nat.le_trans (SplitT_len s) hs
  obtain ⟨_, hL, hc, _, _⟩ := LenT_good (SplitT s) (by omega)
  have h1 := Wd_tab (LenT (SplitT s)) 289
  have h2 := Wd_body hc (SplitT s)
  have h3 : Wd [P42 (LenT (SplitT s)) 288] ≤ 15 := by
    obtain ⟨h3, h4⟩ := okP_any hc 288
    have := h3.2.1
    rw [Wd_cons]
    have e : Wd [] = 0 := rfl
    rw [e]; omega
  have h4 : Wd (sqP (SplitT s)) ≤ 200000 := by
    rw [sqP_eq, Wd_append, Wd_append, Wd_pre0]
    omega
  rw [e1]
  refine ⟨?_, rfl⟩
  show ByteArray.size _ ≤ _
  rw [e2]
  omega

theorem more_loop (s : ByteArray) (hs : s.size ≤ 1000) (c a2 : Int) (n : Nat) (hn : wrap64 (1 + Int.tmod (wrap64 a2) 4) = (n : Int)) (h1 : 1 ≤ n) (h2 : n ≤ 4) (d : Nat) : ∀ (i : Nat) (T : ByteArray), i + d = n → T.size = (Sqz s).1.size + i → (∀ j, j < (Sqz s).1.size → by8 T j = by8 (Sqz s).1 j) →
    Ev fun k => hanaperlaw09_SqueezeMore.l0 k s c a2 T (Sqz s).2 (i : Int) = some true := by
  obtain ⟨z1, z2⟩ := Sqz_size (s := s) (by omega)
  induction d with
  | zero =>
    intro i T hi hT hb
    refine Ev.one fun k => ?_
    have hx := expand_more (s := s) (T := T) (by omega) (by omega) (by omega) hb 100000 (by omega)
    rw [hanaperlaw09_SqueezeMore.l0, hn, if_neg (by omega), squeeze_Expand.f, if_pos (by omega), hx, Option.bind_some, z2]
    dsimp only
    rw [if_pos rfl, if_pos (by decide +kernel)]
    rfl
  | succ d ih =>
    intro i T hi hT hb
    have hw : wrap64 ((i : Int) + 1) = ((i + 1 : Nat) : Int) := by rw [w64 (by omega)]; rfl
    have hsz : (T ++ strOfNums [c]).size = T.size + 1 := by rw [ByteArray.size_append, size_nums]; rfl
    refine (ih (i + 1) (T ++ strOfNums [c]) (by omega) (by omega) (fun j hj => by rw [by8_append _ _ (by omega), hb j hj])).succ fun k hk => ?_
    rw [hanaperlaw09_SqueezeMore.l0, hn, if_pos (by omega), Option.bind_some, if_pos (by rw [size_nums]; show T.size + 1 ≤ _; omega), hw]
    exact hk

theorem SqueezeMore : hanaperlaw09_SqueezeMore.Pure := by
  intro s a1 a2 _ h1 h2
  simp [Lit.wf, IntKind.min, IntKind.max, IntKind.signed, IntKind.bits] at h1 h2
  have g2 : 0 ≤ a2 ∧ a2 ≤ 255 := by omega
  by_cases hs : (s.size : Int) > 1000
  · refine ⟨1, ?_⟩
    rw [hanaperlaw09_SqueezeMore.f, if_pos hs, hanaperlaw09_SqueezeMore.j0, if_pos rfl, shown9]
    rfl
  · have hm : Int.tmod (wrap64 a2) 4 = a2 % 4 := by rw [w64 (by omega), Int.tmod_eq_emod_of_nonneg g2.1]
    obtain ⟨n, hn⟩ : ∃ n : Nat, a2 % 4 = n := ⟨(a2 % 4).toNat, by omega⟩
    have hk := more_loop s (by omega) a1 a2 (1 + n) (by rw [hm, hn, w64 (by omega)]; omega) (by omega) (by omega) (1 + n) 0 (Sqz s).1 (by omega) (by omega) (fun _ _ => rfl)
    obtain ⟨k, hk⟩ := (hk.succ (q := fun k => hanaperlaw09_SqueezeMore.f k s a1 a2 = some true) fun k hk => by
      rw [hanaperlaw09_SqueezeMore.f, if_neg hs, shown9, Option.bind_some, hanaperlaw09_SqueezeMore.j0, if_neg (by decide), squeeze_Squeeze.f, Option.bind_some]
      exact hk).ex
    exact ⟨k, hk⟩

end Go.Proofs.Ythgijppajindpaa.Pure
