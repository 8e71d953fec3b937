/-
  SqueezeCap, plain.
-/
import Derived.Test.YthgijppajindpaaQ9x2
import Derived.Test.YthgijppajindpaaSqzC
import Derived.Test.YthgijppajindpaaSqzS
set_option linter.unusedVariables false
namespace Go.Proofs.Ythgijppajindpaa.Pure
open Go.RowKit Go.Proofs.Ythgijppajindpaa.Q9 Go.Proofs.Ythgijppajindpaa.K7 Go.Proofs.YthgijppajindpaaW.PrintWords Go.Proofs.YthgijppajindpaaW.PrintLast

theorem cap_loop (a0 c : Int) (n : Nat) (hn : wrap64 (4000 + Int.tmod (wrap64 a0) 200) = (n : Int)) (h1 : 4000 ≤ n) (h2 : n < 4200) (hc0 : 0 ≤ c) (hc1 : c < 256) (d : Nat) : ∀ i, i + d = n → Ev fun k => hanaperlaw09_SqueezeCap.l0 k a0 c (List.replicate i c) (i : Int) = some true := by
  induction d with
  | zero =>
    intro i hi
    have : i = n := by omega
    subst this
    refine Ev.one fun k => ?_
    obtain ⟨hs, hrun⟩ := by8_run c hc0 hc1 i
    rw [hanaperlaw09_SqueezeCap.l0, hn, if_neg (by omega), squeeze_Squeeze.f, Option.bind_some, List.length_replicate]
    by_cases hb : (i : Int) > 4096
    · have e : Sqz (strOfNums (List.replicate i c)) = (ByteArray.empty, 90) := by rw [Sqz, if_pos (by rw [hs]; omega)]
      rw [if_pos hb, e]
      dsimp only
      rw [if_pos (show ByteArray.empty.toList = ([] : List UInt8) by decide +kernel), if_pos rfl, shown9]
      rfl
    · obtain ⟨e1, e2⟩ := Sqz_ok (s := strOfNums (List.replicate i c)) (by rw [hs]; omega)
      have hw := Wd_run (s := strOfNums (List.replicate i c)) (by rw [hs]; omega) hrun
      rw [hs] at hw
      rw [if_neg hb, e1]
      dsimp only
      rw [if_pos rfl, if_pos (by rw [e2]; omega), shown9]
      rfl
  | succ d ih =>
    intro i hi
    have hw : wrap64 ((i : Int) + 1) = ((i + 1 : Nat) : Int) := by rw [w64 (by omega)]; rfl
    refine (ih (i + 1) (by omega)).succ fun k hk => ?_
    rw [hanaperlaw09_SqueezeCap.l0, hn, if_pos (by omega), List.length_replicate, if_pos (by omega), hw, ← List.replicate_succ']
    exact hk

theorem SqueezeCap : hanaperlaw09_SqueezeCap.Pure := by
  intro a0 a1 h0 h1
  simp [Lit.wf, IntKind.min, IntKind.max, IntKind.signed, IntKind.bits] at h0 h1
  have g0 : 0 ≤ a0 ∧ a0 ≤ 65535 := by omega
  have g1 : 0 ≤ a1 ∧ a1 ≤ 255 := by omega
  have hm : Int.tmod (wrap64 a0) 200 = a0 % 200 := by rw [w64 (by omega), Int.tmod_eq_emod_of_nonneg g0.1]
  obtain ⟨n, hn⟩ : ∃ n : Nat, a0 % 200 = n := ⟨(a0 % 200).toNat, by omega⟩
  have hk := cap_loop a0 a1 (4000 + n) (by rw [hm, hn, w64 (by omega)]; omega) (by omega) (by omega) g1.1 (by omega) (4000 + n) 0 (by omega)
  exact hk.ex

end Go.Proofs.Ythgijppajindpaa.Pure
