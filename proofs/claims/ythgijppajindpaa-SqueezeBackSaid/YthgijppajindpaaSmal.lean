/-
  Small laws on bytes and on counts.
-/
import Derived.Test.YthgijppajindpaaNxts
set_option linter.unusedVariables false
set_option linter.unusedSimpArgs false
namespace Go.Proofs.Ythgijppajindpaa
open Go.RowKit Go.Proofs.YthgijppajindpaaW.PrintWords Go.Proofs.YthgijppajindpaaW.PrintLast Go.Proofs.YthgijppajindpaaW.PrintMore Go.Proofs.Ythgijppajindpaa.K7

theorem bt_by8 (s : ByteArray) (i : Nat) : bt s (i : Int) = (by8 s i : Int) := by
  unfold bt
  rw [Int.toNat_natCast]
  split
  · rename_i h; rw [by8_get s i h]
  · rename_i h; rw [by8_past s i (by omega)]; rfl

theorem tailC_none {l : List Int} (hok : lensOk l = true) {k : Nat} (hk : k ≤ 15) (h : tailC l k = 0) {i : Nat} (hi : i < l.length) : l.getD i 0 ≤ k := by
  have hb := lensOk_get hok i
  obtain ⟨d, hd⟩ : ∃ d, k + d = 15 := ⟨15 - k, by omega⟩
  induction d generalizing k with
  | zero => omega
  | succ d ih =>
    have h1 := tailC_succ l k (by omega)
    have h2 := tailC_bound l d (k + 1) (by omega)
    have h3 := (cnt_bound ((k + 1 : Nat) : Int) l).1
    have h4 := ih (k := k + 1) (by omega) (by omega) (by omega)
    have h5 : l.getD i 0 ≠ ((k + 1 : Nat) : Int) := by
      intro e
      have := cnt_take_le l (i + 1) ((k + 1 : Nat) : Int)
      rw [take_snoc hi, cnt_snoc, if_pos e] at this
      have := (cnt_bound ((k + 1 : Nat) : Int) (l.take i)).1
      omega
    omega

end Go.Proofs.Ythgijppajindpaa
