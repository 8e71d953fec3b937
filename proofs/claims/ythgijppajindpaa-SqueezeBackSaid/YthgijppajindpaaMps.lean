/-
  Pieces that may be, packed; the end of a packed text.
-/
import Derived.Test.YthgijppajindpaaKrfs
import Derived.Test.YthgijppajindpaaPcks
import Derived.Test.YthgijppajindpaaK7c
namespace Go.Proofs.Ythgijppajindpaa
open Go.RowKit Go.Proofs.Ythgijppajindpaa.K7 Go.Proofs.YthgijppajindpaaW.PrintWords Go.Proofs.YthgijppajindpaaW.PrintLast Go.Proofs.YthgijppajindpaaW.PrintMore

theorem usedB_full : ∀ l : List Int, (∀ x, x ∈ l → 1 ≤ x) → used l = l.length
  | [], _ => by simp [used]
  | x :: l, h => by
    have h1 := usedB_full l (fun y hy => h y (by simp [hy]))
    have := h x (by simp)
    rw [used_cons, List.length_cons]
    push_cast
    omega

/-- The frequencies that the law makes. -/
def onesB (l : List Int) : List Int := l.map fun x => x + 1
theorem length_onesB (l : List Int) : (onesB l).length = l.length := by simp [onesB]
theorem onesB_in {l : List Int} (h : ∀ x, x ∈ l → 0 ≤ x ∧ x ≤ 65535) : ∀ x, x ∈ onesB l → 1 ≤ x ∧ x ≤ 65536 := by
  intro x hx
  obtain ⟨y, hy, rfl⟩ := List.mem_map.1 hx
  have := h y hy
  omega

theorem LensB_ones {f : List Int} (hf : ∀ x, x ∈ f → 1 ≤ x ∧ x ≤ 65536) (hl : f.length ≤ 300) : Lens f 15 = (lens 20 15 f, 0) ∧ (lens 20 15 f).length = f.length ∧
    (∀ j, j < f.length → 1 ≤ (lens 20 15 f).getD j 0 ∧ (lens 20 15 f).getD j 0 ≤ 15) ∧ (0 < f.length → isCode (lens 20 15 f) = true) := by
  have hu := usedB_full f (fun x hx => (hf x hx).1)
  have hp : (2 : Int) ^ 15 = 32768 := by decide
  obtain ⟨h1, g⟩ := Lens_good f 15 hl (by decide) (by decide) (by
    unfold freqOk
    rw [List.all_eq_true]
    intro x hx
    have := hf x hx
    simp only [decide_eq_true_eq]
    omega) (by omega)
  refine ⟨h1, g.len, fun j hj => ?_, fun h0 => ?_⟩
  · have ga := g.at_ j hj
    have hx := hf (f.getD j 0) (by rw [List.getD_eq_getElem?_getD, List.getElem?_eq_getElem hj]; exact List.getElem_mem hj)
    have : (lens 20 ((15 : Nat) : Int) f).getD j 0 ≠ 0 := fun e => ga.2.2.1 e (by omega)
    have e : ((15 : Nat) : Int) = 15 := rfl
    rw [e] at this ga
    omega
  · by_cases e : f.length = 1
    · exact (g.one (by omega)).2
    · exact (g.whole (by omega)).2

/-- A piece as one that may be. -/
def mp (p : S42) : MP := if h : okP p then ⟨p, h⟩ else ⟨⟨0, 0⟩, by decide⟩
theorem mp_val {p : S42} (h : okP p) : (mp p).1 = p := by unfold mp; rw [dif_pos h]
theorem pick_all : ∀ ps : List S42, (∀ p, p ∈ ps → okP p) → pick ps = ps.map mp
  | [], _ => rfl
  | p :: ps, h => by
    have h1 := h p (by simp)
    have h2 := pick_all ps (fun q hq => h q (by simp [hq]))
    unfold pick at *
    rw [List.filterMap_cons]
    simp only [h1, dif_pos]
    rw [h2, List.map_cons]
    congr 1
    unfold mp
    rw [dif_pos h1]

theorem okP_P42 {L : List Int} (hc : isCode L = true) {i : Nat} (hi : i < L.length) (hx : 0 < L.getD i 0) : okP (P42 L i) := by
  have hb := lensOk_get (isCode_ok hc) i
  unfold P42 okP
  rw [pcOf_code hc hi hx]
  dsimp only
  refine ⟨by omega, by omega, by omega, ?_⟩
  have := turnN_lt (wN L i) (L.getD i 0).toNat
  exact_mod_cast this

theorem rd42B (L : List Int) (n : Nat) {j : Nat} (hj : j < n) : rd_T42 ((List.range n).map (P42 L)) (j : Int) = P42 L j := by
  unfold rd_T42
  rw [Int.toNat_natCast, List.getD_eq_getElem?_getD, List.getElem?_map, List.getElem?_range hj]
  rfl

/-- What stands behind a packed text is nothing. -/
theorem end_packed (xs : List MP) (hT : catT xs ≤ 1000000) : bitio_Reader_End.f (strOfNums (packed xs)) (catT xs : Int) = some (0, strOfNums (packed xs), (catT xs : Int)) := by
  have hs := packed_size xs
  obtain ⟨s, hse⟩ : ∃ s, strOfNums (packed xs) = s := ⟨_, rfl⟩
  have hbit := packed_bit xs
  rw [hse] at hs hbit ⊢
  have hL : bitio_Reader_Left.f s (catT xs : Int) = some (8 * (s.size : Int) - catT xs, s, (catT xs : Int)) := by
    rw [bitio_Reader_Left.f, w64 (x := 8 * (s.size : Int)) (by omega), w64 (by omega)]
  rw [bitio_Reader_End.f, hL, Option.bind_some]
  dsimp only
  rw [if_neg (by omega)]
  by_cases h0 : 8 * (s.size : Int) - catT xs > 0
  · have h1 : wrap64 ((s.size : Int) - 1) = ((s.size - 1 : Nat) : Int) := by rw [w64 (by omega)]; omega
    obtain ⟨n, hn⟩ : ∃ n : Nat, 8 * (s.size : Int) - catT xs = n := ⟨8 * s.size - catT xs, by omega⟩
    rw [hn] at h0 ⊢
    have h2 : wrap64 (8 - (n : Int)) = ((8 - n : Nat) : Int) := by rw [w64 (by omega)]; omega
    rw [if_pos h0, h1, if_pos (by omega), if_pos (by omega), h2, if_pos (by omega), bt_by8, if_pos ?_]
    unfold shr
    have e : min ((8 - n : Nat) : Int).toNat IntKind.u8.bits = 8 - n := by show min _ 8 = _; omega
    rw [e]
    have hlt : by8 s (s.size - 1) < 2 ^ (8 - n) := by
      apply Nat.lt_pow_two_of_testBit
      intro i hi
      by_cases hi8 : i < 8
      · have := hbit (8 * (s.size - 1) + i)
        unfold sbit at this
        rw [show (8 * (s.size - 1) + i) / 8 = s.size - 1 by omega, show (8 * (s.size - 1) + i) % 8 = i by omega] at this
        rw [this]
        exact Nat.testBit_lt_two_pow (Nat.lt_of_lt_of_le (catV_lt xs) (Nat.pow_le_pow_right (by decide) (by omega)))
      · exact Nat.testBit_lt_two_pow (Nat.lt_of_lt_of_le (by8_lt s _) (Nat.pow_le_pow_right (n := 2) (by decide) (show 8 ≤ i by omega)))
    have e2 : (2 : Int) ^ (8 - n) = ((2 ^ (8 - n) : Nat) : Int) := by push_cast; rfl
    rw [e2, ← Int.natCast_ediv, Nat.div_eq_of_lt hlt]
    rfl
  · rw [if_neg h0]

end Go.Proofs.Ythgijppajindpaa
