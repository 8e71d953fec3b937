/-
  PrefixBack, its one pure statement: for any frequencies and symbols the law's function comes to true.
-/
import Derived.Test.YthgijppajindpaaKrfs
import Derived.Test.YthgijppajindpaaPcks
import Derived.Test.YthgijppajindpaaK7x19
namespace Go.Proofs.Ythgijppajindpaa
open Go.RowKit Go.Proofs.Ythgijppajindpaa.K7 Go.Proofs.YthgijppajindpaaW.PrintWords Go.Proofs.YthgijppajindpaaW.PrintLast Go.Proofs.YthgijppajindpaaW.PrintMore

theorem usedB_full : ∀ l : List Int, (∀ x, x ∈ l → 1 ≤ x) → used l = l.length
  | [], _ => by simp [used]
  | x :: l, h => by
    have h1 := usedB_full l (fun y hy => h y (by simp [hy]))
    have := h x (by simp)
    rw [used_cons, List.length_cons]
    push_cast
    omega

/-- The frequencies that the law makes. -/
def onesB (l : List Int) : List Int := l.map fun x => x + 1
theorem length_onesB (l : List Int) : (onesB l).length = l.length := by simp [onesB]
theorem onesB_in {l : List Int} (h : ∀ x, x ∈ l → 0 ≤ x ∧ x ≤ 65535) : ∀ x, x ∈ onesB l → 1 ≤ x ∧ x ≤ 65536 := by
  intro x hx
  obtain ⟨y, hy, rfl⟩ := List.mem_map.1 hx
  have := h y hy
  omega

theorem LensB_ones {f : List Int} (hf : ∀ x, x ∈ f → 1 ≤ x ∧ x ≤ 65536) (hl : f.length ≤ 300) : Lens f 15 = (lens 20 15 f, 0) ∧ (lens 20 15 f).length = f.length ∧
    (∀ j, j < f.length → 1 ≤ (lens 20 15 f).getD j 0 ∧ (lens 20 15 f).getD j 0 ≤ 15) ∧ (0 < f.length → isCode (lens 20 15 f) = true) := by
  have hu := usedB_full f (fun x hx => (hf x hx).1)
  have hp : (2 : Int) ^ 15 = 32768 := by decide
  obtain ⟨h1, g⟩ := Lens_good f 15 hl (by decide) (by decide) (by
    unfold freqOk
    rw [List.all_eq_true]
    intro x hx
    have := hf x hx
    simp only [decide_eq_true_eq]
    omega) (by omega)
  refine ⟨h1, g.len, fun j hj => ?_, fun h0 => ?_⟩
  · have ga := g.at_ j hj
    have hx := hf (f.getD j 0) (by rw [List.getD_eq_getElem?_getD, List.getElem?_eq_getElem hj]; exact List.getElem_mem hj)
    have : (lens 20 ((15 : Nat) : Int) f).getD j 0 ≠ 0 := fun e => ga.2.2.1 e (by omega)
    have e : ((15 : Nat) : Int) = 15 := rfl
    rw [e] at this ga
    omega
  · by_cases e : f.length = 1
    · exact (g.one (by omega)).2
    · exact (g.whole (by omega)).2

/-- A piece as one that may be. -/
def mp (p : S42) : MP := if h : okP p then ⟨p, h⟩ else ⟨⟨0, 0⟩, by decide⟩
theorem mp_val {p : S42} (h : okP p) : (mp p).1 = p := by unfold mp; rw [dif_pos h]
theorem pick_all : ∀ ps : List S42, (∀ p, p ∈ ps → okP p) → pick ps = ps.map mp
  | [], _ => rfl
  | p :: ps, h => by
    have h1 := h p (by simp)
    have h2 := pick_all ps (fun q hq => h q (by simp [hq]))
    unfold pick at *
    rw [List.filterMap_cons]
    simp only [h1, dif_pos]
    rw [h2, List.map_cons]
    congr 1
    unfold mp
    rw [dif_pos h1]

theorem okP_P42 {L : List Int} (hc : isCode L = true) {i : Nat} (hi : i < L.length) (hx : 0 < L.getD i 0) : okP (P42 L i) := by
  have hb := lensOk_get (isCode_ok hc) i
  unfold P42 okP
  rw [pcOf_code hc hi hx]
  dsimp only
  refine ⟨by omega, by omega, by omega, ?_⟩
  have := turnN_lt (wN L i) (L.getD i 0).toNat
  exact_mod_cast this

theorem rd42B (L : List Int) (n : Nat) {j : Nat} (hj : j < n) : rd_T42 ((List.range n).map (P42 L)) (j : Int) = P42 L j := by
  unfold rd_T42
  rw [Int.toNat_natCast, List.getD_eq_getElem?_getD, List.getElem?_map, List.getElem?_range hj]
  rfl

/-- What stands behind a packed text is nothing. -/
theorem end_packed (xs : List MP) (hT : catT xs ≤ 1000000) : bitio_Reader_End.f (strOfNums (packed xs)) (catT xs : Int) = some (0, strOfNums (packed xs), (catT xs : Int)) := by
  have hs := packed_size xs
  obtain ⟨s, hse⟩ : ∃ s, strOfNums (packed xs) = s := ⟨_, rfl⟩
  have hbit := packed_bit xs
  rw [hse] at hs hbit ⊢
  have hL : bitio_Reader_Left.f s (catT xs : Int) = some (8 * (s.size : Int) - catT xs, s, (catT xs : Int)) := by
    rw [bitio_Reader_Left.f, w64 (x := 8 * (s.size : Int)) (by omega), w64 (by omega)]
  rw [bitio_Reader_End.f, hL, Option.bind_some]
  dsimp only
  rw [if_neg (by omega)]
  by_cases h0 : 8 * (s.size : Int) - catT xs > 0
  · have h1 : wrap64 ((s.size : Int) - 1) = ((s.size - 1 : Nat) : Int) := by rw [w64 (by omega)]; omega
    obtain ⟨n, hn⟩ : ∃ n : Nat, 8 * (s.size : Int) - catT xs = n := ⟨8 * s.size - catT xs, by omega⟩
    rw [hn] at h0 ⊢
    have h2 : wrap64 (8 - (n : Int)) = ((8 - n : Nat) : Int) := by rw [w64 (by omega)]; omega
    rw [if_pos h0, h1, if_pos (by omega), if_pos (by omega), h2, if_pos (by omega), bt_by8, if_pos ?_]
    unfold shr
    have e : min ((8 - n : Nat) : Int).toNat IntKind.u8.bits = 8 - n := by show min _ 8 = _; omega
    rw [e]
    have hlt : by8 s (s.size - 1) < 2 ^ (8 - n) := by
      apply Nat.lt_pow_two_of_testBit
      intro i hi
      by_cases hi8 : i < 8
      · have := hbit (8 * (s.size - 1) + i)
        unfold sbit at this
        rw [show (8 * (s.size - 1) + i) / 8 = s.size - 1 by omega, show (8 * (s.size - 1) + i) % 8 = i by omega] at this
        rw [this]
        exact Nat.testBit_lt_two_pow (Nat.lt_of_lt_of_le (catV_lt xs) (Nat.pow_le_pow_right (by decide) (by omega)))
      · exact Nat.testBit_lt_two_pow (Nat.lt_of_lt_of_le (by8_lt s _) (Nat.pow_le_pow_right (n := 2) (by decide) (show 8 ≤ i by omega)))
    have e2 : (2 : Int) ^ (8 - n) = ((2 ^ (8 - n) : Nat) : Int) := by push_cast; rfl
    rw [e2, ← Int.natCast_ediv, Nat.div_eq_of_lt hlt]
    rfl
  · rw [if_neg h0]

section
variable (L : List Int) (ys : List Int) (n : Nat)
/-- The symbols' places. -/
def ix (n : Nat) (y : Int) : Nat := (y % (n : Int)).toNat
def pcs (L ys : List Int) (n : Nat) : List S42 := ys.map fun y => P42 L (ix n y)
end

theorem ix_lt {n : Nat} (hn : 0 < n) (y : Int) : ix n y < n := by
  unfold ix
  have h1 := Int.emod_lt_of_pos y (show (0 : Int) < n by omega)
  have h2 := Int.emod_nonneg y (show (n : Int) ≠ 0 by omega)
  omega

theorem pcs_ok {L ys : List Int} {n : Nat} (hc : isCode L = true) (hn : n = L.length) (h0 : 0 < n) (hw : ∀ j, j < L.length → 1 ≤ L.getD j 0 ∧ L.getD j 0 ≤ 15) : ∀ p, p ∈ pcs L ys n → okP p := by
  intro p hp
  obtain ⟨y, _, rfl⟩ := List.mem_map.1 hp
  have h1 := ix_lt h0 y
  exact okP_P42 hc (by omega) (by have := hw (ix n y) (by omega); omega)

theorem back_loop2 (L ys f : List Int) (hc : isCode L = true) (hf : f.length = L.length) (h0 : 0 < L.length) (hw : ∀ j, j < L.length → 1 ≤ L.getD j 0 ∧ L.getD j 0 ≤ 15) (hl : ys.length ≤ 200) (hy : ∀ x, x ∈ ys → 0 ≤ x ∧ x ≤ 255) (d : Nat) : ∀ j, j + d = ys.length →
    Ev fun k => hanaperlaw07_PrefixBack.l2 k ys f L 0 (j : Int) (strOfNums (packed ((pcs L ys L.length).map mp))) (catT (((pcs L ys L.length).take j).map mp) : Int) = some true := by
  have hok := pcs_ok (ys := ys) hc rfl h0 hw
  have hll := len_code hc
  have hplen : (pcs L ys L.length).length = ys.length := by simp [pcs]
  have hTb : ∀ j, catT (((pcs L ys L.length).take j).map mp) ≤ 24 * j := by
    intro j
    induction j with
    | zero => simp [catT]
    | succ j ih =>
      by_cases hj : j < (pcs L ys L.length).length
      · rw [List.take_succ_eq_append_getElem hj, List.map_append, List.map_cons, List.map_nil, catT_snoc]
        obtain ⟨a, b, hx, hb, _⟩ := (mp (pcs L ys L.length)[j]).nat
        rw [hx]
        dsimp only
        rw [Int.toNat_natCast]
        omega
      · rw [List.take_of_length_le (by omega)]
        rw [List.take_of_length_le (by omega)] at ih
        omega
  have hsz := packed_size ((pcs L ys L.length).map mp)
  have hTall : catT ((pcs L ys L.length).map mp) ≤ 4800 := by
    have := hTb ys.length
    rw [List.take_of_length_le (by omega)] at this
    omega
  induction d with
  | zero =>
    intro j hj
    have : j = ys.length := by omega
    subst this
    refine Ev.one fun k => ?_
    rw [hanaperlaw07_PrefixBack.l2, if_neg (by omega), if_pos rfl, List.take_of_length_le (by omega), end_packed _ (by omega)]
    rfl
  | succ d ih =>
    intro j hj
    have hjl : j < ys.length := by omega
    have hw1 : wrap64 ((j : Int) + 1) = ((j + 1 : Nat) : Int) := by rw [w64 (by omega)]; rfl
    have hyb := hy (ys.getD j 0) (by rw [List.getD_eq_getElem?_getD, List.getElem?_eq_getElem hjl]; exact List.getElem_mem hjl)
    have e1 : rd ys (j : Int) = ys.getD j 0 := rfl
    have hi := ix_lt h0 (ys.getD j 0)
    have hwi := hw _ hi
    obtain ⟨w, hwe⟩ : ∃ w : Nat, L.getD (ix L.length (ys.getD j 0)) 0 = w := ⟨(L.getD (ix L.length (ys.getD j 0)) 0).toNat, by omega⟩
    have hpj : (pcs L ys L.length)[j]'(by omega) = P42 L (ix L.length (ys.getD j 0)) := by
      unfold pcs
      rw [List.getElem_map, List.getD_eq_getElem?_getD, List.getElem?_eq_getElem hjl]
      rfl
    have hokj := okP_P42 hc hi (by omega)
    have hmp : (mp (P42 L (ix L.length (ys.getD j 0)))).1 = ⟨(turnN (wN L (ix L.length (ys.getD j 0))) w : Int), (w : Int)⟩ := by
      rw [mp_val hokj]
      unfold P42
      rw [pcOf_code hc hi (by omega), hwe]
      rfl
    have hsplit : (pcs L ys L.length).map mp = ((pcs L ys L.length).take j).map mp ++ mp (P42 L (ix L.length (ys.getD j 0))) :: ((pcs L ys L.length).drop (j + 1)).map mp := by
      rw [← hpj, ← List.map_cons, ← List.drop_eq_getElem_cons (by omega), ← List.map_append, List.take_append_drop]
    have hcat : catT ((pcs L ys L.length).map mp) = catT (((pcs L ys L.length).take j).map mp) + (w + catT (((pcs L ys L.length).drop (j + 1)).map mp)) := by
      rw [hsplit, catT_append, catT_cons, hmp]
      rfl
    have hnext := Nx_word hc (strOfNums (packed ((pcs L ys L.length).map mp))) hi hwe (by omega) (catT (((pcs L ys L.length).take j).map mp)) (by omega) (fun b hb => by
      have := packed_at (((pcs L ys L.length).take j).map mp) (((pcs L ys L.length).drop (j + 1)).map mp) (mp (P42 L (ix L.length (ys.getD j 0)))) b (by rw [hmp]; dsimp only; omega)
      rw [← hsplit, hmp] at this
      exact this)
    have hT1 : catT (((pcs L ys L.length).take (j + 1)).map mp) = catT (((pcs L ys L.length).take j).map mp) + w := by
      rw [List.take_succ_eq_append_getElem (by omega), hpj, List.map_append, List.map_cons, List.map_nil, catT_snoc, hmp]
      rfl
    refine (ih (j + 1) (by omega)).succ fun k hk => ?_
    rw [hanaperlaw07_PrefixBack.l2, if_pos (by omega), prefix_Next.f, if_pos ⟨by omega, by omega, by omega, by omega⟩, Option.bind_some, Int.toNat_natCast, hnext]
    dsimp only
    have e2 : Int.tmod (wrap64 (rd ys (j : Int))) (f.length : Int) = (ix L.length (ys.getD j 0) : Int) := by
      rw [e1, w64 (by omega), Int.tmod_eq_emod_of_nonneg hyb.1, hf]
      unfold ix
      have := Int.emod_nonneg (ys.getD j 0) (show (L.length : Int) ≠ 0 by omega)
      omega
    rw [if_pos rfl, if_pos (by omega), if_neg (by omega), e2, if_pos rfl, hw1, ← hT1]
    exact hk

theorem back_loop1 (L ys f : List Int) (hc : isCode L = true) (hf : f.length = L.length) (h0 : 0 < L.length) (hw : ∀ j, j < L.length → 1 ≤ L.getD j 0 ∧ L.getD j 0 ≤ 15) (hl : ys.length ≤ 200) (hy : ∀ x, x ∈ ys → 0 ≤ x ∧ x ≤ 255) (d : Nat) : ∀ j, j + d = ys.length →
    Ev fun k => hanaperlaw07_PrefixBack.l1 k ys f L ((List.range L.length).map (P42 L)) ((pcs L ys L.length).take j) (j : Int) = some true := by
  have hok := pcs_ok (ys := ys) hc rfl h0 hw
  have hll := len_code hc
  have hplen : (pcs L ys L.length).length = ys.length := by simp [pcs]
  induction d with
  | zero =>
    intro j hj
    have : j = ys.length := by omega
    subst this
    have h2 := back_loop2 L ys f hc hf h0 hw hl hy ys.length 0 (by omega)
    refine h2.succ fun k hk => ?_
    have hpk : Pack (pcs L ys L.length) = (strOfNums (packed ((pcs L ys L.length).map mp)), 0) := by
      rw [Pack, pick_all _ hok, if_neg (by simp)]
    rw [hanaperlaw07_PrefixBack.l1, if_neg (by omega), List.take_of_length_le (by omega), bitio_Pack.f, if_pos ⟨by omega, by
      rw [List.all_eq_true]
      intro p hp
      have h := hok p hp
      unfold okP at h
      have h24 : (2 : Int) ^ p.f1.toNat ≤ 2 ^ 24 := by
        have := Nat.pow_le_pow_right (n := 2) (by decide) (show p.f1.toNat ≤ 24 by omega)
        exact_mod_cast this
      have e24 : (2 : Int) ^ 24 = 16777216 := by decide
      simp only [decide_eq_true_eq]
      omega⟩, hpk, Option.bind_some]
    dsimp only
    rw [bitio_New.f, Option.bind_some]
    exact hk
  | succ d ih =>
    intro j hj
    have hjl : j < ys.length := by omega
    have hw1 : wrap64 ((j : Int) + 1) = ((j + 1 : Nat) : Int) := by rw [w64 (by omega)]; rfl
    have hyb := hy (ys.getD j 0) (by rw [List.getD_eq_getElem?_getD, List.getElem?_eq_getElem hjl]; exact List.getElem_mem hjl)
    have e1 : rd ys (j : Int) = ys.getD j 0 := rfl
    have hi := ix_lt h0 (ys.getD j 0)
    have e2 : Int.tmod (wrap64 (rd ys (j : Int))) (f.length : Int) = (ix L.length (ys.getD j 0) : Int) := by
      rw [e1, w64 (by omega), Int.tmod_eq_emod_of_nonneg hyb.1, hf]
      unfold ix
      have := Int.emod_nonneg (ys.getD j 0) (show (L.length : Int) ≠ 0 by omega)
      omega
    have hpj : (pcs L ys L.length)[j]'(by omega) = P42 L (ix L.length (ys.getD j 0)) := by
      unfold pcs
      rw [List.getElem_map, List.getD_eq_getElem?_getD, List.getElem?_eq_getElem hjl]
      rfl
    refine (ih (j + 1) (by omega)).succ fun k hk => ?_
    rw [List.take_succ_eq_append_getElem (by omega), hpj] at hk
    rw [hanaperlaw07_PrefixBack.l1, if_pos (by omega), if_pos (by omega), if_neg (by omega), e2, if_pos (by omega), if_pos (by rw [List.length_map, List.length_range]; omega), if_pos (by rw [List.length_take]; omega), hw1, rd42B L _ hi]
    exact hk

theorem back_loop0 (l ys : List Int) (hl : l.length ≤ 300) (hw : ∀ x, x ∈ l → 0 ≤ x ∧ x ≤ 65535) (hly : ys.length ≤ 200) (hy : ∀ x, x ∈ ys → 0 ≤ x ∧ x ≤ 255) (d : Nat) : ∀ j, j + d = l.length →
    Ev fun k => hanaperlaw07_PrefixBack.l0 k l ys (onesB (l.take j)) (j : Int) = some true := by
  induction d with
  | zero =>
    intro j hj
    have : j = l.length := by omega
    subst this
    rw [List.take_length]
    have hlo := length_onesB l
    obtain ⟨h1, h2, h3, h4⟩ := LensB_ones (onesB_in hw) (by omega)
    obtain ⟨L, hL⟩ : ∃ L, L = lens 20 15 (onesB l) := ⟨_, rfl⟩
    rw [← hL] at h1 h2 h3 h4
    have key : Ev fun k => hanaperlaw07_PrefixBack.j2 k ys (onesB l) L false = some true := by
      by_cases h0 : l.length = 0
      · refine Ev.one fun k => ?_
        rw [hanaperlaw07_PrefixBack.j2, if_neg (by decide), if_pos (by omega)]
      · have hc := h4 (by omega)
        have h5 := (back_loop1 L ys (onesB l) hc (by omega) (by omega) (fun j hj => h3 j (by omega)) hly hy ys.length 0 (by omega)).succ (q := fun k => hanaperlaw07_PrefixBack.j3 k ys (onesB l) L ((List.range L.length).map (P42 L)) false = some true) fun k hk => by
          rw [hanaperlaw07_PrefixBack.j3, if_neg (by decide)]
          exact hk
        refine h5.succ fun k hk => ?_
        rw [hanaperlaw07_PrefixBack.j2, if_neg (by decide), if_neg (by omega), prefix_Codes.f, if_pos (by omega), Option.bind_some, Codes_eq, hc, if_pos rfl]
        dsimp only
        rw [if_pos rfl]
        have : ((((List.range L.length).map (P42 L)).length : Int) != ((onesB l).length : Int)) = false := by rw [← h2]; simp
        rw [this]
        exact hk
    refine key.succ fun k hk => ?_
    rw [hanaperlaw07_PrefixBack.l0, if_neg (by omega), prefix_Lengths.f, h1, Option.bind_some, if_pos rfl]
    dsimp only
    have : ((L.length : Int) != ((onesB l).length : Int)) = false := by rw [← h2]; simp
    rw [this]
    exact hk
  | succ d ih =>
    intro j hj
    have hjl : j < l.length := by omega
    have hwr : wrap64 ((j : Int) + 1) = ((j + 1 : Nat) : Int) := by rw [w64 (by omega)]; rfl
    have e1 : rd l (j : Int) = l.getD j 0 := rfl
    have hx := hw (l.getD j 0) (by rw [List.getD_eq_getElem?_getD, List.getElem?_eq_getElem hjl]; exact List.getElem_mem hjl)
    refine (ih (j + 1) (by omega)).succ fun k hk => ?_
    rw [take_snoc hjl] at hk
    have : onesB (l.take j ++ [l.getD j 0]) = onesB (l.take j) ++ [l.getD j 0 + 1] := by unfold onesB; rw [List.map_append]; rfl
    rw [this] at hk
    rw [hanaperlaw07_PrefixBack.l0, if_pos (by omega), if_pos (by omega), if_pos (by rw [length_onesB, List.length_take]; omega), hwr, e1, w64 (x := l.getD j 0) (by omega), w64 (by omega)]
    exact hk

namespace Pure

theorem PrefixBack : hanaperlaw07_PrefixBack.Pure := by
  intro l0 l1 _ _ hwf _ _ hwf1
  refine Ev.ex ?_
  have htrue : Ev fun k => hanaperlaw07_PrefixBack.j0 k l0 l1 true = some true := by
    refine shownK_ev.succ fun k hk => ?_
    rw [hanaperlaw07_PrefixBack.j0, if_pos rfl, hk, Option.bind_some]
  by_cases h : l0.length ≤ 300
  · by_cases h2 : l1.length ≤ 200
    · have hw : ∀ x, x ∈ l0 → 0 ≤ x ∧ x ≤ 65535 := fun x hx => by
        have := hwf x hx
        simp [Lit.wf, IntKind.min, IntKind.max, IntKind.signed, IntKind.bits] at this
        omega
      have hy : ∀ x, x ∈ l1 → 0 ≤ x ∧ x ≤ 255 := fun x hx => by
        have := hwf1 x hx
        simp [Lit.wf, IntKind.min, IntKind.max, IntKind.signed, IntKind.bits] at this
        omega
      have h0 := back_loop0 l0 l1 h hw h2 hy l0.length 0 (by omega)
      have h1 : Ev fun k => hanaperlaw07_PrefixBack.j0 k l0 l1 false = some true := h0.succ fun k hk => by
        rw [hanaperlaw07_PrefixBack.j0, if_neg (by decide)]
        exact hk
      refine (shownK_ev.and h1).imp fun k hk => ?_
      rw [hanaperlaw07_PrefixBack.f, if_neg (by omega), if_neg (by omega), hk.1, Option.bind_some]
      exact hk.2
    · refine htrue.imp fun k hk => ?_
      rw [hanaperlaw07_PrefixBack.f, if_neg (by omega), if_pos (by omega)]
      exact hk
  · refine htrue.imp fun k hk => ?_
    rw [hanaperlaw07_PrefixBack.f, if_pos (by omega)]
    exact hk

end Pure

end Go.Proofs.Ythgijppajindpaa
