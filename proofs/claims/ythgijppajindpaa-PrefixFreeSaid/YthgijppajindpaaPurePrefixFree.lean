/-
  PrefixFree, its one pure statement: for any frequencies the law's function comes to true.
-/
import Derived.Test.YthgijppajindpaaLnsc
import Derived.Test.YthgijppajindpaaCanl
import Derived.Test.YthgijppajindpaaK7x10
namespace Go.Proofs.Ythgijppajindpaa
open Go.RowKit Go.Proofs.Ythgijppajindpaa.K7 Go.Proofs.YthgijppajindpaaW.PrintWords Go.Proofs.YthgijppajindpaaW.PrintLast Go.Proofs.YthgijppajindpaaW.PrintMore

theorem used_less : ∀ l : List Int, (∀ x, x ∈ l → 0 ≤ x) → used l ≤ l.length
  | [], _ => by simp [used]
  | x :: l, h => by
    have h1 := used_less l (fun y hy => h y (by simp [hy]))
    rw [used_cons, List.length_cons]
    push_cast
    omega
theorem used_full : ∀ l : List Int, (∀ x, x ∈ l → 1 ≤ x) → used l = l.length
  | [], _ => by simp [used]
  | x :: l, h => by
    have h1 := used_full l (fun y hy => h y (by simp [hy]))
    have := h x (by simp)
    rw [used_cons, List.length_cons]
    push_cast
    omega

theorem u16_in {l : List Int} (hwf : ∀ x ∈ l, (Lit.int .u16 x).wf = true) : ∀ x, x ∈ l → 0 ≤ x ∧ x ≤ 65535 := fun x hx => by
  have := hwf x hx
  simp [Lit.wf, IntKind.min, IntKind.max, IntKind.signed, IntKind.bits] at this
  omega

/-- The frequencies that the law makes. -/
def ones (l : List Int) : List Int := l.map fun x => x + 1
theorem length_ones (l : List Int) : (ones l).length = l.length := by simp [ones]
theorem ones_in {l : List Int} (h : ∀ x, x ∈ l → 0 ≤ x ∧ x ≤ 65535) : ∀ x, x ∈ ones l → 1 ≤ x ∧ x ≤ 65536 := by
  intro x hx
  obtain ⟨y, hy, rfl⟩ := List.mem_map.1 hx
  have := h y hy
  omega

/-- All come: the lengths are a code, and each symbol has a word. -/
theorem Lens_ones {f : List Int} (hf : ∀ x, x ∈ f → 1 ≤ x ∧ x ≤ 65536) (hl : f.length ≤ 300) : Lens f 15 = (lens 20 15 f, 0) ∧ (lens 20 15 f).length = f.length ∧
    (∀ j, j < f.length → 1 ≤ (lens 20 15 f).getD j 0 ∧ (lens 20 15 f).getD j 0 ≤ 15) ∧ (0 < f.length → isCode (lens 20 15 f) = true) := by
  have hu := used_full f (fun x hx => (hf x hx).1)
  have hp : (2 : Int) ^ 15 = 32768 := by decide
  obtain ⟨h1, g⟩ := Lens_good f 15 hl (by decide) (by decide) (by
    unfold freqOk
    rw [List.all_eq_true]
    intro x hx
    have := hf x hx
    simp only [decide_eq_true_eq]
    omega) (by omega)
  refine ⟨h1, g.len, fun j hj => ?_, fun h0 => ?_⟩
  · have ga := g.at_ j hj
    have hx := hf (f.getD j 0) (by rw [List.getD_eq_getElem?_getD, List.getElem?_eq_getElem hj]; exact List.getElem_mem hj)
    have : (lens 20 ((15 : Nat) : Int) f).getD j 0 ≠ 0 := fun e => ga.2.2.1 e (by omega)
    have e : ((15 : Nat) : Int) = 15 := rfl
    rw [e] at this ga
    omega
  · by_cases e : f.length = 1
    · exact (g.one (by omega)).2
    · exact (g.whole (by omega)).2

theorem shl_u32 {w : Int} (h1 : 1 ≤ w) (h2 : w ≤ 15) : shl .u32 1 w = ((2 ^ w.toNat : Nat) : Int) := by
  have : w = 1 ∨ w = 2 ∨ w = 3 ∨ w = 4 ∨ w = 5 ∨ w = 6 ∨ w = 7 ∨ w = 8 ∨ w = 9 ∨ w = 10 ∨ w = 11 ∨ w = 12 ∨ w = 13 ∨ w = 14 ∨ w = 15 := by omega
  rcases this with rfl | rfl | rfl | rfl | rfl | rfl | rfl | rfl | rfl | rfl | rfl | rfl | rfl | rfl | rfl <;> decide +kernel

theorem rd42_at (L : List Int) (n j : Nat) (hj : j < n) : rd_T42 ((List.range n).map (P42 L)) (j : Int) = P42 L j := by
  unfold rd_T42
  rw [Int.toNat_natCast, List.getD_eq_getElem?_getD, List.getElem?_map, List.getElem?_range hj]
  rfl

theorem free_loop2 (L : List Int) (hc : isCode L = true) (hw : ∀ j, j < L.length → 1 ≤ L.getD j 0 ∧ L.getD j 0 ≤ 15) (i : Nat) (hi : i < L.length) (r : Option Bool)
    (h : Ev fun k => hanaperlaw07_PrefixFree.l1 k L ((List.range L.length).map (P42 L)) ((i + 1 : Nat) : Int) = r) (d : Nat) : ∀ j, j + d = L.length →
    Ev fun k => hanaperlaw07_PrefixFree.l2 k L ((List.range L.length).map (P42 L)) (i : Int) (j : Int) = r := by
  have hl := len_code hc
  have hln : ((List.range L.length).map (P42 L)).length = L.length := by simp
  induction d with
  | zero =>
    intro j hj
    refine h.succ fun k hk => ?_
    have hwr : wrap64 ((i : Int) + 1) = ((i + 1 : Nat) : Int) := by rw [w64 (by omega)]; rfl
    rw [hanaperlaw07_PrefixFree.l2, if_neg (by omega), hwr]
    exact hk
  | succ d ih =>
    intro j hj
    have hjl : j < L.length := by omega
    have hwr : wrap64 ((j : Int) + 1) = ((j + 1 : Nat) : Int) := by rw [w64 (by omega)]; rfl
    refine (ih (j + 1) (by omega)).succ fun k hk => ?_
    rw [hanaperlaw07_PrefixFree.l2, if_pos (by omega), hwr]
    by_cases e : (i : Int) = (j : Int)
    · rw [if_pos e]; exact hk
    · have hwi := hw i hi
      have hwj := hw j hjl
      have ei : P42 L i = ⟨(turnN (wN L i) (L.getD i 0).toNat : Int), L.getD i 0⟩ := by unfold P42; rw [pcOf_code hc hi (by omega)]
      have ej : P42 L j = ⟨(turnN (wN L j) (L.getD j 0).toNat : Int), L.getD j 0⟩ := by unfold P42; rw [pcOf_code hc hjl (by omega)]
      rw [if_neg e, if_pos (by omega), if_pos (by omega), if_pos (by omega), rd42_at L _ _ hjl, rd42_at L _ _ hi, ei, ej]
      dsimp only
      by_cases hle : L.getD j 0 ≥ L.getD i 0
      · have hpos : 0 < 2 ^ (L.getD i 0).toNat := Nat.two_pow_pos _
        rw [if_pos hle, if_pos (by omega), shl_u32 hwi.1 hwi.2, if_neg (by omega), Int.tmod_eq_emod_of_nonneg (by omega), if_neg ?_]
        · exact hk
        · intro hh
          have h1 : turnN (wN L j) (L.getD j 0).toNat % 2 ^ (L.getD i 0).toNat = turnN (wN L i) (L.getD i 0).toNat := by exact_mod_cast hh
          rw [turnN_mod _ _ _ (by omega)] at h1
          have hbj := wN_lt_pow hc hjl (by omega)
          have hdiv : wN L j / 2 ^ ((L.getD j 0).toNat - (L.getD i 0).toNat) < 2 ^ (L.getD i 0).toNat := by
            rw [Nat.div_lt_iff_lt_mul (Nat.two_pow_pos _), ← Nat.pow_add, show (L.getD i 0).toNat + ((L.getD j 0).toNat - (L.getD i 0).toNat) = (L.getD j 0).toNat by omega]
            exact hbj
          exact wN_free hc hi hjl (by omega) (by omega) hle (turnN_inj hdiv (wN_lt_pow hc hi (by omega)) h1)
      · rw [if_neg hle]; exact hk

theorem free_loop1 (L : List Int) (hc : isCode L = true) (hw : ∀ j, j < L.length → 1 ≤ L.getD j 0 ∧ L.getD j 0 ≤ 15) (d : Nat) : ∀ i, i + d = L.length →
    Ev fun k => hanaperlaw07_PrefixFree.l1 k L ((List.range L.length).map (P42 L)) (i : Int) = some true := by
  have hln : ((List.range L.length).map (P42 L)).length = L.length := by simp
  induction d with
  | zero =>
    intro i hi
    refine Ev.one fun k => ?_
    rw [hanaperlaw07_PrefixFree.l1, if_neg (by omega)]
  | succ d ih =>
    intro i hi
    have hil : i < L.length := by omega
    have hwi := hw i hil
    have e1 : rd L (i : Int) = L.getD i 0 := rfl
    have ef : (P42 L i).f1 = L.getD i 0 := by unfold P42; rw [pcOf_code hc hil (by omega)]
    refine ((free_loop2 L hc hw i hil _ (ih (i + 1) (by omega)) L.length 0 (by omega)).succ (q := fun k => hanaperlaw07_PrefixFree.j4 k L ((List.range L.length).map (P42 L)) (i : Int) false = some true) fun k hk => ?_).succ fun k hk => ?_
    · rw [hanaperlaw07_PrefixFree.j4, if_neg (by decide)]
      exact hk
    · rw [hanaperlaw07_PrefixFree.l1, if_pos (by omega), if_pos (by omega), rd42_at L _ _ hil, ef, if_neg (by omega), if_pos (by omega), e1]
      have : (L.getD i 0 != L.getD i 0) = false := by simp
      rw [this]
      exact hk

theorem free_loop0 (l : List Int) (hl : l.length ≤ 100) (hw : ∀ x, x ∈ l → 0 ≤ x ∧ x ≤ 65535) (d : Nat) : ∀ j, j + d = l.length →
    Ev fun k => hanaperlaw07_PrefixFree.l0 k l (ones (l.take j)) (j : Int) = some true := by
  induction d with
  | zero =>
    intro j hj
    have : j = l.length := by omega
    subst this
    rw [List.take_length]
    have hlo := length_ones l
    obtain ⟨h1, h2, h3, h4⟩ := Lens_ones (ones_in hw) (by omega)
    by_cases h0 : l.length = 0
    · refine Ev.one fun k => ?_
      rw [hanaperlaw07_PrefixFree.l0, if_neg (by omega), prefix_Lengths.f, h1, Option.bind_some, if_pos (by omega), if_pos rfl]
      dsimp only
      rw [h2, hlo, h0]
      rfl
    · have hc := h4 (by omega)
      have h5 := (free_loop1 (lens 20 15 (ones l)) hc (fun j hj => h3 j (by omega)) (lens 20 15 (ones l)).length 0 (by omega)).succ (q := fun k => hanaperlaw07_PrefixFree.j2 k (lens 20 15 (ones l)) ((List.range (lens 20 15 (ones l)).length).map (P42 (lens 20 15 (ones l)))) false = some true) fun k hk => by
        rw [hanaperlaw07_PrefixFree.j2, if_neg (by decide)]
        exact hk
      refine h5.succ fun k hk => ?_
      rw [hanaperlaw07_PrefixFree.l0, if_neg (by omega), prefix_Lengths.f, h1, Option.bind_some, if_neg (by omega), prefix_Codes.f, if_pos (by dsimp only; omega), Option.bind_some, if_pos rfl]
      dsimp only
      rw [Codes_eq, hc, if_pos rfl, if_pos rfl]
      dsimp only
      have : ((((List.range (lens 20 15 (ones l)).length).map (P42 (lens 20 15 (ones l)))).length : Int) != ((ones l).length : Int)) = false := by rw [← h2]; simp
      rw [this]
      exact hk
  | succ d ih =>
    intro j hj
    have hjl : j < l.length := by omega
    have hwr : wrap64 ((j : Int) + 1) = ((j + 1 : Nat) : Int) := by rw [w64 (by omega)]; rfl
    have e1 : rd l (j : Int) = l.getD j 0 := rfl
    have hx := hw (l.getD j 0) (by rw [List.getD_eq_getElem?_getD, List.getElem?_eq_getElem hjl]; exact List.getElem_mem hjl)
    refine (ih (j + 1) (by omega)).succ fun k hk => ?_
    rw [take_snoc hjl] at hk
    have : ones (l.take j ++ [l.getD j 0]) = ones (l.take j) ++ [l.getD j 0 + 1] := by unfold ones; rw [List.map_append]; rfl
    rw [this] at hk
    rw [hanaperlaw07_PrefixFree.l0, if_pos (by omega), if_pos (by omega), if_pos (by rw [length_ones, List.length_take]; omega), hwr, e1, w64 (x := l.getD j 0) (by omega), w64 (by omega)]
    exact hk

namespace Pure

theorem PrefixFree : hanaperlaw07_PrefixFree.Pure := by
  intro l0 _ _ hwf
  refine Ev.ex ?_
  by_cases h : l0.length ≤ 100
  · have h0 := free_loop0 l0 h (u16_in hwf) l0.length 0 (by omega)
    have h1 : Ev fun k => hanaperlaw07_PrefixFree.j0 k l0 false = some true := h0.succ fun k hk => by
      rw [hanaperlaw07_PrefixFree.j0, if_neg (by decide)]
      exact hk
    refine (shownK_ev.and h1).imp fun k hk => ?_
    rw [hanaperlaw07_PrefixFree.f, if_neg (by omega), hk.1, Option.bind_some]
    exact hk.2
  · have h1 : Ev fun k => hanaperlaw07_PrefixFree.j0 k l0 true = some true := by
      refine shownK_ev.succ fun k hk => ?_
      rw [hanaperlaw07_PrefixFree.j0, if_pos rfl, hk, Option.bind_some]
    refine h1.imp fun k hk => ?_
    rw [hanaperlaw07_PrefixFree.f, if_pos (by omega)]
    exact hk

end Pure

end Go.Proofs.Ythgijppajindpaa
