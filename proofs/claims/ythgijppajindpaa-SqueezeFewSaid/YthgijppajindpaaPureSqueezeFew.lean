/-
  SqueezeFew, plain.
-/
import Derived.Test.YthgijppajindpaaQ9x3
import Derived.Test.YthgijppajindpaaSqzE
import Derived.Test.YthgijppajindpaaSqzS
set_option linter.unusedVariables false
namespace Go.Proofs.Ythgijppajindpaa
open Go.RowKit Go.Proofs.Ythgijppajindpaa.K7 Go.Proofs.YthgijppajindpaaW.PrintWords

theorem used_set : ∀ (xs : List Int) (i : Nat) (v : Int), (∀ x, x ∈ xs → 0 ≤ x) → used (xs.set i v) ≤ used xs + 1
  | [], i, v, _ => by simp [used]
  | x :: xs, 0, v, h => by
    rw [List.set_cons_zero, used_cons, used_cons]
    have := h x (by simp)
    omega
  | x :: xs, i + 1, v, h => by
    rw [List.set_cons_succ, used_cons, used_cons]
    have := used_set xs i v (fun y hy => h y (by simp [hy]))
    omega
theorem bump_nonneg {xs : List Int} (h : ∀ x, x ∈ xs → 0 ≤ x) (t : Tok) : ∀ x, x ∈ bump xs t → 0 ≤ x := by
  intro x hx
  unfold bump at hx
  split at hx
  · rcases List.mem_or_eq_of_mem_set hx with hx | rfl
    · exact h x hx
    · have : 0 ≤ xs.getD (symK t).1.toNat 0 := by
        rw [List.getD_eq_getElem?_getD]
        by_cases hl : (symK t).1.toNat < xs.length
        · rw [List.getElem?_eq_getElem hl]
          exact h _ (List.getElem_mem hl)
        · rw [List.getElem?_eq_none (by omega)]
          exact Int.le_refl 0
      omega
  · exact h x hx
theorem used_bumps : ∀ (ts : List Tok) (xs : List Int), (∀ x, x ∈ xs → 0 ≤ x) → used (ts.foldl bump xs) ≤ used xs + ts.length ∧ ∀ x, x ∈ ts.foldl bump xs → 0 ≤ x
  | [], xs, h => ⟨by simp, h⟩
  | t :: ts, xs, h => by
    rw [List.foldl_cons]
    have h1 := used_bumps ts (bump xs t) (bump_nonneg h t)
    refine ⟨?_, h1.2⟩
    have h2 : used (bump xs t) ≤ used xs + 1 := by
      unfold bump
      split
      · exact used_set xs _ _ h
      · omega
    have := h1.1
    rw [List.length_cons]
    push_cast
    omega
theorem used_zero : ∀ n, used (List.replicate n 0) = 0
  | 0 => rfl
  | n + 1 => by rw [List.replicate_succ, used_cons, used_zero n]; rfl
theorem used_Freq (ts : List Tok) : used (FreqT ts) ≤ ts.length + 1 := by
  obtain ⟨h1, h2⟩ := used_bumps ts (List.replicate 289 0) (fun x hx => by rw [List.eq_of_mem_replicate hx]; exact Int.le_refl 0)
  have h3 := used_set _ 288 1 h2
  rw [used_zero] at h1
  unfold FreqT
  omega
theorem usedK_LenT {ts : List Tok} (hn : ts.length ≤ 1000000) : usedK (LenT ts) ≤ ts.length + 1 := by
  obtain ⟨_, hl, _, hb, hz⟩ := LenT_good ts hn
  have h1 := usedK_used (LenT ts) (FreqT ts) (by rw [hl, length_FreqT]) (fun x hx => by obtain ⟨j, _, rfl⟩ := mem_getD hx; exact (FreqT_get ts j).1) (fun j hj => by
    rw [length_FreqT] at hj
    have h2 := hz j hj
    have h3 := (hb j).1
    have h4 := (FreqT_get ts j).1
    omega)
  have := used_Freq ts
  omega
theorem Wd_tab_eq {L : List Int} : ∀ k, k ≤ L.length → (Wd (tabTo L k) : Int) = 13 * usedK (L.take k)
  | 0, _ => by simp [tabTo, Wd, usedK]
  | k + 1, h => by
    have := Wd_tab_eq (L := L) k (by omega)
    rw [tabTo_succ, Wd_append, usedK_take_succ (by omega)]
    split
    · have e : Wd [⟨(k : Int), 9⟩, ⟨L.getD k 0, 4⟩] = 13 := rfl
      rw [e]; push_cast; omega
    · have e : Wd [] = 0 := rfl
      rw [e]; push_cast; omega
/-- A text of few tokens is squeezed to few bits. -/
theorem Wd_few {ts : List Tok} (hn : ts.length ≤ 4096) : Wd (sqP ts) ≤ 37 * ts.length + 37 := by
  obtain ⟨_, hl, hc, _, _⟩ := LenT_good ts (by omega)
  have h1 := Wd_tab_eq (L := LenT ts) 289 (by omega)
  rw [List.take_of_length_le (by omega)] at h1
  have hu := usedK_LenT (ts := ts) (by omega)
  have h2 := Wd_body hc ts
  have h3 : Wd [P42 (LenT ts) 288] ≤ 15 := by
    obtain ⟨h3, h4⟩ := okP_any hc 288
    have := h3.2.1
    rw [Wd_cons]
    have e : Wd [] = 0 := rfl
    rw [e]; omega
  rw [sqP_eq, Wd_append, Wd_append, Wd_pre0]
  omega
theorem bytes_nums {xs : List Int} (h : ∀ x, x ∈ xs → 0 ≤ x ∧ x < 256) : bytesS (strOfNums xs) = xs := by
  apply List.ext_getElem?
  intro i
  by_cases hi : i < xs.length
  · rw [bytesS_get (by rw [size_nums]; exact hi), by8_nums _ h, List.getElem?_eq_getElem hi, List.getD_eq_getElem?_getD, List.getElem?_eq_getElem hi]
    have := h xs[i] (List.getElem_mem hi)
    show some ((xs[i].toNat : Nat) : Int) = some xs[i]
    congr 1
    omega
  · rw [List.getElem?_eq_none (by rw [bytesS_len, size_nums]; omega), List.getElem?_eq_none (by omega)]
theorem expand_f {s : ByteArray} (hs : s.size ≤ 4096) (most : Int) (hm : (s.size : Int) ≤ most) : squeeze_Expand.f (Sqz s).1 most = some (strOfNums (bytesS s), 0) := by
  obtain ⟨e1, e2⟩ := Sqz_ok hs
  have hl := SplitT_len s
  have hw := Wd_few (ts := SplitT s) (by omega)
  unfold squeeze_Expand.f
  rw [if_pos (by rw [e1]; show ByteArray.size _ ≤ _; rw [e2]; omega)]
  exact expand_back hs most hm 100000 (by omega)

end Go.Proofs.Ythgijppajindpaa

namespace Go.Proofs.Ythgijppajindpaa.Pure
open Go.RowKit Go.Proofs.Ythgijppajindpaa.Q9 Go.Proofs.Ythgijppajindpaa.K7 Go.Proofs.YthgijppajindpaaW.PrintWords Go.Proofs.YthgijppajindpaaW.PrintLast

theorem few_loop (c a1 : Int) (n : Nat) (hn : wrap64 (100 + Int.tmod (wrap64 a1) 900) = (n : Int)) (h1 : 100 ≤ n) (h2 : n < 1000) (hc0 : 0 ≤ c) (hc1 : c < 256) (d : Nat) : ∀ i, i + d = n → Ev fun k => hanaperlaw09_SqueezeFew.l0 k c a1 (List.replicate i c) (i : Int) = some true := by
  induction d with
  | zero =>
    intro i hi
    have : i = n := by omega
    subst this
    refine Ev.one fun k => ?_
    obtain ⟨hs, hrun⟩ := by8_run c hc0 hc1 i
    have hb : ∀ x, x ∈ List.replicate i c → 0 ≤ x ∧ x < 256 := fun x hx => by rw [List.eq_of_mem_replicate hx]; exact ⟨hc0, hc1⟩
    have hx := expand_f (s := strOfNums (List.replicate i c)) (by rw [hs]; omega) (i : Int) (by rw [hs]; exact Int.le_refl _)
    rw [bytes_nums hb] at hx
    obtain ⟨e1, e2⟩ := Sqz_ok (s := strOfNums (List.replicate i c)) (by rw [hs]; omega)
    have hl := SplitT_run hrun
    have hw := Wd_few (ts := SplitT (strOfNums (List.replicate i c))) (by rw [hs] at hl; omega)
    rw [hs] at hl
    have hz := expand_f (s := (⟨#[]⟩ : ByteArray)) (by decide) 0 (by decide)
    have hz2 := (Sqz_ok (s := (⟨#[]⟩ : ByteArray)) (by decide)).1
    rw [hanaperlaw09_SqueezeFew.l0, hn, if_neg (by omega), squeeze_Squeeze.f, Option.bind_some, List.length_replicate, hx, Option.bind_some, squeeze_Squeeze.f, Option.bind_some, hz, Option.bind_some, hz2, e1]
    dsimp only
    rw [if_pos rfl, if_pos rfl, if_pos rfl, if_pos (by rw [e2]; omega), if_pos rfl, if_pos (by decide +kernel), if_pos rfl, shown9]
    rfl
  | succ d ih =>
    intro i hi
    have hw : wrap64 ((i : Int) + 1) = ((i + 1 : Nat) : Int) := by rw [w64 (by omega)]; rfl
    refine (ih (i + 1) (by omega)).succ fun k hk => ?_
    rw [hanaperlaw09_SqueezeFew.l0, hn, if_pos (by omega), List.length_replicate, if_pos (by omega), hw, ← List.replicate_succ']
    exact hk

theorem SqueezeFew : hanaperlaw09_SqueezeFew.Pure := by
  intro a0 a1 h0 h1
  simp [Lit.wf, IntKind.min, IntKind.max, IntKind.signed, IntKind.bits] at h0 h1
  have g0 : 0 ≤ a0 ∧ a0 ≤ 255 := by omega
  have g1 : 0 ≤ a1 ∧ a1 ≤ 65535 := by omega
  have hm : Int.tmod (wrap64 a1) 900 = a1 % 900 := by rw [w64 (by omega), Int.tmod_eq_emod_of_nonneg g1.1]
  obtain ⟨n, hn⟩ : ∃ n : Nat, a1 % 900 = n := ⟨(a1 % 900).toNat, by omega⟩
  have hk := few_loop a0 a1 (100 + n) (by rw [hm, hn, w64 (by omega)]; omega) (by omega) (by omega) g0.1 (by omega) (100 + n) 0 (by omega)
  exact hk.ex

end Go.Proofs.Ythgijppajindpaa.Pure
