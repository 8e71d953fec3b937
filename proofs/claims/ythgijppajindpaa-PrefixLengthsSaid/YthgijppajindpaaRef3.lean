/-
  The document's own lengths, as they are printed, are the plain ones.
-/
import Derived.Test.YthgijppajindpaaRef2
import Derived.Test.YthgijppajindpaaL7x6
set_option linter.unusedVariables false
set_option linter.unusedSimpArgs false
namespace Go.Proofs.Ythgijppajindpaa
open Go.RowKit Go.Proofs.YthgijppajindpaaW.PrintWords Go.Proofs.YthgijppajindpaaW.PrintMore Go.Proofs.Ythgijppajindpaa.L7

theorem setAll_other : ∀ (ps : List (Nat × Nat)) (xs : List Int) (s : Nat), s ∉ ps.map Prod.fst → (setAll ps xs).getD s 0 = xs.getD s 0
  | [], xs, s, _ => rfl
  | p :: ps, xs, s, h => by
    have e : setAll (p :: ps) xs = setAll ps (xs.set p.1 (max (p.2 : Int) 1)) := rfl
    simp only [List.map_cons, List.mem_cons, not_or] at h
    rw [e, setAll_other ps _ s h.2, getD_set, if_neg (by omega)]

theorem setAll_get : ∀ (ps : List (Nat × Nat)) (xs : List Int), (ps.map Prod.fst).Nodup → ∀ p, p ∈ ps → p.1 < xs.length → (setAll ps xs).getD p.1 0 = max (p.2 : Int) 1
  | [], xs, _, p, hp, _ => by simp at hp
  | q :: ps, xs, hn, p, hp, hl => by
    have e : setAll (q :: ps) xs = setAll ps (xs.set q.1 (max (q.2 : Int) 1)) := rfl
    obtain ⟨n1, n2⟩ := List.nodup_cons.1 (show (q.1 :: ps.map Prod.fst).Nodup from hn)
    rw [e]
    rcases List.mem_cons.1 hp with rfl | hp
    · rw [setAll_other ps _ _ n1, getD_set, if_pos ⟨rfl, hl⟩]
    · exact setAll_get ps _ n2 p hp (by rw [List.length_set]; exact hl)

theorem ext_getD {xs ys : List Int} (hl : xs.length = ys.length) (h : ∀ s, s < xs.length → xs.getD s 0 = ys.getD s 0) : xs = ys := by
  apply List.ext_getElem hl
  intro i h1 h2
  have := h i h1
  rwa [List.getD_eq_getElem?_getD, List.getD_eq_getElem?_getD, List.getElem?_eq_getElem h1, List.getElem?_eq_getElem h2] at this

theorem syms_eq (l : List Int) : syms l = (leafs l).flatMap sy := by
  unfold syms
  have : ∀ t, t ∈ leafs l → ∃ w s, t = .leaf w s := fun t ht => by
    unfold leafs at ht
    obtain ⟨p, _, rfl⟩ := List.mem_map.1 ht
    exact ⟨_, _, rfl⟩
  generalize leafs l = F at this
  induction F with
  | nil => rfl
  | cons t F ih =>
    obtain ⟨w, s, rfl⟩ := this t (by simp)
    rw [List.map_cons, List.flatMap_cons, ih (fun t ht => this t (by simp [ht]))]
    rfl

theorem syms_lt (l : List Int) : ∀ s, s ∈ syms l → s < l.length := by
  intro s hs
  unfold syms leafs at hs
  rw [List.map_map] at hs
  obtain ⟨p, hp, rfl⟩ := List.mem_map.1 hs
  have h1 := (List.mem_filter.1 hp).1
  obtain ⟨x, i⟩ := p
  have := List.snd_lt_add_of_mem_zipIdx h1
  simpa [symOf] using this

theorem zip_syms (l : List Int) : ((syms l).zip (deps l.length (wts l))).map Prod.fst = syms l := by
  rw [List.map_fst_zip]
  rw [length_deps]
  simp [syms, wts]

theorem wts_pos (l : List Int) : ∀ x, x ∈ wts l → 0 < x := by
  intro x hx
  unfold wts leafs at hx
  rw [List.map_map] at hx
  obtain ⟨p, hp, rfl⟩ := List.mem_map.1 hx
  have := (List.mem_filter.1 hp).2
  simp only [decide_eq_true_eq] at this
  exact this

/-- The depth of a symbol, plain. -/
theorem dpt_get (l : List Int) {s d : Nat} (h : (s, d) ∈ (syms l).zip (deps l.length (wts l))) : (dpt l).getD s 0 = max (d : Int) 1 := by
  have hs : s ∈ syms l := by
    rw [← zip_syms l]
    exact List.mem_map_of_mem h
  exact setAll_get _ _ (by rw [zip_syms]; exact (leafs_syms l).imp (fun h e => by omega)) (s, d) h (by rw [List.length_replicate]; exact syms_lt l s hs)

theorem dpt_none (l : List Int) {s : Nat} (h : s ∉ syms l) : (dpt l).getD s 0 = 0 := by
  unfold dpt
  rw [setAll_other _ _ _ (by rw [zip_syms]; exact h)]
  by_cases hs : s < l.length
  · simp [List.getD_eq_getElem?_getD, List.getElem?_replicate, hs]
  · rw [List.getD_eq_getElem?_getD, List.getElem?_eq_none (by simp; omega)]
    rfl

theorem zip_mem (l : List Int) {s : Nat} (h : s ∈ syms l) : ∃ d, (s, d) ∈ (syms l).zip (deps l.length (wts l)) := by
  rw [← zip_syms l] at h
  obtain ⟨p, hp, rfl⟩ := List.mem_map.1 h
  exact ⟨p.2, hp⟩

theorem zip_lay (l : List Int) (p : Nat × Nat) : p ∈ (syms l).zip (deps l.length (wts l)) ↔ ∃ t, t ∈ procT l.length (leafs l) ∧ p ∈ t.lay 0 := by
  have h := procT_lay l.length (leafs l) (by have := leafs_le l; omega)
  have e : (((leafs l).zip (deps l.length ((leafs l).map Tr.wt))).flatMap fun p => p.1.lay p.2) = (syms l).zip (deps l.length (wts l)) := leafs_lay l _
  rw [e] at h
  rw [← h.mem_iff, List.mem_flatMap]

theorem leafs_inv (l : List Int) : InvD l.length (leafs l) (List.replicate l.length 0) := by
  refine ⟨by simp, fun t ht p hp => ?_, fun s _ => ?_, ?_⟩
  · have hs : p.1 ∈ syms l := by
      rw [syms_eq]
      exact List.mem_flatMap.2 ⟨t, ht, List.mem_map_of_mem hp⟩
    refine ⟨syms_lt l _ hs, ?_⟩
    unfold leafs at ht
    obtain ⟨q, _, rfl⟩ := List.mem_map.1 ht
    simp only [Tr.lay, List.mem_singleton] at hp
    subst hp
    simp [List.getD_eq_getElem?_getD, List.getElem?_replicate]
    split <;> rfl
  · by_cases hs : s < l.length
    · simp [List.getD_eq_getElem?_getD, List.getElem?_replicate, hs]
    · rw [List.getD_eq_getElem?_getD, List.getElem?_eq_none (by simp; omega)]
      rfl
  · rw [← syms_eq]
    exact (leafs_syms l).imp (fun h e => by omega)

/-- Behind all the merging the row of depths is the plain one. -/
theorem inv_dpt (l : List Int) (h2 : (leafs l).length ≠ 1) {out : List Int} (h : InvD l.length (procT l.length (leafs l)) out) (hperm : ((procT l.length (leafs l)).flatMap sy).Perm (syms l)) : out = dpt l := by
  obtain ⟨o1, o2, o3, o4⟩ := h
  refine ext_getD (by rw [o1, length_dpt]) (fun s hs => ?_)
  by_cases hm : s ∈ syms l
  · obtain ⟨d, hd⟩ := zip_mem l hm
    obtain ⟨t, ht, hp⟩ := (zip_lay l (s, d)).1 hd
    rw [(o2 t ht _ hp).2, dpt_get l hd]
    have h0 : (leafs l).length ≠ 0 := fun e => by
      have : syms l = [] := by unfold syms; rw [List.eq_nil_of_length_eq_zero e]; rfl
      rw [this] at hm; simp at hm
    have hz : ∃ x, (x, d) ∈ zd l.length (wts l) := by
      obtain ⟨i, hi, he⟩ := List.getElem_of_mem hd
      have hi2 : i < (zd l.length (wts l)).length := by
        rw [length_zd]
        rw [List.length_zip, length_deps] at hi
        omega
      refine ⟨((zd l.length (wts l))[i]).1, ?_⟩
      have : (zd l.length (wts l))[i] = (((zd l.length (wts l))[i]).1, d) := by
        have e2 : ((zd l.length (wts l))[i]).2 = d := by
          simp only [List.getElem_zip, Prod.mk.injEq] at he
          simp only [zd, List.getElem_zip]
          exact he.2
        rw [← e2]
      rw [← this]
      exact List.getElem_mem hi2
    obtain ⟨x, hz⟩ := hz
    have hle := leafs_le l
    have hl : (wts l).length = (leafs l).length := by simp [wts]
    have := zd_pos l.length (wts l) (by omega) (by omega) _ hz
    dsimp only at this ⊢
    omega
  · rw [dpt_none l hm]
    exact o3 s (fun h => hm (hperm.mem_iff.1 h))

theorem procT_syms (c : Nat) : ∀ F : List Tr, F.length ≤ c + 1 → ((procT c F).flatMap sy).Perm (F.flatMap sy) := by
  intro F h
  have h1 := (procT_lay c F h).map Prod.fst
  rw [List.map_flatMap, List.map_flatMap] at h1
  refine h1.trans ?_
  have : ∀ (F : List Tr) (ds : List Nat), ds.length = F.length → ((F.zip ds).flatMap fun p => (p.1.lay p.2).map Prod.fst) = F.flatMap sy := by
    intro F
    induction F with
    | nil => intro ds _; rfl
    | cons t F ih =>
      intro ds hd
      cases ds with
      | nil => simp at hd
      | cons d ds =>
        rw [List.zip_cons_cons, List.flatMap_cons, List.flatMap_cons, ih ds (by simpa using hd), lay_fst]
  rw [this _ _ (by rw [length_deps]; simp)]

theorem leafs_sum (l : List Int) (h : ∀ x, x ∈ l → 0 ≤ x ∧ x ≤ 1048576) : ((leafs l).map Tr.wt).sum ≤ 1048576 * l.length ∧ ∀ t, t ∈ leafs l → 0 ≤ t.wt := by
  refine ⟨?_, fun t ht => by have := wts_pos l t.wt (List.mem_map_of_mem ht); omega⟩
  have hle : ∀ x, x ∈ wts l → x ≤ 1048576 := by
    intro x hx
    unfold wts leafs at hx
    rw [List.map_map] at hx
    obtain ⟨p, hp, rfl⟩ := List.mem_map.1 hx
    have h1 := (List.mem_filter.1 hp).1
    obtain ⟨x, i⟩ := p
    exact (h x (List.fst_mem_of_mem_zipIdx h1)).2
  have key : ∀ xs : List Int, (∀ x, x ∈ xs → x ≤ 1048576) → xs.sum ≤ 1048576 * xs.length := by
    intro xs
    induction xs with
    | nil => intro _; simp
    | cons x xs ih => intro h; have := h x (by simp); have := ih (fun y hy => h y (by simp [hy])); simp; omega
  have h1 := key (wts l) hle
  have h2 : (wts l).length ≤ l.length := by simp [wts]; exact leafs_le l
  show (wts l).sum ≤ _
  omega

theorem depths_ev (l : List Int) (hn : l.length ≤ 300) (h : ∀ x, x ∈ l → 0 ≤ x ∧ x ≤ 1048576) : Ev fun k => hanaperref07_depths.f k l = some (dpt l) := by
  have hle := leafs_le l
  have hs := leafs_sum l h
  -- what follows the first loop
  have fin : Ev fun k => hanaperref07_depths.l0 k l (List.replicate l.length 0) ((leafs l).map encT) (l.length : Int) = some (dpt l) := by
    by_cases h1 : (leafs l).length = 1
    · obtain ⟨t, ht⟩ := List.length_eq_one_iff.1 h1
      have hmem : t ∈ leafs l := by rw [ht]; simp
      have hlf : ∃ w s, t = .leaf w s := by
        unfold leafs at hmem
        obtain ⟨p, _, rfl⟩ := List.mem_map.1 hmem
        exact ⟨_, _, rfl⟩
      obtain ⟨w, s, rfl⟩ := hlf
      have hsy : syms l = [s] := by unfold syms; rw [ht]; rfl
      have hsl := syms_lt l s (by rw [hsy]; simp)
      have hd : dpt l = (List.replicate l.length 0).set s 1 := by
        unfold dpt
        rw [hsy]
        have : wts l = [w] := by unfold wts; rw [ht]; rfl
        rw [this]
        have e : deps l.length [w] = [0] := by cases l.length <;> rfl
        rw [e]
        rfl
      have hE : Ev fun k => hanaperref07_depths.l1 k ((List.replicate l.length 0).set s 1) ((leafs l).map encT) = some (dpt l) := by
        refine Ev.one fun k => ?_
        rw [hanaperref07_depths.l1, if_neg (by rw [ht]; simp), hd]
      refine (hE.succ (q := fun k => hanaperref07_depths.j1 k ((List.replicate l.length 0).set s 1) ((leafs l).map encT) = some (dpt l)) fun k hk => ?_).succ fun k hk => ?_
      · rw [hanaperref07_depths.j1]; exact hk
      · have hg : rd_T121 ((leafs l).map encT) 0 = ⟨w, [(s : Int)]⟩ := by rw [ht]; rfl
        rw [hanaperref07_depths.l0, if_neg (by omega), if_pos (by rw [ht]; rfl), if_pos (by rw [ht]; simp), hg]
        dsimp only
        have hr : rd [(s : Int)] 0 = (s : Int) := rfl
        rw [if_pos (by simp), hr, if_pos (by omega), if_pos (by simp; omega)]
        exact hk
    · obtain ⟨out, hI, hE⟩ := l1_ev l.length hn l.length (leafs l) (List.replicate l.length 0) 0 (by omega) (by omega) (leafs_inv l) (fun s => by
        have := (leafs_inv l).2.2.1
        by_cases hs : s < l.length
        · simp [List.getD_eq_getElem?_getD, List.getElem?_replicate, hs]
        · rw [List.getD_eq_getElem?_getD, List.getElem?_eq_none (by simp; omega)]; simp) (by omega) (by rw [← syms_eq]; simp [syms]; omega) hs.2 (by omega)
      have := inv_dpt l h1 hI (by rw [syms_eq]; exact procT_syms _ _ (by omega))
      rw [this] at hE
      refine (hE.succ (q := fun k => hanaperref07_depths.j1 k (List.replicate l.length 0) ((leafs l).map encT) = some (dpt l)) fun k hk => ?_).succ fun k hk => ?_
      · rw [hanaperref07_depths.j1]; exact hk
      · rw [hanaperref07_depths.l0, if_neg (by omega), if_neg (by simp; omega)]
        exact hk
  have key : ∀ d j, j + d = l.length → Ev fun k => hanaperref07_depths.l0 k l (List.replicate j 0) ((leafs (l.take j)).map encT) (j : Int) = some (dpt l) := by
    intro d
    induction d with
    | zero =>
      intro j hj
      have : j = l.length := by omega
      subst this
      rw [List.take_length]
      exact fin
    | succ d ih =>
      intro j hj
      have hjl : j < l.length := by omega
      have hw : wrap64 ((j : Int) + 1) = ((j + 1 : Nat) : Int) := by rw [w64 (by omega)]; rfl
      have hlk : (l.take j).length = j := by rw [List.length_take]; omega
      have hlj := leafs_le (l.take j)
      rw [hlk] at hlj
      refine (ih (j + 1) (by omega)).succ fun k hk => ?_
      rw [take_snoc hjl, leafs_snoc, hlk, List.replicate_succ'] at hk
      rw [hanaperref07_depths.l0, if_pos (by omega), if_pos (by simp; omega), Option.bind_some, if_pos (by omega)]
      have hr : rd l (j : Int) = l.getD j 0 := rfl
      rw [hr]
      by_cases hp : 0 < l.getD j 0
      · rw [if_pos hp, if_pos (by simp; omega), hw]
        rw [if_pos hp, List.map_append] at hk
        exact hk
      · rw [if_neg hp, hw]
        rw [if_neg hp, List.append_nil] at hk
        exact hk
  exact (key l.length 0 (by omega)).imp fun k hk => by rw [hanaperref07_depths.f]; simpa [leafs] using hk

/-! ### Lengths -/
theorem max_loop (xs : List Int) (hx : xs.length ≤ 300) (x1 : Int) (f : List Int) (r : Option (List Int × Int)) (hk1 : 0 ≤ x1)
    (hgood : fits x1 xs = true → r = some (xs, 0)) (hbad : fits x1 xs = false → Ev fun k => hanaperref07_Lengths.l3 k x1 f 0 = r) (d : Nat) : ∀ j (m : Int), j + d = xs.length → decide (m ≤ x1) = fits x1 (xs.take j) →
    Ev fun k => hanaperref07_Lengths.l2 k x1 f xs m (j : Int) = r := by
  induction d with
  | zero =>
    intro j m hj hm
    have : j = xs.length := by omega
    subst this
    rw [List.take_length] at hm
    by_cases h : m ≤ x1
    · rw [hgood (by rw [← hm]; simpa using h)]
      refine Ev.one fun k => ?_
      rw [hanaperref07_Lengths.l2, if_neg (by omega), if_pos h]
    · refine (hbad (by rw [← hm]; simpa using h)).succ fun k hk => ?_
      rw [hanaperref07_Lengths.l2, if_neg (by omega), if_neg h]
      exact hk
  | succ d ih =>
    intro j m hj hm
    have hjl : j < xs.length := by omega
    have hw : wrap64 ((j : Int) + 1) = ((j + 1 : Nat) : Int) := by rw [w64 (by omega)]; rfl
    refine (ih (j + 1) (mx m (rd xs (j : Int))) (by omega) ?_).succ fun k hk => ?_
    · have hr : rd xs (j : Int) = xs.getD j 0 := rfl
      rw [take_snoc hjl, hr]
      unfold fits mx at *
      rw [List.all_append, ← hm]
      simp only [List.all_cons, List.all_nil, Bool.and_true]
      rw [← Bool.decide_and]
      apply decide_eq_decide.2
      split <;> omega
    · rw [hanaperref07_Lengths.l2, if_pos (by omega), if_pos (by omega), hw]
      exact hk

theorem halve_loop (f : List Int) (hf : f.length ≤ 300) (hb : ∀ x, x ∈ f → 0 ≤ x ∧ x ≤ 1048576) (x1 : Int) (r : Option (List Int × Int)) (h : Ev fun k => hanaperref07_Lengths.l1 k x1 (halve f) = r) (d : Nat) : ∀ j, j + d = f.length →
    Ev fun k => hanaperref07_Lengths.l3 k x1 (halfway j f) (j : Int) = r := by
  induction d with
  | zero =>
    intro j hj
    have : j = f.length := by omega
    subst this
    refine h.succ fun k hk => ?_
    rw [hanaperref07_Lengths.l3, if_neg (by rw [length_halfway]; omega), halfway_all]
    exact hk
  | succ d ih =>
    intro j hj
    have hjl : j < f.length := by omega
    have hw : wrap64 ((j : Int) + 1) = ((j + 1 : Nat) : Int) := by rw [w64 (by omega)]; rfl
    refine (ih (j + 1) (by omega)).succ fun k hk => ?_
    have hr : rd (halfway j f) (j : Int) = f.getD j 0 := halfway_getD j f hjl
    have hx := hb (f.getD j 0) (by rw [List.getD_eq_getElem?_getD, List.getElem?_eq_getElem hjl]; exact List.getElem_mem hjl)
    rw [hanaperref07_Lengths.l3, if_pos (by rw [length_halfway]; omega), if_pos (by omega), hr, hw]
    have hs := halfway_set j f hjl
    by_cases hp : f.getD j 0 > 0
    · have hw1 : wrap64 (f.getD j 0 + 1) = f.getD j 0 + 1 := w64 (by omega)
      rw [if_pos hp, hw1, Int.tdiv_eq_ediv_of_nonneg (by omega), w64 (by omega)]
      show hanaperref07_Lengths.l3 k x1 ((halfway j f).set j _) _ = r
      rw [hs]
      exact hk
    · rw [if_neg hp]
      have e : (f.getD j 0 + 1) / 2 = f.getD j 0 := by omega
      rw [e] at hs
      rw [← hs] at hk
      have : (halfway j f).set j (f.getD j 0) = halfway j f := by
        refine ext_getD (by simp) (fun s _ => ?_)
        rw [getD_set]
        split
        · rename_i h; rw [← h.1]; exact (halfway_getD j f hjl).symm
        · rfl
      rw [this] at hk
      exact hk

theorem l1_lens (x1 : Int) (h1 : 1 ≤ x1) (q : Nat) : ∀ f : List Int, f.length ≤ 300 → q ≤ 20 → (∀ x, x ∈ f → 0 ≤ x ∧ x ≤ 2 ^ q) → used f ≤ 2 ^ x1.toNat → Ev fun k => hanaperref07_Lengths.l1 k x1 f = some (lens q x1 f, 0) := by
  induction q with
  | zero =>
    intro f hf hq hb hu
    have hb' : ∀ x, x ∈ f → 0 ≤ x ∧ x ≤ 1048576 := fun x hx => by have := hb x hx; simp at this; omega
    have hfit : fits x1 (dpt f) = true := by
      have := dpt_ones f x1.toNat (by omega) (fun x hx => by simpa using hb x hx) hu
      rwa [show ((x1.toNat : Nat) : Int) = x1 by omega] at this
    have hm := max_loop (dpt f) (by rw [length_dpt]; exact hf) x1 f (some (dpt f, 0)) (by omega) (fun _ => rfl) (fun h => by rw [hfit] at h; cases h) (dpt f).length 0 0 (by omega) (by simp [fits]; omega)
    refine ((depths_ev f hf hb').and hm).succ fun k hk => ?_
    rw [hanaperref07_Lengths.l1, hk.1, Option.bind_some]
    exact hk.2
  | succ q ih =>
    intro f hf hq hb hu
    have hb' : ∀ x, x ∈ f → 0 ≤ x ∧ x ≤ 1048576 := fun x hx => by
      have := hb x hx
      have h2 : (2 : Int) ^ (q + 1) ≤ 2 ^ 20 := by
        have : (2 : Nat) ^ (q + 1) ≤ 2 ^ 20 := Nat.pow_le_pow_right (by omega) hq
        exact_mod_cast this
      have h4 : (2 : Int) ^ 20 = 1048576 := by decide
      omega
    have h2 := ih (halve f) (by rw [length_halve]; exact hf) (by omega) (halve_le f q hb) (by rw [used_halve f (fun x hx => (hb x hx).1)]; exact hu)
    have hm := max_loop (dpt f) (by rw [length_dpt]; exact hf) x1 f (some (lens (q + 1) x1 f, 0)) (by omega) (fun h => by rw [lens, if_pos h]) (fun h => by
      rw [lens, if_neg (by rw [h]; decide)]
      have := halve_loop f hf hb' x1 _ h2 f.length 0 (by omega)
      rw [halfway_zero] at this
      exact this) (dpt f).length 0 0 (by omega) (by simp [fits]; omega)
    refine ((depths_ev f hf hb').and hm).succ fun k hk => ?_
    rw [hanaperref07_Lengths.l1, hk.1, Option.bind_some]
    exact hk.2

theorem used_take_le (l : List Int) (h : freqOk l = true) : ∀ j, 0 ≤ used (l.take j) ∧ used (l.take j) ≤ j := by
  intro j
  induction j with
  | zero => simp [used]
  | succ j ih =>
    by_cases hj : j < l.length
    · rw [take_snoc hj, used_snoc]
      have := (freqOk_iff l).1 h j
      omega
    · rw [List.take_of_length_le (by omega)] at ih ⊢
      omega

theorem freqOk_take {l : List Int} (h : freqOk l = true) (j : Nat) : freqOk (l.take j) = true := by
  unfold freqOk at *
  rw [List.all_eq_true] at *
  exact fun x hx => h x (List.mem_of_mem_take hx)

theorem ref_Lengths (l : List Int) (a : Int) : Ev fun k => hanaperref07_Lengths.f k l a = some (Lens l a) := by
  have err : Lens l a = ([], 1) → Ev (fun k => hanaperref07_Lengths.j0 k l a true = some (Lens l a)) := fun h => by
    rw [h]
    exact Ev.one fun k => by rw [hanaperref07_Lengths.j0, if_pos rfl]
  by_cases h300 : l.length ≤ 300
  · by_cases h1 : 1 ≤ a
    · by_cases h15 : a ≤ 15
      · -- the loop
        have hpow : ∃ m : Nat, (2 : Int) ^ a.toNat = (m : Int) ∧ m ≤ 32768 := by
          refine ⟨2 ^ a.toNat, by push_cast; rfl, ?_⟩
          exact (Nat.pow_le_pow_right (by omega) (show a.toNat ≤ 15 by omega) : (2 : Nat) ^ a.toNat ≤ 2 ^ 15)
        obtain ⟨m, hm, hm2⟩ := hpow
        have hshl : shl .i64 1 a = 2 ^ a.toNat := by
          unfold shl
          rw [Nat.min_eq_left (by show a.toNat ≤ 64; omega), Int.one_mul, IntKind.wrap_i64, hm]
          omega
        have key : ∀ d j, j + d = l.length → freqOk (l.take j) = true → Ev fun k => hanaperref07_Lengths.l0 k l a (used (l.take j)) (l.take j) (j : Int) = some (Lens l a) := by
          intro d
          induction d with
          | zero =>
            intro j hj hok
            have : j = l.length := by omega
            subst this
            rw [List.take_length] at hok ⊢
            by_cases hu : used l ≤ 2 ^ a.toNat
            · have hL : Lens l a = (lens 20 a l, 0) := by rw [Lens, if_pos ⟨h300, h1, h15, hok, hu⟩]
              rw [hL]
              refine (l1_lens a h1 20 l h300 (Nat.le_refl _) (fun x hx => ?_) hu).succ fun k hk => ?_
              · obtain ⟨j, _, rfl⟩ := mem_getD hx
                exact (freqOk_iff l).1 hok j
              · rw [hanaperref07_Lengths.l0, if_neg (by omega), if_pos (by omega), hshl, if_neg (by omega)]
                exact hk
            · have hL : Lens l a = ([], 1) := by rw [Lens, if_neg (fun h => hu h.2.2.2.2)]
              rw [hL]
              refine Ev.one fun k => ?_
              rw [hanaperref07_Lengths.l0, if_neg (by omega), if_pos (by omega), hshl, if_pos (by omega)]
          | succ d ih =>
            intro j hj hok
            have hjl : j < l.length := by omega
            have hw : wrap64 ((j : Int) + 1) = ((j + 1 : Nat) : Int) := by rw [w64 (by omega)]; rfl
            have hr : rd l (j : Int) = l.getD j 0 := rfl
            have hlk : (l.take j).length = j := by rw [List.length_take]; omega
            have hub : 0 ≤ used (l.take j) ∧ used (l.take j) ≤ j := by
              have := used_take_le (l.take j) hok j
              rwa [List.take_take, Nat.min_self] at this
            by_cases hx : 0 ≤ l.getD j 0 ∧ l.getD j 0 ≤ 1048576
            · have ok2 : freqOk (l.take (j + 1)) = true := by rw [take_snoc hjl, freqOk_snoc, hok, decide_eq_true hx]; rfl
              have h2 := ih (j + 1) (by omega) ok2
              rw [take_snoc hjl, used_snoc] at h2
              have h3 : Ev fun k => hanaperref07_Lengths.j2 k l a (used (l.take j)) (l.take j) (j : Int) false = some (Lens l a) := h2.succ fun k hk => by
                rw [hanaperref07_Lengths.j2, if_neg (by decide), if_pos (by omega), if_pos (by omega), hr]
                by_cases hp : l.getD j 0 > 0
                · rw [if_pos hp, if_pos (by omega), hw, w64 (by omega)]
                  rw [show min (l.getD j 0) 1 = 1 by omega] at hk
                  exact hk
                · rw [if_neg hp, if_pos (by omega), hw]
                  rw [show min (l.getD j 0) 1 = 0 by omega, Int.add_zero] at hk
                  exact hk
              refine h3.succ fun k hk => ?_
              rw [hanaperref07_Lengths.l0, if_pos (by omega), if_pos (by omega), hr, if_neg (by omega), decide_eq_false (show ¬ l.getD j 0 > 1048576 by omega)]
              exact hk
            · have hL : Lens l a = ([], 1) := by rw [Lens, if_neg (fun h => hx ((freqOk_iff l).1 h.2.2.2.1 j))]
              rw [hL]
              have h3 : Ev fun k => hanaperref07_Lengths.j2 k l a (used (l.take j)) (l.take j) (j : Int) true = some (([] : List Int), (1 : Int)) := Ev.one fun k => by
                rw [hanaperref07_Lengths.j2, if_pos rfl]
              refine h3.succ fun k hk => ?_
              rw [hanaperref07_Lengths.l0, if_pos (by omega), if_pos (by omega), hr]
              by_cases hneg : l.getD j 0 < 0
              · rw [if_pos hneg]; exact hk
              · rw [if_neg hneg, decide_eq_true (show l.getD j 0 > 1048576 by omega)]
                exact hk
        have h0 := key l.length 0 (by omega) rfl
        have h1' : Ev fun k => hanaperref07_Lengths.j0 k l a false = some (Lens l a) := h0.succ fun k hk => by
          rw [hanaperref07_Lengths.j0, if_neg (by decide)]
          exact hk
        refine h1'.imp fun k hk => ?_
        rw [hanaperref07_Lengths.f, if_neg (by omega), if_neg (by omega), decide_eq_false (show ¬ a > 15 by omega)]
        exact hk
      · refine (err (by rw [Lens, if_neg (fun h => h15 h.2.2.1)])).imp fun k hk => ?_
        rw [hanaperref07_Lengths.f, if_neg (by omega), if_neg (by omega), decide_eq_true (show a > 15 by omega)]
        exact hk
    · refine (err (by rw [Lens, if_neg (fun h => h1 h.2.1)])).imp fun k hk => ?_
      rw [hanaperref07_Lengths.f, if_neg (by omega), if_pos (by omega)]
      exact hk
  · refine (err (by rw [Lens, if_neg (fun h => h300 h.1)])).imp fun k hk => ?_
    rw [hanaperref07_Lengths.f, if_pos (by omega)]
    exact hk

end Go.Proofs.Ythgijppajindpaa
