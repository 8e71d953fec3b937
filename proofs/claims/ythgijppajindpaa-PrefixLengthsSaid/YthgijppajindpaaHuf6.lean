/-
  prefix.grown hands back the document's depths.
-/
import Derived.Test.YthgijppajindpaaHuf4
import Derived.Test.YthgijppajindpaaHuf5
set_option linter.unusedVariables false
set_option linter.unusedSimpArgs false
namespace Go.Proofs.Ythgijppajindpaa
open Go.Sort Go.RowKit

/-- Places in the order of their weights are taken off one by one. -/
theorem ssort_of {β : Type} (W : β → Int) (num : β → Nat) (tr : β → Tr) (hW : ∀ x, (tr x).wt = W x) : ∀ (I J : List β), I.Perm J → J.Pairwise (fun x y => num x < num y) →
    I.Pairwise (fun x y => W x < W y ∨ (W x = W y ∧ num x < num y)) → SSort (J.map tr) (I.map tr)
  | [], J, hp, _, _ => by
    have : J = [] := List.Perm.eq_nil hp.symm
    subst this
    exact .nil
  | x :: I, J, hp, hJ, hI => by
    have hx : x ∈ J := hp.mem_iff.1 (by simp)
    obtain ⟨J1, J2, rfl⟩ := List.append_of_mem hx
    have hp' : I.Perm (J1 ++ J2) := (List.Perm.cons_inv (hp.trans List.perm_middle))
    obtain ⟨c1, c2⟩ := List.pairwise_cons.1 hI
    rw [List.pairwise_append] at hJ
    obtain ⟨j1, j2, j3⟩ := hJ
    obtain ⟨j2a, j2b⟩ := List.pairwise_cons.1 j2
    have t : tm Tr.wt (J1.map tr ++ tr x :: J2.map tr) = some ((J1.map tr).length, tr x, J1.map tr ++ J2.map tr) := by
      refine tm_append_right (fun g hg => ?_) (fun g hg => ?_)
      · obtain ⟨y, hy, rfl⟩ := List.mem_map.1 hg
        rw [hW, hW]
        have h1 := c1 y (hp'.mem_iff.2 (by simp [hy]))
        have h2 := j3 y hy x (by simp)
        omega
      · obtain ⟨y, hy, rfl⟩ := List.mem_map.1 hg
        rw [hW, hW]
        have h1 := c1 y (hp'.mem_iff.2 (by simp [hy]))
        omega
    rw [List.map_append, List.map_cons, List.map_cons]
    refine .cons t ?_
    rw [← List.map_append]
    refine ssort_of W num tr hW I (J1 ++ J2) hp' ?_ c2
    rw [List.pairwise_append]
    exact ⟨j1, j2b, fun a ha b hb => j3 a ha b (by simp [hb])⟩

theorem ltOf_iff (L : List BT) (i j : Fin L.length) : (ltOf (cfF L) i j = true ↔ wtB (L.get i) < wtB (L.get j)) ∧ (ltOf (cfF L) i j = false ↔ wtB (L.get j) ≤ wtB (L.get i)) := by
  have e : ltOf (cfF L) i j = decide (wtB (L.get i) - wtB (L.get j) < 0) := rfl
  rw [e, decide_eq_true_iff, decide_eq_false_iff_not]
  generalize wtB (L.get i) = a
  generalize wtB (L.get j) = b
  omega

theorem swo_ltOf (L : List BT) : SWO (ltOf (cfF L)) where
  irrefl x := (ltOf_iff L x x).2.2 (Int.le_refl _)
  trans x y z h1 h2 := (ltOf_iff L x z).1.2 (Int.lt_trans ((ltOf_iff L x y).1.1 h1) ((ltOf_iff L y z).1.1 h2))
  ntrans x y z h1 h2 := (ltOf_iff L x z).2.2 (Int.le_trans ((ltOf_iff L y z).2.1 h2) ((ltOf_iff L x y).2.1 h1))

theorem idF_get (n : Nat) [Inhabited (Fin n)] (q : Nat) (h : q < n) : (idF n)[q]! = ⟨q, h⟩ := by
  rw [getElem!_pos _ q (by rw [size_idF]; exact h)]
  simp [idF]

theorem ssort_get (M : List BT) [Inhabited (Fin M.length)] (dd : Array (Fin M.length)) (P : PermIn 0 M.length (idF M.length) dd) (S : SortedIn (lt2 (ltOf (cfF M)) fun i => i.1) 0 M.length dd) :
    SSort (M.map Prod.snd) ((dd.toList.map fun i => M.get i).map Prod.snd) := by
  have hsz : dd.size = M.length := by rw [P.1, size_idF]
  have hperm : dd.toList.Perm (idF M.length).toList := by
    have h := P.2.2
    have e1 : dd.extract 0 M.length = dd := by
      have := Array.extract_size (xs := dd)
      rw [hsz] at this
      exact this
    have e2 : (idF M.length).extract 0 M.length = idF M.length := by
      have := Array.extract_size (xs := idF M.length)
      rw [size_idF] at this
      exact this
    rw [e1, e2] at h
    exact h
  have hid : (idF M.length).toList = List.ofFn (fun i => i) := by simp [idF]
  rw [hid] at hperm
  have hJ : (List.ofFn (fun i : Fin M.length => i)).Pairwise (fun a b => a.1 < b.1) := by
    rw [List.pairwise_iff_getElem]
    intro i j hi hj hij
    simpa using hij
  have hnd : dd.toList.Nodup := by
    refine hperm.nodup_iff.2 ?_
    exact hJ.imp (fun h e => by rw [e] at h; exact absurd h (Nat.lt_irrefl _))
  have hI : dd.toList.Pairwise (fun a b => wtB (M.get a) < wtB (M.get b) ∨ (wtB (M.get a) = wtB (M.get b) ∧ a.1 < b.1)) := by
    rw [List.pairwise_iff_getElem]
    intro i j hi hj hij
    have hi' : i < dd.size := by simpa using hi
    have hj' : j < dd.size := by simpa using hj
    have h := S i j (Nat.zero_le _) hij (by omega)
    rw [getElem!_pos dd j hj', getElem!_pos dd i hi'] at h
    have hne : dd.toList[i] ≠ dd.toList[j] := (List.pairwise_iff_getElem.1 hnd) i j hi hj hij
    rw [Array.getElem_toList, Array.getElem_toList] at hne ⊢
    have hne2 : (dd[i]'hi').1 ≠ (dd[j]'hj').1 := fun e => hne (Fin.ext e)
    simp only [lt2, Bool.or_eq_false_iff, Bool.and_eq_false_iff, Bool.not_eq_false', decide_eq_false_iff_not] at h
    obtain ⟨h1, h2⟩ := h
    have h1 := (ltOf_iff M _ _).2.1 h1
    rcases h2 with h2 | h2
    · exact .inl ((ltOf_iff M _ _).1.1 h2)
    · rcases Int.lt_or_eq_of_le h1 with h1 | h1
      · exact .inl h1
      · exact .inr ⟨h1, by omega⟩
  have h := ssort_of (fun i : Fin M.length => wtB (M.get i)) (fun i => i.1) (fun i => (M.get i).2) (fun i => rfl) _ _ hperm hJ hI
  have e1 : (List.ofFn (fun i : Fin M.length => i)).map (fun i => (M.get i).2) = M.map Prod.snd := by
    rw [List.map_ofFn]
    apply List.ext_getElem
    · simp
    · intro i h1 h2
      simp
  rw [e1] at h
  rw [List.map_map]
  exact h

/-- The sorted leaves are the leaves, taken off in order. -/
theorem sortAll_ssort : ∀ L : List BT, SSort (L.map Prod.snd) ((sortAll L).map Prod.snd)
  | [] => .nil
  | x :: L => by
    obtain ⟨P, S⟩ := stable_spec (swo_ltOf (x :: L)) (fun i => i.1) (L.length + 1) (idF (L.length + 1)) (by rw [size_idF]; exact Nat.le_refl _) (fun q h => congrArg (fun i => i.1) (idF_get (x :: L).length q h))
    exact ssort_get (x :: L) _ P S

/-- Where the positive ones stand, and what they are. -/
def wts (l : List Int) : List Int := (leafs l).map Tr.wt
def symOf : Tr → Nat
  | .leaf _ s => s
  | .node _ _ _ => 0
def syms (l : List Int) : List Nat := (leafs l).map symOf

theorem leafs_syms (l : List Int) : (syms l).Pairwise (· < ·) := by
  unfold syms leafs
  rw [List.map_map, List.pairwise_map]
  refine List.Pairwise.filter _ ?_
  rw [List.pairwise_iff_getElem]
  intro i j hi hj hij
  simp [symOf]
  exact hij

theorem leafs_lay (l : List Int) : ∀ (ds : List Nat), (((leafs l).zip ds).flatMap fun p => p.1.lay p.2) = (syms l).zip ds := by
  unfold syms
  have : ∀ t, t ∈ leafs l → ∃ w s, t = .leaf w s := fun t ht => by
    unfold leafs at ht
    obtain ⟨p, _, rfl⟩ := List.mem_map.1 ht
    exact ⟨_, _, rfl⟩
  generalize leafs l = F at this
  induction F with
  | nil => intro ds; rfl
  | cons t F ih =>
    intro ds
    cases ds with
    | nil => rfl
    | cons d ds =>
      obtain ⟨w, s, rfl⟩ := this t (by simp)
      rw [List.zip_cons_cons, List.flatMap_cons, ih (fun t ht => this t (by simp [ht]))]
      rfl

/-- The document's depths. -/
def dpt (l : List Int) : List Int := setAll ((syms l).zip (deps l.length (wts l))) (List.replicate l.length 0)

theorem grown_is {l xs : List Int} (h : GrownOut l xs) : xs = dpt l := by
  obtain ⟨L, hL, rfl⟩ := h
  have hs := sortAll_ssort L
  rw [hL] at hs
  have hpos : ∀ x, x ∈ leafs l ++ [] → (0 : Int) ≤ x.wt := fun x hx => by
    rw [List.append_nil] at hx
    unfold leafs at hx
    obtain ⟨p, hp, rfl⟩ := List.mem_map.1 hx
    have := (List.mem_filter.1 hp).2
    simp only [decide_eq_true_eq] at this
    show (0 : Int) ≤ p.1
    omega
  have hlen := leafs_le l
  have hb := build_proc l.length (leafs l) _ [] 0 hs (Int.le_refl _) hpos List.Pairwise.nil (by simp) (by simp; omega)
  unfold finish
  rw [hb, foldl_dep, List.append_nil]
  have hp := procT_lay l.length (leafs l) (by omega)
  have e : (((leafs l).zip (deps l.length ((leafs l).map Tr.wt))).flatMap fun p => p.1.lay p.2) = (syms l).zip (deps l.length (wts l)) := leafs_lay l _
  rw [e] at hp
  unfold dpt
  refine (setAll_perm hp.symm ?_ _).symm
  have hsub : ((syms l).zip (deps l.length (wts l))).map Prod.fst = syms l := by
    rw [List.map_fst_zip]
    rw [length_deps]
    simp [syms, wts]
  rw [hsub]
  exact (leafs_syms l).imp (fun h e => by omega)

end Go.Proofs.Ythgijppajindpaa
