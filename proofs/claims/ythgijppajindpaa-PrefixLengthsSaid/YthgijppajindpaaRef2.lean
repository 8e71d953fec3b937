/-
  The document's own depths, as they are printed, are the plain ones: the loops.
-/
import Derived.Test.YthgijppajindpaaRef1
set_option linter.unusedVariables false
set_option linter.unusedSimpArgs false
namespace Go.Proofs.Ythgijppajindpaa
open Go.RowKit Go.Proofs.YthgijppajindpaaW.PrintWords Go.Proofs.Ythgijppajindpaa.L7

def sy (t : Tr) : List Nat := (t.lay 0).map Prod.fst
def encT (t : Tr) : S121 := ⟨t.wt, (sy t).map Int.ofNat⟩

theorem lay_succ : ∀ (t : Tr) (d : Nat), t.lay (d + 1) = (t.lay d).map fun p => (p.1, p.2 + 1)
  | .leaf _ s, d => rfl
  | .node _ l r, d => by rw [Tr.lay, Tr.lay, List.map_append, lay_succ l, lay_succ r]

theorem lay_fst (t : Tr) (d : Nat) : (t.lay d).map Prod.fst = sy t := by
  induction d with
  | zero => rfl
  | succ d ih => rw [lay_succ, List.map_map, ← ih]; rfl

theorem sy_node (w : Int) (l r : Tr) : sy (.node w l r) = sy l ++ sy r := by
  unfold sy
  rw [Tr.lay, List.map_append, lay_fst, lay_fst]
  rfl

theorem sum_perm {l l' : List Int} (h : l.Perm l') : l.sum = l'.sum := by
  induction h with
  | nil => rfl
  | cons x _ ih => simp [ih]
  | swap x y l => simp only [List.sum_cons]; omega
  | trans _ _ ih1 ih2 => exact ih1.trans ih2

theorem getD_set {xs : List Int} (i j : Nat) (x : Int) : (xs.set i x).getD j 0 = if i = j ∧ i < xs.length then x else xs.getD j 0 := by
  rw [List.getD_eq_getElem?_getD, List.getElem?_set]
  by_cases e : i = j
  · subst e
    by_cases h : i < xs.length
    · simp [h]
    · rw [if_pos rfl, if_neg h, if_neg (by omega), List.getD_eq_getElem?_getD, List.getElem?_eq_none (by omega)]
  · rw [if_neg e, if_neg (by omega), ← List.getD_eq_getElem?_getD]

/-- One more for each of some symbols. -/
def incAll (ss : List Nat) (out : List Int) : List Int := ss.foldl (fun o s => o.set s (o.getD s 0 + 1)) out

theorem length_incAll : ∀ (ss : List Nat) (out : List Int), (incAll ss out).length = out.length
  | [], out => rfl
  | s :: ss, out => by rw [incAll, List.foldl_cons]; exact (length_incAll ss _).trans (by simp)

theorem incAll_snoc (ss : List Nat) (s : Nat) (out : List Int) : incAll (ss ++ [s]) out = (incAll ss out).set s ((incAll ss out).getD s 0 + 1) := by simp [incAll]

theorem incAll_bound (B : Int) : ∀ (ss : List Nat) (out : List Int), (∀ s, 0 ≤ out.getD s 0 ∧ out.getD s 0 ≤ B) → ∀ s, 0 ≤ (incAll ss out).getD s 0 ∧ (incAll ss out).getD s 0 ≤ B + ss.length := by
  intro ss
  induction ss generalizing B with
  | nil => intro out h s; have := h s; simpa [incAll] using this
  | cons x ss ih =>
    intro out h s
    have h1 := ih (B + 1) (out.set x (out.getD x 0 + 1)) (fun s => by
      rw [getD_set]
      split
      · have := h x; omega
      · have := h s; omega) s
    have e : incAll (x :: ss) out = incAll ss (out.set x (out.getD x 0 + 1)) := rfl
    rw [e, List.length_cons]
    omega

theorem incAll_get : ∀ (ss : List Nat) (out : List Int), ss.Nodup → (∀ s, s ∈ ss → s < out.length) → ∀ s, (incAll ss out).getD s 0 = out.getD s 0 + (if s ∈ ss then 1 else 0)
  | [], out, _, _, s => by simp [incAll]
  | x :: ss, out, hn, hl, s => by
    obtain ⟨n1, n2⟩ := List.nodup_cons.1 hn
    have e : incAll (x :: ss) out = incAll ss (out.set x (out.getD x 0 + 1)) := rfl
    rw [e, incAll_get ss _ n2 (fun s hs => by rw [List.length_set]; exact hl s (by simp [hs])), getD_set]
    have hx := hl x (by simp)
    by_cases h : x = s
    · subst h
      rw [if_pos ⟨rfl, hx⟩, if_neg n1, if_pos (by simp)]
      omega
    · rw [if_neg (by omega)]
      by_cases h2 : s ∈ ss
      · rw [if_pos h2, if_pos (by simp [h2])]
      · rw [if_neg h2, if_neg (by simp [h2]; omega)]

theorem incs_ev (more : List S121) (hm : more.length < 1000000) (W : Int) (ss : List Nat) (hs : ss.length < 1000000) (out : List Int) (ho : ∀ s, s ∈ ss → s < out.length) (hl : out.length < 1000000)
    (B : Int) (hB : ∀ s, 0 ≤ out.getD s 0 ∧ out.getD s 0 ≤ B) (hB2 : B < 1000000000000) (r : Option (List Int))
    (h : Ev fun k => hanaperref07_depths.l1 k (incAll ss out) (more ++ [⟨W, ss.map Int.ofNat⟩]) = r) (d : Nat) : ∀ j, j + d = ss.length →
    Ev fun k => hanaperref07_depths.l2 k (incAll (ss.take j) out) more (j : Int) W (ss.map Int.ofNat) = r := by
  induction d with
  | zero =>
    intro j hj
    have : j = ss.length := by omega
    subst this
    refine h.succ fun k hk => ?_
    rw [hanaperref07_depths.l2, if_neg (by simp), if_pos (by omega), List.take_length]
    exact hk
  | succ d ih =>
    intro j hj
    have hw : wrap64 ((j : Int) + 1) = ((j + 1 : Nat) : Int) := by rw [w64 (by omega)]; rfl
    have hjl : j < ss.length := by omega
    refine (ih (j + 1) (by omega)).succ fun k hk => ?_
    have hg : rd (ss.map Int.ofNat) (j : Int) = ((ss[j] : Nat) : Int) := by
      simp [rd, List.getD_eq_getElem?_getD, List.getElem?_eq_getElem hjl]
    have hlt := ho ss[j] (List.getElem_mem hjl)
    have hbd := incAll_bound B (ss.take j) out hB ss[j]
    have htl : (ss.take j).length = j := by rw [List.length_take]; omega
    rw [hanaperref07_depths.l2, if_pos (by simp; omega), if_pos (by omega), hg, if_pos (by omega), if_pos (by rw [length_incAll]; omega), hw]
    have hr : rd (incAll (ss.take j) out) ((ss[j] : Nat) : Int) = (incAll (ss.take j) out).getD ss[j] 0 := rfl
    rw [hr, w64 (by omega)]
    rw [List.take_succ_eq_append_getElem hjl, incAll_snoc] at hk
    exact hk

/-- What the row of depths says of some trees. -/
def InvD (n : Nat) (F : List Tr) (out : List Int) : Prop :=
  out.length = n ∧ (∀ t, t ∈ F → ∀ p, p ∈ t.lay 0 → p.1 < n ∧ out.getD p.1 0 = (p.2 : Int)) ∧ (∀ s, s ∉ F.flatMap sy → out.getD s 0 = 0) ∧ (F.flatMap sy).Nodup

theorem procT_short {c : Nat} {F : List Tr} (h : F.length ≤ 1) : procT c F = F := by
  match F, h with
  | [], _ => cases c <;> rfl
  | [t], _ => cases c <;> rfl

theorem l1_ev (n : Nat) (hn : n ≤ 300) (c : Nat) : ∀ (F : List Tr) (out : List Int) (B : Int), F.length ≤ c + 1 → F.length ≤ 300 → InvD n F out → (∀ s, 0 ≤ out.getD s 0 ∧ out.getD s 0 ≤ B) → B + 300 * F.length ≤ 1000000 →
    (F.flatMap sy).length ≤ 300 → (∀ t, t ∈ F → 0 ≤ t.wt) → (F.map Tr.wt).sum ≤ 1099511627776 → ∃ out', InvD n (procT c F) out' ∧ Ev fun k => hanaperref07_depths.l1 k out (F.map encT) = some out' := by
  induction c with
  | zero =>
    intro F out B h1 h2 hI hB hB2 hs hw hW
    refine ⟨out, hI, Ev.one fun k => ?_⟩
    rw [hanaperref07_depths.l1, if_neg (by simp; omega)]
  | succ c ih =>
    intro F out B h1 h2 hI hB hB2 hs hw hW
    by_cases hF : F.length ≤ 1
    · refine ⟨out, by rw [procT_short hF]; exact hI, Ev.one fun k => ?_⟩
      rw [hanaperref07_depths.l1, if_neg (by simp; omega)]
    · obtain ⟨i, a, F1, e1⟩ := tm_isSome (wt := Tr.wt) (l := F) (by omega)
      have l1 := tm_length e1
      obtain ⟨j, b, F2, e2⟩ := tm_isSome (wt := Tr.wt) (l := F1) (by omega)
      have l2 := tm_length e2
      have c1 := tm_some e1
      have c2 := tm_some e2
      have hp : procT (c + 1) F = procT c (F2 ++ [.node (a.wt + b.wt) a b]) := by rw [procT, e1]; dsimp only; rw [e2]
      rw [hp]
      have hpermF : F.Perm (a :: b :: F2) := by
        rw [c1.1]
        refine (List.perm_insertIdx _ _ c1.2.1).trans (List.Perm.cons _ ?_)
        conv => lhs; rw [c2.1]
        exact List.perm_insertIdx _ _ c2.2.1
      have hperm2 : (F.flatMap sy).Perm ((F2 ++ [Tr.node (a.wt + b.wt) a b]).flatMap sy) := by
        refine (hpermF.flatMap_right _).trans ?_
        simp only [List.flatMap_cons, List.flatMap_append, List.flatMap_nil, List.append_nil, sy_node]
        rw [← List.append_assoc]
        exact List.perm_append_comm
      have hmem : ∀ t, t ∈ F ↔ t = a ∨ t = b ∨ t ∈ F2 := fun t => by rw [hpermF.mem_iff]; simp
      have ha := hw a ((hmem a).2 (.inl rfl))
      have hb := hw b ((hmem b).2 (.inr (.inl rfl)))
      have hsum : (F.map Tr.wt).sum = a.wt + (b.wt + (F2.map Tr.wt).sum) := by
        rw [sum_perm (hpermF.map Tr.wt)]; simp
      have hsum2 : 0 ≤ (F2.map Tr.wt).sum := by
        have : ∀ G : List Tr, (∀ t, t ∈ G → 0 ≤ t.wt) → 0 ≤ (G.map Tr.wt).sum := by
          intro G
          induction G with
          | nil => intro _; simp
          | cons g G ih => intro h; have := h g (by simp); have := ih (fun t ht => h t (by simp [ht])); simp; omega
        exact this F2 (fun t ht => hw t ((hmem t).2 (.inr (.inr ht))))
      obtain ⟨o1, o2, o3, o4⟩ := hI
      have hnd : (sy a ++ (sy b ++ F2.flatMap sy)).Nodup := by
        have := (hpermF.flatMap_right sy).nodup_iff.1 o4
        simpa using this
      have hnab : (sy a ++ sy b).Nodup := by
        rw [← List.append_assoc] at hnd
        exact (List.nodup_append.1 hnd).1
      have hdis : ∀ s, s ∈ sy a ++ sy b → s ∉ F2.flatMap sy := fun s h1 h2 => by
        rw [← List.append_assoc] at hnd
        exact (List.nodup_append.1 hnd).2.2 s h1 s h2 rfl
      have hlt : ∀ s, s ∈ sy a ++ sy b → s < out.length := fun s hs => by
        rw [o1]
        rcases List.mem_append.1 hs with h | h
        · obtain ⟨p, hp, rfl⟩ := List.mem_map.1 h
          exact (o2 a ((hmem a).2 (.inl rfl)) p hp).1
        · obtain ⟨p, hp, rfl⟩ := List.mem_map.1 h
          exact (o2 b ((hmem b).2 (.inr (.inl rfl))) p hp).1
      have hab : (sy a ++ sy b).length ≤ 300 := by
        have h1 := (hpermF.flatMap_right sy).length_eq
        simp only [List.flatMap_cons, List.length_append] at h1 ⊢
        omega
      have hget := incAll_get (sy a ++ sy b) out hnab hlt
      have hbd := incAll_bound B (sy a ++ sy b) out hB
      have hlay : ∀ t, (t = a ∨ t = b) → ∀ p, p ∈ t.lay 1 → p.1 < n ∧ (incAll (sy a ++ sy b) out).getD p.1 0 = (p.2 : Int) := by
        intro t ht p hp
        rw [lay_succ t 0] at hp
        obtain ⟨q, hq, rfl⟩ := List.mem_map.1 hp
        obtain ⟨q1, q2⟩ := o2 t ((hmem t).2 (by rcases ht with rfl | rfl <;> simp)) q hq
        refine ⟨q1, ?_⟩
        rw [hget, if_pos, q2]
        · rfl
        · have : q.1 ∈ sy t := List.mem_map_of_mem hq
          rcases ht with rfl | rfl <;> simp [this]
      obtain ⟨out', hI', hE⟩ := ih (F2 ++ [.node (a.wt + b.wt) a b]) (incAll (sy a ++ sy b) out) (B + 300) (by simp; omega) (by simp; omega)
        ⟨by rw [length_incAll]; exact o1, fun t ht p hp => by
          rw [List.mem_append, List.mem_singleton] at ht
          rcases ht with ht | rfl
          · obtain ⟨q1, q2⟩ := o2 t ((hmem t).2 (.inr (.inr ht))) p hp
            refine ⟨q1, ?_⟩
            rw [hget, if_neg, q2]
            · omega
            · intro hc
              exact hdis _ hc (List.mem_flatMap.2 ⟨t, ht, List.mem_map_of_mem hp⟩)
          · rw [Tr.lay] at hp
            rcases List.mem_append.1 hp with hp | hp
            · exact hlay a (.inl rfl) p hp
            · exact hlay b (.inr rfl) p hp, fun s hs' => by
          rw [← hperm2.mem_iff] at hs'
          rw [hget, o3 s hs', if_neg]
          · rfl
          · intro hc
            refine hs' ((hpermF.flatMap_right sy).mem_iff.2 ?_)
            simp only [List.flatMap_cons, List.mem_append] at hc ⊢
            rcases hc with hc | hc
            · exact .inl hc
            · exact .inr (.inl hc), hperm2.nodup_iff.1 o4⟩
        (fun s => by have := hbd s; omega) (by simp; omega) (by rw [← hperm2.length_eq]; exact hs) (fun t ht => by
          rw [List.mem_append, List.mem_singleton] at ht
          rcases ht with ht | rfl
          · exact hw t ((hmem t).2 (.inr (.inr ht)))
          · show 0 ≤ a.wt + b.wt; omega) (by
          rw [List.map_append, List.sum_append]
          show _ + (List.sum [a.wt + b.wt]) ≤ _
          simp only [List.sum_cons, List.sum_nil]
          omega)
      refine ⟨out', hI', ?_⟩
      have m1 : tm S121.f0 (F.map encT) = some (i, encT a, F1.map encT) := by
        rw [tm_map (wt := Tr.wt) (wt' := S121.f0) encT (fun _ => rfl), e1]; rfl
      have m2 : tm S121.f0 (F1.map encT) = some (j, encT b, F2.map encT) := by
        rw [tm_map (wt := Tr.wt) (wt' := S121.f0) encT (fun _ => rfl), e2]; rfl
      have v1 := lightest_ev (F.map encT) (by simp; omega) m1
      have v2 := take_ev (F.map encT) (by simp; omega) m1
      have v3 := lightest_ev (F1.map encT) (by simp; omega) m2
      have v4 := take_ev (F1.map encT) (by simp; omega) m2
      have e5 : (F2 ++ [Tr.node (a.wt + b.wt) a b]).map encT = F2.map encT ++ [⟨a.wt + b.wt, (sy a ++ sy b).map Int.ofNat⟩] := by
        rw [List.map_append]
        show _ ++ [encT _] = _
        unfold encT
        rw [sy_node]
        rfl
      rw [e5] at hE
      have v5 := incs_ev (F2.map encT) (by simp; omega) (a.wt + b.wt) (sy a ++ sy b) (by omega) out hlt (by omega) B hB (by omega) _ hE (sy a ++ sy b).length 0 (by omega)
      refine (v1.and (v2.and (v3.and (v4.and v5)))).succ fun k hk => ?_
      obtain ⟨k1, k2, k3, k4, k5⟩ := hk
      rw [hanaperref07_depths.l1, if_pos (by simp; omega), k1, Option.bind_some, k2, Option.bind_some]
      dsimp only
      rw [k3, Option.bind_some, k4, Option.bind_some]
      dsimp only
      have la : (encT a).f1.length ≤ 300 := by simp [encT] at hab ⊢; omega
      have lb : (encT b).f1.length ≤ 300 := by simp [encT] at hab ⊢; omega
      rw [if_pos (by simp; omega), Option.bind_some, List.nil_append, if_pos (by omega)]
      have hwr : wrap64 ((encT a).f0 + (encT b).f0) = a.wt + b.wt := by
        show wrap64 (a.wt + b.wt) = _
        exact w64 (by omega)
      rw [hwr]
      have : (encT a).f1 ++ (encT b).f1 = (sy a ++ sy b).map Int.ofNat := by simp [encT]
      rw [this]
      exact k5

end Go.Proofs.Ythgijppajindpaa
