/-
  The program's trees are the document's: two queues take the same ones as the search of the lightest.
-/
import Derived.Test.YthgijppajindpaaHuf3
import Derived.Test.YthgijppajindpaaGrw5
set_option linter.unusedVariables false
set_option linter.unusedSimpArgs false
namespace Go.Proofs.Ythgijppajindpaa

/-- The document's way: the two lightest go, and their tree comes last. -/
def procT : Nat → List Tr → List Tr
  | 0, F => F
  | k + 1, F =>
    match tm Tr.wt F with
    | none => F
    | some (_, a, F1) =>
      match tm Tr.wt F1 with
      | none => F
      | some (_, b, F2) => procT k (F2 ++ [.node (a.wt + b.wt) a b])

/-- The symbols of a tree, each with its depth. -/
def Tr.lay : Tr → Nat → List (Nat × Nat)
  | .leaf _ s, d => [(s, d)]
  | .node _ l r, d => l.lay (d + 1) ++ r.lay (d + 1)

theorem procT_lay (k : Nat) : ∀ F : List Tr, F.length ≤ k + 1 →
    ((procT k F).flatMap fun t => t.lay 0).Perm ((F.zip (deps k (F.map Tr.wt))).flatMap fun p => p.1.lay p.2) := by
  induction k with
  | zero =>
    intro F h
    match F, h with
    | [], _ => exact List.Perm.refl _
    | [t], _ => exact List.Perm.refl _
  | succ k ih =>
    intro F h
    cases e : tm Tr.wt F with
    | none =>
      rw [tm_none e]
      exact List.Perm.refl _
    | some q =>
      obtain ⟨i, a, F1⟩ := q
      cases e1 : tm Tr.wt F1 with
      | none =>
        have h1 := (tm_some e).1
        rw [tm_none e1] at h1
        have hi := (tm_some e).2.1
        rw [tm_none e1] at hi
        have hi0 : i = 0 := by simpa using hi
        subst hi0
        simp at h1
        subst h1
        exact List.Perm.refl _
      | some q =>
        obtain ⟨j, b, F2⟩ := q
        obtain ⟨p1, p2, _, _⟩ := tm_some e
        obtain ⟨q1, q2, _, _⟩ := tm_some e1
        have l1 := tm_length e
        have l2 := tm_length e1
        have hp : procT (k + 1) F = procT k (F2 ++ [.node (a.wt + b.wt) a b]) := by rw [procT, e]; dsimp only; rw [e1]
        rw [hp]
        refine (ih (F2 ++ [.node (a.wt + b.wt) a b]) (by simp; omega)).trans ?_
        have hm : (F2 ++ [Tr.node (a.wt + b.wt) a b]).map Tr.wt = F2.map Tr.wt ++ [a.wt + b.wt] := by simp [Tr.wt]
        rw [hm]
        have hlen := length_deps k (F2.map Tr.wt ++ [a.wt + b.wt])
        rw [List.length_append, List.length_map, List.length_singleton] at hlen
        have hdl : ((deps k (F2.map Tr.wt ++ [a.wt + b.wt])).dropLast).length = F2.length := by rw [List.length_dropLast]; omega
        have hlast := eq_dropLast_last 0 (deps k (F2.map Tr.wt ++ [a.wt + b.wt])) (by omega)
        have hd : deps (k + 1) (F.map Tr.wt) = ((deps k (F2.map Tr.wt ++ [a.wt + b.wt])).dropLast.insertIdx j ((deps k (F2.map Tr.wt ++ [a.wt + b.wt])).getLastD 0 + 1)).insertIdx i ((deps k (F2.map Tr.wt ++ [a.wt + b.wt])).getLastD 0 + 1) := by
          rw [deps, tm_map (wt := Tr.wt) (wt' := id) Tr.wt (fun _ => rfl), e]
          simp only [Option.map_some]
          rw [tm_map (wt := Tr.wt) (wt' := id) Tr.wt (fun _ => rfl), e1]
          rfl
        rw [hd]
        conv => lhs; rw [hlast]
        rw [List.zip_append (by rw [hdl])]
        have hz : F.zip (((deps k (F2.map Tr.wt ++ [a.wt + b.wt])).dropLast.insertIdx j ((deps k (F2.map Tr.wt ++ [a.wt + b.wt])).getLastD 0 + 1)).insertIdx i ((deps k (F2.map Tr.wt ++ [a.wt + b.wt])).getLastD 0 + 1)) =
            ((F2.zip (deps k (F2.map Tr.wt ++ [a.wt + b.wt])).dropLast).insertIdx j (b, (deps k (F2.map Tr.wt ++ [a.wt + b.wt])).getLastD 0 + 1)).insertIdx i (a, (deps k (F2.map Tr.wt ++ [a.wt + b.wt])).getLastD 0 + 1) := by
          conv => lhs; rw [p1, q1]
          rw [zip_insertIdx _ _ _ _ _ (by rw [List.length_insertIdx_of_le_length q2, List.length_insertIdx_of_le_length (by omega), hdl]) (by rw [List.length_insertIdx_of_le_length q2]; omega),
            zip_insertIdx _ _ _ _ _ (by rw [hdl]) q2]
        rw [hz]
        have hzl : (F2.zip (deps k (F2.map Tr.wt ++ [a.wt + b.wt])).dropLast).length = F2.length := by rw [List.length_zip]; omega
        have hperm : (((F2.zip (deps k (F2.map Tr.wt ++ [a.wt + b.wt])).dropLast).insertIdx j (b, (deps k (F2.map Tr.wt ++ [a.wt + b.wt])).getLastD 0 + 1)).insertIdx i (a, (deps k (F2.map Tr.wt ++ [a.wt + b.wt])).getLastD 0 + 1)).Perm
            ((a, (deps k (F2.map Tr.wt ++ [a.wt + b.wt])).getLastD 0 + 1) :: (b, (deps k (F2.map Tr.wt ++ [a.wt + b.wt])).getLastD 0 + 1) :: F2.zip (deps k (F2.map Tr.wt ++ [a.wt + b.wt])).dropLast) :=
          (List.perm_insertIdx _ _ (by rw [List.length_insertIdx_of_le_length (by omega)]; omega)).trans (List.Perm.cons _ (List.perm_insertIdx _ _ (by omega)))
        refine List.Perm.trans ?_ (hperm.flatMap_right _).symm
        simp only [List.flatMap_append, List.flatMap_cons, List.flatMap_nil, List.append_nil, List.zip_cons_cons, List.zip_nil_right, Tr.lay]
        rw [← List.append_assoc (a.lay _)]
        exact List.perm_append_comm

/-- The lengths are laid symbol by symbol. -/
def setAll (ps : List (Nat × Nat)) (xs : List Int) : List Int := ps.foldl (fun xs p => xs.set p.1 (max (p.2 : Int) 1)) xs

theorem dep_setAll : ∀ (t : Tr) (d : Nat) (xs : List Int), t.dep d xs = setAll (t.lay d) xs
  | .leaf _ s, d, xs => rfl
  | .node _ l r, d, xs => by
    rw [Tr.dep, Tr.lay, setAll, List.foldl_append, dep_setAll l, dep_setAll r]
    rfl

theorem foldl_dep : ∀ (F : List Tr) (xs : List Int), F.foldl (fun xs t => t.dep 0 xs) xs = setAll (F.flatMap fun t => t.lay 0) xs
  | [], xs => rfl
  | t :: F, xs => by
    rw [List.foldl_cons, foldl_dep F, List.flatMap_cons, setAll, setAll, List.foldl_append, dep_setAll]
    rfl

theorem setAll_perm {P Q : List (Nat × Nat)} (h : P.Perm Q) (hn : (P.map Prod.fst).Nodup) (xs : List Int) : setAll P xs = setAll Q xs := by
  unfold setAll
  refine List.Perm.foldl_eq' h ?_ xs
  intro x hx y hy z
  by_cases he : x.1 = y.1
  · have : x = y := by
      obtain ⟨i, hi, rfl⟩ := List.getElem_of_mem hx
      obtain ⟨j, hj, rfl⟩ := List.getElem_of_mem hy
      have hij : i = j := by
        have h1 : (P.map Prod.fst)[i]'(by simpa using hi) = (P.map Prod.fst)[j]'(by simpa using hj) := by simpa using he
        have hp := List.pairwise_iff_getElem.1 hn
        rcases Nat.lt_trichotomy i j with h | h | h
        · exact absurd h1 (hp i j _ _ h)
        · exact h
        · exact absurd h1.symm (hp j i _ _ h)
      subst hij; rfl
    rw [this]
  · exact List.set_comm _ _ he

/-! ### The two queues -/

/-- L is what comes out of G, the first of the lightest ahead. -/
inductive SSort : List Tr → List Tr → Prop
  | nil : SSort [] []
  | cons {G G' L : List Tr} {x : Tr} {i : Nat} (h : tm Tr.wt G = some (i, x, G')) (hs : SSort G' L) : SSort G (x :: L)

theorem tm_append {β : Type} {wt : β → Int} : ∀ {G : List β} {i : Nat} {x : β} {G' P : List β}, tm wt G = some (i, x, G') → (∀ y, y ∈ P → wt x ≤ wt y) → tm wt (G ++ P) = some (i, x, G' ++ P)
  | [], _, _, _, _, h, _ => by simp [tm] at h
  | a :: G, i, x, G', P, h, hP => by
    rw [List.cons_append, tm]
    rw [tm] at h
    cases e : tm wt G with
    | none =>
      rw [e] at h
      simp only [Option.some.injEq, Prod.mk.injEq] at h
      obtain ⟨rfl, rfl, rfl⟩ := h
      have := tm_none e
      subst this
      cases e2 : tm wt ([] ++ P) with
      | none =>
        have := tm_none e2
        simp at this
        subst this
        rfl
      | some q =>
        obtain ⟨i', m, r⟩ := q
        dsimp only
        rw [if_pos (hP m (by
          have h1 := tm_some e2
          have : m ∈ [] ++ P := by rw [h1.1, List.mem_insertIdx h1.2.1]; exact .inl rfl
          simpa using this))]
    | some q =>
      obtain ⟨i', m, r⟩ := q
      rw [e] at h
      dsimp only at h
      by_cases hle : wt a ≤ wt m
      · rw [if_pos hle] at h
        simp only [Option.some.injEq, Prod.mk.injEq] at h
        obtain ⟨rfl, rfl, rfl⟩ := h
        obtain ⟨i2, m2, r2, e2⟩ := tm_isSome (wt := wt) (l := G ++ P) (by
          have := tm_length e
          simp; omega)
        rw [e2]
        dsimp only
        have h1 := tm_some e2
        have hm2 : m2 ∈ G ++ P := by rw [h1.1, List.mem_insertIdx h1.2.1]; exact .inl rfl
        have : wt a ≤ wt m2 := by
          rcases List.mem_append.1 hm2 with hg | hp
          · have h3 := tm_some e
            rw [h3.1, List.mem_insertIdx h3.2.1] at hg
            rcases hg with rfl | hg
            · exact hle
            · exact Int.le_trans hle (h3.2.2.1 _ hg)
          · exact hP _ hp
        rw [if_pos this]
      · rw [if_neg hle] at h
        simp only [Option.some.injEq, Prod.mk.injEq] at h
        obtain ⟨rfl, rfl, rfl⟩ := h
        rw [tm_append e hP]
        dsimp only
        rw [if_neg hle]
        rfl

theorem tm_append_right {β : Type} {wt : β → Int} : ∀ {G : List β} {y : β} {P : List β}, (∀ g, g ∈ G → wt y < wt g) → (∀ p, p ∈ P → wt y ≤ wt p) → tm wt (G ++ y :: P) = some (G.length, y, G ++ P)
  | [], y, P, _, hP => tm_head hP
  | a :: G, y, P, hG, hP => by
    rw [List.cons_append, tm, tm_append_right (fun g hg => hG g (by simp [hg])) hP]
    dsimp only
    rw [if_neg (by have := hG a (by simp); omega)]
    rfl

theorem SSort.length : ∀ {G L : List Tr}, SSort G L → L.length = G.length
  | _, _, .nil => rfl
  | _, _, .cons h hs => by rw [List.length_cons, hs.length, tm_length h]

theorem SSort.mem : ∀ {G L : List Tr}, SSort G L → ∀ x, x ∈ L ↔ x ∈ G
  | _, _, .nil, x => Iff.rfl
  | _, _, .cons h hs, x => by
    have h1 := tm_some h
    rw [List.mem_cons, hs.mem, h1.1, List.mem_insertIdx h1.2.1]

theorem SSort.le_one {G L : List Tr} (h : SSort G L) (h1 : G.length ≤ 1) : L = G := by
  cases h with
  | nil => rfl
  | cons h hs =>
    rename_i G' L' z i
    have hl := tm_length h
    have h2 := tm_some h
    have hg : G' = [] := List.eq_nil_of_length_eq_zero (by omega)
    subst hg
    cases hs with
    | nil =>
      have hi : i = 0 := by simpa using h2.2.1
      rw [h2.1, hi]
      simp
    | cons h' _ => simp [tm] at h'

/-- A taking off the queues is the search of the lightest. -/
theorem pop_tm {G L P L1 P1 : List Tr} {x : Tr} (hs : SSort G L) (hP : P.Pairwise fun a b => a.wt ≤ b.wt) (h : pop Tr.wt L P = some (x, L1, P1)) :
    ∃ i G1, tm Tr.wt (G ++ P) = some (i, x, G1 ++ P1) ∧ SSort G1 L1 ∧ P1.Pairwise (fun a b => a.wt ≤ b.wt) ∧ (∀ p, p ∈ P1 → p ∈ P) := by
  cases hs with
  | nil =>
    cases P with
    | nil => simp [pop] at h
    | cons y P =>
      simp only [pop, Option.some.injEq, Prod.mk.injEq] at h
      obtain ⟨rfl, rfl, rfl⟩ := h
      have hp := List.pairwise_cons.1 hP
      exact ⟨0, [], tm_head hp.1, .nil, hp.2, fun p hp => by simp [hp]⟩
  | cons ht hs =>
    rename_i G' L' z i
    cases P with
    | nil =>
      simp only [pop, Option.some.injEq, Prod.mk.injEq] at h
      obtain ⟨rfl, rfl, rfl⟩ := h
      exact ⟨i, G', tm_append ht (by simp), hs, by simp, fun p hp => hp⟩
    | cons y P =>
      have hp := List.pairwise_cons.1 hP
      by_cases hle : z.wt ≤ y.wt
      · simp only [pop, if_pos hle, Option.some.injEq, Prod.mk.injEq] at h
        obtain ⟨rfl, rfl, rfl⟩ := h
        refine ⟨i, G', tm_append ht (fun p hp' => ?_), hs, hP, fun p hp => hp⟩
        simp only [List.mem_cons] at hp'
        rcases hp' with rfl | hp'
        · exact hle
        · exact Int.le_trans hle (hp.1 p hp')
      · simp only [pop, if_neg hle, Option.some.injEq, Prod.mk.injEq] at h
        obtain ⟨rfl, rfl, rfl⟩ := h
        refine ⟨G.length, G, tm_append_right (fun g hg => ?_) hp.1, .cons ht hs, hp.2, fun p hp => by simp [hp]⟩
        have h3 := tm_some ht
        rw [h3.1, List.mem_insertIdx h3.2.1] at hg
        rcases hg with rfl | hg
        · omega
        · have := h3.2.2.1 g hg; omega

/-- THE TWO QUEUES COME TO THE DOCUMENT's TREE. -/
theorem build_proc (k : Nat) : ∀ (G L P : List Tr) (m : Int), SSort G L → 0 ≤ m → (∀ x, x ∈ G ++ P → m ≤ x.wt) → P.Pairwise (fun a b => a.wt ≤ b.wt) → (∀ p, p ∈ P → p.wt ≤ 2 * m) → G.length + P.length ≤ k + 1 →
    (build k L P).1 ++ (build k L P).2 = procT k (G ++ P) := by
  induction k with
  | zero =>
    intro G L P m hs h0 hm hP h2 hlen
    rw [build, procT]
    dsimp only
    rw [hs.le_one (by omega)]
  | succ k ih =>
    intro G L P m hs h0 hm hP h2 hlen
    cases e : pop Tr.wt L P with
    | none =>
      have : L = [] ∧ P = [] := by
        cases L <;> cases P <;> simp [pop] at e ⊢
        split at e <;> simp at e
      obtain ⟨rfl, rfl⟩ := this
      cases hs
      rfl
    | some q =>
      obtain ⟨a, L1, P1⟩ := q
      obtain ⟨i, G1, t1, s1, w1, m1⟩ := pop_tm hs hP e
      cases e1 : pop Tr.wt L1 P1 with
      | none =>
        have : L1 = [] ∧ P1 = [] := by
          cases L1 <;> cases P1 <;> simp [pop] at e1 ⊢
          split at e1 <;> simp at e1
        obtain ⟨rfl, rfl⟩ := this
        cases s1
        have hl := tm_length t1
        rw [build, e]
        dsimp only
        rw [e1, procT, t1]
        dsimp only
        rw [show tm Tr.wt ([] ++ []) = none from rfl]
        dsimp only
        simp at hl
        rw [hs.le_one (by omega)]
      | some q =>
        obtain ⟨b, L2, P2⟩ := q
        obtain ⟨j, G2, t2, s2, w2, m2⟩ := pop_tm s1 w1 e1
        have c1 := tm_some t1
        have c2 := tm_some t2
        have l1 := tm_length t1
        have l2 := tm_length t2
        have ha : m ≤ a.wt := hm a (by rw [c1.1, List.mem_insertIdx c1.2.1]; exact .inl rfl)
        have hsub : ∀ x, x ∈ G2 ++ P2 → x ∈ G ++ P := fun x hx => by
          rw [c1.1, List.mem_insertIdx c1.2.1]; right
          rw [c2.1, List.mem_insertIdx c2.2.1]; exact .inr hx
        have hbm : b ∈ G1 ++ P1 := by rw [c2.1, List.mem_insertIdx c2.2.1]; exact .inl rfl
        have hb : m ≤ b.wt := hm b (by rw [c1.1, List.mem_insertIdx c1.2.1]; exact .inr hbm)
        have hab : a.wt ≤ b.wt := c1.2.2.1 b hbm
        rw [build, e]
        dsimp only
        rw [e1, procT, t1]
        dsimp only
        rw [t2]
        dsimp only
        rw [List.append_assoc]
        simp only [List.length_append] at l1 l2
        refine ih G2 L2 (P2 ++ [.node (a.wt + b.wt) a b]) b.wt s2 (by omega) (fun x hx => ?_) ?_ (fun p hp => ?_) (by simp; omega)
        · rw [← List.append_assoc, List.mem_append, List.mem_singleton] at hx
          rcases hx with hx | rfl
          · exact c2.2.2.1 x hx
          · show b.wt ≤ a.wt + b.wt; omega
        · rw [List.pairwise_append]
          refine ⟨w2, by simp, fun p hp q hq => ?_⟩
          simp at hq
          subst hq
          have := h2 p (m1 p (m2 p hp))
          show p.wt ≤ a.wt + b.wt; omega
        · rw [List.mem_append, List.mem_singleton] at hp
          rcases hp with hp | rfl
          · have := h2 p (m1 p (m2 p hp)); omega
          · show a.wt + b.wt ≤ 2 * b.wt; omega

end Go.Proofs.Ythgijppajindpaa
