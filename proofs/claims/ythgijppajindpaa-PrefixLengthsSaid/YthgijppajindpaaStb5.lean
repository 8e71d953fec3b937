/-
  slices.SortStableFunc at *prefix.node: what it leaves is the plain 'stable'.
-/
import Derived.Test.YthgijppajindpaaStb4
namespace Go.Proofs.Ythgijppajindpaa
open Go.Shelf Go.RowKit Go.Lib Go.Sort

section
variable {α : Type} [Inhabited α]

def stIns (lt : α → α → Bool) (n : Nat) : Nat → Nat → Array α → Array α
  | 0, a, d => insertionSort lt d a n
  | k + 1, a, d => if a + 20 ≤ n then stIns lt n k (a + 20) (insertionSort lt d a (a + 20)) else insertionSort lt d a n

def stPass (lt : α → α → Bool) (n bs : Nat) : Nat → Nat → Array α → Array α
  | 0, a, d => if a + bs < n then symM lt n a (a + bs) n d else d
  | k + 1, a, d => if a + 2 * bs ≤ n then stPass lt n bs k (a + 2 * bs) (symM lt n a (a + bs) (a + 2 * bs) d) else (if a + bs < n then symM lt n a (a + bs) n d else d)

def stLoop (lt : α → α → Bool) (n : Nat) : Nat → Nat → Array α → Array α
  | 0, _, d => d
  | k + 1, bs, d => if bs < n then stLoop lt n k (2 * bs) (stPass lt n bs n 0 d) else d

def stable (lt : α → α → Bool) (n : Nat) (d : Array α) : Array α := stLoop lt n n 20 (stIns lt n n 0 d)

theorem size_insertion (lt : α → α → Bool) (d : Array α) (a b : Nat) : (insertionSort lt d a b).size = d.size := by
  have inner : ∀ (j : Nat) (d : Array α), (insInner lt a j d).size = d.size := by
    intro j
    induction j with
    | zero => intro d; rfl
    | succ j ih =>
      intro d
      rw [insInner]
      split
      · rw [ih, size_swp]
      · rfl
  have outer : ∀ (k i : Nat) (d : Array α), b - i ≤ k → (insOuter lt a b i d).size = d.size := by
    intro k
    induction k with
    | zero =>
      intro i d h
      rw [insOuter, if_neg (by omega)]
    | succ k ih =>
      intro i d h
      rw [insOuter]
      split
      · rw [ih _ _ (by omega), inner]
      · rfl
  exact outer _ _ _ (Nat.le_refl _)
end

/-- What the whole sort is told, once. -/
structure Told {α : Type} [Inhabited α] (enc : α → Value) (cf : α → α → Int) (g : Nat) (cb : Array Value) (blk off sz : Nat) (d0 : Array α) (w0 : World) : Prop where
  eg : ∀ args w, (callFunc g args).run Try.prog w = .ok (.enter g args) w
  hcmp : CmpLays1 Try.prog g cb enc cf blk off sz w0
  R : Row1 enc w0 blk off d0
  hs : d0.size = sz
  hsz : sz < 1152921504606846976

theorem ins_calls {α : Type} [Inhabited α] {enc : α → Value} {cf : α → α → Int} {g : Nat} {cb : Array Value} {blk off sz : Nat} {d0 : Array α} {w0 : World} (T : Told enc cf g cb blk off sz d0 w0)
    (cap a b : Nat) (A B : Int) (d : Array α) (w : World) (hA : A = (a : Int)) (hB : B = (b : Int)) (hc : Cur enc w0 blk off sz d w) (hab : a ≤ b) (hb : b ≤ sz) :
    Calls Try.prog 82 #[.slice (some ⟨blk, off, none⟩) sz cap, .int .i64 A, .int .i64 B, .func (.func g) #[] cb] w fun e w' => e = .returned (.tuple #[]) ∧ Cur enc w0 blk off sz (insertionSort (ltOf cf) d a b) w' := by
  obtain ⟨hd, hS⟩ := hc
  have hs := T.hs
  have hsz := T.hsz
  subst hA hB hd
  refine (Any.insertionSortCmpFunc_s Try.layIns enc cf g cb blk off cap a b d0 d w0 w T.eg (by rw [hs]; exact T.hcmp) T.R hs hS hab hb (by omega)).mono ?_
  rintro e w' ⟨rfl, h⟩
  exact ⟨rfl, size_insertion _ _ _ _, h⟩

theorem sym_calls {α : Type} [Inhabited α] {enc : α → Value} {cf : α → α → Int} {g : Nat} {cb : Array Value} {blk off sz : Nat} {d0 : Array α} {w0 : World} (T : Told enc cf g cb blk off sz d0 w0)
    (cap k a m b : Nat) (A M B : Int) (d : Array α) (w : World) (hA : A = (a : Int)) (hM : M = (m : Int)) (hB : B = (b : Int)) (hc : Cur enc w0 blk off sz d w) (ham : a < m) (hmb : m < b) (hb : b ≤ sz) (hk : b - a ≤ k) :
    Calls Try.prog 83 #[.slice (some ⟨blk, off, none⟩) sz cap, .int .i64 A, .int .i64 M, .int .i64 B, .func (.func g) #[] cb] w fun e w' => e = .returned (.tuple #[]) ∧ Cur enc w0 blk off sz (symM (ltOf cf) k a m b d) w' := by
  obtain ⟨hd, hS⟩ := hc
  have hsz := T.hsz
  subst hA hM hB
  refine (symMerge_calls enc cf g cb blk off cap sz d0 w0 T.eg T.hcmp T.R T.hs (by omega) k a m b d w hd hS ham hmb hb hk).mono ?_
  rintro e w' ⟨rfl, h⟩
  exact ⟨rfl, by rw [size_symM]; exact hd, h⟩

set_option maxHeartbeats 4000000 in
set_option maxRecDepth 1000000 in
theorem stable_calls {α : Type} [Inhabited α] {enc : α → Value} {cf : α → α → Int} {g : Nat} {cb : Array Value} {blk off sz : Nat} {d0 : Array α} {w0 : World} (T : Told enc cf g cb blk off sz d0 w0)
    (cap : Nat) (d : Array α) (w : World) (hc : Cur enc w0 blk off sz d w) :
    Calls Try.prog 80 #[.slice (some ⟨blk, off, none⟩) sz cap, .int .i64 sz, .func (.func g) #[] cb] w fun e w' => e = .returned (.tuple #[]) ∧ Cur enc w0 blk off sz (stable (ltOf cf) sz d) w' := by
  have hsz := T.hsz
  go_enter Try.func80, Try.ntmps80
  go_wp2_with fail
  go_loopg [7, 8] sz (fun kx s7 s8 wr => ∃ (a : Nat) (dk : Array α), s7 = .int .i64 a ∧ s8 = .int .i64 ((a : Int) + 20) ∧ a ≤ sz ∧ sz - a ≤ kx ∧ Cur enc w0 blk off sz dk wr ∧ Hid (stIns (ltOf cf) sz kx a dk = stIns (ltOf cf) sz sz 0 d))
  case atStart => exact ⟨0, d, rfl, rfl, by omega, by omega, hc, rfl⟩
  case round =>
    clear hc
    obtain ⟨a, dk, rfl, rfl, ha, hk, C1, heq⟩ := hrel
    by_cases hlt : a + 20 ≤ sz
    · have hltz : (a : Int) + 20 ≤ (sz : Int) := by omega
      obtain ⟨k, rfl⟩ : ∃ q, gk = q + 1 := ⟨gk - 1, by omega⟩
      go_wp2_with (go_at_call 82; ((with_reducible refine (ins_calls T cap a (a + 20) _ _ dk _ rfl (by omega) C1 (by omega) hlt).mono ?_); rintro e w1 ⟨rfl, C2⟩))
      go_roundg k
      case measure => omega
      case rel =>
        refine ⟨a + 20, _, by go_num, by go_num, hlt, by omega, C2, ?_⟩
        have h := heq.out
        rw [stIns, if_pos hlt] at h
        exact h
    · have hltz : ¬ (a : Int) + 20 ≤ (sz : Int) := by omega
      go_wp2_with (go_at_call 82; ((with_reducible refine (ins_calls T cap a sz _ _ dk _ rfl rfl C1 ha (by omega)).mono ?_); rintro e w1 ⟨rfl, C2⟩))
      have HI : Hid (insertionSort (ltOf cf) dk a sz = stIns (ltOf cf) sz sz 0 d) := by
        show _ = _
        rw [← heq.out]
        cases gk with
        | zero => rfl
        | succ k => rw [stIns, if_neg hlt]
      obtain ⟨d1, hd1⟩ : ∃ q, q = stIns (ltOf cf) sz sz 0 d := ⟨_, rfl⟩
      have C3 : Cur enc w0 blk off sz d1 w1 := by rw [hd1, ← HI.out]; exact C2
      have HD1 : Hid (d1 = stIns (ltOf cf) sz sz 0 d) := hd1
      clear C1 C2 hd1 HI heq
      go_loopg [6] sz (fun kx s6 wr => ∃ (bs : Nat) (dk : Array α), s6 = .int .i64 bs ∧ 1 ≤ bs ∧ bs ≤ 2 * sz + 40 ∧ sz - bs ≤ kx ∧ Cur enc w0 blk off sz dk wr ∧ Hid (stLoop (ltOf cf) sz kx bs dk = stLoop (ltOf cf) sz sz 20 d1))
      case atStart => exact ⟨20, d1, rfl, by omega, by omega, by omega, C3, rfl⟩
      case round =>
        clear C3
        obtain ⟨bs, dk, rfl, hb1, hb2, hk2, C1, heq⟩ := hrel
        by_cases hlt2 : bs < sz
        · have hltz2 : (bs : Int) < (sz : Int) := by omega
          obtain ⟨k, rfl⟩ : ∃ q, gk = q + 1 := ⟨gk - 1, by omega⟩
          go_wp2_with fail
          go_loopg [7, 8] sz (fun kx s7 s8 wr => ∃ (a : Nat) (dj : Array α), s7 = .int .i64 a ∧ s8 = .int .i64 ((a : Int) + 2 * (bs : Int)) ∧ a ≤ sz ∧ sz - a ≤ kx ∧ Cur enc w0 blk off sz dj wr ∧ Hid (stPass (ltOf cf) sz bs kx a dj = stPass (ltOf cf) sz bs sz 0 dk))
          case atStart => exact ⟨0, dk, rfl, by simp, by omega, by omega, C1, rfl⟩
          case round =>
            clear C1
            obtain ⟨a, dj, rfl, rfl, ha, hk3, C1, heq3⟩ := hrel
            by_cases hlt3 : a + 2 * bs ≤ sz
            · have hltz3 : (a : Int) + 2 * (bs : Int) ≤ (sz : Int) := by omega
              obtain ⟨k', rfl⟩ : ∃ q, gk = q + 1 := ⟨gk - 1, by omega⟩
              go_wp2_with (go_at_call 83; ((with_reducible refine (sym_calls T cap sz a (a + bs) (a + 2 * bs) _ _ _ dj _ rfl (by omega) (by omega) C1 (by omega) (by omega) hlt3 (by omega)).mono ?_); rintro e w2 ⟨rfl, C2⟩))
              go_roundg k'
              case measure => omega
              case rel =>
                refine ⟨a + 2 * bs, _, by first | (congr 1; done) | (congr 1; omega), by first | (congr 1; done) | (congr 1; omega), hlt3, by omega, C2, ?_⟩
                have h := heq3.out
                rw [stPass, if_pos hlt3] at h
                exact h
            · have hltz3 : ¬ (a : Int) + 2 * (bs : Int) ≤ (sz : Int) := by omega
              have HP : Hid ((if a + bs < sz then symM (ltOf cf) sz a (a + bs) sz dj else dj) = stPass (ltOf cf) sz bs sz 0 dk) := by
                show _ = _
                rw [← heq3.out]
                cases gk with
                | zero => rfl
                | succ k => rw [stPass, if_neg hlt3]
              go_wp2_with (go_at_call 83; ((with_reducible refine (sym_calls T cap sz a (a + bs) sz _ _ _ dj _ rfl (by omega) rfl C1 (by omega) (by omega) (Nat.le_refl _) (by omega)).mono ?_); rintro e w2 ⟨rfl, C2⟩))
              all_goals
                go_roundg k
                case measure => omega
                case rel =>
                  refine ⟨2 * bs, stPass (ltOf cf) sz bs sz 0 dk, by first | rfl | (congr 1; omega), by omega, by omega, by omega, ?_, ?_⟩
                  · rw [← HP.out]
                    first
                      | (rw [if_pos (by omega)]; exact C2)
                      | (rw [if_neg (by omega)]; exact C1)
                  · have h := heq.out
                    rw [stLoop, if_pos hlt2] at h
                    exact h
        · have hltz2 : ¬ (bs : Int) < (sz : Int) := by omega
          go_wp2_with fail
          go_end0
          refine ⟨rfl, ?_⟩
          have h := heq.out
          have e0 : stLoop (ltOf cf) sz gk bs dk = dk := by
            cases gk with
            | zero => rfl
            | succ k => rw [stLoop, if_neg hlt2]
          rw [e0, HD1.out] at h
          rw [stable, ← h]
          exact C1

/-- slices.SortStableFunc. -/
theorem sortStable_calls {α : Type} [Inhabited α] {enc : α → Value} {cf : α → α → Int} {g : Nat} {cb : Array Value} {blk off sz : Nat} {d0 : Array α} {w0 : World} (T : Told enc cf g cb blk off sz d0 w0)
    (cap : Nat) (d : Array α) (w : World) (hc : Cur enc w0 blk off sz d w) :
    Calls Try.prog 62 #[.slice (some ⟨blk, off, none⟩) sz cap, .func (.func g) #[] cb] w fun e w' => e = .returned (.tuple #[]) ∧ Cur enc w0 blk off sz (stable (ltOf cf) sz d) w' := by
  have hsz := T.hsz
  go_enter Try.func62, Try.ntmps62
  go_wp2_with (go_at_call 80; ((with_reducible refine (stable_calls T cap d _ hc).mono ?_); rintro e w1 ⟨rfl, C2⟩))
  go_end0
  exact ⟨rfl, C2⟩

theorem ins_none (p : Option Addr) (n cap : Nat) (f : Value) (w : World) :
    Calls Try.prog 82 #[.slice p n cap, .int .i64 0, .int .i64 0, f] w fun e w' => e = .returned (.tuple #[]) ∧ w = w' := by
  go_enter Try.func82, Try.ntmps82
  go_wp2_with fail
  refine wp_loop_rounds 1 ?_
  rw [rounds_succ]
  go_wp2
  go_end0
  exact ⟨rfl, rfl⟩

theorem stable_none (p : Option Addr) (n cap : Nat) (f : Value) (w : World) :
    Calls Try.prog 80 #[.slice p n cap, .int .i64 0, f] w fun e w' => e = .returned (.tuple #[]) ∧ w = w' := by
  go_enter Try.func80, Try.ntmps80
  go_wp2_with fail
  refine wp_loop_rounds 1 ?_
  rw [rounds_succ]
  go_wp2_with (go_at_call 82; ((with_reducible refine (ins_none p n cap f _).mono ?_); rintro e w1 ⟨rfl, rfl⟩))
  refine wp_loop_rounds 1 ?_
  rw [rounds_succ]
  go_wp2_with fail
  go_end0
  exact ⟨rfl, rfl⟩

/-- slices.SortStableFunc of no element. -/
theorem sortStable_none (p : Option Addr) (cap : Nat) (f : Value) (w : World) :
    Calls Try.prog 62 #[.slice p 0 cap, f] w fun e w' => e = .returned (.tuple #[]) ∧ w = w' := by
  go_enter Try.func62, Try.ntmps62
  go_wp2_with (go_at_call 80; ((with_reducible refine (stable_none _ _ _ _ _).mono ?_); rintro e w1 ⟨rfl, rfl⟩))
  go_end0
  exact ⟨rfl, rfl⟩

end Go.Proofs.Ythgijppajindpaa
