/-
  slices.symMergeCmpFunc at *prefix.node: what it leaves is the plain 'symM'.
-/
import Derived.Test.YthgijppajindpaaStb3
namespace Go.Proofs.Ythgijppajindpaa
open Go.Shelf Go.RowKit Go.Lib Go.Sort

section
variable {α : Type} [Inhabited α]

theorem size_upLoop (k e : Nat) (d : Array α) : (upLoop k e d).size = d.size := by
  unfold upLoop
  split
  · rw [size_upLoop, size_swp]
  · rfl
termination_by e - k

theorem size_downLoop (i : Nat) : ∀ (k : Nat) (d : Array α), (downLoop i k d).size = d.size
  | 0, d => rfl
  | k + 1, d => by
    rw [downLoop]
    split
    · rw [size_downLoop i k, size_swp]
    · rfl

theorem size_rot (m : Nat) : ∀ (k i j : Nat) (d : Array α), (rot m k i j d).size = d.size
  | 0, i, j, d => rfl
  | k + 1, i, j, d => by
    rw [rot]
    split
    · rw [size_swapLoop]
    · split
      · rw [size_rot m k, size_swapLoop]
      · rw [size_rot m k, size_swapLoop]

def symMid (a b : Nat) : Nat := (a + b) / 2
def symS0 (a m b : Nat) : Nat := if symMid a b < m then symMid a b + m - b else a
def symR0 (a m b : Nat) : Nat := if symMid a b < m then symMid a b else m
/-- Where the first run is parted. -/
def symStart (lt : α → α → Bool) (a m b : Nat) (d : Array α) : Nat :=
  bs (fun c => !lt d[symMid a b + m - 1 - c]! d[c]!) (symR0 a m b - symS0 a m b) (symS0 a m b) (symR0 a m b)
def symRot (m s e : Nat) (d : Array α) : Array α := if s < m ∧ m < e then rot m (e - s) (m - s) (e - m) d else d

def symM (lt : α → α → Bool) : Nat → Nat → Nat → Nat → Array α → Array α
  | 0, _, _, _, d => d
  | k + 1, a, m, b, d =>
    if m = a + 1 then upLoop a (bs (fun h => lt d[h]! d[a]!) (b - m) m b - 1) d
    else if b = m + 1 then downLoop (bs (fun h => !lt d[m]! d[h]!) (m - a) a m) m d
    else
      (fun s : Nat => (fun d2 : Array α => if symMid a b < symMid a b + m - s ∧ symMid a b + m - s < b then symM lt k (symMid a b) (symMid a b + m - s) b d2 else d2)
        ((fun d1 : Array α => if a < s ∧ s < symMid a b then symM lt k a s (symMid a b) d1 else d1) (symRot m s (symMid a b + m - s) d))) (symStart lt a m b d)

theorem size_symRot (m s e : Nat) (d : Array α) : (symRot m s e d).size = d.size := by
  unfold symRot
  split
  · rw [size_rot]
  · rfl

theorem size_symM (lt : α → α → Bool) : ∀ (k a m b : Nat) (d : Array α), (symM lt k a m b d).size = d.size
  | 0, _, _, _, d => rfl
  | k + 1, a, m, b, d => by
    rw [symM]
    split
    · rw [size_upLoop]
    · split
      · rw [size_downLoop]
      · dsimp only
        split
        · rw [size_symM lt k]
          split
          · rw [size_symM lt k, size_symRot]
          · rw [size_symRot]
        · split
          · rw [size_symM lt k, size_symRot]
          · rw [size_symRot]

theorem bs_range (p : Nat → Bool) : ∀ (k i j : Nat), i ≤ j → i ≤ bs p k i j ∧ bs p k i j ≤ j
  | 0, i, j, h => ⟨Nat.le_refl _, h⟩
  | k + 1, i, j, h => by
    rw [bs]
    split
    · split
      · have := bs_range p k ((i + j) / 2 + 1) j (by omega)
        omega
      · have := bs_range p k i ((i + j) / 2) (by omega)
        omega
    · omega
end

/-- The row holds dd, of sz elements, in a world of the sort's. -/
def Cur {α : Type} [Inhabited α] (enc : α → Value) (w0 : World) (blk off sz : Nat) (dd : Array α) (W : World) : Prop := dd.size = sz ∧ SW enc w0 blk off dd W

set_option maxHeartbeats 8000000 in
set_option maxRecDepth 1000000 in
/-- The search for the place at which the first run is parted, and what follows it. -/
theorem symMore_calls {α : Type} [Inhabited α] (enc : α → Value) (cf : α → α → Int) (g : Nat) (cb : Array Value) (blk off cap k0 : Nat) (A M B : Int) (a m b sz : Nat) (d0 d : Array α) (w0 w : World)
    (eg : ∀ args w, (callFunc g args).run Try.prog w = .ok (.enter g args) w) (hcmp : CmpLays1 Try.prog g cb enc cf blk off sz w0)
    (ih : ∀ (a m b : Nat) (d : Array α) (w : World), d.size = sz → SW enc w0 blk off d w → a < m → m < b → b ≤ sz → b - a ≤ k0 →
      Calls Try.prog 83 #[.slice (some ⟨blk, off, none⟩) sz cap, .int .i64 a, .int .i64 m, .int .i64 b, .func (.func g) #[] cb] w fun e w' => e = .returned (.tuple #[]) ∧ SW enc w0 blk off (symM (ltOf cf) k0 a m b d) w')
    (R : Row1 enc w0 blk off d0) (hs : d0.size = sz) (hd : d.size = sz) (S : SW enc w0 blk off d w) (hA : A = (a : Int)) (hM : M = (m : Int)) (hB : B = (b : Int)) (ham : a + 1 < m) (hmb : m + 1 < b) (hb : b ≤ sz) (hk0 : b - a ≤ k0 + 1) (hsz : sz < 4611686018427387904) :
    Calls Try.prog 83 #[.slice (some ⟨blk, off, none⟩) sz cap, .int .i64 A, .int .i64 M, .int .i64 B, .func (.func g) #[] cb] w fun e w' => e = .returned (.tuple #[]) ∧ SW enc w0 blk off (symM (ltOf cf) (k0 + 1) a m b d) w' := by
  have HF : Hid (symM (ltOf cf) (k0 + 1) a m b d = (fun s : Nat => (fun d2 : Array α => if symMid a b < symMid a b + m - s ∧ symMid a b + m - s < b then symM (ltOf cf) k0 (symMid a b) (symMid a b + m - s) b d2 else d2)
        ((fun d1 : Array α => if a < s ∧ s < symMid a b then symM (ltOf cf) k0 a s (symMid a b) d1 else d1) (symRot m s (symMid a b + m - s) d))) (symStart (ltOf cf) a m b d)) := by
    show _ = _
    rw [symM, if_neg (by omega), if_neg (by omega)]
  subst hA hM hB
  have S0 : Aside (SW enc w0 blk off d w) := S
  clear S
  have HD : Hid (d.size = sz) := hd; clear hd
  have HS : Hid (d0.size = sz) := hs; clear hs
  have HC : Aside (CmpLays1 Try.prog g cb enc cf blk off sz w0) := hcmp
  clear hcmp
  have IH : Aside _ := ih
  clear ih
  have h1 : ((m : Int) - (a : Int) == 1) = false := by rw [beq_eq_false_iff_ne]; omega
  have h2 : ((b : Int) - (m : Int) == 1) = false := by rw [beq_eq_false_iff_ne]; omega
  obtain ⟨mid, hmid⟩ : ∃ q, q = symMid a b := ⟨_, rfl⟩
  have hmd : mid = (a + b) / 2 := hmid
  have emid : ((a : Int) + (b : Int)) / 2 = (mid : Int) := by omega
  have b1 : a < mid := by omega
  have b2 : mid < b := by omega
  have b3 : mid + mid ≤ a + b := by omega
  have b4 : a + b ≤ mid + mid + 1 := by omega
  have HMD : Hid (mid = symMid a b) := hmid
  clear hmd hmid
  have mixed := Try.mixed
  obtain ⟨s0, r0, hs0, hr0, hcase⟩ : ∃ s0 r0 : Nat, s0 = symS0 a m b ∧ r0 = symR0 a m b ∧ ((mid < m ∧ s0 + b = mid + m ∧ r0 = mid) ∨ (m ≤ mid ∧ s0 = a ∧ r0 = m)) := by
    refine ⟨_, _, rfl, rfl, ?_⟩
    unfold symS0 symR0
    rw [← HMD.out]
    by_cases h : mid < m
    · rw [if_pos h, if_pos h]; left; omega
    · rw [if_neg h, if_neg h]; right; omega
  have HS0 : Hid (s0 = symS0 a m b) := hs0
  have HR0 : Hid (r0 = symR0 a m b) := hr0
  have hsr : s0 ≤ r0 := by omega
  have hra : a ≤ s0 := by omega
  have hrm : r0 ≤ m := by omega
  have hrmid : r0 ≤ mid := by omega
  have hmsr : mid + m ≤ b + s0 := by omega
  clear hs0 hr0
  have HBS : Hid (symStart (ltOf cf) a m b d = bs (fun c => !ltOf cf d[mid + m - 1 - c]! d[c]!) (r0 - s0) s0 r0) := by
    show _ = _
    unfold symStart
    rw [← HMD.out, ← HS0.out, ← HR0.out]
  have hcs : (mid < m ∧ Hid (s0 + b = mid + m) ∧ Hid (r0 = mid)) ∨ (m ≤ mid ∧ Hid (s0 = a) ∧ Hid (r0 = m)) := hcase
  clear hcase
  go_enter Try.func83, Try.ntmps83
  rcases hcs with ⟨c1, C2, C3⟩ | ⟨c1, C2, C3⟩
  · have d1 : (mid : Int) < (m : Int) := by omega
    have d2 : (mid : Int) + (m : Int) - (b : Int) = (s0 : Int) := by have := C2.out; omega
    go_wp2_with fail
    go_loopg [20, 21] (r0 - s0) (fun kx s20 s21 wr => ∃ (i j : Nat), s20 = .int .i64 i ∧ s21 = .int .i64 j ∧ s0 ≤ i ∧ i ≤ j ∧ j ≤ r0 ∧ j - i ≤ kx ∧ Aside (SW enc w0 blk off d wr) ∧ Hid (bs (fun c => !ltOf cf d[mid + m - 1 - c]! d[c]!) kx i j = symStart (ltOf cf) a m b d))
    case atStart =>
      exact ⟨s0, r0, rfl, (by rw [C3.out]), by omega, by omega, by omega, by omega, S0, (show _ = _ from HBS.out.symm)⟩
    case round =>
      clear S0
      obtain ⟨i, j, rfl, rfl, hi, hij, hj, hk, S1, heq⟩ := hrel
      by_cases hlt : i < j
      · have hltz : (i : Int) < (j : Int) := by omega
        obtain ⟨k, rfl⟩ : ∃ q, gk = q + 1 := ⟨gk - 1, by omega⟩
        have step : bs (fun c => !ltOf cf d[mid + m - 1 - c]! d[c]!) (k + 1) i j = if (!ltOf cf d[mid + m - 1 - (i + j) / 2]! d[(i + j) / 2]!) then bs (fun c => !ltOf cf d[mid + m - 1 - c]! d[c]!) k ((i + j) / 2 + 1) j else bs (fun c => !ltOf cf d[mid + m - 1 - c]! d[c]!) k i ((i + j) / 2) := by
          rw [bs, if_pos hlt]
        have HSt : Hid _ := step
        clear step
        have ez : ((i : Int) + (j : Int)) / 2 = (((i + j) / 2 : Nat) : Int) := by omega
        have HZ : Hid (((i : Int) + (j : Int)) / 2 = (((i + j) / 2 : Nat) : Int)) := ez
        obtain ⟨iN, hiN⟩ : ∃ q, q = mid + m - 1 - (i + j) / 2 := ⟨_, rfl⟩
        obtain ⟨jN, hjN⟩ : ∃ q, q = (i + j) / 2 := ⟨_, rfl⟩
        have ra : IntKind.i64.wrap (iN : Int) = (iN : Int) := by rw [IntKind.wrap_i64]; omega
        have eS : (mid : Int) + (m : Int) - 1 - ((i : Int) + (j : Int)) / 2 = (iN : Int) := by omega
        have pa : (0 : Int) ≤ (iN : Int) := by omega
        have ba : (iN : Int) < (sz : Int) := by omega
        have ec : (((i : Int) + (j : Int)) / 2).toNat = jN := by omega
        have pc : (0 : Int) ≤ ((i : Int) + (j : Int)) / 2 := by omega
        have bc : ((i : Int) + (j : Int)) / 2 < (sz : Int) := by omega
        have rc : IntKind.i64.wrap (((i : Int) + (j : Int)) / 2) = ((i : Int) + (j : Int)) / 2 := by rw [IntKind.wrap_i64]; omega
        have bi1 : i ≤ jN := by omega
        have bi2 : jN < j := by omega
        have bi3 : mid + m - 1 - (i + j) / 2 < sz := by omega
        clear ez
        obtain ⟨x, hx⟩ : ∃ x, x = d[mid + m - 1 - (i + j) / 2]! := ⟨_, rfl⟩
        obtain ⟨y, hy⟩ : ∃ x, x = d[(i + j) / 2]! := ⟨_, rfl⟩
        have hdd := HD.out
        have hss := HS.out
        have la := S1.out.cl R (by omega) (mid + m - 1 - (i + j) / 2) (by omega)
        have lb := S1.out.cl R (by omega) ((i + j) / 2) (by omega)
        rw [← hx, ← hiN] at la
        rw [← hy, ← hjN] at lb
        have hc := S1.out.cmp HC.out (by omega) x y
        have HX : Hid ((!ltOf cf d[mid + m - 1 - (i + j) / 2]! d[(i + j) / 2]!) = !decide (cf x y < 0)) := by show _ = _; rw [hx, hy]; rfl
        have HI : Hid (jN = (i + j) / 2) := hjN
        clear hx hy hiN hjN hdd hss bi3
        by_cases hcf : cf x y < 0
        · have hcd : decide (cf x y < 0) = true := decide_eq_true hcf
          go_wp2_with fail
          go_quiet_grown (first | (go_at_fn g; refine Calls.grown_of (hc _ _)))
          have S2 : Aside (SW enc w0 blk off d (grow (wr.drewN nq) osq)) := S1.out.grown nq osq
          clear la lb hc S1
          generalize grow (wr.drewN nq) osq = w2 at S2 ⊢
          clear nq osq eS ra ec
          go_wp2
          go_roundg k
          case measure => omega
          case rel =>
            have e1 := HI.out
            refine ⟨i, jN, rfl, ?_, hi, by omega, by omega, by omega, S2, ?_⟩
            · have := HZ.out; rw [e1]; congr 1
            · have h := heq.out
              rw [HSt.out, HX.out, hcd, if_neg (by simp)] at h
              rw [e1]; exact h
        · have hcd : decide (cf x y < 0) = false := decide_eq_false hcf
          go_wp2_with fail
          go_quiet_grown (first | (go_at_fn g; refine Calls.grown_of (hc _ _)))
          have S2 : Aside (SW enc w0 blk off d (grow (wr.drewN nq) osq)) := S1.out.grown nq osq
          clear la lb hc S1
          generalize grow (wr.drewN nq) osq = w2 at S2 ⊢
          clear nq osq eS ra ec
          go_wp2
          go_roundg k
          case measure => omega
          case rel =>
            have e1 := HI.out
            refine ⟨jN + 1, j, ?_, rfl, by omega, by omega, hj, by omega, S2, ?_⟩
            · have := HZ.out; rw [e1]; congr 1
            · have h := heq.out
              rw [HSt.out, HX.out, hcd, if_pos (by simp)] at h
              rw [e1]; exact h
      · have hltz : ¬ (i : Int) < (j : Int) := by omega
        have hbs : Hid (symStart (ltOf cf) a m b d = i) := by
          show _ = _
          rw [← heq.out]
          cases gk with
          | zero => rfl
          | succ k => rw [bs, if_neg hlt]
        clear heq
        obtain ⟨e, he⟩ : ∃ e : Nat, mid + m = i + e := ⟨mid + m - i, by omega⟩
        have HE : Hid (mid + m = i + e) := he
        have eE : (mid : Int) + (m : Int) - (i : Int) = (e : Int) := by omega
        have f1 : i ≤ mid := by omega
        have f2 : m ≤ e := by omega
        have f3 : mid ≤ e := by omega
        have f4 : e ≤ b := by omega
        have f5 : e + i ≤ mid + m := by omega
        have f6 : mid + m ≤ e + i := by omega
        clear he
        have rotC : ∀ (wx : World), Cur enc w0 blk off sz d wx → i < m → m < e → Calls Try.prog 84 #[.slice (some ⟨blk, off, none⟩) sz cap, .int .i64 i, .int .i64 m, .int .i64 e, .func (.func g) #[] cb] wx fun e' w' => e' = .returned (.tuple #[]) ∧ Cur enc w0 blk off sz (symRot m i e d) w' := by
          intro wx hc g1 g2
          refine (rotate_calls enc g cb blk off cap _ _ _ i m e sz d0 d w0 wx R HS.out hc.1 hc.2 rfl rfl rfl g1 g2 (by omega) hsz).mono ?_
          rintro e' w' ⟨rfl, hS⟩
          refine ⟨rfl, ?_, ?_⟩
          · rw [size_symRot]; exact hc.1
          · rw [symRot, if_pos ⟨g1, g2⟩]; exact hS
        have symC : ∀ (a' m' b' : Nat) (dd : Array α) (wx : World), Cur enc w0 blk off sz dd wx → a' < m' → m' < b' → b' ≤ sz → b' - a' ≤ k0 → Calls Try.prog 83 #[.slice (some ⟨blk, off, none⟩) sz cap, .int .i64 a', .int .i64 m', .int .i64 b', .func (.func g) #[] cb] wx fun e' w' => e' = .returned (.tuple #[]) ∧ Cur enc w0 blk off sz (symM (ltOf cf) k0 a' m' b' dd) w' := by
          intro a' m' b' dd wx hc g1 g2 g3 g4
          refine (IH.out a' m' b' dd wx hc.1 hc.2 g1 g2 g3 g4).mono ?_
          rintro e' w' ⟨rfl, hS⟩
          exact ⟨rfl, by rw [size_symM]; exact hc.1, hS⟩
        have RC : Aside _ := rotC
        have SC : Aside _ := symC
        clear rotC symC
        have C1 : Cur enc w0 blk off sz d wr := ⟨HD.out, S1.out⟩
        clear S1
        have fin : ∀ wx, (Cur enc w0 blk off sz (symM (ltOf cf) (k0 + 1) a m b d) wx) → SW enc w0 blk off (symM (ltOf cf) (k0 + 1) a m b d) wx := fun wx h => h.2
        have FIN : Aside _ := fin
        clear fin
        have HFF : Hid (symM (ltOf cf) (k0 + 1) a m b d = (fun d2 : Array α => if mid < e ∧ e < b then symM (ltOf cf) k0 mid e b d2 else d2) ((fun d1 : Array α => if a < i ∧ i < mid then symM (ltOf cf) k0 a i mid d1 else d1) (symRot m i e d))) := by
          show _ = _
          rw [HF.out, hbs.out, ← HMD.out]
          have e9 : mid + m - i = e := by have := HE.out; omega
          rw [e9]
        have RN : Aside (¬ (i < m ∧ m < e) → symRot m i e d = d) := fun h => by rw [symRot, if_neg h]
        go_wp2_with (first | (go_at_call 84; ((with_reducible refine (RC.out _ (by assumption) (by omega) (by omega)).mono ?_); rintro e' w1 ⟨rfl, C2⟩)) | (go_at_call 83; ((with_reducible refine (SC.out a i mid _ _ (by assumption) (by omega) (by omega) (by omega) (by omega)).mono ?_); rintro e' w2 ⟨rfl, C3⟩)) | (go_at_call 83; ((with_reducible refine (SC.out mid e b _ _ (by assumption) (by omega) (by omega) (by omega) (by omega)).mono ?_); rintro e' w3 ⟨rfl, C4⟩)))
        all_goals
          go_end0
          refine ⟨rfl, FIN.out _ ?_⟩
          rw [HFF.out]
          (try dsimp only)
          first | rw [if_pos (c := mid < e ∧ e < b) (by omega)] | rw [if_neg (c := mid < e ∧ e < b) (by omega)]
          first | rw [if_pos (c := a < i ∧ i < mid) (by omega)] | rw [if_neg (c := a < i ∧ i < mid) (by omega)]
          first | assumption | (rw [RN.out (by omega)]; assumption)
  · have d1 : ¬ (mid : Int) < (m : Int) := by omega
    go_wp2_with fail
    go_loopg [20, 21] (r0 - s0) (fun kx s20 s21 wr => ∃ (i j : Nat), s20 = .int .i64 i ∧ s21 = .int .i64 j ∧ s0 ≤ i ∧ i ≤ j ∧ j ≤ r0 ∧ j - i ≤ kx ∧ Aside (SW enc w0 blk off d wr) ∧ Hid (bs (fun c => !ltOf cf d[mid + m - 1 - c]! d[c]!) kx i j = symStart (ltOf cf) a m b d))
    case atStart =>
      exact ⟨s0, r0, (by rw [C2.out]), (by rw [C3.out]), by omega, by omega, by omega, by omega, S0, (show _ = _ from HBS.out.symm)⟩
    case round =>
      clear S0
      obtain ⟨i, j, rfl, rfl, hi, hij, hj, hk, S1, heq⟩ := hrel
      by_cases hlt : i < j
      · have hltz : (i : Int) < (j : Int) := by omega
        obtain ⟨k, rfl⟩ : ∃ q, gk = q + 1 := ⟨gk - 1, by omega⟩
        have step : bs (fun c => !ltOf cf d[mid + m - 1 - c]! d[c]!) (k + 1) i j = if (!ltOf cf d[mid + m - 1 - (i + j) / 2]! d[(i + j) / 2]!) then bs (fun c => !ltOf cf d[mid + m - 1 - c]! d[c]!) k ((i + j) / 2 + 1) j else bs (fun c => !ltOf cf d[mid + m - 1 - c]! d[c]!) k i ((i + j) / 2) := by
          rw [bs, if_pos hlt]
        have HSt : Hid _ := step
        clear step
        have ez : ((i : Int) + (j : Int)) / 2 = (((i + j) / 2 : Nat) : Int) := by omega
        have HZ : Hid (((i : Int) + (j : Int)) / 2 = (((i + j) / 2 : Nat) : Int)) := ez
        obtain ⟨iN, hiN⟩ : ∃ q, q = mid + m - 1 - (i + j) / 2 := ⟨_, rfl⟩
        obtain ⟨jN, hjN⟩ : ∃ q, q = (i + j) / 2 := ⟨_, rfl⟩
        have ra : IntKind.i64.wrap (iN : Int) = (iN : Int) := by rw [IntKind.wrap_i64]; omega
        have eS : (mid : Int) + (m : Int) - 1 - ((i : Int) + (j : Int)) / 2 = (iN : Int) := by omega
        have pa : (0 : Int) ≤ (iN : Int) := by omega
        have ba : (iN : Int) < (sz : Int) := by omega
        have ec : (((i : Int) + (j : Int)) / 2).toNat = jN := by omega
        have pc : (0 : Int) ≤ ((i : Int) + (j : Int)) / 2 := by omega
        have bc : ((i : Int) + (j : Int)) / 2 < (sz : Int) := by omega
        have rc : IntKind.i64.wrap (((i : Int) + (j : Int)) / 2) = ((i : Int) + (j : Int)) / 2 := by rw [IntKind.wrap_i64]; omega
        have bi1 : i ≤ jN := by omega
        have bi2 : jN < j := by omega
        have bi3 : mid + m - 1 - (i + j) / 2 < sz := by omega
        clear ez
        obtain ⟨x, hx⟩ : ∃ x, x = d[mid + m - 1 - (i + j) / 2]! := ⟨_, rfl⟩
        obtain ⟨y, hy⟩ : ∃ x, x = d[(i + j) / 2]! := ⟨_, rfl⟩
        have hdd := HD.out
        have hss := HS.out
        have la := S1.out.cl R (by omega) (mid + m - 1 - (i + j) / 2) (by omega)
        have lb := S1.out.cl R (by omega) ((i + j) / 2) (by omega)
        rw [← hx, ← hiN] at la
        rw [← hy, ← hjN] at lb
        have hc := S1.out.cmp HC.out (by omega) x y
        have HX : Hid ((!ltOf cf d[mid + m - 1 - (i + j) / 2]! d[(i + j) / 2]!) = !decide (cf x y < 0)) := by show _ = _; rw [hx, hy]; rfl
        have HI : Hid (jN = (i + j) / 2) := hjN
        clear hx hy hiN hjN hdd hss bi3
        by_cases hcf : cf x y < 0
        · have hcd : decide (cf x y < 0) = true := decide_eq_true hcf
          go_wp2_with fail
          go_quiet_grown (first | (go_at_fn g; refine Calls.grown_of (hc _ _)))
          have S2 : Aside (SW enc w0 blk off d (grow (wr.drewN nq) osq)) := S1.out.grown nq osq
          clear la lb hc S1
          generalize grow (wr.drewN nq) osq = w2 at S2 ⊢
          clear nq osq eS ra ec
          go_wp2
          go_roundg k
          case measure => omega
          case rel =>
            have e1 := HI.out
            refine ⟨i, jN, rfl, ?_, hi, by omega, by omega, by omega, S2, ?_⟩
            · have := HZ.out; rw [e1]; congr 1
            · have h := heq.out
              rw [HSt.out, HX.out, hcd, if_neg (by simp)] at h
              rw [e1]; exact h
        · have hcd : decide (cf x y < 0) = false := decide_eq_false hcf
          go_wp2_with fail
          go_quiet_grown (first | (go_at_fn g; refine Calls.grown_of (hc _ _)))
          have S2 : Aside (SW enc w0 blk off d (grow (wr.drewN nq) osq)) := S1.out.grown nq osq
          clear la lb hc S1
          generalize grow (wr.drewN nq) osq = w2 at S2 ⊢
          clear nq osq eS ra ec
          go_wp2
          go_roundg k
          case measure => omega
          case rel =>
            have e1 := HI.out
            refine ⟨jN + 1, j, ?_, rfl, by omega, by omega, hj, by omega, S2, ?_⟩
            · have := HZ.out; rw [e1]; congr 1
            · have h := heq.out
              rw [HSt.out, HX.out, hcd, if_pos (by simp)] at h
              rw [e1]; exact h
      · have hltz : ¬ (i : Int) < (j : Int) := by omega
        have hbs : Hid (symStart (ltOf cf) a m b d = i) := by
          show _ = _
          rw [← heq.out]
          cases gk with
          | zero => rfl
          | succ k => rw [bs, if_neg hlt]
        clear heq
        obtain ⟨e, he⟩ : ∃ e : Nat, mid + m = i + e := ⟨mid + m - i, by omega⟩
        have HE : Hid (mid + m = i + e) := he
        have eE : (mid : Int) + (m : Int) - (i : Int) = (e : Int) := by omega
        have f1 : i ≤ mid := by omega
        have f2 : m ≤ e := by omega
        have f3 : mid ≤ e := by omega
        have f4 : e ≤ b := by omega
        have f5 : e + i ≤ mid + m := by omega
        have f6 : mid + m ≤ e + i := by omega
        clear he
        have rotC : ∀ (wx : World), Cur enc w0 blk off sz d wx → i < m → m < e → Calls Try.prog 84 #[.slice (some ⟨blk, off, none⟩) sz cap, .int .i64 i, .int .i64 m, .int .i64 e, .func (.func g) #[] cb] wx fun e' w' => e' = .returned (.tuple #[]) ∧ Cur enc w0 blk off sz (symRot m i e d) w' := by
          intro wx hc g1 g2
          refine (rotate_calls enc g cb blk off cap _ _ _ i m e sz d0 d w0 wx R HS.out hc.1 hc.2 rfl rfl rfl g1 g2 (by omega) hsz).mono ?_
          rintro e' w' ⟨rfl, hS⟩
          refine ⟨rfl, ?_, ?_⟩
          · rw [size_symRot]; exact hc.1
          · rw [symRot, if_pos ⟨g1, g2⟩]; exact hS
        have symC : ∀ (a' m' b' : Nat) (dd : Array α) (wx : World), Cur enc w0 blk off sz dd wx → a' < m' → m' < b' → b' ≤ sz → b' - a' ≤ k0 → Calls Try.prog 83 #[.slice (some ⟨blk, off, none⟩) sz cap, .int .i64 a', .int .i64 m', .int .i64 b', .func (.func g) #[] cb] wx fun e' w' => e' = .returned (.tuple #[]) ∧ Cur enc w0 blk off sz (symM (ltOf cf) k0 a' m' b' dd) w' := by
          intro a' m' b' dd wx hc g1 g2 g3 g4
          refine (IH.out a' m' b' dd wx hc.1 hc.2 g1 g2 g3 g4).mono ?_
          rintro e' w' ⟨rfl, hS⟩
          exact ⟨rfl, by rw [size_symM]; exact hc.1, hS⟩
        have RC : Aside _ := rotC
        have SC : Aside _ := symC
        clear rotC symC
        have C1 : Cur enc w0 blk off sz d wr := ⟨HD.out, S1.out⟩
        clear S1
        have fin : ∀ wx, (Cur enc w0 blk off sz (symM (ltOf cf) (k0 + 1) a m b d) wx) → SW enc w0 blk off (symM (ltOf cf) (k0 + 1) a m b d) wx := fun wx h => h.2
        have FIN : Aside _ := fin
        clear fin
        have HFF : Hid (symM (ltOf cf) (k0 + 1) a m b d = (fun d2 : Array α => if mid < e ∧ e < b then symM (ltOf cf) k0 mid e b d2 else d2) ((fun d1 : Array α => if a < i ∧ i < mid then symM (ltOf cf) k0 a i mid d1 else d1) (symRot m i e d))) := by
          show _ = _
          rw [HF.out, hbs.out, ← HMD.out]
          have e9 : mid + m - i = e := by have := HE.out; omega
          rw [e9]
        have RN : Aside (¬ (i < m ∧ m < e) → symRot m i e d = d) := fun h => by rw [symRot, if_neg h]
        go_wp2_with (first | (go_at_call 84; ((with_reducible refine (RC.out _ (by assumption) (by omega) (by omega)).mono ?_); rintro e' w1 ⟨rfl, C2⟩)) | (go_at_call 83; ((with_reducible refine (SC.out a i mid _ _ (by assumption) (by omega) (by omega) (by omega) (by omega)).mono ?_); rintro e' w2 ⟨rfl, C3⟩)) | (go_at_call 83; ((with_reducible refine (SC.out mid e b _ _ (by assumption) (by omega) (by omega) (by omega) (by omega)).mono ?_); rintro e' w3 ⟨rfl, C4⟩)))
        all_goals
          go_end0
          refine ⟨rfl, FIN.out _ ?_⟩
          rw [HFF.out]
          (try dsimp only)
          first | rw [if_pos (c := mid < e ∧ e < b) (by omega)] | rw [if_neg (c := mid < e ∧ e < b) (by omega)]
          first | rw [if_pos (c := a < i ∧ i < mid) (by omega)] | rw [if_neg (c := a < i ∧ i < mid) (by omega)]
          first | assumption | (rw [RN.out (by omega)]; assumption)

/-- slices.symMergeCmpFunc: what it leaves is 'symM'. -/
theorem symMerge_calls {α : Type} [Inhabited α] (enc : α → Value) (cf : α → α → Int) (g : Nat) (cb : Array Value) (blk off cap sz : Nat) (d0 : Array α) (w0 : World)
    (eg : ∀ args w, (callFunc g args).run Try.prog w = .ok (.enter g args) w) (hcmp : CmpLays1 Try.prog g cb enc cf blk off sz w0)
    (R : Row1 enc w0 blk off d0) (hs : d0.size = sz) (hsz : sz < 4611686018427387904) (k : Nat) :
    ∀ (a m b : Nat) (d : Array α) (w : World), d.size = sz → SW enc w0 blk off d w → a < m → m < b → b ≤ sz → b - a ≤ k →
      Calls Try.prog 83 #[.slice (some ⟨blk, off, none⟩) sz cap, .int .i64 a, .int .i64 m, .int .i64 b, .func (.func g) #[] cb] w fun e w' => e = .returned (.tuple #[]) ∧ SW enc w0 blk off (symM (ltOf cf) k a m b d) w' := by
  induction k with
  | zero => intro a m b d w _ _ h1 h2 _ h3; omega
  | succ k ih =>
    intro a m b d w hd hS ham hmb hb hk
    by_cases h1 : m = a + 1
    · refine (symOne_calls enc cf g cb blk off cap _ _ _ a m b sz d0 d w0 w eg hcmp R hs hd hS rfl rfl rfl h1 hmb hb hsz).mono ?_
      rintro e w' ⟨rfl, h⟩
      exact ⟨rfl, by rw [symM, if_pos h1]; exact h⟩
    · by_cases h2 : b = m + 1
      · refine (symLast_calls enc cf g cb blk off cap _ _ _ a m b sz d0 d w0 w eg hcmp R hs hd hS rfl rfl rfl (by omega) h2 hb hsz).mono ?_
        rintro e w' ⟨rfl, h⟩
        exact ⟨rfl, by rw [symM, if_neg h1, if_pos h2]; exact h⟩
      · exact symMore_calls enc cf g cb blk off cap k _ _ _ a m b sz d0 d w0 w eg hcmp ih R hs hd hS rfl rfl rfl (by omega) (by omega) hb hk hsz

end Go.Proofs.Ythgijppajindpaa
