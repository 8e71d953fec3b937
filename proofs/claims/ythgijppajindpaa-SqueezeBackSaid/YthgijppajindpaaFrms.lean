/-
  prefix.Next and bitio.Pack in the print's form of a contract.
-/
import Derived.Test.YthgijppajindpaaNxts
import Derived.Test.YthgijppajindpaaPcks
import Derived.Test.YthgijppajindpaaK7c
set_option linter.unusedVariables false
set_option linter.unusedSimpArgs false
namespace Go.Proofs.Ythgijppajindpaa
open Go.RowKit Go.Proofs.YthgijppajindpaaW.PrintWords Go.Proofs.Ythgijppajindpaa.K7

def prefix_Next.f (s0_0 : ByteArray) (s0_1 : Int) (l1 : List Int) : Option (Int × Int × ByteArray × Int) :=
  if 0 ≤ s0_1 ∧ s0_1 ≤ 8 * (s0_0.size : Int) ∧ s0_0.size ≤ 140737488355328 ∧ l1.length ≤ 1000 then some ((Nx l1 s0_0 s0_1.toNat).1, (Nx l1 s0_0 s0_1.toNat).2.1, s0_0, ((Nx l1 s0_0 s0_1.toNat).2.2 : Int)) else none

theorem tch_states {w0 w w' : World} {g : Nat} (hg : w0.heap.size ≤ g) (hB : Below w0.heap.size w0 w) (hT : Tch (oneB g) w w') : Below w0.heap.size w0 w' ∧ KeepBut w w' g none :=
  ⟨⟨hT.os.trans hB.os, hT.tape.trans hB.tape, hT.output.trans hB.output, Nat.le_trans hB.size hT.size, fun k hk => (hT.block k (Nat.lt_of_lt_of_le hk hB.size) (fun e => by have : k = g := e; omega)).trans (hB.block k hk)⟩,
   ⟨hT.size, fun i hi hne _ => hT.block i hi hne⟩⟩

theorem prefix_Next.calls (g : Nat) (s0_0 : ByteArray) (s0_1 : Int) (A1 : Option Addr) (c1 : Nat) (l1 : List Int) (r1 : Int) (r2 : Int) (r3 : ByteArray) (r4 : Int) (w0 w : World) (hI : IsS86 w0 w g s0_0 s0_1) (hB : Below w0.heap.size w0 w) (hr1 : Kd.C (Kd.int .i64) w A1 l1.length l1) (hc1 : l1.length ≤ c1) (hf1 : ∀ ad, A1 = some ad → 0 < l1.length → ad.block ≠ g) (h : prefix_Next.f s0_0 s0_1 l1 = some (r1, r2, r3, r4)) :
    Calls Try.prog 25 #[.pointer (some ⟨g, 0, none⟩), .slice A1 l1.length c1] w fun e w' => e = .returned (.tuple #[.int .i64 r1, .int .i64 r2]) ∧ IsS86 w0 w' g r3 r4 ∧ Below w0.heap.size w0 w' ∧ KeepBut w w' g none := by
  unfold prefix_Next.f at h
  split at h
  · rename_i hc
    obtain ⟨h0, h1, h2, h3⟩ := hc
    obtain ⟨a, rfl⟩ := Int.eq_ofNat_of_zero_le h0
    rw [Int.toNat_natCast] at h
    simp only [Option.some.injEq, Prod.mk.injEq] at h
    obtain ⟨rfl, rfl, rfl, rfl⟩ := h
    refine (next_calls A1 l1.length c1 l1 g s0_0 a w h3 (rd_of_C hr1) h2 (by omega) hI.1 hf1).mono ?_
    rintro e w' ⟨rfl, hR, hT⟩
    obtain ⟨t1, t2⟩ := tch_states hI.2 hB hT
    exact ⟨rfl, ⟨hR, hI.2⟩, t1, t2⟩
  · cases h

def bitio_Pack.f (l0 : List S42) : Option (ByteArray × Int) := if l0.length ≤ 1000000 ∧ (l0.all fun p => decide (0 ≤ p.f0 ∧ p.f0 < 4294967296)) = true then some (Pack l0) else none

theorem rdp_of_C {w : World} {A : Option Addr} {n : Nat} {ps : List S42} (h : Kd.C k42 w A n ps) : Rdp w A n ps := by
  have hl : ps.length = n := Kd.C_len h
  refine ⟨hl, fun hn => ?_⟩
  obtain ⟨ad, e, h0, h1⟩ := at_T42 h 0 (by omega) (by omega)
  obtain ⟨b, off, sp⟩ := ad
  have hsp : sp = none := by
    have e0 : (⟨b, off, sp⟩ : Addr).add ((0 : Int).toNat * 2) = ⟨b, off, sp⟩ := by unfold Addr.add; rfl
    rw [e0] at h0
    unfold World.cell? at h0
    cases sp with
    | none => rfl
    | some q => split at h0 <;> simp at h0
  subst hsp
  have hadd : ∀ m, (⟨b, off, none⟩ : Addr).add m = ⟨b, off + m, none⟩ := by
    intro m
    unfold Addr.add
    split
    · rename_i e; subst e; rfl
    · rfl
  refine ⟨b, off, e, ?_, fun j hj => ?_⟩
  · rw [hadd] at h0
    exact lt_of_cell h0
  · obtain ⟨ad', e', g0, g1⟩ := at_T42 h (j : Int) (by omega) (by omega)
    rw [e] at e'
    cases e'
    rw [Int.toNat_natCast, hadd] at g0 g1
    have hrd : rd_T42 ps (j : Int) = ps.getD j z42 := by unfold rd_T42; rw [Int.toNat_natCast]
    rw [hrd] at g0 g1
    exact ⟨g0, g1⟩

theorem bitio_Pack.calls (A0 : Option Addr) (c0 : Nat) (l0 : List S42) (r1 : ByteArray) (r2 : Int) (w : World) (hr0 : Kd.C k42 w A0 l0.length l0) (hc0 : l0.length ≤ c0) (h : bitio_Pack.f l0 = some (r1, r2)) :
    Calls Try.prog 29 #[.slice A0 l0.length c0] w fun e w' => e = .returned (.tuple #[.string r1, .int .i64 r2]) ∧ Below w.heap.size w w' := by
  unfold bitio_Pack.f at h
  split at h
  · rename_i hc
    have e : Pack l0 = (r1, r2) := Option.some.inj h
    have h1 := pack_calls A0 l0.length c0 l0 w hc.1 (fun p hp => by
      have := List.all_eq_true.1 hc.2 p hp
      simpa using this) (rdp_of_C hr0)
    rw [e] at h1
    exact h1
  · cases h

end Go.Proofs.Ythgijppajindpaa
