/- The codec's reader: take and num; the reference's number. -/
import Derived.Test.YtanibabfdpgbbaaOwn
import Derived.Test.YtanibabfdpgbbaaCodecW1
import Derived.Laws.Bits64b
namespace Go.Proofs.Ytanibabfdpgbbaa
open Go.RowKit

/-- What is left of a slice value behind k. -/
def restV (A : Option Addr) (n c k : Nat) : Value := .slice (cutA A c k) (n - k) (c - k)
set_option maxRecDepth 20000 in
set_option maxHeartbeats 1600000 in
theorem take_fit (g : Nat) (A : Option Addr) (n c k : Nat) (w : World) (hc : w.cell? ⟨g, 0, none⟩ = some (.slice A n c)) (hf : w.frozen? ⟨g, 0, none⟩ = false) (hk : k ≤ n) (hnc : n ≤ c) (_hcm : c ≤ 9223372036854775807) :
    Calls Try.prog 62 #[.pointer (some ⟨g, 0, none⟩), .int .i64 k] w fun e w' => e = .returned (.slice A k c) ∧ w' = w.setCell ⟨g, 0, none⟩ (restV A n c k) := by
  have hd : decide (n < k) = false := decide_eq_false (by omega)
  have hk0 : (0 : Int) ≤ (k : Int) := Int.natCast_nonneg _
  have hk1 : (k : Int) ≤ (c : Int) := by omega
  have hk2 : (k : Int) ≤ (n : Int) := by omega
  go_enter Try.func62, Try.ntmps62
  go_wp2_with fail
  refine (fail_no _).mono ?_
  rintro e w' ⟨rfl, rfl⟩
  go_wp2_with fail
  all_goals
    go_ret
    refine ⟨rfl, ?_⟩
    simp [restV, cutA, *]
theorem take_unfit (g : Nat) (A : Option Addr) (n c k : Nat) (w : World) (hc : w.cell? ⟨g, 0, none⟩ = some (.slice A n c)) (hk : n < k) :
    Calls Try.prog 62 #[.pointer (some ⟨g, 0, none⟩), .int .i64 k] w fun e w' => e = .panicked gaveUp ∧ w = w' := by
  have hd : decide (n < k) = true := decide_eq_true (by omega)
  go_enter Try.func62, Try.ntmps62
  go_wp2_with fail
  refine (fail_yes _).mono ?_
  rintro e w' ⟨rfl, rfl⟩
  exact ⟨rfl, rfl, rfl⟩

set_option maxRecDepth 20000 in
set_option maxHeartbeats 1600000 in
theorem num_unfit (g : Nat) (A : Option Addr) (n c k : Nat) (w : World) (hc : w.cell? ⟨g, 0, none⟩ = some (.slice A n c)) (hk : n < k) :
    Calls Try.prog 61 #[.pointer (some ⟨g, 0, none⟩), .int .i64 k] w fun e w' => e = .panicked gaveUp ∧ w = w' := by
  go_enter Try.func61, Try.ntmps61
  go_wp2_with fail
  refine (take_unfit g A n c k w hc hk).mono ?_
  rintro e w' ⟨rfl, rfl⟩
  exact ⟨rfl, rfl, rfl⟩
set_option maxRecDepth 20000 in
theorem or_byte (m : Nat) (x : UInt8) (h : m * 256 + x.toNat < 18446744073709551616) : bits .or .u64 ((m : Int) * 256) (x.toNat : Int) = ((m * 256 + x.toNat : Nat) : Int) := by
  have hx := x.toNat_lt
  have h2 := Nat.two_pow_add_eq_or_of_lt (i := 8) (b := x.toNat) hx m
  rw [show (2 : Nat) ^ 8 = 256 from rfl, Nat.mul_comm 256 m] at h2
  have h3 := bits_or_u64_nat (m * 256) x.toNat (by omega) (by omega)
  rw [Int.natCast_mul] at h3
  rw [h2]
  exact h3
set_option maxRecDepth 20000 in
set_option maxHeartbeats 1600000 in
theorem num_fit (g : Nat) (A : Option Addr) (n c k : Nat) (xs : List UInt8) (w : World) (hc : w.cell? ⟨g, 0, none⟩ = some (.slice A n c)) (hf : w.frozen? ⟨g, 0, none⟩ = false) (hk : k ≤ n) (hk8 : k ≤ 8)
    (hr : RB (w.setCell ⟨g, 0, none⟩ (restV A n c k)) A n c xs) :
    Calls Try.prog 61 #[.pointer (some ⟨g, 0, none⟩), .int .i64 k] w fun e w' => e = .returned (.int .u64 (numOf (xs.take k))) ∧ w' = w.setCell ⟨g, 0, none⟩ (restV A n c k) := by
  have hnc := hr.2.1
  have hcm := hr.2.2.1
  have HR := Lib.hid hr
  clear hr
  go_enter Try.func61, Try.ntmps61
  go_wp2_with fail
  refine (take_fit g A n c k w hc hf hk hnc hcm).mono ?_
  rintro e w' ⟨rfl, rfl⟩
  generalize hw1 : w.setCell ⟨g, 0, none⟩ (restV A n c k) = w1 at *
  have HW1 := Lib.hid hw1
  clear hc hf hw1
  go_wp2_with fail
  go_loopw [5, 12] (fun u i wr => ∃ j, j ≤ k ∧ i = .int .i64 (j : Nat) ∧ u = .int .u64 (numOf (xs.take j)) ∧ wr = w1) (fun _ i _ => k - (intOf i).toNat)
  case atStart => exact ⟨0, by omega, rfl, rfl, rfl⟩
  case round =>
    obtain ⟨j, hj, rfl, rfl, rfl⟩ := hrel
    by_cases hlt : j < k
    · have hj0 : (0 : Int) ≤ (j : Int) := Int.natCast_nonneg _
      have hj1 : (j : Int) < (k : Int) := by omega
      obtain ⟨b, o, rfl, hcells⟩ := HR.out.2.2.2 (by omega)
      have hcell := hcells j (by omega)
      have hnt := numOf_take xs j (by rw [HR.out.1]; omega)
      have hsm := numOf_small xs (j + 1) (by omega)
      rw [hnt] at hsm
      have hx := (at8 xs j).toNat_lt
      have HT := Lib.hid hnt
      clear hcells hnt
      generalize numOf (xs.take j) = m at *
      generalize at8 xs j = x at *
      go_wp2_with fail
      go_roundw
      case rel => exact ⟨j + 1, by omega, by go_num, by rw [HT.out, or_byte m x (by omega)], trivial⟩
      case measure => simp [intOf]; omega
    · obtain rfl : j = k := by omega
      go_wp2_with fail
      go_ret
      exact ⟨rfl, HW1.out.symm⟩
end Go.Proofs.Ytanibabfdpgbbaa
