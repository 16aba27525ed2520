/- What crc.Add and the document's sum compute: crcAdd. -/
import Derived.Test.YtanibabfdpgbbaaProg
import Derived.Test.YtanibabfdpgbbaaCrcMath
import Derived.Lib.Hide
namespace Go.Proofs.Ytanibabfdpgbbaa
open Go.RowKit

theorem ret_u32 {a b : Int} (h : a = b) : Ending.returned (.int .u32 a) = .returned (.int .u32 b) := by rw [h]

set_option maxHeartbeats 400000 in
theorem crc_Add (s : BitVec 32) (A : Option Addr) (n c : Nat) (xs : List UInt8) (w : World) (hx : RB w A n c xs) :
    Calls Try.prog 60 #[.int .u32 (s.toNat : Int), .slice A n c] w fun e w' => e = .returned (.int .u32 ((crcAdd s xs).toNat : Int)) ∧ w = w' := by
  obtain ⟨hl, hnc, hc, hA⟩ := hx
  have HL := Lib.hid hl; clear hl
  have hs := s.isLt
  go_enter Try.func60, Try.ntmps60
  go_wp2
  go_loop [0, 11] (fun t i => ∃ k : Nat, k ≤ n ∧ i = .int .i64 k ∧ t = .int .u32 ((crcFold (~~~ s) (xs.take k)).toNat : Int)) (fun _ i => n - (intOf i).toNat)
  case atStart => exact ⟨0, by omega, rfl, by rw [not_int]; rfl⟩
  case round =>
    obtain ⟨k, hk, rfl, rfl⟩ := hrel
    by_cases hlt : k < n
    · obtain ⟨b, o, rfl, hX⟩ := hA (by omega)
      have hcell := hX k hlt
      have HF := Lib.hid (crcFold_take (~~~ s) xs k (by rw [HL.out]; exact hlt))
      clear hX hA
      go_wp2
      go_loop [0, 19] (fun t i => ∃ j : Nat, j ≤ 8 ∧ i = .int .i64 j ∧ t = .int .u32 ((iter crcStep j (crcFold (~~~ s) (xs.take k) ^^^ (at8 xs k).toBitVec.setWidth 32)).toNat : Int)) (fun _ i => 8 - (intOf i).toNat)
      case atStart => exact ⟨0, by omega, rfl, by rw [crcByte_int]; rfl⟩
      case round =>
        obtain ⟨j, hj, rfl, rfl⟩ := hrel
        by_cases hlt8 : j < 8
        · go_wp2
          go_round
          case rel => exact ⟨j + 1, by omega, by go_num, by rw [crcStep_int]; rfl⟩
          case measure => simp [intOf]; omega
        · obtain rfl : j = 8 := by omega
          go_wp2
          go_round
          case rel => exact ⟨k + 1, by omega, by go_num, by rw [HF.out]⟩
          case measure => simp [intOf]; omega
    · obtain rfl : k = n := by omega
      go_wp2
      go_ret
      exact ⟨ret_u32 (by rw [not_int, List.take_of_length_le (by rw [HL.out]; omega)]; rfl), rfl⟩

set_option maxHeartbeats 400000 in
theorem ref03_Sum (s : BitVec 32) (A : Option Addr) (n c : Nat) (xs : List UInt8) (w : World) (hx : RB w A n c xs) :
    Calls Try.prog 53 #[.int .u32 (s.toNat : Int), .slice A n c] w fun e w' => e = .returned (.int .u32 ((crcAdd s xs).toNat : Int)) ∧ w = w' := by
  obtain ⟨hl, hnc, hc, hA⟩ := hx
  have HL := Lib.hid hl; clear hl
  have hs := s.isLt
  go_enter Try.func53, Try.ntmps53
  go_wp2
  go_loop [5, 6] (fun t i => ∃ k : Nat, k ≤ n ∧ i = .int .i64 k ∧ t = .int .u32 ((crcFold (~~~ s) (xs.take k)).toNat : Int)) (fun _ i => n - (intOf i).toNat)
  case atStart => exact ⟨0, by omega, rfl, by rw [not_sub]; rfl⟩
  case round =>
    obtain ⟨k, hk, rfl, rfl⟩ := hrel
    by_cases hlt : k < n
    · obtain ⟨b, o, rfl, hX⟩ := hA (by omega)
      have hcell := hX k hlt
      have HF := Lib.hid (crcFold_take (~~~ s) xs k (by rw [HL.out]; exact hlt))
      clear hX hA
      go_wp2
      go_loop [5, 7] (fun t i => ∃ j : Nat, j ≤ 8 ∧ i = .int .i64 j ∧ t = .int .u32 ((iter crcStep j (crcFold (~~~ s) (xs.take k) ^^^ (at8 xs k).toBitVec.setWidth 32)).toNat : Int)) (fun _ i => 8 - (intOf i).toNat)
      case atStart => exact ⟨0, by omega, rfl, by rw [crcByte_int]; rfl⟩
      case round =>
        obtain ⟨j, hj, rfl, rfl⟩ := hrel
        by_cases hlt8 : j < 8
        · by_cases hodd : ((iter crcStep j (crcFold (~~~ s) (xs.take k) ^^^ (at8 xs k).toBitVec.setWidth 32)).toNat : Int) % 2 = 1
          · have HO := Lib.hid hodd
            have hb : (((iter crcStep j (crcFold (~~~ s) (xs.take k) ^^^ (at8 xs k).toBitVec.setWidth 32)).toNat : Int) % 2 == 1) = true := beq_iff_eq.2 hodd
            clear hodd
            go_wp2
            go_round
            case rel => exact ⟨j + 1, by omega, by go_num, by rw [crcStep_odd _ HO.out]; rfl⟩
            case measure => simp [intOf]; omega
          · have HO := Lib.hid hodd
            have hb : (((iter crcStep j (crcFold (~~~ s) (xs.take k) ^^^ (at8 xs k).toBitVec.setWidth 32)).toNat : Int) % 2 == 1) = false := beq_eq_false_iff_ne.2 hodd
            clear hodd
            go_wp2
            go_round
            case rel => exact ⟨j + 1, by omega, by go_num, by rw [crcStep_even _ HO.out]; rfl⟩
            case measure => simp [intOf]; omega
        · obtain rfl : j = 8 := by omega
          go_wp2
          go_round
          case rel => exact ⟨k + 1, by omega, by go_num, by rw [HF.out]⟩
          case measure => simp [intOf]; omega
    · obtain rfl : k = n := by omega
      go_wp2
      go_ret
      exact ⟨ret_u32 (by rw [not_sub, List.take_of_length_le (by rw [HL.out]; omega)]; rfl), rfl⟩

set_option maxHeartbeats 400000 in
theorem crc_Sum (A : Option Addr) (n c : Nat) (xss : List (List UInt8)) (w : World) (hx : RRB w A n c xss) :
    Calls Try.prog 52 #[.slice A n c] w fun e w' => e = .returned (.int .u32 ((crcSums xss).toNat : Int)) ∧ w = w' := by
  obtain ⟨hl, hnc, hc, hA⟩ := hx
  have HL := Lib.hid hl; clear hl
  go_enter Try.func52, Try.ntmps52
  go_wp2
  go_loop [3, 8] (fun t i => ∃ k : Nat, k ≤ n ∧ i = .int .i64 k ∧ t = .int .u32 ((crcSums (xss.take k)).toNat : Int)) (fun _ i => n - (intOf i).toNat)
  case atStart => exact ⟨0, by omega, rfl, rfl⟩
  case round =>
    obtain ⟨k, hk, rfl, rfl⟩ := hrel
    by_cases hlt : k < n
    · obtain ⟨b, o, rfl, hX⟩ := hA (by omega)
      obtain ⟨A', n', c', hcell, hrb⟩ := hX k hlt
      have HF := Lib.hid (crcSums_take xss k (by rw [HL.out]; exact hlt))
      have HR := Lib.hid hrb
      clear hX hA hrb
      go_wp2_with (go_at_call 60; refine (crc_Add _ _ _ _ _ _ HR.out).mono ?_; rintro e w' ⟨rfl, rfl⟩)
      go_round
      case rel => exact ⟨k + 1, by omega, by go_num, by rw [HF.out]⟩
      case measure => simp [intOf]; omega
    · obtain rfl : k = n := by omega
      go_wp2
      go_ret
      exact ⟨ret_u32 (by rw [List.take_of_length_le (by rw [HL.out]; omega)]), rfl⟩

end Go.Proofs.Ytanibabfdpgbbaa
