/- The reference's Number. -/
import Derived.Test.YtmpeidgmicammaaCodecW4
namespace Go.Proofs.Ytmpeidgmicammaa
open Go.RowKit

theorem made_zeros (m : Nat) : (madeCells (Value.int .u8 0).cells (m * 1)).toList = bv (List.replicate m 0) := by
  apply List.ext_getElem
  · simp [madeCells, bv_length]
  · intro i h1 h2
    simp [madeCells, Value.cells, bv, Nat.mod_one]
theorem be_set (n wd j : Nat) (h : j < wd) : (List.replicate (j + 1) 0 ++ (be n wd).drop (j + 1)).set j (UInt8.ofNat (n / 256 ^ (wd - (j + 1)))) = List.replicate j 0 ++ (be n wd).drop j := by
  have e : (be n wd).drop j = UInt8.ofNat (n / 256 ^ (wd - (j + 1))) :: (be n wd).drop (j + 1) := by
    rw [List.drop_eq_getElem_cons (by rw [be_length]; exact h)]
    congr 1
    simp only [be, List.getElem_map, List.getElem_range]
    congr 3
    omega
  rw [e, List.replicate_succ', List.append_assoc, List.set_append_right _ _ (by simp)]
  simp
theorem byte_mod (n : Nat) : (n : Int) % 256 = ((UInt8.ofNat n).toNat : Int) := by
  simp
theorem div_step (n wd j : Nat) (h : j < wd) : (((n / 256 ^ (wd - (j + 1)) : Nat) : Int)) / 256 = ((n / 256 ^ (wd - j) : Nat) : Int) := by
  have e : wd - j = (wd - (j + 1)) + 1 := by omega
  rw [e, Nat.pow_succ, ← Nat.div_div_eq_div_mul]
  simp

set_option maxRecDepth 20000 in
set_option maxHeartbeats 1600000 in
theorem ref02_Number (n wd : Nat) (hn : n < 18446744073709551616) (hw1 : 1 ≤ wd) (hw8 : wd ≤ 8) (w : World) :
    Calls Try.prog 19 #[.int .u64 n, .int .i64 wd] w fun e w' => ∃ v, e = .returned (.tuple #[v, .bool (decide (n < 256 ^ wd))]) ∧ w'.ownsRow w.heap.size 5 1 v wd (bv (be n wd)) ∧ Below w.heap.size w w' := by
  obtain ⟨i0, hi0, hz0, hz1, hz2⟩ := info_parts Try.infoU8'
  have HI := Lib.hid hi0; have HI0 := Lib.hid hz0; have HI1 := Lib.hid hz1; have HI2 := Lib.hid hz2
  have HN := Lib.hid hn
  clear hi0 hz0 hz1 hz2 hn
  go_enter Try.func19, Try.ntmps19
  go_wp2_with (at_make; refine wpList_make_full _ rfl _ _ 23 rfl w.heap.size 5 i0 _ 1 Try.underlying23 HI.out HI0.out HI1.out .i64 .i64 _ _ wd rfl rfl (by omega) (by omega) (by rw [HI2.out]; omega) (by unfold maxLen; omega) (Nat.le_refl _) ?_; intro w1 hown hg)
  rw [made_zeros] at hown
  have hb1 : Below w.heap.size w w1 := (Below.refl _ _).grown hg (Nat.le_refl _) (fun k hk => by cases hk)
  have HO := Lib.hid hown; have HB := Lib.hid hb1
  clear hown hg hb1
  go_loopw [0, 7] (fun u i wr => ∃ r : Nat, r ≤ wd ∧ i = .int .i64 ((r : Int) - 1) ∧ u = .int .u64 ((n / 256 ^ (wd - r) : Nat) : Int) ∧ Hid (wr.ownsRow w.heap.size 5 1 (.slice (some ⟨w.heap.size, 0, none⟩) wd wd) wd (bv (List.replicate r 0 ++ (be n wd).drop r))) ∧ Hid (Below w.heap.size w wr)) (fun _ i _ => (intOf i + 1).toNat)
  case atStart => exact ⟨wd, Nat.le_refl _, rfl, by simp, by simpa [List.drop_of_length_le, be_length] using HO, HB⟩
  case round =>
    obtain ⟨r, hr, rfl, rfl, HV, HBR⟩ := hrel
    cases r with
    | succ j =>
      have e : (((j + 1 : Nat) : Int) - 1) = (j : Int) := by omega
      rw [e]
      clear e
      have hj0 : (0 : Int) ≤ (j : Int) := Int.natCast_nonneg _
      have hj8 : (j : Int) < (wd : Int) := by omega
      obtain ⟨hcell, hfz, hset⟩ := own_at8 HV.out j (by omega)
      have hs := hset (UInt8.ofNat (n / 256 ^ (wd - (j + 1))))
      rw [be_set n wd j (by omega), ← byte_mod] at hs
      have HS := Lib.hid hs
      have hdv := div_step n wd j (by omega)
      have hq0 : (0 : Int) ≤ ((n / 256 ^ (wd - (j + 1)) : Nat) : Int) := Int.natCast_nonneg _
      have hq1 : ((n / 256 ^ (wd - (j + 1)) : Nat) : Int) < 18446744073709551616 := by
        have := Nat.div_le_self n (256 ^ (wd - (j + 1)))
        have := HN.out
        omega
      have HD := Lib.hid hdv
      clear hset hs hdv
      generalize hq : n / 256 ^ (wd - (j + 1)) = q at *
      have HBS : Hid (Below w.heap.size w (wr.setCell ⟨w.heap.size, j, none⟩ (.int .u8 ((q : Int) % 256)))) := Lib.hid (HBR.out.setCell (Nat.le_refl _) _)
      go_wp2_with fail
      go_roundw
      case rel => exact ⟨j, by omega, rfl, by rw [HD.out], HS, HBS⟩
      case measure => simp [intOf]
    | zero =>
      have eq0 : (((n : Int) / 256 ^ wd) == 0) = decide (n < 256 ^ wd) := by
        have e : (n : Int) / 256 ^ wd = ((n / 256 ^ wd : Nat) : Int) := by simp
        rw [e]
        by_cases h : n < 256 ^ wd
        · rw [Nat.div_eq_of_lt h, decide_eq_true h]; rfl
        · rw [decide_eq_false h, beq_eq_false_iff_ne]
          have : 0 < n / 256 ^ wd := Nat.div_pos (by omega) (Nat.pow_pos (by decide))
          omega
      go_wp2_with fail
      go_ret2
      exact ⟨_, rfl, by simpa using HV.out, HBR.out⟩
end Go.Proofs.Ytmpeidgmicammaa
