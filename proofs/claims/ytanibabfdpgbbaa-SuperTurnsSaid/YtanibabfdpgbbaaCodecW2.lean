/- The codec's put: a number as bytes, the highest first. -/
import Derived.Test.YtanibabfdpgbbaaCodecW1
import Derived.Test.YtanibabfdpgbbaaKept
namespace Go.Proofs.Ytanibabfdpgbbaa
open Go.RowKit

/-- A number as wd bytes, the highest first. -/
def be (n wd : Nat) : List UInt8 := (List.range wd).map fun j => UInt8.ofNat (n / 256 ^ (wd - 1 - j))
theorem be_length (n wd : Nat) : (be n wd).length = wd := by simp [be]
theorem Try.infoU8' : (Try.prog.info? 5).map (fun i => (i.zero, i.size, i.bytes)) = some (some (.int .u8 0), 1, 1) := by kernel_rfl

theorem shr_cast (n e : Nat) : (n : Int) / 2 ^ e = ((n / 2 ^ e : Nat) : Int) := by simp
theorem fit_quo {n e : Nat} (h : n < 2 ^ e) : ((n : Int) / 2 ^ e != 0) = false := by
  rw [shr_cast, Nat.div_eq_of_lt h]
  rfl
theorem unfit_quo {n e : Nat} (h : 2 ^ e ≤ n) : ((n : Int) / 2 ^ e != 0) = true := by
  have h1 : 0 < n / 2 ^ e := Nat.div_pos h (Nat.pow_pos (by decide))
  rw [shr_cast, bne_iff_ne]
  omega
theorem pow_256 (e : Nat) : 256 ^ e = 2 ^ (8 * e) := by rw [Nat.pow_mul]
/-- The byte that put appends. -/
theorem byte_of (n j : Nat) : (n : Int) / 2 ^ (8 * j) % 256 = ((UInt8.ofNat (n / 256 ^ j)).toNat : Int) := by
  rw [shr_cast, pow_256]
  simp
theorem be_take (n wd j : Nat) (h : j < wd) : (be n wd).take (wd - (j + 1)) ++ [UInt8.ofNat (n / 256 ^ j)] = (be n wd).take (wd - j) := by
  have e : wd - j = (wd - (j + 1)) + 1 := by omega
  rw [e, List.take_succ_eq_append_getElem (by rw [be_length]; omega)]
  congr 2
  simp only [be, List.getElem_map, List.getElem_range]
  congr 3
  omega

set_option maxRecDepth 20000 in
set_option maxHeartbeats 1600000 in
theorem put_fit (wd : Nat) (hw1 : 1 ≤ wd) (hw8 : wd ≤ 8) (n : Nat) (hn : n < 256 ^ wd) (base k : Nat) (v : Value) (xs : List UInt8) (w : World) (ho : w.ownsRow base 5 1 v k (bv xs)) (hb : base ≤ w.heap.size) (hk : k ≤ 1000000) :
    Calls Try.prog 59 #[v, .int .u64 n, .int .i64 wd] w fun e w' => ∃ v', e = .returned v' ∧ w'.ownsRow base 5 1 v' (k + wd) (bv (xs ++ be n wd)) ∧ Below base w w' ∧ Onto w w' v v' := by
  have HO := Lib.hid ho
  have HN := Lib.hid hn
  clear ho hn
  have hw0 : (0 : Int) ≤ (wd : Int) := Int.natCast_nonneg _
  have main : ∀ (Q : Prop), (((wd : Int) < 8 ∧ ((n : Int) / 2 ^ (8 * wd) != 0) = false) → Q) → (¬ (wd : Int) < 8 → Q) → Q := fun Q h1 h2 => by
    by_cases h : (wd : Int) < 8
    · exact h1 ⟨h, fit_quo (by rw [← pow_256]; exact HN.out)⟩
    · exact h2 h
  have MAIN := Lib.hid main
  clear main
  go_enter Try.func59, Try.ntmps59
  refine MAIN.out _ (fun ⟨h8, hq⟩ => ?_) (fun h8 => ?_)
  all_goals
    go_wp2_with fail
    refine (fail_no _).mono ?_
    rintro e w' ⟨rfl, rfl⟩
    go_wp2_with fail
    go_loopw [0, 7] (fun u i wr => ∃ r : Nat, r ≤ wd ∧ i = .int .i64 ((r : Int) - 1) ∧ Hid (wr.ownsRow base 5 1 u (k + (wd - r)) (bv (xs ++ (be n wd).take (wd - r)))) ∧ Hid (Below base w wr) ∧ Hid (Onto w wr v u)) (fun _ i _ => (intOf i + 1).toNat)
    case atStart => exact ⟨wd, by omega, rfl, by simpa using HO, Lib.hid (Below.refl _ _), Lib.hid (Onto.refl _ _)⟩
    case round =>
      obtain ⟨r, hr, rfl, HV, HB, HT0⟩ := hrel
      cases r with
      | succ j =>
        have e : (((j + 1 : Nat) : Int) - 1) = (j : Int) := by omega
        rw [e]
        clear e
        have hj0 : (0 : Int) ≤ (j : Int) := Int.natCast_nonneg _
        have hj8 : (j : Int) < 8 := by omega
        have hby := byte_of n j
        have HT := Lib.hid (be_take n wd j (by omega))
        generalize UInt8.ofNat (n / 256 ^ j) = y at hby HT
        go_wp2_with (at_builtin; go_must (refine wpList_append_any (w0 := w) base rfl _ _ 76 5 (.int .u8 0) 1 1 rfl Try.underlying76 Try.infoU8' rfl (by decide) (by decide) u0 (k + (wd - (j + 1))) _ (some ⟨wr.heap.size, 0, none⟩) 1 1 [.int .u8 (y.toNat : Int)] rfl rfl (HV.out.alloc _) (rd_one wr _ _ _ rfl) (by simp [Value.oneCell']) (by omega) (HB.out.alloc (Nat.le_trans hb HB.out.size) _) (by have := HB.out.size; simp; omega) ?_; intro v1 w2 hown hb2 hg2 ha2; have HW2 := Lib.hid hown; have HB2 := Lib.hid hb2; have HT2 := Lib.hid ((HT0.out.alloc _).grown hg2 ha2); clear hown hb2 hg2 ha2))
        go_roundw
        case rel => exact ⟨j, by omega, by go_num, by
          have := HW2.out
          rw [show k + (wd - (j + 1)) + 1 = k + (wd - j) by omega] at this
          rw [← HT.out, ← List.append_assoc, bv_append]
          exact this, HB2, HT2⟩
        case measure => simp [intOf]
      | zero =>
        go_wp2_with fail
        go_ret
        exact ⟨u0, rfl, by simpa [List.take_of_length_le, be_length] using HV.out, HB.out, HT0.out⟩

set_option maxRecDepth 20000 in
set_option maxHeartbeats 1600000 in
theorem put_unfit (wd : Nat) (hw8 : wd < 8) (n : Nat) (hn : 256 ^ wd ≤ n) (v : Value) (w : World) :
    Calls Try.prog 59 #[v, .int .u64 n, .int .i64 wd] w fun e w' => e = .panicked gaveUp ∧ w = w' := by
  have hw0 : (0 : Int) ≤ (wd : Int) := Int.natCast_nonneg _
  have h8 : (wd : Int) < 8 := by omega
  have hq : ((n : Int) / 2 ^ (8 * wd) != 0) = true := unfit_quo (by rw [← pow_256]; exact hn)
  clear hn
  go_enter Try.func59, Try.ntmps59
  go_wp2_with fail
  refine (fail_yes _).mono ?_
  rintro e w' ⟨rfl, rfl⟩
  exact ⟨rfl, rfl, rfl⟩
end Go.Proofs.Ytanibabfdpgbbaa
