/- What Flush of a disk computes. -/
import Derived.Test.YtoghmakbdhepfaaDiskW4
namespace Go.Proofs.Ytoghmakbdhepfaa
open Go.RowKit
attribute [local go_sem ↓] loadAt37 storeAt37

/-- The disk when all writes are stable. -/
def Dk.flushed (d : Dk) : Dk := { d with stable := applyW d.stable d.pend, pend := [] }
section
variable {w : World} {base p s : Nat} {v : Value} {d : Dk}
theorem disk_Flush_dead (h : DiskAt w base p s v d) (hpw : d.power.2 = false) :
    Calls Try.prog 12 #[.pointer (some ⟨p, 0, none⟩)] w fun e w' => e = .returned (.int .i64 42) ∧ DiskAt w' base p s v d.power.1 ∧ Kp (fun k => k = p) w w' := by
  have H := Lib.hid h
  have HPW := Lib.hid hpw
  clear h hpw
  go_enter Try.func12, Try.ntmps12
  go_wp2_with fail
  refine (disk_power H.out).mono ?_
  rintro e w1 ⟨rfl, hd1, hk1⟩
  rw [HPW.out]
  have HD := Lib.hid hd1; have HK := Lib.hid hk1
  clear hd1 hk1
  go_wp2_with fail
  go_ret
  exact ⟨rfl, HD.out, HK.out⟩

theorem power_pend (d : Dk) : d.power.1.pend = d.pend := by unfold Dk.power; split <;> rfl
theorem power_stable (d : Dk) : d.power.1.stable = d.stable := by unfold Dk.power; split <;> rfl

set_option maxRecDepth 20000 in
set_option maxHeartbeats 1600000 in
theorem disk_Flush_yes (h : DiskAt w base p s v d) (hpw : d.power.2 = true) (hpl : d.pend.length ≤ 1000000) :
    Calls Try.prog 12 #[.pointer (some ⟨p, 0, none⟩)] w fun e w' => e = .returned (.int .i64 0) ∧ DiskAt w' base p s (.slice none 0 0) d.power.1.flushed ∧ Kp (foot p s v) w w' := by
  obtain ⟨A, c, rfl⟩ := own_form h.pen
  have H := Lib.hid h
  have HPW := Lib.hid hpw
  have hpl1 : d.power.1.pend.length ≤ 1000000 := by rw [power_pend]; exact hpl
  have hpe : d.power.1.pend.length = d.pend.length := by rw [power_pend]
  have HPE := Lib.hid hpe
  clear h hpw hpe
  go_enter Try.func12, Try.ntmps12
  go_wp2_with fail
  refine (disk_power H.out).mono ?_
  rintro e w1 ⟨rfl, hd1, hk1⟩
  rw [HPW.out]
  generalize hgen : d.power.1 = d1 at *
  have HG := Lib.hid hgen; clear hgen
  have c1 := hd1.c1
  have HD := Lib.hid hd1; have HK := Lib.hid hk1
  clear hd1 hk1
  go_wp2_with fail
  go_loopw [13] (fun i wr => ∃ k : Nat, k ≤ d.pend.length ∧ i = .int .i64 k ∧ Hid (DiskAt wr base p s (.slice A d.pend.length c) { d1 with stable := applyW d1.stable (d1.pend.take k) }) ∧ Hid (Kp (foot p s (.slice A d.pend.length c)) w1 wr)) (fun i _ => d.pend.length - (intOf i).toNat)
  case atStart => exact ⟨0, by omega, rfl, HD, Lib.hid (Kp.refl _ _)⟩
  case round =>
    obtain ⟨k, hk, rfl, HW, HKW⟩ := hrel
    by_cases hlt : k < d.pend.length
    · obtain ⟨g, rfl, hg, -, hr⟩ := HW.out.pcell k (show k < d1.pend.length by rw [HPE.out]; exact hlt)
      obtain ⟨hpin, hln⟩ := HW.out.pin' k (show k < d1.pend.length by rw [HPE.out]; exact hlt)
      have hpin' : (penAt d1.pend k).1 < (applyW d1.stable (d1.pend.take k)).length := hpin
      have hr' : wr.rangeAt g (k * 129) (Value.int .i64 ((penAt d1.pend k).1 : Int) :: bv (penAt d1.pend k).2) := hr
      have hln' : (penAt d1.pend k).2.length = 128 := hln
      have hnx := applyW_take d1.stable d1.pend k (by rw [HPE.out]; exact hlt)
      clear hpin hr hln
      generalize penAt d1.pend k = x at *
      obtain ⟨x1, x2⟩ := x
      simp only at hpin' hr' hln' hnx
      have HR := Lib.hid hr'; have HL := Lib.hid hln'; have HN := Lib.hid hnx
      have hlen : (applyW d1.stable (d1.pend.take k)).length = d1.stable.length := applyW_length _ _
      have hx0 : (0 : Int) ≤ (x1 : Int) := Int.natCast_nonneg _
      have hx1 : (x1 : Int) < ((applyW d1.stable (d1.pend.take k)).length : Int) := by omega
      have hk0 : (0 : Int) ≤ (k : Int) := Int.natCast_nonneg _
      have hk1 : (k : Int) < (d.pend.length : Int) := by omega
      have H2 := Lib.hid (HW.out.below (below_alloc wr (.cells (Value.int .i64 (x1 : Int) :: bv x2).toArray 68)))
      have HLEN := Lib.hid hlen
      clear hr' hln' hnx hlen hpin'
      go_wp2_with (first | (refine ld157 rfl _ rfl g (k * 129) rfl (x1, x2) HR.out HL.out ?_) | (refine st157 rfl _ _ rfl _ _ rfl rfl (x1, x2) rfl HL.out rfl ?_))
      have c0 := H2.out.c0
      have hld := run_ldSec (w := (wr.alloc (.cells (Value.int .i64 (x1 : Int) :: bv x2).toArray 68)).drew) (range_alloc1 wr (Value.int .i64 (x1 : Int)) (bv x2) 68 (0, 0)) HL.out
      have hst := run_stSec (w := (wr.alloc (.cells (Value.int .i64 (x1 : Int) :: bv x2).toArray 68)).drew) (H2.out.sthere x1 (by simpa using hx1)) HL.out
      have hpz : p < wr.heap.size := HW.out.plt
      have hfin : DiskAt ((wr.alloc (.cells (Value.int .i64 (x1 : Int) :: bv x2).toArray 68)).drew.setCells s (x1 * 128) (bv x2)) base p s (.slice (some ⟨g, 0, none⟩) d.pend.length c) { d1 with stable := applyW d1.stable (d1.pend.take (k + 1)) } := by
        rw [HN.out]
        exact H2.out.drew.setSec x1 x2 (by simpa using hx1) HL.out
      have hkp : Kp (foot p s (.slice (some ⟨g, 0, none⟩) d.pend.length c)) w1 ((wr.alloc (.cells (Value.int .i64 (x1 : Int) :: bv x2).toArray 68)).drew.setCells s (x1 * 128) (bv x2)) :=
        kp_setCells s _ _ _ (HKW.out.alloc _).drew (fun _ => .inr (.inl rfl))
      have HF := Lib.hid hfin; have HK2 := Lib.hid hkp
      clear hfin hkp
      go_region_law (fail)
      all_goals
        go_wp2
        go_roundw
        case rel => exact ⟨k + 1, by omega, by go_num, HF, HK2⟩
        case measure => simp [intOf]; omega
    · obtain rfl : k = d.pend.length := by omega
      have hfin := HW.out.set1 (.slice none 0 0) [] (World.ownsRow_nil _ _ _ _) (fun x hx => by cases hx)
      have hkp : Kp (foot p s (.slice A d.pend.length c)) w (wr.setCell ⟨p, 1, none⟩ (.slice none 0 0)) :=
        ((HK.out.imp (S' := foot p s (.slice A d.pend.length c)) (fun i _ h => .inl h)).trans HKW.out (fun i _ hi => hi)).setCell _ _ (fun _ => .inl rfl)
      rw [List.take_of_length_le (by rw [HPE.out]; exact Nat.le_refl _)] at hfin
      have c1' := HW.out.c1
      have f1' := HW.out.fz 1
      have HF := Lib.hid hfin; have HK2 := Lib.hid hkp
      clear hfin hkp
      go_wp2_with fail
      go_ret
      exact ⟨rfl, by rw [HG.out]; exact HF.out, HK2.out⟩
end
end Go.Proofs.Ytoghmakbdhepfaa
