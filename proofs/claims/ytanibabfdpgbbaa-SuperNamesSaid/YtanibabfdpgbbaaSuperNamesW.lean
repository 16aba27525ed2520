/- The walk of SuperNames. -/
import Derived.Test.YtanibabfdpgbbaaSuperW5
namespace Go.Proofs.Ytanibabfdpgbbaa
open Go.RowKit

set_option maxRecDepth 20000 in
set_option maxHeartbeats 1600000 in
theorem superNames_walk (w : World) :
    Calls Try.prog 3 #[] w fun e w' => e = .returned (.bool true) ∧ Below w.heap.size w w' := by
  go_enter Try.func3, Try.ntmps3
  go_wp2_with fail
  refine (disk_New 2 w).mono ?_
  rintro e w1 ⟨p, s, rfl, hd1, hb1⟩
  have HB1 := Lib.hid hb1
  have HRD := Lib.hid (super_Read hd1 (by simp [newDk]) (by decide : 2 ≤ (newDk 2).stable.length))
  have hm : readTo (newDk 2).read 2 = (SD.z, false) := by
    simp only [readTo, new_read 0 (by omega), new_read 1 (by omega), head_zero]
    simp
  rw [hm] at HRD
  clear hd1 hb1 hm
  go_wp2_with fail
  refine HRD.out.mono ?_
  clear HRD
  rintro e w2 ⟨rfl, hb2⟩
  unfold SD.v SD.z
  dsimp only
  have HB2 := Lib.hid (balloc (bthen HB1.out hb2) (.cells #[.int .u64 (0 : Nat), .int .i64 0, .int .i64 0, .int .i64 0, .int .i64 0, .int .i64 0] 24))
  clear hb2
  go_wp2_with (refine stN 24 [.int .u64 (0 : Nat), .int .i64 0, .int .i64 0, .int .i64 0, .int .i64 0, .int .i64 0] rfl _ _ rfl _ _ rfl rfl rfl (by simp [Value.oneCell']) Try.sizeSuper rfl ?_)
  refine (superAlive_true _).mono ?_
  rintro e w3 ⟨rfl, hb3⟩
  have HB3 := Lib.hid (bthen HB2.out hb3)
  clear hb3
  go_wp2_with fail
  go_ret
  exact ⟨rfl, HB3.out⟩
end Go.Proofs.Ytanibabfdpgbbaa
