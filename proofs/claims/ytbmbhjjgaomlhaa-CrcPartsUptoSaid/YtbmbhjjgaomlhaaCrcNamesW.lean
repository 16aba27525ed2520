/- The walk of CrcNames: the chapter's example. -/
import Derived.Test.YtbmbhjjgaomlhaaCrcWalks
import Derived.Lib.SlBytesConst
namespace Go.Proofs.Ytbmbhjjgaomlhaa
open Go.RowKit

theorem crcSums_ex : ((crcSums [[49, 50, 51, 52, 53, 54, 55, 56, 57]]).toNat : Int) = 3421780262 := by decide +kernel
theorem crc_Sum_ex (A : Option Addr) (n c : Nat) (w : World) (hx : RRB w A n c [[49, 50, 51, 52, 53, 54, 55, 56, 57]]) :
    Calls Try.prog 8 #[.slice A n c] w fun e w' => e = .returned (.int .u32 3421780262) ∧ w = w' :=
  (crc_Sum A n c _ w hx).mono fun _ _ ⟨he, hw⟩ => ⟨he.trans (ret_u32 crcSums_ex), hw⟩
theorem crc_Sum_nil (w : World) : Calls Try.prog 8 #[.slice none 0 0] w fun e w' => e = .returned (.int .u32 0) ∧ w = w' :=
  (crc_Sum _ _ _ _ w (RRB.nil w)).mono fun _ _ ⟨he, hw⟩ => ⟨he.trans (ret_u32 rfl), hw⟩
theorem crc_Sum_one (A : Option Addr) (n c : Nat) (w : World) (hx : RRB w A n c [[]]) :
    Calls Try.prog 8 #[.slice A n c] w fun e w' => e = .returned (.int .u32 0) ∧ w = w' :=
  (crc_Sum A n c _ w hx).mono fun _ _ ⟨he, hw⟩ => ⟨he.trans (ret_u32 (by decide +kernel)), hw⟩

set_option maxRecDepth 20000 in
set_option maxHeartbeats 400000 in
theorem crcNames_walk (w : World) :
    Calls Try.prog 3 #[] w fun e w' => e = .returned (.bool true) ∧ Below w.heap.size w w' := by
  have kc := fun (w : World) (C : Array Value) (n c : Nat) => Lib.run_convert_bytes_const (P := Try.prog) w 24 5 C n c Try.underlying24 Try.underlying5
  have hb := below_alloc w
  have r1 := rrb_one (rb_new w [49, 50, 51, 52, 53, 54, 55, 56, 57] 5 (9, 10) (by decide)) 24
  have R1 := Lib.hid r1; clear r1
  go_enter Try.func3, Try.ntmps3
  go_wp2_with fail
  refine (crc_Sum_ex _ _ _ _ (by simpa [bv] using R1.out)).mono ?_
  rintro e w' ⟨rfl, rfl⟩
  go_wp2_with fail
  refine (crc_Sum_nil _).mono ?_
  rintro e w' ⟨rfl, rfl⟩
  go_wp2_with fail
  refine (crc_Sum_one _ _ _ _ (rrb_one' (RB.nil _) _ _ (by simp))).mono ?_
  rintro e w' ⟨rfl, rfl⟩
  go_wp2_with fail
  go_ret
  exact ⟨rfl, (((Below.refl _ _).alloc (Nat.le_refl _) _).alloc (by simp) _).alloc (by simp; omega) _⟩
end Go.Proofs.Ytbmbhjjgaomlhaa
