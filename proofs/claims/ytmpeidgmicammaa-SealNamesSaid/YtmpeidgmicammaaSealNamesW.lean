/- The walk of SealNames. -/
import Derived.Test.YtmpeidgmicammaaSealW6
namespace Go.Proofs.Ytmpeidgmicammaa
open Go.RowKit
attribute [local go_sem ↓] loadAt37 build37

set_option maxRecDepth 20000 in
set_option maxHeartbeats 1600000 in
theorem sealNames_walk (w : World) :
    Calls Try.prog 3 #[] w fun e w' => e = .returned (.bool true) ∧ Below w.heap.size w w' := by
  have hbld := fun W => run_bldSec0 W
  go_enter Try.func3, Try.ntmps3
  go_wp2_with fail
  refine (seal_Open zsec zsec_length w).mono ?_
  rw [open_zeros]
  rintro e w2 ⟨mk, A, m, c, b, rfl, hb2, ⟨body, ho, -⟩ | ⟨-, rfl, rfl, rfl, rfl, rfl⟩⟩
  · cases ho
  have HB2 := Lib.hid hb2
  clear hb2
  go_wp2_with fail
  refine (seal_Make 0 (by omega) none 0 0 [] w2 (RB.nil w2) (by omega)).mono ?_
  have hmk : makeM 0 [] = none := by unfold makeM; rw [if_pos (.inl rfl)]
  rw [hmk]
  rintro e w3 ⟨l, ev, rfl, hl, hb3, ⟨hs, -⟩ | ⟨-, rfl, rfl⟩⟩
  · cases hs
  have HB3 := Lib.hid (balloc (bthen HB2.out hb3) (.cells (bv zsec).toArray 27))
  clear hb3 hl hmk
  go_wp2_with (refine st37 rfl _ _ rfl _ _ rfl rfl zsec rfl zsec_length rfl ?_)
  refine (sealAlive_true _).mono ?_
  rintro e w4 ⟨rfl, hb4⟩
  have HB4 := Lib.hid (bthen HB3.out hb4)
  clear hb4
  go_wp2_with fail
  go_ret
  exact ⟨rfl, HB4.out⟩
end Go.Proofs.Ytmpeidgmicammaa
