/- The walk of CodecNames. -/
import Derived.Test.YtccofdmnljbegaaCodecW5
namespace Go.Proofs.Ytccofdmnljbegaa
open Go.RowKit

set_option maxRecDepth 20000 in
set_option maxHeartbeats 1600000 in
theorem codecNames_walk (w : World) :
    Calls Try.prog 3 #[] w fun e w' => e = .returned (.bool true) ∧ Below w.heap.size w w' := by
  go_enter Try.func3, Try.ntmps3
  go_wp2_with fail
  have hp := codec_Pack [] none 0 0 [] w (rfields_nil w)
  rw [show packM [] [] = some [] from rfl] at hp
  refine hp.mono ?_
  clear hp
  rintro e w2 ⟨hb2, ⟨v, o, ho, rfl, hown⟩ | ⟨hno, -⟩⟩
  · injection ho with ho
    subst ho
    obtain ⟨A1, c1, rfl, -⟩ := own_rb hown
    have HB2 := Lib.hid hb2
    clear hown hb2
    go_wp2_with fail
    have hu := codec_Unpack [] _ _ _ _ _ (rb_new' w2 [0] 5 (0, 0) (by decide) w2.heap.size rfl)
    rw [show unpackM [] [0] = none from by decide] at hu
    refine hu.mono ?_
    clear hu
    rintro e w3 ⟨hb3, ⟨v, lk, hlk, -⟩ | ⟨-, rfl⟩⟩
    · cases hlk
    · have HB3 := Lib.hid (bthen HB2.out ((below_alloc w2 _).trans (hb3.mono (by simp))))
      clear hb3
      go_wp2_with fail
      refine (codecAlive_true _).mono ?_
      rintro e w4 ⟨rfl, hb4⟩
      have HB4 := Lib.hid (bthen HB3.out hb4)
      clear hb4
      go_wp2_with fail
      go_ret
      exact ⟨rfl, HB4.out⟩
  · cases hno
end Go.Proofs.Ytccofdmnljbegaa
