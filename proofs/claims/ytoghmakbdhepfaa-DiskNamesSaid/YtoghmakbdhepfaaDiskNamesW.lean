/- The walk of DiskNames: the chapter's example, the errors' numbers and the limits. -/
import Derived.Test.YtoghmakbdhepfaaDiskW8
namespace Go.Proofs.Ytoghmakbdhepfaa
open Go.RowKit

theorem disk_Len_of {w : World} {base p s : Nat} {v : Value} {n : Int} (h : DiskAt w base p s v (newDk n)) (m : Int) (hm : (((newDk n).stable.length : Nat) : Int) = m) :
    Calls Try.prog 10 #[.pointer (some ⟨p, 0, none⟩)] w fun e w' => e = .returned (.int .i64 m) ∧ w = w' := by
  rw [← hm]
  exact disk_Len h

set_option maxRecDepth 20000 in
set_option maxHeartbeats 400000 in
theorem diskNames_walk (w : World) :
    Calls Try.prog 3 #[] w fun e w' => e = .returned (.bool true) ∧ Below w.heap.size w w' := by
  go_enter Try.func3, Try.ntmps3
  go_wp2_with fail
  refine (diskAlive_true _).mono ?_
  rintro e w1 ⟨rfl, hb1⟩
  have HB1 := Lib.hid hb1; clear hb1
  go_wp2_with fail
  refine (disk_New (-1) _).mono ?_
  rintro e w2 ⟨p, s, rfl, hd2, hb2⟩
  have HB2 := Lib.hid hb2; clear hb2
  have hl := disk_Len_of hd2 0 (by simp [newDk]; omega)
  have HL := Lib.hid hl
  clear hd2 hl
  go_wp2_with fail
  refine HL.out.mono ?_
  rintro e w' ⟨rfl, rfl⟩
  clear HL
  go_wp2_with fail
  refine (disk_New 5000 _).mono ?_
  rintro e w3 ⟨p', s', rfl, hd3, hb3⟩
  have HB3 := Lib.hid hb3; clear hb3
  have hl := disk_Len_of hd3 1024 (by simp [newDk]; omega)
  have HL := Lib.hid hl
  clear hd3 hl
  go_wp2_with fail
  refine HL.out.mono ?_
  rintro e w' ⟨rfl, rfl⟩
  clear HL
  go_wp2_with fail
  go_ret
  exact ⟨rfl, bthen (bthen HB1.out HB2.out) HB3.out⟩
end Go.Proofs.Ytoghmakbdhepfaa
