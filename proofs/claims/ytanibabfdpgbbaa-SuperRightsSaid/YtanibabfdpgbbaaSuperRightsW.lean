/- The walk of SuperRights. -/
import Derived.Test.YtanibabfdpgbbaaSuperW6
import Derived.Test.YtanibabfdpgbbaaOpenU
import Derived.Deep.RegionHeld3
namespace Go.Proofs.Ytanibabfdpgbbaa
open Go.RowKit

set_option maxRecDepth 20000 in
set_option maxHeartbeats 6400000 in
theorem superRights_main (s : SD) (w : World) :
    Calls Try.prog 4 #[s.v] w fun e w' => e = .returned (.bool true) ∧ Below w.heap.size w w' := by
  obtain ⟨gen, root, boot, quota, sectors, every⟩ := s
  have HX := Lib.hid (RowAt.new w 24 [.int .u64 (gen : Nat), .int .i64 root, .int .i64 boot, .int .i64 quota, .int .i64 sectors, .int .i64 every])
  have HB := Lib.hid (below_alloc w (.cells #[.int .u64 (gen : Nat), .int .i64 root, .int .i64 boot, .int .i64 quota, .int .i64 sectors, .int .i64 every] 24))
  have hr1 : (⟨1, 0, 0, 0, 0, 0⟩ : SD).right := by decide
  have HR1 := Lib.hid hr1
  have hbb : (decide (⟨gen, root, boot, quota, sectors, every⟩ : SD).right == decide (⟨gen, root, boot, quota, sectors, every⟩ : SD).right) = true := beq_self_eq_true _
  obtain ⟨bb, hbbe⟩ : ∃ bb, bb = decide (⟨gen, root, boot, quota, sectors, every⟩ : SD).right := ⟨_, rfl⟩
  have HBB := Lib.hid hbbe
  have hbeq : (bb == bb) = true := beq_self_eq_true _
  clear hr1 hbb hbbe
  unfold SD.v
  dsimp only
  go_enter Try.func4, Try.ntmps4
  go_wp2_with fail
  generalize hw1 : w.alloc (.cells #[.int .u64 (gen : Nat), .int .i64 root, .int .i64 boot, .int .i64 quota, .int .i64 sectors, .int .i64 every] 24) = w1 at *
  have hx0 := HX.out.cell 0 _ rfl
  have hx1 := HX.out.cell 1 _ rfl
  have hx2 := HX.out.cell 2 _ rfl
  have hx3 := HX.out.cell 3 _ rfl
  have hx4 := HX.out.cell 4 _ rfl
  have hx5 := HX.out.cell 5 _ rfl
  clear hw1
  go_region_held3 (fun w' => w'.cell? ⟨w.heap.size, 0, none⟩ = some (.int .u64 (gen : Nat)) ∧ w'.cell? ⟨w.heap.size, 1, none⟩ = some (.int .i64 root) ∧ w'.cell? ⟨w.heap.size, 2, none⟩ = some (.int .i64 boot) ∧ w'.cell? ⟨w.heap.size, 3, none⟩ = some (.int .i64 quota) ∧ w'.cell? ⟨w.heap.size, 4, none⟩ = some (.int .i64 sectors) ∧ w'.cell? ⟨w.heap.size, 5, none⟩ = some (.int .i64 every)) (first | go_keep | (refine ⟨?_, ?_, ?_, ?_, ?_, ?_⟩ <;> assumption))
    (first
      | (go_at_call 11
         refine (superAlive_true _).mono ?_
         rintro e w2 ⟨rfl, hb2⟩
         have hb2' : Below w1.heap.size w1 w2 := bthen (Below.refl _ w1).drew hb2
         have HX2 := Lib.hid (HX.out.below hb2'); have HB2 := Lib.hid (bthen HB.out hb2')
         have hS := (⟨HX2.out.cell 0 _ rfl, HX2.out.cell 1 _ rfl, HX2.out.cell 2 _ rfl, HX2.out.cell 3 _ rfl, HX2.out.cell 4 _ rfl, HX2.out.cell 5 _ rfl⟩ : w2.cell? ⟨w.heap.size, 0, none⟩ = some (.int .u64 (gen : Nat)) ∧ w2.cell? ⟨w.heap.size, 1, none⟩ = some (.int .i64 root) ∧ w2.cell? ⟨w.heap.size, 2, none⟩ = some (.int .i64 boot) ∧ w2.cell? ⟨w.heap.size, 3, none⟩ = some (.int .i64 quota) ∧ w2.cell? ⟨w.heap.size, 4, none⟩ = some (.int .i64 sectors) ∧ w2.cell? ⟨w.heap.size, 5, none⟩ = some (.int .i64 every))
         clear hb2 hb2')
      | (go_at_call 12
         have hB := HB3
         refine (super_Right ⟨gen, root, boot, quota, sectors, every⟩ _).mono ?_
         rw [← HBB.out]
         rintro e w4 ⟨rfl, hb4⟩
         have HX4 := Lib.hid (HX3.out.below hb4); have HB4 := Lib.hid (bthen HB3.out hb4)
         have hS := (⟨HX4.out.cell 0 _ rfl, HX4.out.cell 1 _ rfl, HX4.out.cell 2 _ rfl, HX4.out.cell 3 _ rfl, HX4.out.cell 4 _ rfl, HX4.out.cell 5 _ rfl⟩ : w4.cell? ⟨w.heap.size, 0, none⟩ = some (.int .u64 (gen : Nat)) ∧ w4.cell? ⟨w.heap.size, 1, none⟩ = some (.int .i64 root) ∧ w4.cell? ⟨w.heap.size, 2, none⟩ = some (.int .i64 boot) ∧ w4.cell? ⟨w.heap.size, 3, none⟩ = some (.int .i64 quota) ∧ w4.cell? ⟨w.heap.size, 4, none⟩ = some (.int .i64 sectors) ∧ w4.cell? ⟨w.heap.size, 5, none⟩ = some (.int .i64 every))
         clear hb4 hB)
      | (go_at_call 12
         have hB := HB2
         refine (super_Right ⟨1, 0, 0, 0, 0, 0⟩ _).mono ?_
         rw [decide_eq_true HR1.out]
         rintro e w3 ⟨rfl, hb3⟩
         have HX3 := Lib.hid (HX2.out.below hb3); have HB3 := Lib.hid (bthen HB2.out hb3)
         have hS := (⟨HX3.out.cell 0 _ rfl, HX3.out.cell 1 _ rfl, HX3.out.cell 2 _ rfl, HX3.out.cell 3 _ rfl, HX3.out.cell 4 _ rfl, HX3.out.cell 5 _ rfl⟩ : w3.cell? ⟨w.heap.size, 0, none⟩ = some (.int .u64 (gen : Nat)) ∧ w3.cell? ⟨w.heap.size, 1, none⟩ = some (.int .i64 root) ∧ w3.cell? ⟨w.heap.size, 2, none⟩ = some (.int .i64 boot) ∧ w3.cell? ⟨w.heap.size, 3, none⟩ = some (.int .i64 quota) ∧ w3.cell? ⟨w.heap.size, 4, none⟩ = some (.int .i64 sectors) ∧ w3.cell? ⟨w.heap.size, 5, none⟩ = some (.int .i64 every))
         clear hb3 hB)
      | (go_at_call 13
         refine (ref15_Right ⟨gen, root, boot, quota, sectors, every⟩ _).mono ?_
         rw [← HBB.out]
         rintro e w5 ⟨rfl, hb5⟩
         have HX5 := Lib.hid (HX4.out.below hb5); have HB5 := Lib.hid (bthen HB4.out hb5)
         have hS := (⟨HX5.out.cell 0 _ rfl, HX5.out.cell 1 _ rfl, HX5.out.cell 2 _ rfl, HX5.out.cell 3 _ rfl, HX5.out.cell 4 _ rfl, HX5.out.cell 5 _ rfl⟩ : w5.cell? ⟨w.heap.size, 0, none⟩ = some (.int .u64 (gen : Nat)) ∧ w5.cell? ⟨w.heap.size, 1, none⟩ = some (.int .i64 root) ∧ w5.cell? ⟨w.heap.size, 2, none⟩ = some (.int .i64 boot) ∧ w5.cell? ⟨w.heap.size, 3, none⟩ = some (.int .i64 quota) ∧ w5.cell? ⟨w.heap.size, 4, none⟩ = some (.int .i64 sectors) ∧ w5.cell? ⟨w.heap.size, 5, none⟩ = some (.int .i64 every))
         clear hb5))
  go_wp2_with fail
  go_ret
  exact ⟨rfl, HB5.out⟩
set_option maxRecDepth 100000 in
theorem superRights_walk {H : Type} {enc : TypeId × Value → H} {W : World} {base : Nat} {v0 : Value} {d0 : DataW H} {p0 : List MemPlace}
    (o0 : Value.okWide Try.prog W .any base 24 v0) (r0 : DataW.Trod enc Try.prog W 0 (fun _ => true) true 24 v0 d0 p0) (_z0 : ∀ n ∈ d0.weights Try.prog 24, n ≤ reachBytes) :
    Calls Try.prog 4 #[v0] W fun e w' => e = .returned (.bool true) ∧ Below W.heap.size W w' := by
  obtain ⟨s, rfl, _⟩ := open_super o0 r0
  exact superRights_main s W
end Go.Proofs.Ytanibabfdpgbbaa
