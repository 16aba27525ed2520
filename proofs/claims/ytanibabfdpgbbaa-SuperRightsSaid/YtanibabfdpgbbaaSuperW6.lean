/- The reference's Right. -/
import Derived.Test.YtanibabfdpgbbaaSuperW5
namespace Go.Proofs.Ytanibabfdpgbbaa
open Go.RowKit

set_option maxRecDepth 20000 in
set_option maxHeartbeats 12800000 in
theorem ref15_Right (s : SD) (w : World) : Calls Try.prog 13 #[s.v] w fun e w' => e = .returned (.bool (decide s.right)) ∧ Below w.heap.size w w' := by
  obtain ⟨gen, root, boot, quota, sectors, every⟩ := s
  have HB := Lib.hid (below_alloc w (.cells #[.int .u64 gen, .int .i64 root, .int .i64 boot, .int .i64 quota, .int .i64 sectors, .int .i64 every] 24))
  have no : ∀ b : Bool, (¬ (⟨gen, root, boot, quota, sectors, every⟩ : SD).right → b = false) → ¬ (⟨gen, root, boot, quota, sectors, every⟩ : SD).right → Ending.returned (.bool b) = .returned (.bool (decide (⟨gen, root, boot, quota, sectors, every⟩ : SD).right)) := fun b hb h => by rw [hb h, decide_eq_false h]
  have HNO := Lib.hid no
  clear no
  unfold SD.v
  dsimp only
  by_cases c1 : gen < 1
  · have dc1 : decide ((gen : Int) < 1) = true := decide_eq_true (by omega)
    go_enter Try.func13, Try.ntmps13
    go_wp2_with fail
    go_ret
    exact ⟨HNO.out _ (fun _ => rfl) (fun h => by have := h.g1; simp at this; omega), HB.out⟩
  · have dc1 : decide ((gen : Int) < 1) = false := decide_eq_false (by omega)
    by_cases c2 : 281474976710655 < gen
    · have dc2 : decide ((281474976710655 : Int) < (gen : Int)) = true := decide_eq_true (by omega)
      go_enter Try.func13, Try.ntmps13
      go_wp2_with fail
      go_ret
      exact ⟨HNO.out _ (fun _ => rfl) (fun h => by have := h.g2; simp at this; omega), HB.out⟩
    · have dc2 : decide ((281474976710655 : Int) < (gen : Int)) = false := decide_eq_false (by omega)
      by_cases c3 : root < 0
      · have dc3 : decide (root < 0) = true := decide_eq_true (by omega)
        go_enter Try.func13, Try.ntmps13
        go_wp2_with fail
        go_ret
        exact ⟨HNO.out _ (fun _ => rfl) (fun h => by have := h.root.1; simp at this; omega), HB.out⟩
      · have dc3 : decide (root < 0) = false := decide_eq_false (by omega)
        by_cases c4 : 1024 < root
        · have dc4 : decide (1024 < root) = true := decide_eq_true (by omega)
          go_enter Try.func13, Try.ntmps13
          go_wp2_with fail
          go_ret
          exact ⟨HNO.out _ (fun _ => rfl) (fun h => by have := h.root.2; simp at this; omega), HB.out⟩
        · have dc4 : decide (1024 < root) = false := decide_eq_false (by omega)
          by_cases c5 : sectors < 0
          · have dc5 : decide (sectors < 0) = true := decide_eq_true (by omega)
            go_enter Try.func13, Try.ntmps13
            go_wp2_with fail
            go_ret
            exact ⟨HNO.out _ (fun _ => rfl) (fun h => by have := h.sectors.1; simp at this; omega), HB.out⟩
          · have dc5 : decide (sectors < 0) = false := decide_eq_false (by omega)
            by_cases c6 : 1024 < sectors
            · have dc6 : decide (1024 < sectors) = true := decide_eq_true (by omega)
              go_enter Try.func13, Try.ntmps13
              go_wp2_with fail
              go_ret
              exact ⟨HNO.out _ (fun _ => rfl) (fun h => by have := h.sectors.2; simp at this; omega), HB.out⟩
            · have dc6 : decide (1024 < sectors) = false := decide_eq_false (by omega)
              by_cases c7 : every < 0
              · have dc7 : decide (every < 0) = true := decide_eq_true (by omega)
                go_enter Try.func13, Try.ntmps13
                go_wp2_with fail
                go_ret
                exact ⟨HNO.out _ (fun _ => rfl) (fun h => by have := h.every.1; simp at this; omega), HB.out⟩
              · have dc7 : decide (every < 0) = false := decide_eq_false (by omega)
                by_cases c8 : 65535 < every
                · have dc8 : decide (65535 < every) = true := decide_eq_true (by omega)
                  go_enter Try.func13, Try.ntmps13
                  go_wp2_with fail
                  go_ret
                  exact ⟨HNO.out _ (fun _ => rfl) (fun h => by have := h.every.2; simp at this; omega), HB.out⟩
                · have dc8 : decide (65535 < every) = false := decide_eq_false (by omega)
                  by_cases c9 : 0 ≤ boot
                  · have dc9 : decide (0 ≤ boot) = true := decide_eq_true (by omega)
                    by_cases c10 : boot ≤ 255
                    · have dc10 : decide (boot ≤ 255) = true := decide_eq_true (by omega)
                      by_cases c11 : 0 ≤ quota
                      · have dc11 : decide (0 ≤ quota) = true := decide_eq_true (by omega)
                        by_cases c12 : quota ≤ 48
                        · have dc12 : decide (quota ≤ 48) = true := decide_eq_true (by omega)
                          go_enter Try.func13, Try.ntmps13
                          go_wp2_with fail
                          go_ret
                          exact ⟨by rw [decide_eq_true (⟨by show 1 ≤ gen; omega, by show gen ≤ 281474976710655; omega, ⟨by omega, by omega⟩, ⟨by omega, by omega⟩, ⟨by omega, by omega⟩, ⟨by omega, by omega⟩, ⟨by omega, by omega⟩⟩ : (⟨gen, root, boot, quota, sectors, every⟩ : SD).right)]; rfl, HB.out⟩
                        · have dc12 : decide (quota ≤ 48) = false := decide_eq_false (by omega)
                          go_enter Try.func13, Try.ntmps13
                          go_wp2_with fail
                          go_ret
                          exact ⟨HNO.out _ (fun _ => rfl) (fun h => by have := h.quota.2; simp at this; omega), HB.out⟩
                      · have dc11 : decide (0 ≤ quota) = false := decide_eq_false (by omega)
                        go_enter Try.func13, Try.ntmps13
                        go_wp2_with fail
                        go_ret
                        exact ⟨HNO.out _ (fun _ => rfl) (fun h => by have := h.quota.1; simp at this; omega), HB.out⟩
                    · have dc10 : decide (boot ≤ 255) = false := decide_eq_false (by omega)
                      go_enter Try.func13, Try.ntmps13
                      go_wp2_with fail
                      go_ret
                      exact ⟨HNO.out _ (fun _ => rfl) (fun h => by have := h.boot.2; simp at this; omega), HB.out⟩
                  · have dc9 : decide (0 ≤ boot) = false := decide_eq_false (by omega)
                    go_enter Try.func13, Try.ntmps13
                    go_wp2_with fail
                    go_ret
                    exact ⟨HNO.out _ (fun _ => rfl) (fun h => by have := h.boot.1; simp at this; omega), HB.out⟩
end Go.Proofs.Ytanibabfdpgbbaa
