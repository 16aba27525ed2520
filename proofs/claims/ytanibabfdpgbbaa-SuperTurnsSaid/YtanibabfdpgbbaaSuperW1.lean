/- What a super is, as data; Right. -/
import Derived.Test.YtanibabfdpgbbaaRowN
import Derived.Test.YtanibabfdpgbbaaSealW3
namespace Go.Proofs.Ytanibabfdpgbbaa
open Go.RowKit

structure SD where
  gen : Nat
  root : Int
  boot : Int
  quota : Int
  sectors : Int
  every : Int
  deriving DecidableEq
def SD.cells (s : SD) : List Value := [.int .u64 s.gen, .int .i64 s.root, .int .i64 s.boot, .int .i64 s.quota, .int .i64 s.sectors, .int .i64 s.every]
def SD.v (s : SD) : Value := .agg #[.int .u64 s.gen, .int .i64 s.root, .int .i64 s.boot, .int .i64 s.quota, .int .i64 s.sectors, .int .i64 s.every]
def SD.z : SD := ⟨0, 0, 0, 0, 0, 0⟩
def within (n m : Int) : Prop := 0 ≤ n ∧ n ≤ m
structure SD.right (s : SD) : Prop where
  g1 : 1 ≤ s.gen
  g2 : s.gen ≤ 281474976710655
  root : within s.root 1024
  sectors : within s.sectors 1024
  boot : within s.boot 255
  quota : within s.quota 48
  every : within s.every 65535
instance (n m : Int) : Decidable (within n m) := inferInstanceAs (Decidable (0 ≤ n ∧ n ≤ m))
theorem SD.right_iff (s : SD) : s.right ↔ (1 ≤ s.gen ∧ s.gen ≤ 281474976710655 ∧ within s.root 1024 ∧ within s.sectors 1024 ∧ within s.boot 255 ∧ within s.quota 48 ∧ within s.every 65535) :=
  ⟨fun h => ⟨h.1, h.2, h.3, h.4, h.5, h.6, h.7⟩, fun ⟨a, b, c, d, e, f, g⟩ => ⟨a, b, c, d, e, f, g⟩⟩
instance (s : SD) : Decidable s.right := decidable_of_iff _ (SD.right_iff s).symm
theorem within_t (n m : Int) (h : within n m) (w : World) : Calls Try.prog 28 #[.int .i64 n, .int .i64 m] w fun e w' => e = .returned (.bool true) ∧ w = w' := by
  obtain ⟨h1, h2⟩ := h
  have d1 : decide (0 ≤ n) = true := decide_eq_true h1
  have d2 : decide (n ≤ m) = true := decide_eq_true h2
  go_enter Try.func28, Try.ntmps28
  go_wp2_with fail
  go_ret
  exact ⟨rfl, rfl⟩
theorem within_f (n m : Int) (h : ¬ within n m) (w : World) : Calls Try.prog 28 #[.int .i64 n, .int .i64 m] w fun e w' => e = .returned (.bool false) ∧ w = w' := by
  by_cases h1 : 0 ≤ n
  · have d1 : decide (0 ≤ n) = true := decide_eq_true h1
    have d2 : decide (n ≤ m) = false := decide_eq_false fun h2 => h ⟨h1, h2⟩
    go_enter Try.func28, Try.ntmps28
    go_wp2_with fail
    go_ret
    exact ⟨rfl, rfl⟩
  · have d1 : decide (0 ≤ n) = false := decide_eq_false h1
    go_enter Try.func28, Try.ntmps28
    go_wp2_with fail
    go_ret
    exact ⟨rfl, rfl⟩
set_option maxRecDepth 20000 in
set_option maxHeartbeats 6400000 in
theorem super_Right (s : SD) (w : World) : Calls Try.prog 12 #[s.v] w fun e w' => e = .returned (.bool (decide s.right)) ∧ Below w.heap.size w w' := by
  obtain ⟨gen, root, boot, quota, sectors, every⟩ := s
  have HB := Lib.hid (below_alloc w (.cells #[.int .u64 gen, .int .i64 root, .int .i64 boot, .int .i64 quota, .int .i64 sectors, .int .i64 every] 24))
  have no : ∀ b : Bool, (¬ (⟨gen, root, boot, quota, sectors, every⟩ : SD).right → b = false) → ¬ (⟨gen, root, boot, quota, sectors, every⟩ : SD).right → Ending.returned (.bool b) = .returned (.bool (decide (⟨gen, root, boot, quota, sectors, every⟩ : SD).right)) := fun b hb h => by rw [hb h, decide_eq_false h]
  have HNO := Lib.hid no
  clear no
  unfold SD.v
  dsimp only
  by_cases g1 : 1 ≤ gen
  · have d1 : decide ((1 : Int) ≤ (gen : Int)) = true := decide_eq_true (by omega)
    by_cases g2 : gen ≤ 281474976710655
    · have d2 : decide ((gen : Int) ≤ 281474976710655) = true := decide_eq_true (by omega)
      by_cases h0 : within root 1024
      · skip
        by_cases h1 : within sectors 1024
        · skip
          by_cases h2 : within boot 255
          · skip
            by_cases h3 : within quota 48
            · skip
              by_cases h4 : within every 65535
              · skip
                go_enter Try.func12, Try.ntmps12
                go_wp2_with fail
                refine (within_t root 1024 h0 _).mono ?_
                rintro e w' ⟨rfl, rfl⟩
                go_wp2_with fail
                refine (within_t sectors 1024 h1 _).mono ?_
                rintro e w' ⟨rfl, rfl⟩
                go_wp2_with fail
                refine (within_t boot 255 h2 _).mono ?_
                rintro e w' ⟨rfl, rfl⟩
                go_wp2_with fail
                refine (within_t quota 48 h3 _).mono ?_
                rintro e w' ⟨rfl, rfl⟩
                go_wp2_with fail
                refine (within_t every 65535 h4 _).mono ?_
                rintro e w' ⟨rfl, rfl⟩
                go_wp2_with fail
                go_ret
                exact ⟨by rw [decide_eq_true (⟨g1, g2, h0, h1, h2, h3, h4⟩ : (⟨gen, root, boot, quota, sectors, every⟩ : SD).right)]; rfl, HB.out⟩
              · go_enter Try.func12, Try.ntmps12
                go_wp2_with fail
                refine (within_t root 1024 h0 _).mono ?_
                rintro e w' ⟨rfl, rfl⟩
                go_wp2_with fail
                refine (within_t sectors 1024 h1 _).mono ?_
                rintro e w' ⟨rfl, rfl⟩
                go_wp2_with fail
                refine (within_t boot 255 h2 _).mono ?_
                rintro e w' ⟨rfl, rfl⟩
                go_wp2_with fail
                refine (within_t quota 48 h3 _).mono ?_
                rintro e w' ⟨rfl, rfl⟩
                go_wp2_with fail
                refine (within_f every 65535 h4 _).mono ?_
                rintro e w' ⟨rfl, rfl⟩
                go_wp2_with fail
                go_ret
                exact ⟨HNO.out _ (fun _ => rfl) (fun h => h4 h.every), HB.out⟩
            · go_enter Try.func12, Try.ntmps12
              go_wp2_with fail
              refine (within_t root 1024 h0 _).mono ?_
              rintro e w' ⟨rfl, rfl⟩
              go_wp2_with fail
              refine (within_t sectors 1024 h1 _).mono ?_
              rintro e w' ⟨rfl, rfl⟩
              go_wp2_with fail
              refine (within_t boot 255 h2 _).mono ?_
              rintro e w' ⟨rfl, rfl⟩
              go_wp2_with fail
              refine (within_f quota 48 h3 _).mono ?_
              rintro e w' ⟨rfl, rfl⟩
              go_wp2_with fail
              go_ret
              exact ⟨HNO.out _ (fun _ => rfl) (fun h => h3 h.quota), HB.out⟩
          · go_enter Try.func12, Try.ntmps12
            go_wp2_with fail
            refine (within_t root 1024 h0 _).mono ?_
            rintro e w' ⟨rfl, rfl⟩
            go_wp2_with fail
            refine (within_t sectors 1024 h1 _).mono ?_
            rintro e w' ⟨rfl, rfl⟩
            go_wp2_with fail
            refine (within_f boot 255 h2 _).mono ?_
            rintro e w' ⟨rfl, rfl⟩
            go_wp2_with fail
            go_ret
            exact ⟨HNO.out _ (fun _ => rfl) (fun h => h2 h.boot), HB.out⟩
        · go_enter Try.func12, Try.ntmps12
          go_wp2_with fail
          refine (within_t root 1024 h0 _).mono ?_
          rintro e w' ⟨rfl, rfl⟩
          go_wp2_with fail
          refine (within_f sectors 1024 h1 _).mono ?_
          rintro e w' ⟨rfl, rfl⟩
          go_wp2_with fail
          go_ret
          exact ⟨HNO.out _ (fun _ => rfl) (fun h => h1 h.sectors), HB.out⟩
      · go_enter Try.func12, Try.ntmps12
        go_wp2_with fail
        refine (within_f root 1024 h0 _).mono ?_
        rintro e w' ⟨rfl, rfl⟩
        go_wp2_with fail
        go_ret
        exact ⟨HNO.out _ (fun _ => rfl) (fun h => h0 h.root), HB.out⟩
    · have d2 : decide ((gen : Int) ≤ 281474976710655) = false := decide_eq_false (by omega)
      go_enter Try.func12, Try.ntmps12
      go_wp2_with fail
      go_ret
      exact ⟨HNO.out _ (fun _ => rfl) (fun h => g2 h.g2), HB.out⟩
  · have d1 : decide ((1 : Int) ≤ (gen : Int)) = false := decide_eq_false (by omega)
    go_enter Try.func12, Try.ntmps12
    go_wp2_with fail
    go_ret
    exact ⟨HNO.out _ (fun _ => rfl) (fun h => g1 h.g1), HB.out⟩
end Go.Proofs.Ytanibabfdpgbbaa
