/- The zero values of great types, as facts of the walk (a seat that is loaded in one piece lacks them). -/
import Derived.Test.YtoghmakbdhepfaaMem
import Derived.Test.YtoghmakbdhepfaaProg
import Derived.KernelRfl
import Derived.Deep.MidRow
namespace Go.Proofs.Ytoghmakbdhepfaa
open Go.RowKit

/-- Zero cells (as the loader in parts makes them). -/
def Try.zeroCells28 : Array Value := (List.replicate 128 (.int .u8 0) : List Value).toArray
theorem Try.zeroValue28 (w : World) : Sem.run Try.prog (zeroValue 28) w = .ok (.agg Try.zeroCells28) w := by
  have h : Try.t28.zero = some (.agg Try.zeroCells28) := by kernel_rfl
  unfold zeroValue
  simp [go_sem, h]
theorem Try.zeroCells28_size : Try.zeroCells28.size = 128 := by kernel_rfl
@[simp] theorem Try.zeroCells28_ne : Try.zeroCells28 ≠ #[] := fun e => by
  have h := Try.zeroCells28_size
  rw [e] at h
  cases h
attribute [go_sem] Try.zeroValue28 Try.zeroCells28_size
/-- Zero cells (as the loader in parts makes them). -/
def Try.zeroCells68 : Array Value := (.int .i64 0 :: List.replicate 128 (.int .u8 0) : List Value).toArray
theorem Try.zeroValue68 (w : World) : Sem.run Try.prog (zeroValue 68) w = .ok (.agg Try.zeroCells68) w := by
  have h : Try.t68.zero = some (.agg Try.zeroCells68) := by kernel_rfl
  unfold zeroValue
  simp [go_sem, h]
theorem Try.zeroCells68_size : Try.zeroCells68.size = 129 := by kernel_rfl
@[simp] theorem Try.zeroCells68_ne : Try.zeroCells68 ≠ #[] := fun e => by
  have h := Try.zeroCells68_size
  rw [e] at h
  cases h
attribute [go_sem] Try.zeroValue68 Try.zeroCells68_size
/-- Zero cells (as the loader in parts makes them). -/
def Try.zeroCells31 : Array Value := (.int .i64 0 :: .int .i64 0 :: .int .i64 0 :: (List.replicate 128 (.int .u8 0) ++ [.slice none 0 0]) : List Value).toArray
theorem Try.zeroValue31 (w : World) : Sem.run Try.prog (zeroValue 31) w = .ok (.agg Try.zeroCells31) w := by
  have h : Try.t31.zero = some (.agg Try.zeroCells31) := by kernel_rfl
  unfold zeroValue
  simp [go_sem, h]
theorem Try.zeroCells31_size : Try.zeroCells31.size = 132 := by kernel_rfl
@[simp] theorem Try.zeroCells31_ne : Try.zeroCells31 ≠ #[] := fun e => by
  have h := Try.zeroCells31_size
  rw [e] at h
  cases h
attribute [go_sem] Try.zeroValue31 Try.zeroCells31_size
/-- Zero cells (as the loader in parts makes them). -/
def Try.zeroCells39 : Array Value := (List.replicate 1024 (.int .u8 0) : List Value).toArray
theorem Try.zeroValue39 (w : World) : Sem.run Try.prog (zeroValue 39) w = .ok (.agg Try.zeroCells39) w := by
  have h : Try.t39.zero = some (.agg Try.zeroCells39) := by kernel_rfl
  unfold zeroValue
  simp [go_sem, h]
theorem Try.zeroCells39_size : Try.zeroCells39.size = 1024 := by kernel_rfl
@[simp] theorem Try.zeroCells39_ne : Try.zeroCells39 ≠ #[] := fun e => by
  have h := Try.zeroCells39_size
  rw [e] at h
  cases h
attribute [go_sem] Try.zeroValue39 Try.zeroCells39_size
end Go.Proofs.Ytoghmakbdhepfaa
