/- The zero values of great types, as facts of the walk (a seat that is loaded in one piece lacks them). -/
import Derived.Test.YtanibabfdpgbbaaMem
import Derived.Test.YtanibabfdpgbbaaProg
import Derived.KernelRfl
import Derived.Deep.MidRow
namespace Go.Proofs.Ytanibabfdpgbbaa
open Go.RowKit

/-- Zero cells (as the loader in parts makes them). -/
def Try.zeroCells32 : Array Value := (List.replicate 128 (.int .u8 0) : List Value).toArray
theorem Try.zeroValue32 (w : World) : Sem.run Try.prog (zeroValue 32) w = .ok (.agg Try.zeroCells32) w := by
  have h : Try.t32.zero = some (.agg Try.zeroCells32) := by kernel_rfl
  unfold zeroValue
  simp [go_sem, h]
theorem Try.zeroCells32_size : Try.zeroCells32.size = 128 := by kernel_rfl
@[simp] theorem Try.zeroCells32_ne : Try.zeroCells32 ≠ #[] := fun e => by
  have h := Try.zeroCells32_size
  rw [e] at h
  cases h
attribute [go_sem] Try.zeroValue32 Try.zeroCells32_size
/-- Zero cells (as the loader in parts makes them). -/
def Try.zeroCells68 : Array Value := (.int .i64 0 :: List.replicate 128 (.int .u8 0) : List Value).toArray
theorem Try.zeroValue68 (w : World) : Sem.run Try.prog (zeroValue 68) w = .ok (.agg Try.zeroCells68) w := by
  have h : Try.t68.zero = some (.agg Try.zeroCells68) := by kernel_rfl
  unfold zeroValue
  simp [go_sem, h]
theorem Try.zeroCells68_size : Try.zeroCells68.size = 129 := by kernel_rfl
@[simp] theorem Try.zeroCells68_ne : Try.zeroCells68 ≠ #[] := fun e => by
  have h := Try.zeroCells68_size
  rw [e] at h
  cases h
attribute [go_sem] Try.zeroValue68 Try.zeroCells68_size
end Go.Proofs.Ytanibabfdpgbbaa
