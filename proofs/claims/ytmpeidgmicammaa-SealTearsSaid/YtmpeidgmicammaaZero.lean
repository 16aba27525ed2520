/- The zero values of great types, as facts of the walk (a seat that is loaded in one piece lacks them). -/
import Derived.Test.YtmpeidgmicammaaMem
import Derived.Test.YtmpeidgmicammaaProg
import Derived.KernelRfl
import Derived.Deep.MidRow
namespace Go.Proofs.Ytmpeidgmicammaa
open Go.RowKit

/-- Zero cells (as the loader in parts makes them). -/
def Try.zeroCells27 : Array Value := (List.replicate 128 (.int .u8 0) : List Value).toArray
theorem Try.zeroValue27 (w : World) : Sem.run Try.prog (zeroValue 27) w = .ok (.agg Try.zeroCells27) w := by
  have h : Try.t27.zero = some (.agg Try.zeroCells27) := by kernel_rfl
  unfold zeroValue
  simp [go_sem, h]
theorem Try.zeroCells27_size : Try.zeroCells27.size = 128 := by kernel_rfl
@[simp] theorem Try.zeroCells27_ne : Try.zeroCells27 ≠ #[] := fun e => by
  have h := Try.zeroCells27_size
  rw [e] at h
  cases h
attribute [go_sem] Try.zeroValue27 Try.zeroCells27_size
end Go.Proofs.Ytmpeidgmicammaa
