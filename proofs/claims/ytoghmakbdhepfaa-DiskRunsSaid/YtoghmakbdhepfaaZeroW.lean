/- The zero value of a write of the document's disk, as a fact of the walk (a seat that is loaded in one piece lacks it). -/
import Derived.Test.YtoghmakbdhepfaaZero
import Derived.Test.YtoghmakbdhepfaaProg
import Derived.KernelRfl
namespace Go.Proofs.Ytoghmakbdhepfaa
open Go.RowKit
/-- Zero cells (as the loader in parts makes them). -/
def Try.zeroCells61 : Array Value := (.int .i64 0 :: List.replicate 128 (.int .u8 0) : List Value).toArray
theorem Try.zeroValue61 (w : World) : Sem.run Try.prog (zeroValue 61) w = .ok (.agg Try.zeroCells61) w := by
  have h : Try.t61.zero = some (.agg Try.zeroCells61) := by kernel_rfl
  unfold zeroValue
  simp [go_sem, h]
theorem Try.zeroCells61_size : Try.zeroCells61.size = 129 := by kernel_rfl
@[simp] theorem Try.zeroCells61_ne : Try.zeroCells61 ≠ #[] := fun e => by
  have h := Try.zeroCells61_size
  rw [e] at h
  cases h
attribute [go_sem] Try.zeroValue61 Try.zeroCells61_size
end Go.Proofs.Ytoghmakbdhepfaa
