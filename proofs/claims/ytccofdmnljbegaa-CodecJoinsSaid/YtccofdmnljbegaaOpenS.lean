/- A string that came in, as a list of bytes; no program in sight. -/
import Derived.Test.YtccofdmnljbegaaOpen
import Derived.ChangeMaps5
namespace Go.Proofs.Ytccofdmnljbegaa
open Go.ChangeShapes Go.WideShapes Go.ChangeAt Go.RowKit
theorem open_str {H : Type} {enc : TypeId × Value → H} {P : Program} {W : World} {base : Nat} {t : TypeId} {v : Value} {d : DataW H} {p : List MemPlace} (hu : P.underlying t = some .string)
    (o : Value.okWide P W .any base t v) (r : DataW.Trod enc P W 0 (fun _ => true) true t v d p) : ∃ xs, v = .string (strOf xs) ∧ xs.length ≤ 9223372036854775807 := by
  obtain ⟨s, rfl, _, _, hs⟩ := Go.ChangeMaps.open_string hu o r
  refine ⟨s.data.toList, by simp [strOf], ?_⟩
  have h1 : s.data.toList.length = s.size := Array.length_toList
  rw [h1]
  exact hs
end Go.Proofs.Ytccofdmnljbegaa
