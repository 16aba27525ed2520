/- Sectors, numbers and pairs that came in. -/
import Derived.Test.YtanibabfdpgbbaaSect
import Derived.Test.YtanibabfdpgbbaaOpen2
import Derived.Test.YtanibabfdpgbbaaField
namespace Go.Proofs.Ytanibabfdpgbbaa
open Go.ChangeShapes Go.WideShapes Go.ChangeAt Go.RowKit
set_option maxRecDepth 100000

/-- A number of 64 bits that came in. -/
theorem open_u64 {H : Type} {enc : TypeId × Value → H} {P : Program} {W : World} {base : Nat} {t : TypeId} {v : Value} {d : DataW H} {p : List MemPlace} (hu : P.underlying t = some (.int .u64)) (o : Value.okWide P W .any base t v) (r : DataW.Trod enc P W 0 (fun _ => true) true t v d p) : ∃ x : Nat, v = .int .u64 (x : Int) ∧ x < 18446744073709551616 := by
  obtain ⟨x, rfl, _, _, wx⟩ := open_int hu o r
  have hb : 0 ≤ x ∧ x ≤ 18446744073709551615 := by simpa [Lit.wf, IntKind.min, IntKind.max, IntKind.signed, IntKind.bits] using wx
  obtain ⟨k, rfl⟩ := Int.eq_ofNat_of_zero_le hb.1
  exact ⟨k, rfl, by omega⟩
section
variable {H : Type} {enc : TypeId × Value → H} {W : World} {base : Nat} {v : Value} {d : DataW H} {p : List MemPlace}
/-- A sector that came in. -/
theorem open_sector (o : Value.okWide Try.prog W .any base 32 v) (r : DataW.Trod enc Try.prog W 0 (fun _ => true) true 32 v d p) : ∃ l, v = secV l ∧ l.length = 128 := by
  have hct : Try.prog.cellsOf 32 = 128 := by kernel_rfl
  have hc : Try.prog.cellsOf 5 = 1 := by kernel_rfl
  obtain ⟨cs, rfl⟩ : ∃ cs, v = .agg cs := by
    simp only [Value.okWide, Try.underlying32] at o
    obtain ⟨cs, h1, _⟩ := o
    exact ⟨cs, h1⟩
  obtain ⟨fuel, hf⟩ := r
  obtain ⟨l, h1, h2⟩ := trod_bytes Try.underlying32 Try.underlying5 hc hct hf
  refine ⟨l, ?_, h2⟩
  unfold secV
  rw [← h1]
  rfl
end
end Go.Proofs.Ytanibabfdpgbbaa
