/- Supers that came in. -/
import Derived.Test.YtanibabfdpgbbaaSuperW1
import Derived.Test.YtanibabfdpgbbaaOpen2
import Derived.Test.YtanibabfdpgbbaaField
namespace Go.Proofs.Ytanibabfdpgbbaa
open Go.ChangeShapes Go.WideShapes Go.ChangeAt Go.RowKit

section
variable {H : Type} {enc : TypeId × Value → H} {W : World} {base : Nat} {v : Value} {d : DataW H} {p : List MemPlace}
set_option maxRecDepth 100000 in
theorem open_super (o : Value.okWide Try.prog W .any base 24 v) (r : DataW.Trod enc Try.prog W 0 (fun _ => true) true 24 v d p) :
    ∃ s : SD, v = s.v ∧ s.gen < 18446744073709551616 := by
  have hc85 : Try.prog.cellsOf 22 = 1 := by kernel_rfl
  have hc3 : Try.prog.cellsOf 3 = 1 := by kernel_rfl
  have hct : Try.prog.cellsOf 24 = 6 := by kernel_rfl
  obtain ⟨cs, rfl, hcs⟩ := okWide_struct Try.underlying24 o
  obtain ⟨fuel, hf⟩ := r
  obtain ⟨xs, m, _, hx, hl, hxl, hfe⟩ := DataW.trod_struct Try.underlying24 hf
  rw [hct] at hl
  have hxl : xs.length = 6 := hxl
  have f0 : DataW.trod enc Try.prog W 0 (fun _ => true) true m 22 (((Value.agg cs).cells.toList.drop 0).take (Try.prog.cellsOf 22)) = xs[0]? := hfe 0 _ rfl
  have f1 : DataW.trod enc Try.prog W 0 (fun _ => true) true m 3 (((Value.agg cs).cells.toList.drop 1).take (Try.prog.cellsOf 3)) = xs[1]? := hfe 1 _ rfl
  have f2 : DataW.trod enc Try.prog W 0 (fun _ => true) true m 3 (((Value.agg cs).cells.toList.drop 2).take (Try.prog.cellsOf 3)) = xs[2]? := hfe 2 _ rfl
  have f3 : DataW.trod enc Try.prog W 0 (fun _ => true) true m 3 (((Value.agg cs).cells.toList.drop 3).take (Try.prog.cellsOf 3)) = xs[3]? := hfe 3 _ rfl
  have f4 : DataW.trod enc Try.prog W 0 (fun _ => true) true m 3 (((Value.agg cs).cells.toList.drop 4).take (Try.prog.cellsOf 3)) = xs[4]? := hfe 4 _ rfl
  have f5 : DataW.trod enc Try.prog W 0 (fun _ => true) true m 3 (((Value.agg cs).cells.toList.drop 5).take (Try.prog.cellsOf 3)) = xs[5]? := hfe 5 _ rfl
  rw [hc85, List.getElem?_eq_getElem (by omega)] at f0
  rw [hc3, List.getElem?_eq_getElem (by omega)] at f1 f2 f3 f4 f5
  obtain ⟨n0, e0, _, w0⟩ := DataW.trod_int Try.underlying22 f0
  obtain ⟨n1, e1, _, _⟩ := DataW.trod_int Try.underlying3 f1
  obtain ⟨n2, e2, _, _⟩ := DataW.trod_int Try.underlying3 f2
  obtain ⟨n3, e3, _, _⟩ := DataW.trod_int Try.underlying3 f3
  obtain ⟨n4, e4, _, _⟩ := DataW.trod_int Try.underlying3 f4
  obtain ⟨n5, e5, _, _⟩ := DataW.trod_int Try.underlying3 f5
  obtain ⟨h0, h0'⟩ := u64_wf w0
  obtain ⟨g, rfl⟩ := Int.eq_ofNat_of_zero_le h0
  refine ⟨⟨g, n1, n2, n3, n4, n5⟩, ?_, show g < 18446744073709551616 by omega⟩
  have g0 := take1F e0
  have g1 := take1F e1
  have g2 := take1F e2
  have g3 := take1F e3
  have g4 := take1F e4
  have g5 := take1F e5
  obtain ⟨cl⟩ := cs
  match cl, hl, g0, g1, g2, g3, g4, g5 with
  | [a, b, c, d, e, f], _, g0, g1, g2, g3, g4, g5 =>
    simp [Value.cells] at g0 g1 g2 g3 g4 g5
    subst g0 g1 g2 g3 g4 g5
    rfl
end
end Go.Proofs.Ytanibabfdpgbbaa
