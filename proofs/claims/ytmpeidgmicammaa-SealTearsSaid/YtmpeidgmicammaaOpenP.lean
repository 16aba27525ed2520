/- Pairs of numbers and of bytes that came in. -/
import Derived.Test.YtmpeidgmicammaaOpenX
namespace Go.Proofs.Ytmpeidgmicammaa
open Go.ChangeShapes Go.WideShapes Go.ChangeAt Go.RowKit

section
variable {H : Type} {enc : TypeId × Value → H} {W : World} {base : Nat} {v : Value} {d : DataW H} {p : List MemPlace}
set_option maxRecDepth 100000 in
theorem open_pairN (o : Value.okWide Try.prog W .any base 37 v) (r : DataW.Trod enc Try.prog W 0 (fun _ => true) true 37 v d p) :
    ∃ a b : Nat, v = .agg #[.int .u64 a, .int .u64 b] ∧ a < 18446744073709551616 ∧ b < 18446744073709551616 := by
  have hct : Try.prog.cellsOf 37 = 2 := by kernel_rfl
  have hc : Try.prog.cellsOf 22 = 1 := by kernel_rfl
  obtain ⟨cs, rfl⟩ : ∃ cs, v = .agg cs := by
    simp only [Value.okWide, Try.underlying37] at o
    obtain ⟨cs, h1, _⟩ := o
    exact ⟨cs, h1⟩
  obtain ⟨fuel, hf⟩ := r
  obtain ⟨xs, m, _, _, hl, hxl, hfe⟩ := DataW.trod_array Try.underlying37 hf
  rw [hct] at hl
  have f0 := hfe 0 (by omega)
  have f1 := hfe 1 (by omega)
  rw [hc, List.getElem?_eq_getElem (by omega)] at f0 f1
  obtain ⟨n0, e0, _, w0⟩ := DataW.trod_int Try.underlying22 f0
  obtain ⟨n1, e1, _, w1⟩ := DataW.trod_int Try.underlying22 f1
  obtain ⟨h0, h0'⟩ := u64_wf w0
  obtain ⟨h1, h1'⟩ := u64_wf w1
  obtain ⟨a, rfl⟩ := Int.eq_ofNat_of_zero_le h0
  obtain ⟨b, rfl⟩ := Int.eq_ofNat_of_zero_le h1
  refine ⟨a, b, ?_, by omega, by omega⟩
  have g0 := take1F e0
  have g1 := take1F e1
  obtain ⟨cl⟩ := cs
  match cl, hl, g0, g1 with
  | [x, y], _, g0, g1 =>
    simp [Value.cells] at g0 g1
    subst g0 g1
    rfl
set_option maxRecDepth 100000 in
theorem open_pairB (o : Value.okWide Try.prog W .any base 38 v) (r : DataW.Trod enc Try.prog W 0 (fun _ => true) true 38 v d p) (z : ∀ n ∈ d.weights Try.prog 38, n ≤ reachBytes) :
    ∃ A n c xs A' n' c' xs', v = .agg #[.slice A n c, .slice A' n' c'] ∧ RB W A n c xs ∧ n ≤ 140737488351232 ∧ RB W A' n' c' xs' ∧ n' ≤ 140737488351232 := by
  have hct : Try.prog.cellsOf 38 = 2 := by kernel_rfl
  have hc : Try.prog.cellsOf 23 = 1 := by kernel_rfl
  obtain ⟨cs, rfl⟩ : ∃ cs, v = .agg cs := by
    simp only [Value.okWide, Try.underlying38] at o
    obtain ⟨cs, h1, _⟩ := o
    exact ⟨cs, h1⟩
  obtain ⟨fuel, hf⟩ := r
  obtain ⟨xs, m, _, hx, hl, hxl, hfe⟩ := DataW.trod_array Try.underlying38 hf
  rw [hct] at hl
  have f0 := hfe 0 (by omega)
  have f1 := hfe 1 (by omega)
  rw [hc, List.getElem?_eq_getElem (by omega)] at f0 f1
  have hw : ∀ i (hi : i < xs.length), ∀ n ∈ (xs[i]).1.weights Try.prog 23, n ≤ reachBytes := fun i hi n hn => z n (by
    have hd := (Prod.mk.inj hx).1
    rw [hd]
    simp only [DataW.weights, Try.underlying38]
    exact weights_all (List.mem_map.2 ⟨xs[i], List.getElem_mem hi, rfl⟩) n hn)
  obtain ⟨A, n, c, bs, e0, hrb, hn⟩ := trod_u8s Try.underlying23 Try.underlying5 (by kernel_rfl) (by kernel_rfl) f0 (hw 0 (by omega))
  obtain ⟨A', n', c', bs', e1, hrb', hn'⟩ := trod_u8s Try.underlying23 Try.underlying5 (by kernel_rfl) (by kernel_rfl) f1 (hw 1 (by omega))
  refine ⟨A, n, c, bs, A', n', c', bs', ?_, hrb, hn, hrb', hn'⟩
  have g0 := take1F e0
  have g1 := take1F e1
  obtain ⟨cl⟩ := cs
  match cl, hl, g0, g1 with
  | [x, y], _, g0, g1 =>
    simp [Value.cells] at g0 g1
    subst g0 g1
    rfl
end
end Go.Proofs.Ytmpeidgmicammaa
