/- JournalRuns: the arguments opened. -/
import Derived.Test.YtgakajofggmbjaaMg21
import Derived.Test.YtgakajofggmbjaaMg19
namespace Go.Proofs.Ytgakajofggmbjaa
open Go.RowKit Go.ChangeShapes Go.WideShapes Go.ChangeAt
set_option maxRecDepth 100000 in
theorem journalRuns_walk {H : Type} {enc : TypeId × Value → H} {W : World} {base : Nat} {v0 v1 v2 : Value} {d0 d1 d2 : DataW H} {p0 p1 p2 : List MemPlace}
    (o0 : Value.okWide Try.prog W .any base 3 v0) (r0 : DataW.Trod enc Try.prog W 0 (fun _ => true) true 3 v0 d0 p0) (_z0 : ∀ n ∈ d0.weights Try.prog 3, n ≤ reachBytes)
    (o1 : Value.okWide Try.prog W .any base 22 v1) (r1 : DataW.Trod enc Try.prog W 0 (fun _ => true) true 22 v1 d1 p1) (_z1 : ∀ n ∈ d1.weights Try.prog 22, n ≤ reachBytes)
    (o2 : Value.okWide Try.prog W .any base 23 v2) (r2 : DataW.Trod enc Try.prog W 0 (fun _ => true) true 23 v2 d2 p2) (z2 : ∀ n ∈ d2.weights Try.prog 23, n ≤ reachBytes) :
    Calls Try.prog 3 #[v0, v1, v2] W fun e w' => e = .returned (.bool true) ∧ Below W.heap.size W w' := by
  obtain ⟨x, rfl, _, _, wx⟩ := open_int Try.underlying3 o0 r0
  obtain ⟨y, rfl, _, _, wy⟩ := open_int Try.underlying22 o1 r1
  have hx := i64_wf wx
  have hy : 0 ≤ y ∧ y ≤ 18446744073709551615 := by simpa [Lit.wf, IntKind.min, IntKind.max, IntKind.signed, IntKind.bits] using wy
  obtain ⟨m, rfl⟩ := Int.eq_ofNat_of_zero_le hy.1
  obtain ⟨A, n, c, f, rfl, hA⟩ := open_actsJ o2 r2 z2
  exact journalRuns_main x m A n c f W hx (by omega) hA
end Go.Proofs.Ytgakajofggmbjaa
