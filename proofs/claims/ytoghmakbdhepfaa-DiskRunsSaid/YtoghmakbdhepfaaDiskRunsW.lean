/- The walk of DiskRuns, whatever comes in. -/
import Derived.Test.YtoghmakbdhepfaaDiskRunsM
namespace Go.Proofs.Ytoghmakbdhepfaa
open Go.RowKit

set_option maxRecDepth 20000 in
set_option maxHeartbeats 6400000 in
theorem diskRuns_early (A : Option Addr) (n c : Nat) (i : Int) (w : World) (h : 200 < n) :
    Calls Try.prog 7 #[.int .i64 i, .slice A n c] w fun e w' => e = .returned (.bool true) ∧ Below w.heap.size w w' := by
  go_enter Try.func7, Try.ntmps7
  go_wp2_with fail
  refine (diskAlive_true _).mono ?_
  rintro e w1 ⟨rfl, hb1⟩
  have HB1 := Lib.hid hb1
  clear hb1
  go_wp2_with fail
  refine (disk_New i w1).mono ?_
  rintro e w2 ⟨p, s, rfl, hd0, hb0⟩
  have HB0 := Lib.hid (bthen HB1.out hb0)
  clear hd0 hb0
  go_wp2_with fail
  refine (ref_New i w2).mono ?_
  rintro e w3 ⟨A', c', rfl, -, hb3, -⟩
  have HB3 := Lib.hid (balloc (bthen HB0.out hb3) (.cells (rdC A' c' none 0 (newDk i)).toArray 49))
  clear hb3
  go_wp2_with (refine stN 49 (rdC A' c' none 0 (newDk i)) rfl _ _ rfl _ _ rfl rfl rfl (rdC_one _ _ _ _ _) Try.sizeRD rfl ?_)
  go_ret
  exact ⟨rfl, HB3.out⟩

set_option maxRecDepth 100000 in
theorem diskRuns_walk {H : Type} {enc : TypeId × Value → H} {W : World} {base : Nat} {v0 v1 : Value} {d0 d1 : DataW H} {p0 p1 : List MemPlace}
    (o0 : Value.okWide Try.prog W .any base 3 v0) (r0 : DataW.Trod enc Try.prog W 0 (fun _ => true) true 3 v0 d0 p0) (_z0 : ∀ n ∈ d0.weights Try.prog 3, n ≤ reachBytes)
    (o1 : Value.okWide Try.prog W .any base 26 v1) (r1 : DataW.Trod enc Try.prog W 0 (fun _ => true) true 26 v1 d1 p1) (z1 : ∀ n ∈ d1.weights Try.prog 26, n ≤ reachBytes) :
    Calls Try.prog 7 #[v0, v1] W fun e w' => e = .returned (.bool true) ∧ Below W.heap.size W w' := by
  obtain ⟨i, rfl, _, hi⟩ := open_i64 Try.underlying3 o0 r0
  obtain ⟨A, n, c, l, rfl, hl⟩ := open_acts o1 r1 z1
  by_cases h0 : 200 < n
  · exact diskRuns_early A n c i W h0
  · exact diskRuns_main A n n c l i W hl (by omega)
end Go.Proofs.Ytoghmakbdhepfaa
