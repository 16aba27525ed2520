/- The walk of DiskEnds, whatever comes in. -/
import Derived.Test.YtoghmakbdhepfaaDiskEndsM
namespace Go.Proofs.Ytoghmakbdhepfaa
open Go.RowKit

set_option maxRecDepth 20000 in
set_option maxHeartbeats 6400000 in
theorem diskEnds_early (A : Option Addr) (n c : Nat) (i : Int) (w : World) (h : 200 < n ∨ (n ≤ 200 ∧ i < 0)) :
    Calls Try.prog 6 #[.int .i64 i, .slice A n c] w fun e w' => e = .returned (.bool true) ∧ Below w.heap.size w w' := by
  have HH := Lib.hid h
  clear h
  go_enter Try.func6, Try.ntmps6
  go_wp2_with fail
  refine (diskAlive_true _).mono ?_
  rintro e w1 ⟨rfl, hb1⟩
  have HB1 := Lib.hid hb1
  clear hb1
  go_wp2_with fail
  refine (disk_New 8 w1).mono ?_
  rintro e w2 ⟨p, s, rfl, hd0, hb0⟩
  have HB0 := Lib.hid (bthen HB1.out hb0)
  clear hd0 hb0
  rcases HH.out with h | ⟨h, h'⟩
  all_goals
    go_wp2_with fail
    go_ret
    exact ⟨rfl, HB0.out⟩

set_option maxRecDepth 100000 in
theorem diskEnds_walk {H : Type} {enc : TypeId × Value → H} {W : World} {base : Nat} {v0 v1 : Value} {d0 d1 : DataW H} {p0 p1 : List MemPlace}
    (o0 : Value.okWide Try.prog W .any base 3 v0) (r0 : DataW.Trod enc Try.prog W 0 (fun _ => true) true 3 v0 d0 p0) (_z0 : ∀ n ∈ d0.weights Try.prog 3, n ≤ reachBytes)
    (o1 : Value.okWide Try.prog W .any base 26 v1) (r1 : DataW.Trod enc Try.prog W 0 (fun _ => true) true 26 v1 d1 p1) (z1 : ∀ n ∈ d1.weights Try.prog 26, n ≤ reachBytes) :
    Calls Try.prog 6 #[v0, v1] W fun e w' => e = .returned (.bool true) ∧ Below W.heap.size W w' := by
  obtain ⟨i, rfl, _, hi⟩ := open_i64 Try.underlying3 o0 r0
  obtain ⟨A, n, c, l, rfl, hl⟩ := open_acts o1 r1 z1
  by_cases h0 : 200 < n
  · exact diskEnds_early A n c i W (.inl h0)
  by_cases h1 : i < 0
  · exact diskEnds_early A n c i W (.inr ⟨by omega, h1⟩)
  obtain ⟨k, rfl⟩ := Int.eq_ofNat_of_zero_le (show 0 ≤ i by omega)
  exact diskEnds_main A n k c l W hl (by omega) hi
end Go.Proofs.Ytoghmakbdhepfaa
