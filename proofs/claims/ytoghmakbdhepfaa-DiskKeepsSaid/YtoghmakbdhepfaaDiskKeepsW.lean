/- The walk of DiskKeeps, whatever comes in. -/
import Derived.Test.YtoghmakbdhepfaaDiskKeepsN
namespace Go.Proofs.Ytoghmakbdhepfaa
open Go.ChangeShapes Go.WideShapes Go.ChangeAt Go.RowKit

set_option maxRecDepth 20000 in
set_option maxHeartbeats 6400000 in
theorem diskKeeps_early (A : Option Addr) (n c : Nat) (b : Value) (t0 t1 : Int) (w : World) (h : 200 < n) :
    Calls Try.prog 5 #[.slice A n c, b, .agg #[.int .i64 t0, .int .i64 t1]] w fun e w' => e = .returned (.bool true) ∧ Below w.heap.size w w' := by
  have HB0 := Lib.hid (below_alloc w (.cells ([.int .i64 t0, .int .i64 t1] : List Value).toArray 38))
  go_enter Try.func5, Try.ntmps5
  go_wp2_with fail
  refine (diskAlive_true _).mono ?_
  rintro e w1 ⟨rfl, hb1⟩
  have HB1 := Lib.hid (bthen HB0.out hb1)
  clear hb1
  go_wp2_with fail
  refine (disk_New 8 w1).mono ?_
  rintro e w2 ⟨p, s, rfl, hd0, hb0⟩
  have HB2 := Lib.hid (bthen HB1.out hb0)
  clear hd0 hb0
  go_wp2_with fail
  go_ret
  exact ⟨rfl, HB2.out⟩
section
variable {H : Type} {enc : TypeId × Value → H} {W : World} {base : Nat} {v : Value} {d : DataW H} {p : List MemPlace}
set_option maxRecDepth 100000 in
/-- A slice of bools that came in. -/
theorem open_boolsD (o : Value.okWide Try.prog W .any base 29 v) (r : DataW.Trod enc Try.prog W 0 (fun _ => true) true 29 v d p) (z : ∀ n ∈ d.weights Try.prog 29, n ≤ reachBytes) :
    ∃ A n c keep, v = .slice A n c ∧ RBl W A n c keep ∧ n ≤ 140737488351232 := by
  obtain ⟨A0, n0, c0, rfl⟩ := okWide_slice Try.underlying29 o
  obtain ⟨fuel, hf⟩ := r
  obtain ⟨A, n, c, keep, h1, h2, h3⟩ := trod_bools Try.underlying29 Try.underlying4 (by kernel_rfl) (by kernel_rfl) hf z
  simp [Value.cells] at h1
  obtain ⟨rfl, rfl, rfl⟩ := h1
  exact ⟨_, _, _, keep, rfl, h2, h3⟩
set_option maxRecDepth 100000 in
/-- Two numbers that came in. -/
theorem open_twoD (o : Value.okWide Try.prog W .any base 38 v) (r : DataW.Trod enc Try.prog W 0 (fun _ => true) true 38 v d p) : ∃ t0 t1 : Int, v = .agg #[.int .i64 t0, .int .i64 t1] := by
  have hct : Try.prog.cellsOf 38 = 2 := by kernel_rfl
  have hc : Try.prog.cellsOf 3 = 1 := by kernel_rfl
  obtain ⟨cs, rfl⟩ : ∃ cs, v = .agg cs := by
    simp only [Value.okWide, Try.underlying38] at o
    obtain ⟨cs, h1, _⟩ := o
    exact ⟨cs, h1⟩
  obtain ⟨fuel, hf⟩ := r
  obtain ⟨xs, m, _, _, hl, hxl, hfe⟩ := DataW.trod_array Try.underlying38 hf
  rw [hct] at hl
  have f0 := hfe 0 (by omega)
  have f1 := hfe 1 (by omega)
  rw [hc, List.getElem?_eq_getElem (by omega)] at f0 f1
  obtain ⟨n0, e0, _, _⟩ := DataW.trod_int Try.underlying3 f0
  obtain ⟨n1, e1, _, _⟩ := DataW.trod_int Try.underlying3 f1
  have g0 := take1 e0
  have g1 := take1 e1
  refine ⟨n0, n1, ?_⟩
  obtain ⟨cl⟩ := cs
  match cl, hl, g0, g1 with
  | [x, y], _, g0, g1 =>
    simp [Value.cells] at g0 g1
    subst g0 g1
    rfl
end
set_option maxRecDepth 100000 in
theorem diskKeeps_walk {H : Type} {enc : TypeId × Value → H} {W : World} {base : Nat} {v0 v1 v2 : Value} {d0 d1 d2 : DataW H} {p0 p1 p2 : List MemPlace}
    (o0 : Value.okWide Try.prog W .any base 26 v0) (r0 : DataW.Trod enc Try.prog W 0 (fun _ => true) true 26 v0 d0 p0) (z0 : ∀ n ∈ d0.weights Try.prog 26, n ≤ reachBytes)
    (o1 : Value.okWide Try.prog W .any base 29 v1) (r1 : DataW.Trod enc Try.prog W 0 (fun _ => true) true 29 v1 d1 p1) (z1 : ∀ n ∈ d1.weights Try.prog 29, n ≤ reachBytes)
    (o2 : Value.okWide Try.prog W .any base 38 v2) (r2 : DataW.Trod enc Try.prog W 0 (fun _ => true) true 38 v2 d2 p2) (_z2 : ∀ n ∈ d2.weights Try.prog 38, n ≤ reachBytes) :
    Calls Try.prog 5 #[v0, v1, v2] W fun e w' => e = .returned (.bool true) ∧ Below W.heap.size W w' := by
  obtain ⟨A, n, c, l, rfl, hl⟩ := open_acts o0 r0 z0
  obtain ⟨K, nk, ck, keep, rfl, hk, hnk⟩ := open_boolsD o1 r1 z1
  obtain ⟨t0, t1, rfl⟩ := open_twoD o2 r2
  by_cases h0 : 200 < n
  · exact diskKeeps_early A n c _ t0 t1 W h0
  · exact diskKeeps_main A n c l K nk ck keep t0 t1 W hl (by omega) hk hnk
end Go.Proofs.Ytoghmakbdhepfaa
