/- The walk of CallWrites. -/
import Derived.Test.YtlofiinpgkclgaaMg13
namespace Go.Proofs.Ytlofiinpgkclgaa
open Go.RowKit

set_option maxRecDepth 20000 in
set_option maxHeartbeats 3200000 in
theorem callWrites_main (x : CallD) (p : CallP) (w : World) (hr : RCall w x p) (h1 : p.n1 * 16 ≤ 140737488355328) (h2 : p.n2 * 16 ≤ 140737488355328) :
    Calls Try.prog 4 #[callV x p] w fun e w' => e = .returned (.bool true) ∧ Below w.heap.size w w' := by
  have HR := Lib.hid hr
  have HB0 := Lib.hid (below_alloc w (.cells (callCells x p) 29))
  have HX := Lib.hid (Box12.new w x p)
  have HC := Lib.hid (fun w' (hb : Below w.heap.size w w') => ref19_Copy x p w' (hr.below hb) h1 h2)
  clear hr h1 h2
  obtain ⟨op, nn, mm, dir, obj, dir2, lab, clr, data, bits⟩ := x
  obtain ⟨A1, n1, c1, A2, n2, c2, A3, n3, c3⟩ := p
  unfold callV callCells
  unfold callCells at HB0
  dsimp only at HB0 HC ⊢
  go_enter Try.func4, Try.ntmps4
  go_wp2_with fail
  refine (HC.out _ HB0.out).mono ?_
  rintro e w1 ⟨⟨B1, m1, d1, B2, m2, d2, B3, m3, d3⟩, rfl, hrc, hb1⟩
  have HB1 := Lib.hid (bthen HB0.out hb1)
  have HX1 := Lib.hid (HX.out.below hb1)
  rw [show callV ⟨op, nn, mm, dir, obj, dir2, lab, clr, data, bits⟩ ⟨B1, m1, d1, B2, m2, d2, B3, m3, d3⟩ = .agg #[.int .i64 op, .int .i64 nn, .int .i64 mm, .int .u64 dir, .int .u64 obj, .int .u64 dir2, .int .i64 lab.dflt, .slice B1 m1 d1, .int .i64 clr.dflt, .slice B2 m2 d2, .slice B3 m3 d3, .int .u64 bits] from rfl]
  have HRC : Hid (RCall (w1.alloc (.cells #[.int .i64 op, .int .i64 nn, .int .i64 mm, .int .u64 dir, .int .u64 obj, .int .u64 dir2, .int .i64 lab.dflt, .slice B1 m1 d1, .int .i64 clr.dflt, .slice B2 m2 d2, .slice B3 m3 d3, .int .u64 bits] 29)) ⟨op, nn, mm, dir, obj, dir2, lab, clr, data, bits⟩ ⟨B1, m1, d1, B2, m2, d2, B3, m3, d3⟩) := Lib.hid (hrc.below (below_alloc _ _))
  have HB2 : Hid (Below w.heap.size w (w1.alloc (.cells #[.int .i64 op, .int .i64 nn, .int .i64 mm, .int .u64 dir, .int .u64 obj, .int .u64 dir2, .int .i64 lab.dflt, .slice B1 m1 d1, .int .i64 clr.dflt, .slice B2 m2 d2, .slice B3 m3 d3, .int .u64 bits] 29))) := Lib.hid (balloc HB1.out _)
  have HX2 : Hid (Box12 (w1.alloc (.cells #[.int .i64 op, .int .i64 nn, .int .i64 mm, .int .u64 dir, .int .u64 obj, .int .u64 dir2, .int .i64 lab.dflt, .slice B1 m1 d1, .int .i64 clr.dflt, .slice B2 m2 d2, .slice B3 m3 d3, .int .u64 bits] 29)) w.heap.size ⟨op, nn, mm, dir, obj, dir2, lab, clr, data, bits⟩ ⟨A1, n1, c1, A2, n2, c2, A3, n3, c3⟩) := Lib.hid (HX1.out.below (below_alloc _ _))
  have HY2 : Hid (Box12 (w1.alloc (.cells #[.int .i64 op, .int .i64 nn, .int .i64 mm, .int .u64 dir, .int .u64 obj, .int .u64 dir2, .int .i64 lab.dflt, .slice B1 m1 d1, .int .i64 clr.dflt, .slice B2 m2 d2, .slice B3 m3 d3, .int .u64 bits] 29)) w1.heap.size ⟨op, nn, mm, dir, obj, dir2, lab, clr, data, bits⟩ ⟨B1, m1, d1, B2, m2, d2, B3, m3, d3⟩) := Lib.hid (Box12.new w1 ⟨op, nn, mm, dir, obj, dir2, lab, clr, data, bits⟩ ⟨B1, m1, d1, B2, m2, d2, B3, m3, d3⟩)
  clear hrc hb1
  go_wp2_with fail
  generalize w1.alloc (.cells #[.int .i64 op, .int .i64 nn, .int .i64 mm, .int .u64 dir, .int .u64 obj, .int .u64 dir2, .int .i64 lab.dflt, .slice B1 m1 d1, .int .i64 clr.dflt, .slice B2 m2 d2, .slice B3 m3 d3, .int .u64 bits] 29) = w2 at *
  refine (call_Write ⟨op, nn, mm, dir, obj, dir2, lab, clr, data, bits⟩ ⟨B1, m1, d1, B2, m2, d2, B3, m3, d3⟩ w2 HRC.out).mono ?_
  rintro e w3 ⟨hb3, hc3⟩
  have HB3 := Lib.hid (bthen HB2.out hb3); have HRC3 := Lib.hid (HRC.out.below hb3); have HX3 := Lib.hid (HX2.out.below hb3); have HY3 := Lib.hid (HY2.out.below hb3)
  clear hb3
  obtain ⟨k0, k1, k2, k3, k4, k5, k6, k7, k8, k9, k10, k11⟩ := HX3.out.cells
  dsimp only at k0 k1 k2 k3 k4 k5 k6 k7 k8 k9 k10 k11
  have fin : ∀ (w4 : World), True := fun _ => trivial
  clear fin
  cases hw : writeM ⟨op, nn, mm, dir, obj, dir2, lab, clr, data, bits⟩ with
  | none =>
    rw [hw] at hc3
    rcases hc3 with ⟨A4, c4, o4, hno, -, -⟩ | ⟨-, rfl⟩
    · cases hno
    · go_wp2_with fail
      refine (ref19_Write ⟨op, nn, mm, dir, obj, dir2, lab, clr, data, bits⟩ ⟨A1, n1, c1, A2, n2, c2, A3, n3, c3⟩ w3 (HR.out.below HB3.out)).mono ?_
      rw [hw]
      rintro e w4 ⟨hb4, ⟨A5, c5, o5, hno, -, -⟩ | ⟨-, rfl⟩⟩
      · cases hno
      · have HB4 := Lib.hid (bthen HB3.out hb4); have HRC4 := Lib.hid (HRC3.out.below hb4); have HX4 := Lib.hid (HX3.out.below hb4); have HY4 := Lib.hid (HY3.out.below hb4)
        clear hb4 k0 k1 k2 k3 k4 k5 k6 k7 k8 k9 k10 k11 hw
        go_wp2_with fail
        refine (callAlive_true w4).mono ?_
        rintro e w5 ⟨rfl, hb5⟩
        have HB5 := Lib.hid (bthen HB4.out hb5)
        have HS := Lib.hid (ref19_Same ⟨op, nn, mm, dir, obj, dir2, lab, clr, data, bits⟩ ⟨op, nn, mm, dir, obj, dir2, lab, clr, data, bits⟩ ⟨B1, m1, d1, B2, m2, d2, B3, m3, d3⟩ ⟨A1, n1, c1, A2, n2, c2, A3, n3, c3⟩ w5 (HRC4.out.below hb5) (HR.out.below HB5.out))
        rw [decide_eq_true rfl] at HS
        obtain ⟨k0, k1, k2, k3, k4, k5, k6, k7, k8, k9, k10, k11⟩ := (HX4.out.below hb5).cells
        obtain ⟨j0, j1, j2, j3, j4, j5, j6, j7, j8, j9, j10, j11⟩ := (HY4.out.below hb5).cells
        dsimp only at k0 k1 k2 k3 k4 k5 k6 k7 k8 k9 k10 k11 j0 j1 j2 j3 j4 j5 j6 j7 j8 j9 j10 j11
        have hs0 := (RB.nil w5).string (P := Try.prog) (src := 27) (dst := 9) Try.underlying27 Try.underlying5 Try.underlying9
        have hq := str_eq ([] : List UInt8)
        clear hb5
        go_wp2_with fail
        refine HS.out.mono ?_
        rintro e w6 ⟨rfl, hb6⟩
        have HB6 := Lib.hid (bthen HB5.out hb6)
        clear hb6
        go_wp2_with fail
        go_ret
        exact ⟨rfl, HB6.out⟩
  | some o =>
    rw [hw] at hc3
    rcases hc3 with ⟨A4, c4, o4, ho4, rfl, hr4⟩ | ⟨hno, -⟩
    · injection ho4 with ho4
      subst ho4
      have HR4 := Lib.hid hr4
      clear hr4
      go_wp2_with fail
      refine (ref19_Write ⟨op, nn, mm, dir, obj, dir2, lab, clr, data, bits⟩ ⟨A1, n1, c1, A2, n2, c2, A3, n3, c3⟩ w3 (HR.out.below HB3.out)).mono ?_
      rw [hw]
      rintro e w4 ⟨hb4, ⟨A5, c5, o5, ho5, rfl, hr5⟩ | ⟨hno, -⟩⟩
      · injection ho5 with ho5
        subst ho5
        have HB4 := Lib.hid (bthen HB3.out hb4); have HRC4 := Lib.hid (HRC3.out.below hb4); have HX4 := Lib.hid (HX3.out.below hb4); have HY4 := Lib.hid (HY3.out.below hb4)
        have HR4' := Lib.hid (HR4.out.below hb4); have HR5 := Lib.hid hr5
        clear hb4 k0 k1 k2 k3 k4 k5 k6 k7 k8 k9 k10 k11 hw hr5
        go_wp2_with fail
        refine (callAlive_true w4).mono ?_
        rintro e w5 ⟨rfl, hb5⟩
        have HB5 := Lib.hid (bthen HB4.out hb5)
        have HS := Lib.hid (ref19_Same ⟨op, nn, mm, dir, obj, dir2, lab, clr, data, bits⟩ ⟨op, nn, mm, dir, obj, dir2, lab, clr, data, bits⟩ ⟨B1, m1, d1, B2, m2, d2, B3, m3, d3⟩ ⟨A1, n1, c1, A2, n2, c2, A3, n3, c3⟩ w5 (HRC4.out.below hb5) (HR.out.below HB5.out))
        rw [decide_eq_true rfl] at HS
        obtain ⟨k0, k1, k2, k3, k4, k5, k6, k7, k8, k9, k10, k11⟩ := (HX4.out.below hb5).cells
        obtain ⟨j0, j1, j2, j3, j4, j5, j6, j7, j8, j9, j10, j11⟩ := (HY4.out.below hb5).cells
        dsimp only at k0 k1 k2 k3 k4 k5 k6 k7 k8 k9 k10 k11 j0 j1 j2 j3 j4 j5 j6 j7 j8 j9 j10 j11
        have hs0 := (HR4'.out.below hb5).string (P := Try.prog) (src := 27) (dst := 9) Try.underlying27 Try.underlying5 Try.underlying9
        have hs1 := (HR5.out.below hb5).string (P := Try.prog) (src := 27) (dst := 9) Try.underlying27 Try.underlying5 Try.underlying9
        have hq := str_eq o
        clear hb5
        go_wp2_with fail
        refine HS.out.mono ?_
        rintro e w6 ⟨rfl, hb6⟩
        have HB6 := Lib.hid (bthen HB5.out hb6)
        clear hb6
        go_wp2_with fail
        go_ret
        exact ⟨rfl, HB6.out⟩
      · cases hno
    · cases hno
set_option maxRecDepth 100000 in
theorem callWrites_walk {H : Type} {enc : TypeId × Value → H} {W : World} {base : Nat} {v0 : Value} {d0 : DataW H} {p0 : List MemPlace}
    (o0 : Value.okWide Try.prog W .any base 29 v0) (r0 : DataW.Trod enc Try.prog W 0 (fun _ => true) true 29 v0 d0 p0) (z0 : ∀ n ∈ d0.weights Try.prog 29, n ≤ reachBytes) :
    Calls Try.prog 4 #[v0] W fun e w' => e = .returned (.bool true) ∧ Below W.heap.size W w' := by
  obtain ⟨x, q, rfl, hr, h1, h2⟩ := open_call o0 r0 z0
  exact callWrites_main x q W hr h1 h2
end Go.Proofs.Ytlofiinpgkclgaa
