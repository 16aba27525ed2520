/- The walk of CallBack. -/
import Derived.Test.YtlofiinpgkclgaaMg13
import Derived.Deep.RegionHeld3
namespace Go.Proofs.Ytlofiinpgkclgaa
open Go.RowKit

set_option maxRecDepth 20000 in
set_option maxHeartbeats 6400000 in
theorem callBack_main (x y : CallD) (p q : CallP) (A : Option Addr) (n c : Nat) (bs : List UInt8) (w : World) (hx : RCall w x p) (hy : RCall w y q) (hr : RB w A n c bs) (hn : n ≤ 140737488351232) :
    Calls Try.prog 6 #[callV x p, callV y q, .slice A n c] w fun e w' => e = .returned (.bool true) ∧ Below w.heap.size w w' := by
  obtain ⟨w2, hw2⟩ : ∃ w2, (w.alloc (.cells (callCells x p) 29)).alloc (.cells (callCells y q) 29) = w2 := ⟨_, rfl⟩
  have HB2 : Hid (Below w.heap.size w w2) := Lib.hid (by rw [← hw2]; exact balloc (below_alloc w _) _)
  have HX : Hid (Box12 w2 w.heap.size x p) := Lib.hid (by rw [← hw2]; exact (Box12.new w x p).below (below_alloc _ _))
  have HY : Hid (Box12 w2 (w.heap.size + 1) y q) := Lib.hid (by
    rw [← hw2]
    have := Box12.new (w.alloc (.cells (callCells x p) 29)) y q
    rwa [World.size_alloc] at this)
  have HRX := Lib.hid (hx.below HB2.out); have HRY := Lib.hid (hy.below HB2.out)
  have HRB := Lib.hid hr
  have HBX := Lib.hid hx.b
  have HSA := Lib.hid (fun W' (hb : Below w2.heap.size w2 W') => call_Same x y p q W' (HRX.out.below hb) (HRY.out.below hb))
  have HSB := Lib.hid (fun W' (hb : Below w2.heap.size w2 W') => ref19_Same x y p q W' (HRX.out.below hb) (HRY.out.below hb))
  clear hx hy hr
  obtain ⟨op, nn, mm, dir, obj, dir2, lab, clr, data, bits⟩ := x
  obtain ⟨op', nn', mm', dir', obj', dir2', lab', clr', data', bits'⟩ := y
  obtain ⟨A1, n1, c1, A2, n2, c2, A3, n3, c3⟩ := p
  obtain ⟨B1, m1, d1, B2, m2, d2, B3, m3, d3⟩ := q
  generalize hdq : decide ((⟨op, nn, mm, dir, obj, dir2, lab, clr, data, bits⟩ : CallD) = ⟨op', nn', mm', dir', obj', dir2', lab', clr', data', bits'⟩) = dq at HSA HSB
  have HKS := Lib.hid (fun (W' : World) (hb : Below w2.heap.size w2 W') => (let h := (HX.out.below hb).cells; let h' := (HY.out.below hb).cells; ⟨hb, h.1, h.2.1, h.2.2.1, h.2.2.2.1, h.2.2.2.2.1, h.2.2.2.2.2.1, h.2.2.2.2.2.2.1, h.2.2.2.2.2.2.2.1, h.2.2.2.2.2.2.2.2.1, h.2.2.2.2.2.2.2.2.2.1, h.2.2.2.2.2.2.2.2.2.2.1, h.2.2.2.2.2.2.2.2.2.2.2, h'⟩ : Below w2.heap.size w2 W' ∧ W'.cell? ⟨w.heap.size, 0, none⟩ = some (.int .i64 op) ∧ W'.cell? ⟨w.heap.size, 1, none⟩ = some (.int .i64 nn) ∧ W'.cell? ⟨w.heap.size, 2, none⟩ = some (.int .i64 mm) ∧ W'.cell? ⟨w.heap.size, 3, none⟩ = some (.int .u64 (dir : Nat)) ∧ W'.cell? ⟨w.heap.size, 4, none⟩ = some (.int .u64 (obj : Nat)) ∧ W'.cell? ⟨w.heap.size, 5, none⟩ = some (.int .u64 (dir2 : Nat)) ∧ W'.cell? ⟨w.heap.size, 6, none⟩ = some (.int .i64 lab.dflt) ∧ W'.cell? ⟨w.heap.size, 7, none⟩ = some (.slice A1 n1 c1) ∧ W'.cell? ⟨w.heap.size, 8, none⟩ = some (.int .i64 clr.dflt) ∧ W'.cell? ⟨w.heap.size, 9, none⟩ = some (.slice A2 n2 c2) ∧ W'.cell? ⟨w.heap.size, 10, none⟩ = some (.slice A3 n3 c3) ∧ W'.cell? ⟨w.heap.size, 11, none⟩ = some (.int .u64 (bits : Nat)) ∧ W'.cell? ⟨(w.heap.size + 1), 0, none⟩ = some (.int .i64 op') ∧ W'.cell? ⟨(w.heap.size + 1), 1, none⟩ = some (.int .i64 nn') ∧ W'.cell? ⟨(w.heap.size + 1), 2, none⟩ = some (.int .i64 mm') ∧ W'.cell? ⟨(w.heap.size + 1), 3, none⟩ = some (.int .u64 (dir' : Nat)) ∧ W'.cell? ⟨(w.heap.size + 1), 4, none⟩ = some (.int .u64 (obj' : Nat)) ∧ W'.cell? ⟨(w.heap.size + 1), 5, none⟩ = some (.int .u64 (dir2' : Nat)) ∧ W'.cell? ⟨(w.heap.size + 1), 6, none⟩ = some (.int .i64 lab'.dflt) ∧ W'.cell? ⟨(w.heap.size + 1), 7, none⟩ = some (.slice B1 m1 d1) ∧ W'.cell? ⟨(w.heap.size + 1), 8, none⟩ = some (.int .i64 clr'.dflt) ∧ W'.cell? ⟨(w.heap.size + 1), 9, none⟩ = some (.slice B2 m2 d2) ∧ W'.cell? ⟨(w.heap.size + 1), 10, none⟩ = some (.slice B3 m3 d3) ∧ W'.cell? ⟨(w.heap.size + 1), 11, none⟩ = some (.int .u64 (bits' : Nat))))
  unfold callV callCells at *
  dsimp only at *
  go_enter Try.func6, Try.ntmps6
  go_wp2_with fail
  try rw [show ((w.alloc (.cells #[.int .i64 op, .int .i64 nn, .int .i64 mm, .int .u64 dir, .int .u64 obj, .int .u64 dir2, .int .i64 lab.dflt, .slice A1 n1 c1, .int .i64 clr.dflt, .slice A2 n2 c2, .slice A3 n3 c3, .int .u64 bits] 29)).alloc (.cells #[.int .i64 op', .int .i64 nn', .int .i64 mm', .int .u64 dir', .int .u64 obj', .int .u64 dir2', .int .i64 lab'.dflt, .slice B1 m1 d1, .int .i64 clr'.dflt, .slice B2 m2 d2, .slice B3 m3 d3, .int .u64 bits'] 29)) = w2 from hw2]
  clear hw2
  go_region_held3 (fun W' => Below w2.heap.size w2 W' ∧ W'.cell? ⟨w.heap.size, 0, none⟩ = some (.int .i64 op) ∧ W'.cell? ⟨w.heap.size, 1, none⟩ = some (.int .i64 nn) ∧ W'.cell? ⟨w.heap.size, 2, none⟩ = some (.int .i64 mm) ∧ W'.cell? ⟨w.heap.size, 3, none⟩ = some (.int .u64 (dir : Nat)) ∧ W'.cell? ⟨w.heap.size, 4, none⟩ = some (.int .u64 (obj : Nat)) ∧ W'.cell? ⟨w.heap.size, 5, none⟩ = some (.int .u64 (dir2 : Nat)) ∧ W'.cell? ⟨w.heap.size, 6, none⟩ = some (.int .i64 lab.dflt) ∧ W'.cell? ⟨w.heap.size, 7, none⟩ = some (.slice A1 n1 c1) ∧ W'.cell? ⟨w.heap.size, 8, none⟩ = some (.int .i64 clr.dflt) ∧ W'.cell? ⟨w.heap.size, 9, none⟩ = some (.slice A2 n2 c2) ∧ W'.cell? ⟨w.heap.size, 10, none⟩ = some (.slice A3 n3 c3) ∧ W'.cell? ⟨w.heap.size, 11, none⟩ = some (.int .u64 (bits : Nat)) ∧ W'.cell? ⟨(w.heap.size + 1), 0, none⟩ = some (.int .i64 op') ∧ W'.cell? ⟨(w.heap.size + 1), 1, none⟩ = some (.int .i64 nn') ∧ W'.cell? ⟨(w.heap.size + 1), 2, none⟩ = some (.int .i64 mm') ∧ W'.cell? ⟨(w.heap.size + 1), 3, none⟩ = some (.int .u64 (dir' : Nat)) ∧ W'.cell? ⟨(w.heap.size + 1), 4, none⟩ = some (.int .u64 (obj' : Nat)) ∧ W'.cell? ⟨(w.heap.size + 1), 5, none⟩ = some (.int .u64 (dir2' : Nat)) ∧ W'.cell? ⟨(w.heap.size + 1), 6, none⟩ = some (.int .i64 lab'.dflt) ∧ W'.cell? ⟨(w.heap.size + 1), 7, none⟩ = some (.slice B1 m1 d1) ∧ W'.cell? ⟨(w.heap.size + 1), 8, none⟩ = some (.int .i64 clr'.dflt) ∧ W'.cell? ⟨(w.heap.size + 1), 9, none⟩ = some (.slice B2 m2 d2) ∧ W'.cell? ⟨(w.heap.size + 1), 10, none⟩ = some (.slice B3 m3 d3) ∧ W'.cell? ⟨(w.heap.size + 1), 11, none⟩ = some (.int .u64 (bits' : Nat))) (first | with_reducible assumption | exact HKS.out _ (Below.refl _ w2).drew) (first
    | (have hq := HALIVE
       with_reducible refine (HSB.out _ HQ2.out).mono ?_
       rintro e w5 ⟨rfl, hb5⟩
       have hS5 := HKS.out _ (bthen HQ2.out hb5)
       have HQ3 := Lib.hid (bthen HQ2.out hb5)
       clear hb5)
    | (have hq := HALIVE
       with_reducible refine (HSA.out _ HQ1.out).mono ?_
       rintro e w4 ⟨rfl, hb4⟩
       have hS4 := HKS.out _ (bthen HQ1.out hb4)
       have HQ2 := Lib.hid (bthen HQ1.out hb4)
       clear hb4)
    | (go_at_call 8
       refine (callAlive_true _).mono ?_
       rintro e w3 ⟨rfl, hb3⟩
       have hb23 := bthen (Below.refl _ w2).drew hb3
       have hS3 := HKS.out _ hb23
       have HQ1 := Lib.hid hb23
       have HALIVE : Hid True := Lib.hid trivial
       clear hb3 hb23))
  have HB5 := Lib.hid (bthen HB2.out HQ3.out)
  have HX5 := Lib.hid (HX.out.below HQ3.out)
  have HRX5 := Lib.hid (HRX.out.below HQ3.out)
  obtain ⟨k0, k1, k2, k3, k4, k5, k6, k7, k8, k9, k10, k11⟩ := HX5.out.cells
  dsimp only at k0 k1 k2 k3 k4 k5 k6 k7 k8 k9 k10 k11
  clear hS3 hS4 hS5
  go_wp2_with fail
  refine (call_Write ⟨op, nn, mm, dir, obj, dir2, lab, clr, data, bits⟩ ⟨A1, n1, c1, A2, n2, c2, A3, n3, c3⟩ w5 HRX5.out).mono ?_
  cases hw : writeM ⟨op, nn, mm, dir, obj, dir2, lab, clr, data, bits⟩ with
  | none =>
    rintro e wA ⟨hbA, ⟨A9, c9, o9, hno, -, -⟩ | ⟨-, rfl⟩⟩
    · cases hno
    · have HBA := Lib.hid (bthen HB5.out hbA)
      clear hbA hw k0 k1 k2 k3 k4 k5 k6 k7 k8 k9 k10 k11
      go_wp2_with (at_builtin; refine wpList_copy_bytes (W := wA) rfl _ _ 27 5 rfl Try.underlying27 Try.infoU8' A n c bs wA.heap.size rfl rfl rfl (HRB.out.below HBA.out) (by omega) ?_; intro A6 c6 w6 hown6 hrb6 hb6; have HR6 := Lib.hid hrb6; have HB6 := Lib.hid hb6; clear hown6 hrb6 hb6)
      have HB06 := Lib.hid (bthen HBA.out HB6.out)
      refine (call_Read A6 n c6 bs w6 HR6.out).mono ?_
      cases hrd : readM bs with
      | none =>
        rintro e w7 ⟨hb7, x2, ⟨E1, r1, f1, E2, r2, f2, E3, r3, f3⟩, z, rfl, hrc7, -, -, ⟨hno, -⟩ | ⟨-, rfl, rfl⟩⟩
        · cases hno
        · have HB7 := Lib.hid (bthen HB06.out hb7)
          have HRC7 : Hid (RCall (w7.alloc (.cells #[.int .i64 0, .int .i64 0, .int .i64 0, .int .u64 0, .int .u64 0, .int .u64 0, .int .i64 0, .slice E1 r1 f1, .int .i64 0, .slice E2 r2 f2, .slice E3 r3 f3, .int .u64 0] 29)) zeroC ⟨E1, r1, f1, E2, r2, f2, E3, r3, f3⟩) := Lib.hid (hrc7.below (below_alloc _ _))
          have HB8 : Hid (Below w.heap.size w (w7.alloc (.cells #[.int .i64 0, .int .i64 0, .int .i64 0, .int .u64 0, .int .u64 0, .int .u64 0, .int .i64 0, .slice E1 r1 f1, .int .i64 0, .slice E2 r2 f2, .slice E3 r3 f3, .int .u64 0] 29))) := Lib.hid (balloc HB7.out _)
          have HS := Lib.hid (call_Same zeroC zeroC ⟨E1, r1, f1, E2, r2, f2, E3, r3, f3⟩ zeroP _ HRC7.out (rcall_zero _))
          rw [decide_eq_true rfl] at HS
          clear hrc7 hb7 hrd
          rw [show callV zeroC ⟨E1, r1, f1, E2, r2, f2, E3, r3, f3⟩ = .agg #[.int .i64 0, .int .i64 0, .int .i64 0, .int .u64 0, .int .u64 0, .int .u64 0, .int .i64 0, .slice E1 r1 f1, .int .i64 0, .slice E2 r2 f2, .slice E3 r3 f3, .int .u64 0] from rfl]
          go_wp2_with fail
          refine HS.out.mono ?_
          rintro e w9 ⟨rfl, hb9⟩
          have HB9 := Lib.hid (bthen HB8.out hb9)
          clear hb9
          go_wp2_with fail
          go_ret
          exact ⟨rfl, HB9.out⟩
      | some y =>
        rintro e w7 ⟨hb7, ⟨op'', nn'', mm'', dir'', obj'', dir2'', lab'', clr'', data'', bits''⟩, ⟨E1, r1, f1, E2, r2, f2, E3, r3, f3⟩, z, rfl, hrc7, -, -, ⟨hy, rfl⟩ | ⟨hno, -, -⟩⟩
        · have HW := Lib.hid (read_write (hrd.trans hy))
          have HB7 := Lib.hid (bthen HB06.out hb7)
          have HRC7 : Hid (RCall (w7.alloc (.cells #[.int .i64 op'', .int .i64 nn'', .int .i64 mm'', .int .u64 dir'', .int .u64 obj'', .int .u64 dir2'', .int .i64 lab''.dflt, .slice E1 r1 f1, .int .i64 clr''.dflt, .slice E2 r2 f2, .slice E3 r3 f3, .int .u64 bits''] 29)) ⟨op'', nn'', mm'', dir'', obj'', dir2'', lab'', clr'', data'', bits''⟩ ⟨E1, r1, f1, E2, r2, f2, E3, r3, f3⟩) := Lib.hid (hrc7.below (below_alloc _ _))
          have HB8 : Hid (Below w.heap.size w (w7.alloc (.cells #[.int .i64 op'', .int .i64 nn'', .int .i64 mm'', .int .u64 dir'', .int .u64 obj'', .int .u64 dir2'', .int .i64 lab''.dflt, .slice E1 r1 f1, .int .i64 clr''.dflt, .slice E2 r2 f2, .slice E3 r3 f3, .int .u64 bits''] 29))) := Lib.hid (balloc HB7.out _)
          clear hrc7 hb7 hrd hy
          rw [show callV ⟨op'', nn'', mm'', dir'', obj'', dir2'', lab'', clr'', data'', bits''⟩ ⟨E1, r1, f1, E2, r2, f2, E3, r3, f3⟩ = .agg #[.int .i64 op'', .int .i64 nn'', .int .i64 mm'', .int .u64 dir'', .int .u64 obj'', .int .u64 dir2'', .int .i64 lab''.dflt, .slice E1 r1 f1, .int .i64 clr''.dflt, .slice E2 r2 f2, .slice E3 r3 f3, .int .u64 bits''] from rfl]
          go_wp2_with fail
          refine (call_Write ⟨op'', nn'', mm'', dir'', obj'', dir2'', lab'', clr'', data'', bits''⟩ ⟨E1, r1, f1, E2, r2, f2, E3, r3, f3⟩ _ HRC7.out).mono ?_
          rw [HW.out]
          rintro e w9 ⟨hb9, ⟨A9, c9, o9, ho9, rfl, hr9⟩ | ⟨hno, -⟩⟩
          · injection ho9 with ho9
            subst ho9
            have HB9 := Lib.hid (bthen HB8.out hb9)
            have hs1 := (hr9).string (P := Try.prog) (src := 27) (dst := 9) Try.underlying27 Try.underlying5 Try.underlying9
            have hs2 := (HRB.out.below HB9.out).string (P := Try.prog) (src := 27) (dst := 9) Try.underlying27 Try.underlying5 Try.underlying9
            have hq := str_eq bs
            clear hb9 hr9
            go_wp2_with fail
            go_ret
            exact ⟨by simp, HB9.out⟩
          · cases hno
        · cases hno
  | some o =>
    have HWR := Lib.hid (write_read hw HBX.out)
    rintro e wB ⟨hbB, ⟨A9, c9, o9, ho9, rfl, hr9⟩ | ⟨hno, -⟩⟩
    · injection ho9 with ho9
      subst ho9
      have HR9 := Lib.hid hr9
      have HBB := Lib.hid (bthen HB5.out hbB)
      have HXB := Lib.hid (HX5.out.below hbB)
      have HRXB := Lib.hid (HRX5.out.below hbB)
      clear hbB hw hr9 k0 k1 k2 k3 k4 k5 k6 k7 k8 k9 k10 k11
      go_wp2_with fail
      refine (call_Read A9 o.length c9 o wB HR9.out).mono ?_
      rw [HWR.out]
      rintro e w8 ⟨hb8, x2, ⟨G1, s1, g1, G2, s2, g2, G3, s3, g3⟩, z, rfl, hrc8, -, -, ⟨hx2, rfl⟩ | ⟨hno, -, -⟩⟩
      · injection hx2 with hx2
        subst hx2
        have HB8 := Lib.hid (bthen HBB.out hb8)
        have HRC8 : Hid (RCall (w8.alloc (.cells #[.int .i64 op, .int .i64 nn, .int .i64 mm, .int .u64 dir, .int .u64 obj, .int .u64 dir2, .int .i64 lab.dflt, .slice G1 s1 g1, .int .i64 clr.dflt, .slice G2 s2 g2, .slice G3 s3 g3, .int .u64 bits] 29)) ⟨op, nn, mm, dir, obj, dir2, lab, clr, data, bits⟩ ⟨G1, s1, g1, G2, s2, g2, G3, s3, g3⟩) := Lib.hid (hrc8.below (below_alloc _ _))
        have HRX8 : Hid (RCall (w8.alloc (.cells #[.int .i64 op, .int .i64 nn, .int .i64 mm, .int .u64 dir, .int .u64 obj, .int .u64 dir2, .int .i64 lab.dflt, .slice G1 s1 g1, .int .i64 clr.dflt, .slice G2 s2 g2, .slice G3 s3 g3, .int .u64 bits] 29)) ⟨op, nn, mm, dir, obj, dir2, lab, clr, data, bits⟩ ⟨A1, n1, c1, A2, n2, c2, A3, n3, c3⟩) := Lib.hid ((HRXB.out.below hb8).below (below_alloc _ _))
        have HX8 : Hid (Box12 (w8.alloc (.cells #[.int .i64 op, .int .i64 nn, .int .i64 mm, .int .u64 dir, .int .u64 obj, .int .u64 dir2, .int .i64 lab.dflt, .slice G1 s1 g1, .int .i64 clr.dflt, .slice G2 s2 g2, .slice G3 s3 g3, .int .u64 bits] 29)) w.heap.size ⟨op, nn, mm, dir, obj, dir2, lab, clr, data, bits⟩ ⟨A1, n1, c1, A2, n2, c2, A3, n3, c3⟩) := Lib.hid ((HXB.out.below hb8).below (below_alloc _ _))
        have HY8 : Hid (Box12 (w8.alloc (.cells #[.int .i64 op, .int .i64 nn, .int .i64 mm, .int .u64 dir, .int .u64 obj, .int .u64 dir2, .int .i64 lab.dflt, .slice G1 s1 g1, .int .i64 clr.dflt, .slice G2 s2 g2, .slice G3 s3 g3, .int .u64 bits] 29)) w8.heap.size ⟨op, nn, mm, dir, obj, dir2, lab, clr, data, bits⟩ ⟨G1, s1, g1, G2, s2, g2, G3, s3, g3⟩) := Lib.hid (Box12.new w8 ⟨op, nn, mm, dir, obj, dir2, lab, clr, data, bits⟩ ⟨G1, s1, g1, G2, s2, g2, G3, s3, g3⟩)
        have HB9 : Hid (Below w.heap.size w (w8.alloc (.cells #[.int .i64 op, .int .i64 nn, .int .i64 mm, .int .u64 dir, .int .u64 obj, .int .u64 dir2, .int .i64 lab.dflt, .slice G1 s1 g1, .int .i64 clr.dflt, .slice G2 s2 g2, .slice G3 s3 g3, .int .u64 bits] 29))) := Lib.hid (balloc HB8.out _)
        have HS8 := Lib.hid (call_Same ⟨op, nn, mm, dir, obj, dir2, lab, clr, data, bits⟩ ⟨op, nn, mm, dir, obj, dir2, lab, clr, data, bits⟩ ⟨G1, s1, g1, G2, s2, g2, G3, s3, g3⟩ ⟨A1, n1, c1, A2, n2, c2, A3, n3, c3⟩ _ HRC8.out HRX8.out)
        rw [decide_eq_true rfl] at HS8
        rw [show callV ⟨op, nn, mm, dir, obj, dir2, lab, clr, data, bits⟩ ⟨G1, s1, g1, G2, s2, g2, G3, s3, g3⟩ = .agg #[.int .i64 op, .int .i64 nn, .int .i64 mm, .int .u64 dir, .int .u64 obj, .int .u64 dir2, .int .i64 lab.dflt, .slice G1 s1 g1, .int .i64 clr.dflt, .slice G2 s2 g2, .slice G3 s3 g3, .int .u64 bits] from rfl]
        obtain ⟨k0, k1, k2, k3, k4, k5, k6, k7, k8, k9, k10, k11⟩ := HX8.out.cells
        dsimp only at k0 k1 k2 k3 k4 k5 k6 k7 k8 k9 k10 k11
        clear hrc8 hb8
        go_wp2_with fail
        refine HS8.out.mono ?_
        rintro e wC ⟨rfl, hbC⟩
        have HBC := Lib.hid (bthen HB9.out hbC)
        clear hbC k0 k1 k2 k3 k4 k5 k6 k7 k8 k9 k10 k11
        go_wp2_with (at_builtin; refine wpList_copy_bytes (W := wC) rfl _ _ 27 5 rfl Try.underlying27 Try.infoU8' A n c bs wC.heap.size rfl rfl rfl (HRB.out.below HBC.out) (by omega) ?_; intro A6 c6 w6 hown6 hrb6 hb6; have HR6 := Lib.hid hrb6; have HB6 := Lib.hid hb6; clear hown6 hrb6 hb6)
        have HB06 := Lib.hid (bthen HBC.out HB6.out)
        refine (call_Read A6 n c6 bs w6 HR6.out).mono ?_
        cases hrd : readM bs with
        | none =>
          rintro e w7 ⟨hb7, x2, ⟨E1, r1, f1, E2, r2, f2, E3, r3, f3⟩, z, rfl, hrc7, -, -, ⟨hno, -⟩ | ⟨-, rfl, rfl⟩⟩
          · cases hno
          · have HB7 := Lib.hid (bthen HB06.out hb7)
            have HRC7 : Hid (RCall (w7.alloc (.cells #[.int .i64 0, .int .i64 0, .int .i64 0, .int .u64 0, .int .u64 0, .int .u64 0, .int .i64 0, .slice E1 r1 f1, .int .i64 0, .slice E2 r2 f2, .slice E3 r3 f3, .int .u64 0] 29)) zeroC ⟨E1, r1, f1, E2, r2, f2, E3, r3, f3⟩) := Lib.hid (hrc7.below (below_alloc _ _))
            have HB8 : Hid (Below w.heap.size w (w7.alloc (.cells #[.int .i64 0, .int .i64 0, .int .i64 0, .int .u64 0, .int .u64 0, .int .u64 0, .int .i64 0, .slice E1 r1 f1, .int .i64 0, .slice E2 r2 f2, .slice E3 r3 f3, .int .u64 0] 29))) := Lib.hid (balloc HB7.out _)
            have HS := Lib.hid (call_Same zeroC zeroC ⟨E1, r1, f1, E2, r2, f2, E3, r3, f3⟩ zeroP _ HRC7.out (rcall_zero _))
            rw [decide_eq_true rfl] at HS
            clear hrc7 hb7 hrd
            rw [show callV zeroC ⟨E1, r1, f1, E2, r2, f2, E3, r3, f3⟩ = .agg #[.int .i64 0, .int .i64 0, .int .i64 0, .int .u64 0, .int .u64 0, .int .u64 0, .int .i64 0, .slice E1 r1 f1, .int .i64 0, .slice E2 r2 f2, .slice E3 r3 f3, .int .u64 0] from rfl]
            go_wp2_with fail
            refine HS.out.mono ?_
            rintro e w9 ⟨rfl, hb9⟩
            have HB9 := Lib.hid (bthen HB8.out hb9)
            clear hb9
            go_wp2_with fail
            go_ret
            exact ⟨rfl, HB9.out⟩
        | some y =>
          rintro e w7 ⟨hb7, ⟨op'', nn'', mm'', dir'', obj'', dir2'', lab'', clr'', data'', bits''⟩, ⟨E1, r1, f1, E2, r2, f2, E3, r3, f3⟩, z, rfl, hrc7, -, -, ⟨hy, rfl⟩ | ⟨hno, -, -⟩⟩
          · have HW := Lib.hid (read_write (hrd.trans hy))
            have HB7 := Lib.hid (bthen HB06.out hb7)
            have HRC7 : Hid (RCall (w7.alloc (.cells #[.int .i64 op'', .int .i64 nn'', .int .i64 mm'', .int .u64 dir'', .int .u64 obj'', .int .u64 dir2'', .int .i64 lab''.dflt, .slice E1 r1 f1, .int .i64 clr''.dflt, .slice E2 r2 f2, .slice E3 r3 f3, .int .u64 bits''] 29)) ⟨op'', nn'', mm'', dir'', obj'', dir2'', lab'', clr'', data'', bits''⟩ ⟨E1, r1, f1, E2, r2, f2, E3, r3, f3⟩) := Lib.hid (hrc7.below (below_alloc _ _))
            have HB8 : Hid (Below w.heap.size w (w7.alloc (.cells #[.int .i64 op'', .int .i64 nn'', .int .i64 mm'', .int .u64 dir'', .int .u64 obj'', .int .u64 dir2'', .int .i64 lab''.dflt, .slice E1 r1 f1, .int .i64 clr''.dflt, .slice E2 r2 f2, .slice E3 r3 f3, .int .u64 bits''] 29))) := Lib.hid (balloc HB7.out _)
            clear hrc7 hb7 hrd hy
            rw [show callV ⟨op'', nn'', mm'', dir'', obj'', dir2'', lab'', clr'', data'', bits''⟩ ⟨E1, r1, f1, E2, r2, f2, E3, r3, f3⟩ = .agg #[.int .i64 op'', .int .i64 nn'', .int .i64 mm'', .int .u64 dir'', .int .u64 obj'', .int .u64 dir2'', .int .i64 lab''.dflt, .slice E1 r1 f1, .int .i64 clr''.dflt, .slice E2 r2 f2, .slice E3 r3 f3, .int .u64 bits''] from rfl]
            go_wp2_with fail
            refine (call_Write ⟨op'', nn'', mm'', dir'', obj'', dir2'', lab'', clr'', data'', bits''⟩ ⟨E1, r1, f1, E2, r2, f2, E3, r3, f3⟩ _ HRC7.out).mono ?_
            rw [HW.out]
            rintro e w9 ⟨hb9, ⟨A9, c9, o9, ho9, rfl, hr9⟩ | ⟨hno, -⟩⟩
            · injection ho9 with ho9
              subst ho9
              have HB9 := Lib.hid (bthen HB8.out hb9)
              have hs1 := (hr9).string (P := Try.prog) (src := 27) (dst := 9) Try.underlying27 Try.underlying5 Try.underlying9
              have hs2 := (HRB.out.below HB9.out).string (P := Try.prog) (src := 27) (dst := 9) Try.underlying27 Try.underlying5 Try.underlying9
              have hq := str_eq bs
              clear hb9 hr9
              go_wp2_with fail
              go_ret
              exact ⟨by simp, HB9.out⟩
            · cases hno
          · cases hno
      · cases hno
    · cases hno
set_option maxRecDepth 100000 in
theorem callBack_walk {H : Type} {enc : TypeId × Value → H} {W : World} {base : Nat} {v0 v1 v2 : Value} {d0 d1 d2 : DataW H} {p0 p1 p2 : List MemPlace}
    (o0 : Value.okWide Try.prog W .any base 29 v0) (r0 : DataW.Trod enc Try.prog W 0 (fun _ => true) true 29 v0 d0 p0) (z0 : ∀ n ∈ d0.weights Try.prog 29, n ≤ reachBytes)
    (o1 : Value.okWide Try.prog W .any base 29 v1) (r1 : DataW.Trod enc Try.prog W 0 (fun _ => true) true 29 v1 d1 p1) (z1 : ∀ n ∈ d1.weights Try.prog 29, n ≤ reachBytes)
    (o2 : Value.okWide Try.prog W .any base 27 v2) (r2 : DataW.Trod enc Try.prog W 0 (fun _ => true) true 27 v2 d2 p2) (z2 : ∀ n ∈ d2.weights Try.prog 27, n ≤ reachBytes) :
    Calls Try.prog 6 #[v0, v1, v2] W fun e w' => e = .returned (.bool true) ∧ Below W.heap.size W w' := by
  obtain ⟨x, p, rfl, hx, -, -⟩ := open_call o0 r0 z0
  obtain ⟨y, q, rfl, hy, -, -⟩ := open_call o1 r1 z1
  obtain ⟨A, n, c, bs, rfl, hr, hn⟩ := open_bytes Try.underlying27 Try.underlying5 (by kernel_rfl) (by kernel_rfl) o2 r2 z2
  exact callBack_main x y p q A n c bs W hx hy hr hn
end Go.Proofs.Ytlofiinpgkclgaa
