/- The walk of CallApart. -/
import Derived.Test.YtlofiinpgkclgaaMg13
import Derived.Deep.RegionHeld3
namespace Go.Proofs.Ytlofiinpgkclgaa
open Go.RowKit

set_option maxRecDepth 20000 in
set_option maxHeartbeats 6400000 in
theorem callApart_main (x y : CallD) (p q : CallP) (cut : Int) (w : World) (hx : RCall w x p) (hy : RCall w y q) :
    Calls Try.prog 7 #[callV x p, callV y q, .int .i64 cut] w fun e w' => e = .returned (.bool true) ∧ Below w.heap.size w w' := by
  obtain ⟨w2, hw2⟩ : ∃ w2, (w.alloc (.cells (callCells x p) 29)).alloc (.cells (callCells y q) 29) = w2 := ⟨_, rfl⟩
  have HB2 : Hid (Below w.heap.size w w2) := Lib.hid (by rw [← hw2]; exact balloc (below_alloc w _) _)
  have HX : Hid (Box12 w2 w.heap.size x p) := Lib.hid (by rw [← hw2]; exact (Box12.new w x p).below (below_alloc _ _))
  have HY : Hid (Box12 w2 (w.heap.size + 1) y q) := Lib.hid (by
    rw [← hw2]
    have := Box12.new (w.alloc (.cells (callCells x p) 29)) y q
    rwa [World.size_alloc] at this)
  have HRX := Lib.hid (hx.below HB2.out); have HRY := Lib.hid (hy.below HB2.out)
  have HBX := Lib.hid hx.b; have HBY := Lib.hid hy.b
  clear hx hy
  obtain ⟨op, nn, mm, dir, obj, dir2, lab, clr, data, bits⟩ := x
  obtain ⟨op', nn', mm', dir', obj', dir2', lab', clr', data', bits'⟩ := y
  obtain ⟨A1, n1, c1, A2, n2, c2, A3, n3, c3⟩ := p
  obtain ⟨B1, m1, d1, B2, m2, d2, B3, m3, d3⟩ := q
  unfold callV callCells at *
  dsimp only at *
  go_enter Try.func7, Try.ntmps7
  go_wp2_with fail
  try rw [show ((w.alloc (.cells #[.int .i64 op, .int .i64 nn, .int .i64 mm, .int .u64 dir, .int .u64 obj, .int .u64 dir2, .int .i64 lab.dflt, .slice A1 n1 c1, .int .i64 clr.dflt, .slice A2 n2 c2, .slice A3 n3 c3, .int .u64 bits] 29)).alloc (.cells #[.int .i64 op', .int .i64 nn', .int .i64 mm', .int .u64 dir', .int .u64 obj', .int .u64 dir2', .int .i64 lab'.dflt, .slice B1 m1 d1, .int .i64 clr'.dflt, .slice B2 m2 d2, .slice B3 m3 d3, .int .u64 bits'] 29)) = w2 from hw2]
  clear hw2
  refine (callAlive_true _).mono ?_
  rintro e w3 ⟨rfl, hb3⟩
  have HB3 := Lib.hid (bthen HB2.out hb3); have HX3 := Lib.hid (HX.out.below hb3); have HY3 := Lib.hid (HY.out.below hb3); have HRX3 := Lib.hid (HRX.out.below hb3); have HRY3 := Lib.hid (HRY.out.below hb3)
  obtain ⟨k0, k1, k2, k3, k4, k5, k6, k7, k8, k9, k10, k11⟩ := HX3.out.cells
  dsimp only at k0 k1 k2 k3 k4 k5 k6 k7 k8 k9 k10 k11
  clear hb3
  go_wp2_with fail
  refine (call_Write ⟨op, nn, mm, dir, obj, dir2, lab, clr, data, bits⟩ ⟨A1, n1, c1, A2, n2, c2, A3, n3, c3⟩ w3 HRX3.out).mono ?_
  rintro e wA ⟨hbA, hcA⟩
  have HBA := Lib.hid (bthen HB3.out hbA); have HXA := Lib.hid (HX3.out.below hbA); have HYA := Lib.hid (HY3.out.below hbA); have HRXA := Lib.hid (HRX3.out.below hbA); have HRYA := Lib.hid (HRY3.out.below hbA)
  clear k0 k1 k2 k3 k4 k5 k6 k7 k8 k9 k10 k11
  obtain ⟨j0, j1, j2, j3, j4, j5, j6, j7, j8, j9, j10, j11⟩ := HYA.out.cells
  dsimp only at j0 j1 j2 j3 j4 j5 j6 j7 j8 j9 j10 j11
  rcases hcA with ⟨A8, c8, o, hwo, rfl, hr8⟩ | ⟨hwo, rfl⟩
  · have HLX := write_len hwo
    have HLX' := write_le hwo
    have hl8 : (0 : Int) < (o.length : Int) := by omega
    have HRA := Lib.hid hr8
    clear hr8 hbA
    go_wp2_with fail
    refine (call_Write ⟨op', nn', mm', dir', obj', dir2', lab', clr', data', bits'⟩ ⟨B1, m1, d1, B2, m2, d2, B3, m3, d3⟩ wA HRYA.out).mono ?_
    rintro e w4 ⟨hb4, hc4⟩
    have HB4 := Lib.hid (bthen HBA.out hb4); have HX4 := Lib.hid (HXA.out.below hb4); have HY4 := Lib.hid (HYA.out.below hb4); have HRX4 := Lib.hid (HRXA.out.below hb4); have HRY4 := Lib.hid (HRYA.out.below hb4)
    have HR8 := Lib.hid (HRA.out.below hb4)
    clear j0 j1 j2 j3 j4 j5 j6 j7 j8 j9 j10 j11 hb4
    rcases hc4 with ⟨A9, c9, o', hwo', rfl, hr9⟩ | ⟨hwo', rfl⟩
    · have HR9 := Lib.hid hr9
      have hinj := write_inj hwo hwo' HBX.out HBY.out
      have HMO := Lib.hid (write_more hwo)
      have HLE := Lib.hid (write_less hwo)
      have HSA := Lib.hid (fun W' (hb : Below w4.heap.size w4 W') => call_Same ⟨op, nn, mm, dir, obj, dir2, lab, clr, data, bits⟩ ⟨op', nn', mm', dir', obj', dir2', lab', clr', data', bits'⟩ ⟨A1, n1, c1, A2, n2, c2, A3, n3, c3⟩ ⟨B1, m1, d1, B2, m2, d2, B3, m3, d3⟩ W' (HRX4.out.below hb) (HRY4.out.below hb))
      unfold callV callCells at HSA
      dsimp only at HSA
      have HKS := Lib.hid (fun (W' : World) (hb : Below w4.heap.size w4 W') => (let h := (HX4.out.below hb).cells; let h' := (HY4.out.below hb).cells; ⟨hb, h.1, h.2.1, h.2.2.1, h.2.2.2.1, h.2.2.2.2.1, h.2.2.2.2.2.1, h.2.2.2.2.2.2.1, h.2.2.2.2.2.2.2.1, h.2.2.2.2.2.2.2.2.1, h.2.2.2.2.2.2.2.2.2.1, h.2.2.2.2.2.2.2.2.2.2.1, h.2.2.2.2.2.2.2.2.2.2.2, h'.1, h'.2.1, h'.2.2.1, h'.2.2.2.1, h'.2.2.2.2.1, h'.2.2.2.2.2.1, h'.2.2.2.2.2.2.1, h'.2.2.2.2.2.2.2.1, h'.2.2.2.2.2.2.2.2.1, h'.2.2.2.2.2.2.2.2.2.1, h'.2.2.2.2.2.2.2.2.2.2.1, h'.2.2.2.2.2.2.2.2.2.2.2, (HR8.out.below hb).string Try.underlying27 Try.underlying5 Try.underlying9, (HR9.out.below hb).string Try.underlying27 Try.underlying5 Try.underlying9⟩ : Below w4.heap.size w4 W' ∧ W'.cell? ⟨w.heap.size, 0, none⟩ = some (.int .i64 op) ∧ W'.cell? ⟨w.heap.size, 1, none⟩ = some (.int .i64 nn) ∧ W'.cell? ⟨w.heap.size, 2, none⟩ = some (.int .i64 mm) ∧ W'.cell? ⟨w.heap.size, 3, none⟩ = some (.int .u64 (dir : Nat)) ∧ W'.cell? ⟨w.heap.size, 4, none⟩ = some (.int .u64 (obj : Nat)) ∧ W'.cell? ⟨w.heap.size, 5, none⟩ = some (.int .u64 (dir2 : Nat)) ∧ W'.cell? ⟨w.heap.size, 6, none⟩ = some (.int .i64 lab.dflt) ∧ W'.cell? ⟨w.heap.size, 7, none⟩ = some (.slice A1 n1 c1) ∧ W'.cell? ⟨w.heap.size, 8, none⟩ = some (.int .i64 clr.dflt) ∧ W'.cell? ⟨w.heap.size, 9, none⟩ = some (.slice A2 n2 c2) ∧ W'.cell? ⟨w.heap.size, 10, none⟩ = some (.slice A3 n3 c3) ∧ W'.cell? ⟨w.heap.size, 11, none⟩ = some (.int .u64 (bits : Nat)) ∧ W'.cell? ⟨(w.heap.size + 1), 0, none⟩ = some (.int .i64 op') ∧ W'.cell? ⟨(w.heap.size + 1), 1, none⟩ = some (.int .i64 nn') ∧ W'.cell? ⟨(w.heap.size + 1), 2, none⟩ = some (.int .i64 mm') ∧ W'.cell? ⟨(w.heap.size + 1), 3, none⟩ = some (.int .u64 (dir' : Nat)) ∧ W'.cell? ⟨(w.heap.size + 1), 4, none⟩ = some (.int .u64 (obj' : Nat)) ∧ W'.cell? ⟨(w.heap.size + 1), 5, none⟩ = some (.int .u64 (dir2' : Nat)) ∧ W'.cell? ⟨(w.heap.size + 1), 6, none⟩ = some (.int .i64 lab'.dflt) ∧ W'.cell? ⟨(w.heap.size + 1), 7, none⟩ = some (.slice B1 m1 d1) ∧ W'.cell? ⟨(w.heap.size + 1), 8, none⟩ = some (.int .i64 clr'.dflt) ∧ W'.cell? ⟨(w.heap.size + 1), 9, none⟩ = some (.slice B2 m2 d2) ∧ W'.cell? ⟨(w.heap.size + 1), 10, none⟩ = some (.slice B3 m3 d3) ∧ W'.cell? ⟨(w.heap.size + 1), 11, none⟩ = some (.int .u64 (bits' : Nat)) ∧ (convert 27 9 (.slice A8 o.length c8)).run Try.prog W' = .ok (.string (strOf o)) W' ∧ (convert 27 9 (.slice A9 o'.length c9)).run Try.prog W' = .ok (.string (strOf o')) W'))
      clear hr9 hwo hwo'
      have hsame : ((strOf o).toList == (strOf o').toList) = decide ((⟨op, nn, mm, dir, obj, dir2, lab, clr, data, bits⟩ : CallD) = ⟨op', nn', mm', dir', obj', dir2', lab', clr', data', bits'⟩) := by
        by_cases ho : o = o'
        · subst ho
          rw [str_eq, decide_eq_true (hinj.1 rfl)]
        · rw [str_ne ho, decide_eq_false (fun h => ho (hinj.2 h))]
      generalize hdq : decide ((⟨op, nn, mm, dir, obj, dir2, lab, clr, data, bits⟩ : CallD) = ⟨op', nn', mm', dir', obj', dir2', lab', clr', data', bits'⟩) = dq at HSA hsame
      clear hinj hdq
      go_upto_region 6 with fail
      go_region_held3 (fun W' => Below w4.heap.size w4 W' ∧ W'.cell? ⟨w.heap.size, 0, none⟩ = some (.int .i64 op) ∧ W'.cell? ⟨w.heap.size, 1, none⟩ = some (.int .i64 nn) ∧ W'.cell? ⟨w.heap.size, 2, none⟩ = some (.int .i64 mm) ∧ W'.cell? ⟨w.heap.size, 3, none⟩ = some (.int .u64 (dir : Nat)) ∧ W'.cell? ⟨w.heap.size, 4, none⟩ = some (.int .u64 (obj : Nat)) ∧ W'.cell? ⟨w.heap.size, 5, none⟩ = some (.int .u64 (dir2 : Nat)) ∧ W'.cell? ⟨w.heap.size, 6, none⟩ = some (.int .i64 lab.dflt) ∧ W'.cell? ⟨w.heap.size, 7, none⟩ = some (.slice A1 n1 c1) ∧ W'.cell? ⟨w.heap.size, 8, none⟩ = some (.int .i64 clr.dflt) ∧ W'.cell? ⟨w.heap.size, 9, none⟩ = some (.slice A2 n2 c2) ∧ W'.cell? ⟨w.heap.size, 10, none⟩ = some (.slice A3 n3 c3) ∧ W'.cell? ⟨w.heap.size, 11, none⟩ = some (.int .u64 (bits : Nat)) ∧ W'.cell? ⟨(w.heap.size + 1), 0, none⟩ = some (.int .i64 op') ∧ W'.cell? ⟨(w.heap.size + 1), 1, none⟩ = some (.int .i64 nn') ∧ W'.cell? ⟨(w.heap.size + 1), 2, none⟩ = some (.int .i64 mm') ∧ W'.cell? ⟨(w.heap.size + 1), 3, none⟩ = some (.int .u64 (dir' : Nat)) ∧ W'.cell? ⟨(w.heap.size + 1), 4, none⟩ = some (.int .u64 (obj' : Nat)) ∧ W'.cell? ⟨(w.heap.size + 1), 5, none⟩ = some (.int .u64 (dir2' : Nat)) ∧ W'.cell? ⟨(w.heap.size + 1), 6, none⟩ = some (.int .i64 lab'.dflt) ∧ W'.cell? ⟨(w.heap.size + 1), 7, none⟩ = some (.slice B1 m1 d1) ∧ W'.cell? ⟨(w.heap.size + 1), 8, none⟩ = some (.int .i64 clr'.dflt) ∧ W'.cell? ⟨(w.heap.size + 1), 9, none⟩ = some (.slice B2 m2 d2) ∧ W'.cell? ⟨(w.heap.size + 1), 10, none⟩ = some (.slice B3 m3 d3) ∧ W'.cell? ⟨(w.heap.size + 1), 11, none⟩ = some (.int .u64 (bits' : Nat)) ∧ (convert 27 9 (.slice A8 o.length c8)).run Try.prog W' = .ok (.string (strOf o)) W' ∧ (convert 27 9 (.slice A9 o'.length c9)).run Try.prog W' = .ok (.string (strOf o')) W') (first | with_reducible assumption | exact HKS.out _ (Below.refl _ w4).drew) (first
        | (have hq5 := (show Below w4.heap.size w4 w4.drew from (Below.refl _ w4).drew)
           with_reducible refine (HSA.out _ hq5).mono ?_
           rintro e w5 ⟨rfl, hb5⟩
           have hS5 := HKS.out _ (bthen hq5 hb5)
           have HQ3 := Lib.hid (bthen hq5 hb5)
           clear hb5 hq5))
      all_goals
        have HB5 := Lib.hid (bthen HB4.out HQ3.out)
        have HR5 := Lib.hid (HR8.out.below HQ3.out)
        go_wp2_with (first
          | (at_builtin
             have hB := HR6
             refine wpList_append_any (w0 := w5) w5.heap.size rfl _ _ 27 5 (.int .u8 0) 1 1 rfl Try.underlying27 Try.infoU8' rfl (by decide) (by decide) (.slice A6 o.length c6) o.length (bv o) (some ⟨w6.heap.size, 0, none⟩) 1 1 [.int .u8 0] rfl rfl (HO6.out.alloc _) (rd_one w6 _ _ _ rfl) (by simp [Value.oneCell']) (by omega) (HB6.out.alloc HB6.out.size _) (by have := HB6.out.size; simp; omega) ?_
             intro v7 w7 hown7 hb7 hg7 ha7
             have hown7' : w7.ownsRow w5.heap.size 5 1 v7 (o.length + 1) (bv (o ++ [0])) := by rw [bv_append]; exact hown7
             obtain ⟨A7, c7, rfl, hr7⟩ := own_rb hown7'
             have HR7 := Lib.hid hr7
             have HB7 := Lib.hid hb7
             clear hown7 hown7' hg7 ha7 hb7 hr7)
          | (at_builtin; refine wpList_copy_bytes (W := w5) rfl _ _ 27 5 rfl Try.underlying27 Try.infoU8' A8 o.length c8 o w5.heap.size rfl rfl rfl (HR5.out) (by omega) ?_; intro A6 c6 w6 hown6 hrb6 hb6; have HR6 := Lib.hid hrb6; have HO6 := Lib.hid hown6; have HB6 := Lib.hid hb6; clear hown6 hrb6 hb6))
        have HB07 := Lib.hid (bthen HB5.out HB7.out)
        refine (call_Read A7 (o.length + 1) c7 (o ++ [0]) w7 HR7.out).mono ?_
        rw [HMO.out]
        rintro e w8 ⟨hb8, x2, ⟨E1, r1, f1, E2, r2, f2, E3, r3, f3⟩, z, rfl, hrc8, -, -, ⟨hno, -⟩ | ⟨-, rfl, rfl⟩⟩
        · cases hno
        · have HB8 := Lib.hid (bthen HB07.out hb8)
          have HB9 : Hid (Below w.heap.size w (w8.alloc (.cells #[.int .i64 0, .int .i64 0, .int .i64 0, .int .u64 0, .int .u64 0, .int .u64 0, .int .i64 0, .slice E1 r1 f1, .int .i64 0, .slice E2 r2 f2, .slice E3 r3 f3, .int .u64 0] 29))) := Lib.hid (balloc HB8.out _)
          have HR9 : Hid (RB (w8.alloc (.cells #[.int .i64 0, .int .i64 0, .int .i64 0, .int .u64 0, .int .u64 0, .int .u64 0, .int .i64 0, .slice E1 r1 f1, .int .i64 0, .slice E2 r2 f2, .slice E3 r3 f3, .int .u64 0] 29)) A8 o.length c8 o) := Lib.hid (((HR5.out.below HB7.out).below hb8).alloc _)
          clear hrc8 hb8
          rw [show callV zeroC ⟨E1, r1, f1, E2, r2, f2, E3, r3, f3⟩ = .agg #[.int .i64 0, .int .i64 0, .int .i64 0, .int .u64 0, .int .u64 0, .int .u64 0, .int .i64 0, .slice E1 r1 f1, .int .i64 0, .slice E2 r2 f2, .slice E3 r3 f3, .int .u64 0] from rfl]
          by_cases h1 : cut < 0
          · have q1 : decide (cut < 0) = true := decide_eq_true h1
            go_wp2_with fail
            go_ret
            exact ⟨by simp, HB9.out⟩
          · have q1 : decide (cut < 0) = false := decide_eq_false h1
            obtain ⟨k, rfl⟩ := Int.eq_ofNat_of_zero_le (show 0 ≤ cut by omega)
            by_cases h2 : k < o.length
            · have q2 : decide ((o.length : Int) ≤ (k : Int)) = false := decide_eq_false (by omega)
              have hk0 : (0 : Int) ≤ (k : Int) := Int.natCast_nonneg _
              have hk1 : (k : Int) ≤ (o.length : Int) := by omega
              have hk2 : (k : Int) ≤ (c8 : Int) := by have := HR9.out.2.1; omega
              have HL := Lib.hid (HLE.out k h2)
              have HRF := Lib.hid (HR9.out.first k (by omega))
              go_wp2_with (at_builtin; refine wpList_copy_bytes (W := w8.alloc (.cells #[.int .i64 0, .int .i64 0, .int .i64 0, .int .u64 0, .int .u64 0, .int .u64 0, .int .i64 0, .slice E1 r1 f1, .int .i64 0, .slice E2 r2 f2, .slice E3 r3 f3, .int .u64 0] 29)) rfl _ _ 27 5 rfl Try.underlying27 Try.infoU8' A8 k c8 (o.take k) (w8.heap.size + 1) rfl rfl (by simp) (HRF.out) (by omega) ?_; intro A10 c10 w10 hown10 hrb10 hb10; have HR10 := Lib.hid hrb10; have HB10 := Lib.hid hb10; clear hown10 hrb10 hb10)
              refine (call_Read A10 k c10 (o.take k) w10 HR10.out).mono ?_
              rw [HL.out]
              rintro e w11 ⟨hb11, x2, ⟨G1, s1, g1, G2, s2, g2, G3, s3, g3⟩, z, rfl, hrc11, -, -, ⟨hno, -⟩ | ⟨-, rfl, rfl⟩⟩
              · cases hno
              · have HB11 : Hid (Below w.heap.size w (w11.alloc (.cells #[.int .i64 0, .int .i64 0, .int .i64 0, .int .u64 0, .int .u64 0, .int .u64 0, .int .i64 0, .slice G1 s1 g1, .int .i64 0, .slice G2 s2 g2, .slice G3 s3 g3, .int .u64 0] 29))) := Lib.hid (balloc (bthen (bthen HB9.out HB10.out) hb11) _)
                clear hrc11 hb11
                rw [show callV zeroC ⟨G1, s1, g1, G2, s2, g2, G3, s3, g3⟩ = .agg #[.int .i64 0, .int .i64 0, .int .i64 0, .int .u64 0, .int .u64 0, .int .u64 0, .int .i64 0, .slice G1 s1 g1, .int .i64 0, .slice G2 s2 g2, .slice G3 s3 g3, .int .u64 0] from rfl]
                go_wp2_with fail
                go_ret
                exact ⟨by simp, HB11.out⟩
            · have q2 : decide ((o.length : Int) ≤ (k : Int)) = true := decide_eq_true (by omega)
              go_wp2_with fail
              go_ret
              exact ⟨by simp, HB9.out⟩
    · clear hwo hwo'
      go_wp2_with fail
      go_ret
      exact ⟨by simp, HB4.out⟩
  · clear hbA
    go_wp2_with fail
    refine (call_Write ⟨op', nn', mm', dir', obj', dir2', lab', clr', data', bits'⟩ ⟨B1, m1, d1, B2, m2, d2, B3, m3, d3⟩ wA HRYA.out).mono ?_
    rintro e w4 ⟨hb4, hc4⟩
    have HB4 := Lib.hid (bthen HBA.out hb4)
    clear j0 j1 j2 j3 j4 j5 j6 j7 j8 j9 j10 j11 hb4 hwo
    rcases hc4 with ⟨A9, c9, o', hwo', rfl, hr9⟩ | ⟨hwo', rfl⟩
    · have hl9 : (0 : Int) < (o'.length : Int) := by have := write_len hwo'; omega
      clear hwo' hr9
      go_wp2_with fail
      go_ret
      exact ⟨by simp <;> omega, HB4.out⟩
    · clear hwo'
      go_wp2_with fail
      go_ret
      exact ⟨by simp, HB4.out⟩
set_option maxRecDepth 100000 in
theorem callApart_walk {H : Type} {enc : TypeId × Value → H} {W : World} {base : Nat} {v0 v1 v2 : Value} {d0 d1 d2 : DataW H} {p0 p1 p2 : List MemPlace}
    (o0 : Value.okWide Try.prog W .any base 29 v0) (r0 : DataW.Trod enc Try.prog W 0 (fun _ => true) true 29 v0 d0 p0) (z0 : ∀ n ∈ d0.weights Try.prog 29, n ≤ reachBytes)
    (o1 : Value.okWide Try.prog W .any base 29 v1) (r1 : DataW.Trod enc Try.prog W 0 (fun _ => true) true 29 v1 d1 p1) (z1 : ∀ n ∈ d1.weights Try.prog 29, n ≤ reachBytes)
    (o2 : Value.okWide Try.prog W .any base 3 v2) (r2 : DataW.Trod enc Try.prog W 0 (fun _ => true) true 3 v2 d2 p2) (_z2 : ∀ n ∈ d2.weights Try.prog 3, n ≤ reachBytes) :
    Calls Try.prog 7 #[v0, v1, v2] W fun e w' => e = .returned (.bool true) ∧ Below W.heap.size W w' := by
  obtain ⟨x, p, rfl, hx, -, -⟩ := open_call o0 r0 z0
  obtain ⟨y, q, rfl, hy, -, -⟩ := open_call o1 r1 z1
  obtain ⟨cut, rfl, -, -⟩ := open_i64 Try.underlying3 o2 r2
  exact callApart_main x y p q cut W hx hy
end Go.Proofs.Ytlofiinpgkclgaa
