/- Same: are two calls the same? The program's and the document's. -/
import Derived.Test.YtlofiinpgkclgaaMg5
import Derived.Test.YtlofiinpgkclgaaMg4
import Derived.Test.YtlofiinpgkclgaaMg12
import Derived.Test.YtlofiinpgkclgaaMg11
import Derived.Test.YtlofiinpgkclgaaMg1
import Derived.Test.YtlofiinpgkclgaaMg2
namespace Go.Proofs.Ytlofiinpgkclgaa
open Go.RowKit

set_option maxRecDepth 20000 in
set_option maxHeartbeats 6400000 in
theorem call_Same (x y : CallD) (p q : CallP) (w : World) (hx : RCall w x p) (hy : RCall w y q) : Calls Try.prog 15 #[callV x p, callV y q] w fun e w' => e = .returned (.bool (decide (x = y))) ∧ Below w.heap.size w w' := by
  have HB := Lib.hid (balloc (below_alloc w (.cells (callCells x p) 29)) (.cells (callCells y q) 29))
  have HBX := Lib.hid ((Box12.new w x p).below (below_alloc _ (.cells (callCells y q) 29)))
  have HBY : Hid (Box12 ((w.alloc (.cells (callCells x p) 29)).alloc (.cells (callCells y q) 29)) (w.heap.size + 1) y q) := Lib.hid (by
    have := Box12.new (w.alloc (.cells (callCells x p) 29)) y q
    rwa [World.size_alloc] at this)
  have HL1 := Lib.hid (fun w' (hb : Below w.heap.size w w') => call_sameLabel (x := x.lab) (y := y.lab) (hx.lab.cats.below hb) (hy.lab.cats.below hb))
  have HL2 := Lib.hid (fun w' (hb : Below w.heap.size w w') => call_sameLabel (x := x.clr) (y := y.clr) (hx.clr.cats.below hb) (hy.clr.cats.below hb))
  have HD := Lib.hid (fun w' (hb : Below w.heap.size w w') => equal_bytes (hx.data.below hb) (hy.data.below hb))
  obtain ⟨op, nn, mm, dir, obj, dir2, lab, clr, data, bits⟩ := x
  obtain ⟨op', nn', mm', dir', obj', dir2', lab', clr', data', bits'⟩ := y
  obtain ⟨A1, n1, c1, A2, n2, c2, A3, n3, c3⟩ := p
  obtain ⟨B1, m1, d1, B2, m2, d2, B3, m3, d3⟩ := q
  obtain ⟨k0, k1, k2, k3, k4, k5, k6, k7, k8, k9, k10, k11⟩ := HBX.out.cells
  obtain ⟨j0, j1, j2, j3, j4, j5, j6, j7, j8, j9, j10, j11⟩ := HBY.out.cells
  unfold callV
  unfold callCells at *
  dsimp only at *
  go_enter Try.func15, Try.ntmps15
  by_cases hop : op = op'
  · subst hop
    by_cases hnn : nn = nn'
    · subst hnn
      by_cases hmm : mm = mm'
      · subst hmm
        by_cases hdir : dir = dir'
        · subst hdir
          by_cases hobj : obj = obj'
          · subst hobj
            by_cases hdir2 : dir2 = dir2'
            · subst hdir2
              by_cases hbits : bits = bits'
              · subst hbits
                have HX3 := Lib.hid hx; have HY3 := Lib.hid hy
                clear hx hy
                by_cases hlab : lab = lab'
                · have HLA := Lib.hid (HL1.out _ HB.out)
                  rw [decide_eq_true hlab] at HLA
                  subst hlab
                  go_wp2_with fail
                  refine HLA.out.mono ?_
                  rintro e w3 ⟨rfl, hb3⟩
                  have HB' := Lib.hid (bthen HB.out hb3)
                  have HBX' := Lib.hid (HBX.out.below hb3); have HBY' := Lib.hid (HBY.out.below hb3)
                  clear HB HBX HBY hb3 k0 k1 k2 k3 k4 k5 k6 k7 k8 k9 k10 k11 j0 j1 j2 j3 j4 j5 j6 j7 j8 j9 j10 j11
                  rename Hid (Below w.heap.size w w3) => HB
                  rename Hid (Box12 w3 w.heap.size _ _) => HBX
                  rename Hid (Box12 w3 (w.heap.size + 1) _ _) => HBY
                  obtain ⟨k0, k1, k2, k3, k4, k5, k6, k7, k8, k9, k10, k11⟩ := HBX.out.cells
                  obtain ⟨j0, j1, j2, j3, j4, j5, j6, j7, j8, j9, j10, j11⟩ := HBY.out.cells
                  dsimp only at k0 k1 k2 k3 k4 k5 k6 k7 k8 k9 k10 k11 j0 j1 j2 j3 j4 j5 j6 j7 j8 j9 j10 j11
                  by_cases hclr : clr = clr'
                  · have HLC := Lib.hid (HL2.out _ HB.out)
                    rw [decide_eq_true hclr] at HLC
                    subst hclr
                    go_wp2_with fail
                    refine HLC.out.mono ?_
                    rintro e w3 ⟨rfl, hb3⟩
                    have HB' := Lib.hid (bthen HB.out hb3)
                    have HBX' := Lib.hid (HBX.out.below hb3); have HBY' := Lib.hid (HBY.out.below hb3)
                    clear HB HBX HBY hb3 k0 k1 k2 k3 k4 k5 k6 k7 k8 k9 k10 k11 j0 j1 j2 j3 j4 j5 j6 j7 j8 j9 j10 j11
                    rename Hid (Below w.heap.size w w3) => HB
                    rename Hid (Box12 w3 w.heap.size _ _) => HBX
                    rename Hid (Box12 w3 (w.heap.size + 1) _ _) => HBY
                    obtain ⟨k0, k1, k2, k3, k4, k5, k6, k7, k8, k9, k10, k11⟩ := HBX.out.cells
                    obtain ⟨j0, j1, j2, j3, j4, j5, j6, j7, j8, j9, j10, j11⟩ := HBY.out.cells
                    dsimp only at k0 k1 k2 k3 k4 k5 k6 k7 k8 k9 k10 k11 j0 j1 j2 j3 j4 j5 j6 j7 j8 j9 j10 j11
                    have HEQ := Lib.hid (show decide ((⟨op, nn, mm, dir, obj, dir2, lab, clr, data, bits⟩ : CallD) = ⟨op, nn, mm, dir, obj, dir2, lab, clr, data', bits⟩) = decide (data = data') by simp)
                    have HDA := Lib.hid (HD.out _ HB.out)
                    go_wp2_with fail
                    refine HDA.out.mono ?_
                    rintro e w5 ⟨rfl, hb5⟩
                    have HB5 := Lib.hid (bthen HB.out hb5)
                    clear hb5
                    go_wp2_with fail
                    go_ret
                    exact ⟨by rw [HEQ.out]; rfl, HB5.out⟩
                  · have HLC := Lib.hid (HL2.out _ HB.out)
                    rw [decide_eq_false hclr] at HLC
                    have HF := Lib.hid (decide_eq_false (show ¬ ((⟨op, nn, mm, dir, obj, dir2, lab, clr, data, bits⟩ : CallD) = ⟨op, nn, mm, dir, obj, dir2, lab, clr', data', bits⟩) from fun e => hclr (by injection e)))
                    go_wp2_with fail
                    refine HLC.out.mono ?_
                    rintro e w3 ⟨rfl, hb3⟩
                    have HB' := Lib.hid (bthen HB.out hb3)
                    clear hb3
                    go_wp2_with fail
                    go_ret
                    exact ⟨by first | rfl | (rw [HF.out]; rfl), HB'.out⟩
                · have HLA := Lib.hid (HL1.out _ HB.out)
                  rw [decide_eq_false hlab] at HLA
                  have HF := Lib.hid (decide_eq_false (show ¬ ((⟨op, nn, mm, dir, obj, dir2, lab, clr, data, bits⟩ : CallD) = ⟨op, nn, mm, dir, obj, dir2, lab', clr', data', bits⟩) from fun e => hlab (by injection e)))
                  go_wp2_with fail
                  refine HLA.out.mono ?_
                  rintro e w3 ⟨rfl, hb3⟩
                  have HB' := Lib.hid (bthen HB.out hb3)
                  clear hb3
                  go_wp2_with fail
                  go_ret
                  exact ⟨by first | rfl | (rw [HF.out]; rfl), HB'.out⟩
              · have HF := Lib.hid (decide_eq_false (show ¬ ((⟨op, nn, mm, dir, obj, dir2, lab, clr, data, bits⟩ : CallD) = ⟨op, nn, mm, dir, obj, dir2, lab', clr', data', bits'⟩) from fun e => hbits (by injection e)))
                have hni : ¬ ((bits : Int) = (bits' : Int)) := by omega
                have hnj : ((bits : Int) != (bits' : Int)) = true := by rw [bne_iff_ne]; exact hni
                clear hx hy
                go_wp2_with fail
                go_ret
                exact ⟨by first | rfl | (rw [HF.out]; rfl), HB.out⟩
            · have HF := Lib.hid (decide_eq_false (show ¬ ((⟨op, nn, mm, dir, obj, dir2, lab, clr, data, bits⟩ : CallD) = ⟨op, nn, mm, dir, obj, dir2', lab', clr', data', bits'⟩) from fun e => hdir2 (by injection e)))
              have hni : ¬ ((dir2 : Int) = (dir2' : Int)) := by omega
              have hnj : ((dir2 : Int) != (dir2' : Int)) = true := by rw [bne_iff_ne]; exact hni
              clear hx hy
              go_wp2_with fail
              go_ret
              exact ⟨by first | rfl | (rw [HF.out]; rfl), HB.out⟩
          · have HF := Lib.hid (decide_eq_false (show ¬ ((⟨op, nn, mm, dir, obj, dir2, lab, clr, data, bits⟩ : CallD) = ⟨op, nn, mm, dir, obj', dir2', lab', clr', data', bits'⟩) from fun e => hobj (by injection e)))
            have hni : ¬ ((obj : Int) = (obj' : Int)) := by omega
            have hnj : ((obj : Int) != (obj' : Int)) = true := by rw [bne_iff_ne]; exact hni
            clear hx hy
            go_wp2_with fail
            go_ret
            exact ⟨by first | rfl | (rw [HF.out]; rfl), HB.out⟩
        · have HF := Lib.hid (decide_eq_false (show ¬ ((⟨op, nn, mm, dir, obj, dir2, lab, clr, data, bits⟩ : CallD) = ⟨op, nn, mm, dir', obj', dir2', lab', clr', data', bits'⟩) from fun e => hdir (by injection e)))
          have hni : ¬ ((dir : Int) = (dir' : Int)) := by omega
          have hnj : ((dir : Int) != (dir' : Int)) = true := by rw [bne_iff_ne]; exact hni
          clear hx hy
          go_wp2_with fail
          go_ret
          exact ⟨by first | rfl | (rw [HF.out]; rfl), HB.out⟩
      · have HF := Lib.hid (decide_eq_false (show ¬ ((⟨op, nn, mm, dir, obj, dir2, lab, clr, data, bits⟩ : CallD) = ⟨op, nn, mm', dir', obj', dir2', lab', clr', data', bits'⟩) from fun e => hmm (by injection e)))
        have hni : ¬ ((mm : Int) = (mm' : Int)) := by omega
        have hnj : ((mm : Int) != (mm' : Int)) = true := by rw [bne_iff_ne]; exact hni
        clear hx hy
        go_wp2_with fail
        go_ret
        exact ⟨by first | rfl | (rw [HF.out]; rfl), HB.out⟩
    · have HF := Lib.hid (decide_eq_false (show ¬ ((⟨op, nn, mm, dir, obj, dir2, lab, clr, data, bits⟩ : CallD) = ⟨op, nn', mm', dir', obj', dir2', lab', clr', data', bits'⟩) from fun e => hnn (by injection e)))
      have hni : ¬ ((nn : Int) = (nn' : Int)) := by omega
      have hnj : ((nn : Int) != (nn' : Int)) = true := by rw [bne_iff_ne]; exact hni
      clear hx hy
      go_wp2_with fail
      go_ret
      exact ⟨by first | rfl | (rw [HF.out]; rfl), HB.out⟩
  · have HF := Lib.hid (decide_eq_false (show ¬ ((⟨op, nn, mm, dir, obj, dir2, lab, clr, data, bits⟩ : CallD) = ⟨op', nn', mm', dir', obj', dir2', lab', clr', data', bits'⟩) from fun e => hop (by injection e)))
    have hni : ¬ ((op : Int) = (op' : Int)) := by omega
    have hnj : ((op : Int) != (op' : Int)) = true := by rw [bne_iff_ne]; exact hni
    clear hx hy
    go_wp2_with fail
    go_ret
    exact ⟨by first | rfl | (rw [HF.out]; rfl), HB.out⟩
set_option maxRecDepth 20000 in
set_option maxHeartbeats 6400000 in
theorem ref19_Same (x y : CallD) (p q : CallP) (w : World) (hx : RCall w x p) (hy : RCall w y q) : Calls Try.prog 12 #[callV x p, callV y q] w fun e w' => e = .returned (.bool (decide (x = y))) ∧ Below w.heap.size w w' := by
  have HB := Lib.hid (balloc (below_alloc w (.cells (callCells x p) 29)) (.cells (callCells y q) 29))
  have HBX := Lib.hid ((Box12.new w x p).below (below_alloc _ (.cells (callCells y q) 29)))
  have HBY : Hid (Box12 ((w.alloc (.cells (callCells x p) 29)).alloc (.cells (callCells y q) 29)) (w.heap.size + 1) y q) := Lib.hid (by
    have := Box12.new (w.alloc (.cells (callCells x p) 29)) y q
    rwa [World.size_alloc] at this)
  have HL1 := Lib.hid (fun w' (hb : Below w.heap.size w w') => ref09_Exact (x := x.lab) (y := y.lab) (hx.lab.cats.below hb) (hy.lab.cats.below hb))
  have HL2 := Lib.hid (fun w' (hb : Below w.heap.size w w') => ref09_Exact (x := x.clr) (y := y.clr) (hx.clr.cats.below hb) (hy.clr.cats.below hb))
  have HD := Lib.hid (fun w' (hb : Below w.heap.size w w') => equal_bytes (hx.data.below hb) (hy.data.below hb))
  obtain ⟨op, nn, mm, dir, obj, dir2, lab, clr, data, bits⟩ := x
  obtain ⟨op', nn', mm', dir', obj', dir2', lab', clr', data', bits'⟩ := y
  obtain ⟨A1, n1, c1, A2, n2, c2, A3, n3, c3⟩ := p
  obtain ⟨B1, m1, d1, B2, m2, d2, B3, m3, d3⟩ := q
  obtain ⟨k0, k1, k2, k3, k4, k5, k6, k7, k8, k9, k10, k11⟩ := HBX.out.cells
  obtain ⟨j0, j1, j2, j3, j4, j5, j6, j7, j8, j9, j10, j11⟩ := HBY.out.cells
  unfold callV
  unfold callCells at *
  dsimp only at *
  go_enter Try.func12, Try.ntmps12
  by_cases hop : op = op'
  · subst hop
    by_cases hnn : nn = nn'
    · subst hnn
      by_cases hmm : mm = mm'
      · subst hmm
        by_cases hdir : dir = dir'
        · subst hdir
          by_cases hobj : obj = obj'
          · subst hobj
            by_cases hdir2 : dir2 = dir2'
            · subst hdir2
              by_cases hbits : bits = bits'
              · subst hbits
                have HX3 := Lib.hid hx; have HY3 := Lib.hid hy
                clear hx hy
                by_cases hlab : lab = lab'
                · have HLA := Lib.hid (HL1.out _ HB.out)
                  rw [decide_eq_true hlab] at HLA
                  subst hlab
                  go_wp2_with fail
                  refine HLA.out.mono ?_
                  rintro e w3 ⟨rfl, hb3⟩
                  have HB' := Lib.hid (bthen HB.out hb3)
                  have HBX' := Lib.hid (HBX.out.below hb3); have HBY' := Lib.hid (HBY.out.below hb3)
                  clear HB HBX HBY hb3 k0 k1 k2 k3 k4 k5 k6 k7 k8 k9 k10 k11 j0 j1 j2 j3 j4 j5 j6 j7 j8 j9 j10 j11
                  rename Hid (Below w.heap.size w w3) => HB
                  rename Hid (Box12 w3 w.heap.size _ _) => HBX
                  rename Hid (Box12 w3 (w.heap.size + 1) _ _) => HBY
                  obtain ⟨k0, k1, k2, k3, k4, k5, k6, k7, k8, k9, k10, k11⟩ := HBX.out.cells
                  obtain ⟨j0, j1, j2, j3, j4, j5, j6, j7, j8, j9, j10, j11⟩ := HBY.out.cells
                  dsimp only at k0 k1 k2 k3 k4 k5 k6 k7 k8 k9 k10 k11 j0 j1 j2 j3 j4 j5 j6 j7 j8 j9 j10 j11
                  by_cases hclr : clr = clr'
                  · have HLC := Lib.hid (HL2.out _ HB.out)
                    rw [decide_eq_true hclr] at HLC
                    subst hclr
                    go_wp2_with fail
                    refine HLC.out.mono ?_
                    rintro e w3 ⟨rfl, hb3⟩
                    have HB' := Lib.hid (bthen HB.out hb3)
                    have HBX' := Lib.hid (HBX.out.below hb3); have HBY' := Lib.hid (HBY.out.below hb3)
                    clear HB HBX HBY hb3 k0 k1 k2 k3 k4 k5 k6 k7 k8 k9 k10 k11 j0 j1 j2 j3 j4 j5 j6 j7 j8 j9 j10 j11
                    rename Hid (Below w.heap.size w w3) => HB
                    rename Hid (Box12 w3 w.heap.size _ _) => HBX
                    rename Hid (Box12 w3 (w.heap.size + 1) _ _) => HBY
                    obtain ⟨k0, k1, k2, k3, k4, k5, k6, k7, k8, k9, k10, k11⟩ := HBX.out.cells
                    obtain ⟨j0, j1, j2, j3, j4, j5, j6, j7, j8, j9, j10, j11⟩ := HBY.out.cells
                    dsimp only at k0 k1 k2 k3 k4 k5 k6 k7 k8 k9 k10 k11 j0 j1 j2 j3 j4 j5 j6 j7 j8 j9 j10 j11
                    have HEQ := Lib.hid (show decide ((⟨op, nn, mm, dir, obj, dir2, lab, clr, data, bits⟩ : CallD) = ⟨op, nn, mm, dir, obj, dir2, lab, clr, data', bits⟩) = decide (data = data') by simp)
                    have hs1 := (HX3.out.below HB.out).data.string (P := Try.prog) (src := 27) (dst := 9) Try.underlying27 Try.underlying5 Try.underlying9
                    have hs2 := (HY3.out.below HB.out).data.string (P := Try.prog) (src := 27) (dst := 9) Try.underlying27 Try.underlying5 Try.underlying9
                    dsimp only at hs1 hs2
                    by_cases hdd : data = data'
                    · subst hdd
                      have hq := str_eq data
                      clear HEQ
                      go_wp2_with fail
                      go_ret
                      exact ⟨rfl, HB.out⟩
                    · have hq := str_ne hdd
                      have HT := Lib.hid (show decide ((⟨op, nn, mm, dir, obj, dir2, lab, clr, data, bits⟩ : CallD) = ⟨op, nn, mm, dir, obj, dir2, lab, clr, data', bits⟩) = false by simp [hdd])
                      clear HEQ hdd
                      go_wp2_with fail
                      go_ret
                      exact ⟨by first | rfl | (rw [HT.out]; rfl), HB.out⟩
                  · have HLC := Lib.hid (HL2.out _ HB.out)
                    rw [decide_eq_false hclr] at HLC
                    have HF := Lib.hid (decide_eq_false (show ¬ ((⟨op, nn, mm, dir, obj, dir2, lab, clr, data, bits⟩ : CallD) = ⟨op, nn, mm, dir, obj, dir2, lab, clr', data', bits⟩) from fun e => hclr (by injection e)))
                    go_wp2_with fail
                    refine HLC.out.mono ?_
                    rintro e w3 ⟨rfl, hb3⟩
                    have HB' := Lib.hid (bthen HB.out hb3)
                    clear hb3
                    go_wp2_with fail
                    go_ret
                    exact ⟨by first | rfl | (rw [HF.out]; rfl), HB'.out⟩
                · have HLA := Lib.hid (HL1.out _ HB.out)
                  rw [decide_eq_false hlab] at HLA
                  have HF := Lib.hid (decide_eq_false (show ¬ ((⟨op, nn, mm, dir, obj, dir2, lab, clr, data, bits⟩ : CallD) = ⟨op, nn, mm, dir, obj, dir2, lab', clr', data', bits⟩) from fun e => hlab (by injection e)))
                  go_wp2_with fail
                  refine HLA.out.mono ?_
                  rintro e w3 ⟨rfl, hb3⟩
                  have HB' := Lib.hid (bthen HB.out hb3)
                  clear hb3
                  go_wp2_with fail
                  go_ret
                  exact ⟨by first | rfl | (rw [HF.out]; rfl), HB'.out⟩
              · have HF := Lib.hid (decide_eq_false (show ¬ ((⟨op, nn, mm, dir, obj, dir2, lab, clr, data, bits⟩ : CallD) = ⟨op, nn, mm, dir, obj, dir2, lab', clr', data', bits'⟩) from fun e => hbits (by injection e)))
                have hni : ¬ ((bits : Int) = (bits' : Int)) := by omega
                have hnj : ((bits : Int) != (bits' : Int)) = true := by rw [bne_iff_ne]; exact hni
                clear hx hy
                go_wp2_with fail
                go_ret
                exact ⟨by first | rfl | (rw [HF.out]; rfl), HB.out⟩
            · have HF := Lib.hid (decide_eq_false (show ¬ ((⟨op, nn, mm, dir, obj, dir2, lab, clr, data, bits⟩ : CallD) = ⟨op, nn, mm, dir, obj, dir2', lab', clr', data', bits'⟩) from fun e => hdir2 (by injection e)))
              have hni : ¬ ((dir2 : Int) = (dir2' : Int)) := by omega
              have hnj : ((dir2 : Int) != (dir2' : Int)) = true := by rw [bne_iff_ne]; exact hni
              clear hx hy
              go_wp2_with fail
              go_ret
              exact ⟨by first | rfl | (rw [HF.out]; rfl), HB.out⟩
          · have HF := Lib.hid (decide_eq_false (show ¬ ((⟨op, nn, mm, dir, obj, dir2, lab, clr, data, bits⟩ : CallD) = ⟨op, nn, mm, dir, obj', dir2', lab', clr', data', bits'⟩) from fun e => hobj (by injection e)))
            have hni : ¬ ((obj : Int) = (obj' : Int)) := by omega
            have hnj : ((obj : Int) != (obj' : Int)) = true := by rw [bne_iff_ne]; exact hni
            clear hx hy
            go_wp2_with fail
            go_ret
            exact ⟨by first | rfl | (rw [HF.out]; rfl), HB.out⟩
        · have HF := Lib.hid (decide_eq_false (show ¬ ((⟨op, nn, mm, dir, obj, dir2, lab, clr, data, bits⟩ : CallD) = ⟨op, nn, mm, dir', obj', dir2', lab', clr', data', bits'⟩) from fun e => hdir (by injection e)))
          have hni : ¬ ((dir : Int) = (dir' : Int)) := by omega
          have hnj : ((dir : Int) != (dir' : Int)) = true := by rw [bne_iff_ne]; exact hni
          clear hx hy
          go_wp2_with fail
          go_ret
          exact ⟨by first | rfl | (rw [HF.out]; rfl), HB.out⟩
      · have HF := Lib.hid (decide_eq_false (show ¬ ((⟨op, nn, mm, dir, obj, dir2, lab, clr, data, bits⟩ : CallD) = ⟨op, nn, mm', dir', obj', dir2', lab', clr', data', bits'⟩) from fun e => hmm (by injection e)))
        have hni : ¬ ((mm : Int) = (mm' : Int)) := by omega
        have hnj : ((mm : Int) != (mm' : Int)) = true := by rw [bne_iff_ne]; exact hni
        clear hx hy
        go_wp2_with fail
        go_ret
        exact ⟨by first | rfl | (rw [HF.out]; rfl), HB.out⟩
    · have HF := Lib.hid (decide_eq_false (show ¬ ((⟨op, nn, mm, dir, obj, dir2, lab, clr, data, bits⟩ : CallD) = ⟨op, nn', mm', dir', obj', dir2', lab', clr', data', bits'⟩) from fun e => hnn (by injection e)))
      have hni : ¬ ((nn : Int) = (nn' : Int)) := by omega
      have hnj : ((nn : Int) != (nn' : Int)) = true := by rw [bne_iff_ne]; exact hni
      clear hx hy
      go_wp2_with fail
      go_ret
      exact ⟨by first | rfl | (rw [HF.out]; rfl), HB.out⟩
  · have HF := Lib.hid (decide_eq_false (show ¬ ((⟨op, nn, mm, dir, obj, dir2, lab, clr, data, bits⟩ : CallD) = ⟨op', nn', mm', dir', obj', dir2', lab', clr', data', bits'⟩) from fun e => hop (by injection e)))
    have hni : ¬ ((op : Int) = (op' : Int)) := by omega
    have hnj : ((op : Int) != (op' : Int)) = true := by rw [bne_iff_ne]; exact hni
    clear hx hy
    go_wp2_with fail
    go_ret
    exact ⟨by first | rfl | (rw [HF.out]; rfl), HB.out⟩
end Go.Proofs.Ytlofiinpgkclgaa

/- The law's example: a halt, written and read. -/
namespace Go.Proofs.Ytlofiinpgkclgaa
open Go.RowKit

def haltC : CallD := ⟨22, 0, 0, 0, 0, 0, ⟨0, []⟩, ⟨0, []⟩, [], 0⟩
def haltB : List UInt8 := [22, 0, 0, 0, 0, 0, 0, 0, 0, 0, 0, 0, 0, 0, 0, 0, 0, 0, 0, 0, 0, 0, 0, 0, 0, 0, 0, 0, 0, 0, 1, 0, 0, 1, 0, 0, 0, 0, 0, 0, 0, 0, 0, 0, 0]
theorem halt_write : writeM haltC = some haltB := by decide
theorem halt_read : readM haltB = some haltC := by decide
theorem rcall_halt (w : World) : RCall w haltC zeroP :=
  ⟨⟨rcats_nil w, fun j hj => absurd hj (by show ¬ j < 0; omega)⟩, ⟨rcats_nil w, fun j hj => absurd hj (by show ¬ j < 0; omega)⟩, RB.nil w, Nat.zero_le _, ⟨by decide, by decide⟩, ⟨by decide, by decide⟩, ⟨by decide, by decide⟩, ⟨by decide, by decide⟩, ⟨by decide, by decide⟩, ⟨by decide, by decide, by decide, by decide⟩⟩
set_option maxRecDepth 20000 in
set_option maxHeartbeats 3200000 in
theorem callAlive_true (w : World) : Calls Try.prog 8 #[] w fun e w' => e = .returned (.bool true) ∧ Below w.heap.size w w' := by
  go_enter Try.func8, Try.ntmps8
  go_wp2_with fail
  refine (call_Write haltC zeroP w (rcall_halt w)).mono ?_
  rw [halt_write]
  rintro e w1 ⟨hb1, ⟨A1, c1, o, ho, rfl, hr1⟩ | ⟨hno, -⟩⟩
  · injection ho with ho
    subst ho
    rw [show haltB.length = 45 from rfl] at hr1 ⊢
    have HB1 := Lib.hid hb1; have HR1 := Lib.hid hr1
    clear hb1 hr1
    go_wp2_with fail
    refine (call_Read A1 45 c1 haltB w1 HR1.out).mono ?_
    rw [halt_read]
    rintro e w2 ⟨hb2, x, p, z, rfl, hrc, -, -, hcase⟩
    obtain ⟨rfl, rfl⟩ : x = haltC ∧ z = 0 := by
      rcases hcase with ⟨h1, h2⟩ | ⟨h1, -, -⟩
      · injection h1 with h1
        exact ⟨h1.symm, h2⟩
      · cases h1
    have HB2 := Lib.hid (bthen HB1.out hb2)
    have hr2 := HR1.out.below hb2
    obtain ⟨A1, n1, c1, A2, n2, c2, A3, n3, c3⟩ := p
    have HRC : Hid (RCall (w2.alloc (.cells #[.int .i64 22, .int .i64 0, .int .i64 0, .int .u64 0, .int .u64 0, .int .u64 0, .int .i64 0, .slice A1 n1 c1, .int .i64 0, .slice A2 n2 c2, .slice A3 n3 c3, .int .u64 0] 29)) haltC ⟨A1, n1, c1, A2, n2, c2, A3, n3, c3⟩) := Lib.hid (hrc.below (below_alloc w2 _))
    have HB3 : Hid (Below w.heap.size w (w2.alloc (.cells #[.int .i64 22, .int .i64 0, .int .i64 0, .int .u64 0, .int .u64 0, .int .u64 0, .int .i64 0, .slice A1 n1 c1, .int .i64 0, .slice A2 n2 c2, .slice A3 n3 c3, .int .u64 0] 29))) := Lib.hid (balloc HB2.out _)
    clear hrc hb2 hcase
    obtain ⟨b, o, rfl, hcs⟩ := (hr2.below (below_alloc w2 (.cells #[.int .i64 22, .int .i64 0, .int .i64 0, .int .u64 0, .int .u64 0, .int .u64 0, .int .i64 0, .slice A1 n1 c1, .int .i64 0, .slice A2 n2 c2, .slice A3 n3 c3, .int .u64 0] 29))).2.2.2 (by omega)
    have i0 : (w2.alloc (.cells #[.int .i64 22, .int .i64 0, .int .i64 0, .int .u64 0, .int .u64 0, .int .u64 0, .int .i64 0, .slice A1 n1 c1, .int .i64 0, .slice A2 n2 c2, .slice A3 n3 c3, .int .u64 0] 29)).cell? ⟨b, o, none⟩ = some (.int .u8 22) := hcs 0 (by omega)
    have i30 : (w2.alloc (.cells #[.int .i64 22, .int .i64 0, .int .i64 0, .int .u64 0, .int .u64 0, .int .u64 0, .int .i64 0, .slice A1 n1 c1, .int .i64 0, .slice A2 n2 c2, .slice A3 n3 c3, .int .u64 0] 29)).cell? ⟨b, o + 30, none⟩ = some (.int .u8 1) := hcs 30 (by omega)
    have HS := Lib.hid (call_Same haltC haltC ⟨A1, n1, c1, A2, n2, c2, A3, n3, c3⟩ zeroP _ HRC.out (rcall_halt _))
    rw [decide_eq_true rfl] at HS
    clear hcs hr2
    rw [show callV haltC ⟨A1, n1, c1, A2, n2, c2, A3, n3, c3⟩ = .agg #[.int .i64 22, .int .i64 0, .int .i64 0, .int .u64 0, .int .u64 0, .int .u64 0, .int .i64 0, .slice A1 n1 c1, .int .i64 0, .slice A2 n2 c2, .slice A3 n3 c3, .int .u64 0] from rfl]
    go_wp2_with fail
    refine HS.out.mono ?_
    rintro e w5 ⟨rfl, hb5⟩
    have HB5 := Lib.hid (bthen HB3.out hb5)
    clear hb5
    go_wp2_with fail
    go_ret
    exact ⟨rfl, HB5.out⟩
  · cases hno
end Go.Proofs.Ytlofiinpgkclgaa

/- Calls there and back, as data. -/
namespace Go.Proofs.Ytlofiinpgkclgaa
open Go.RowKit

/-- The categories' numbers fit. -/
def Ids (l : LabD) : Prop := ∀ j, j < l.cats.length → (atC l.cats j).id < 18446744073709551616
theorem labTo_take (l : LabD) (k : Nat) : ∀ n, k ≤ n → n ≤ l.cats.length → (labTo l n).take (1 + 9 * k) = labTo l k := by
  intro n
  induction n with
  | zero =>
    intro hk hn
    obtain rfl : k = 0 := by omega
    rfl
  | succ n ih =>
    intro hk hn
    by_cases e : k = n + 1
    · subst e
      rw [List.take_of_length_le (by rw [labTo_length _ _ hn]; omega)]
    · rw [labTo_succ l n (by omega), List.take_append_of_le_length (by rw [labTo_length _ _ (by omega)]; omega), ih (by omega) (by omega)]
theorem labTo_piece (l : LabD) (n k : Nat) (hk : k < n) (hn : n ≤ l.cats.length) : ((labTo l n).drop (1 + 9 * k)).take 9 = lab1 (atC l.cats k) := by
  have h1 := labTo_take l (k + 1) n (by omega) hn
  rw [labTo_succ l k (by omega)] at h1
  have h2 : ((labTo l n).take (1 + 9 * (k + 1))).drop (1 + 9 * k) = ((labTo l n).drop (1 + 9 * k)).take 9 := by
    rw [List.drop_take]
    congr 1
    omega
  rw [← h2, h1, List.drop_append_of_le_length (by rw [labTo_length _ _ (by omega)]; omega), List.drop_of_length_le (by rw [labTo_length _ _ (by omega)]; omega), List.nil_append]
theorem lab_forth {l : LabD} {a : List UInt8} (h : labBytes l = some a) (hi : Ids l) : labOf a = l ∧ LabB a := by
  unfold labBytes at h
  split at h
  · rename_i hc
    obtain ⟨h10, hd, hl⟩ := hc
    injection h with h
    subst h
    have hlen := labTo_length l l.cats.length (Nat.le_refl _)
    have hq : (labTo l l.cats.length).length / 9 = l.cats.length := by omega
    refine ⟨?_, by omega, by omega⟩
    obtain ⟨df, cs⟩ := l
    unfold labOf
    dsimp only at *
    rw [hq]
    have e0 : (((at8 (labTo ⟨df, cs⟩ cs.length) 0).toNat : Nat) : Int) = df := byt_of hd
    rw [e0]
    congr 1
    refine eq_of_atC (by rw [catsOf_length]) (fun j hj => ?_)
    rw [catsOf_length] at hj
    rw [atC_catsOf _ _ _ hj]
    have hp := labTo_piece ⟨df, cs⟩ cs.length j hj (Nat.le_refl _)
    have hid := hi j hj
    have hlv : Oct (atC cs j).lev := by
      have e : atC cs j = cs[j] := by simp [atC, List.getD_eq_getElem?_getD, hj]
      rw [e]
      exact hl _ (List.getElem_mem _)
    dsimp only at hp hid
    generalize atC cs j = c at *
    obtain ⟨ci, cl⟩ := c
    have h8 : ((labTo ⟨df, cs⟩ cs.length).drop (1 + 9 * j)).take 8 = be ci 8 := by
      have := congrArg (List.take 8) hp
      rw [List.take_take] at this
      rw [show min 8 9 = 8 from rfl] at this
      rw [this]
      unfold lab1
      rw [List.take_append_of_le_length (by rw [be_length]; exact Nat.le_refl _), List.take_of_length_le (by rw [be_length]; exact Nat.le_refl _)]
    have h9 : at8 (labTo ⟨df, cs⟩ cs.length) (9 + 9 * j) = byt cl := by
      have e : at8 (((labTo ⟨df, cs⟩ cs.length).drop (1 + 9 * j)).take 9) 8 = at8 (labTo ⟨df, cs⟩ cs.length) (9 + 9 * j) := by
        simp only [at8, List.getD_eq_getElem?_getD, List.getElem?_take, List.getElem?_drop]
        rw [if_pos (by omega)]
        congr 2
        omega
      rw [← e, hp]
      unfold lab1 at8
      dsimp only
      rw [List.getD_eq_getElem?_getD, List.getElem?_append_right (by rw [be_length]; exact Nat.le_refl _), be_length]
      rfl
    unfold catOf
    rw [h8, h9, numOf_be 8 ci (by simpa using hid), byt_of hlv]
  · cases h
/-- What the walks know of a call. -/
structure CallB (x : CallD) : Prop where
  lab : Ids x.lab
  clr : Ids x.clr
  big : x.dir < 18446744073709551616 ∧ x.obj < 18446744073709551616 ∧ x.dir2 < 18446744073709551616 ∧ x.bits < 18446744073709551616
theorem RCall.b {w : World} {x : CallD} {p : CallP} (h : RCall w x p) : CallB x :=
  ⟨fun j hj => h.lab.ids j (by rw [← h.lab.cats.1]; exact hj), fun j hj => h.clr.ids j (by rw [← h.clr.cats.1]; exact hj), h.big⟩
theorem writeM_inv {x : CallD} {o : List UInt8} (h : writeM x = some o) : ∃ a b, labBytes x.lab = some a ∧ labBytes x.clr = some b ∧ CallOk x ∧ packL shapeC (valsC x a b) = some o := by
  unfold writeM at h
  split at h
  · rename_i a b ha hb
    split at h
    · rename_i hc
      exact ⟨a, b, ha, hb, hc, h⟩
    · cases h
  · cases h
theorem canon_ten (a n m d o d2 : Nat) (x y z : List UInt8) (t : Nat) : canonL shapeC (tenV a n m d o d2 x y z t) = tenV a n m d o d2 x y z t := by
  simp [canonL, shapeC, tenV, canonV]
theorem un_of_pack {vs : List V} {x : List UInt8} (h : packL shapeC vs = some x) (hc : canonL shapeC vs = vs) : unpackM shapeC x = some vs := by
  refine (unpackM_iff _ _ _).2 ⟨by decide, ?_⟩
  have := pack_un shapeC vs x [] h
  rwa [List.append_nil, hc] at this
/-- A call that was written is read. -/
theorem write_read {x : CallD} {o : List UInt8} (h : writeM x = some o) (hb : CallB x) : readM o = some x := by
  obtain ⟨a, b, ha, hb2, ⟨⟨h0, h1⟩, h2, h3, h4⟩, hp⟩ := writeM_inv h
  obtain ⟨ea, la⟩ := lab_forth ha hb.lab
  obtain ⟨eb, lb⟩ := lab_forth hb2 hb.clr
  have hu : unpackM shapeC o = some (tenV x.op.toNat x.n.toNat x.m.toNat x.dir x.obj x.dir2 a b x.data x.bits) := un_of_pack hp (canon_ten _ _ _ _ _ _ _ _ _ _)
  rw [readM_ten hu, if_pos ⟨h4, la, lb⟩, ea, eb]
  obtain ⟨op, n, m, dir, obj, dir2, lab, clr, data, bits⟩ := x
  dsimp only at *
  congr 2
  · omega
  · omega
  · omega
/-- What was read is written as those bytes. -/
theorem read_write {x : CallD} {o : List UInt8} (h : readM o = some x) : writeM x = some o := by
  cases hu : unpackM shapeC o with
  | none => rw [readM_none hu] at h; cases h
  | some vs =>
    obtain ⟨a, n, m, d, ob, d2, x', y', z', t, rfl, ok, -⟩ := un_shape hu
    rw [read_doc hu ok] at h
    split at h
    · rename_i hw
      injection h with h
      rw [← h]
      exact hw
    · cases h
theorem write_len {x : CallD} {o : List UInt8} (h : writeM x = some o) : 0 < o.length := by
  obtain ⟨a, b, -, -, -, hp⟩ := writeM_inv h
  rcases Nat.eq_zero_or_pos o.length with h0 | h0
  · obtain rfl := List.eq_nil_of_length_eq_zero h0
    obtain ⟨v, r, x1, x2, e1, e2, e3⟩ := packL_cons (c := 49) (sh := [50, 50, 56, 56, 56, 98, 98, 98, 56]) hp
    have hp' := hp
    unfold shapeC at hp'
    rw [e1] at hp'
    simp only [packL, e2, e3] at hp'
    injection hp' with hp'
    have hx1 : x1.length = 1 := by
      have e4 : letterW 49 = some 1 := rfl
      simp only [encV, e4] at e2
      split at e2
      · injection e2 with e2
        rw [← e2, be_length]
      · cases e2
    have h5 := congrArg List.length hp'
    rw [List.length_append, hx1] at h5
    have h6 : ([] : List UInt8).length = 0 := rfl
    omega
  · exact h0
theorem write_le {x : CallD} {o : List UInt8} (h : writeM x = some o) : o.length ≤ 205200 := by
  obtain ⟨a, b, -, -, -, hp⟩ := writeM_inv h
  have := packL_len _ _ _ hp
  have e : shapeC.length = 10 := rfl
  rw [e] at this
  exact Nat.le_trans this (by decide)
theorem vals_mk (vs : List V) : vals (vs.map fun v => (⟨v.1, none, 0, 0, v.2⟩ : FieldD)) = vs := by
  unfold vals
  rw [List.map_map]
  exact List.map_id _
theorem write_packM {x : CallD} {o : List UInt8} (h : writeM x = some o) : ∃ l : List FieldD, packM shapeC l = some o := by
  obtain ⟨a, b, -, -, -, hp⟩ := writeM_inv h
  refine ⟨(valsC x a b).map fun v => (⟨v.1, none, 0, 0, v.2⟩ : FieldD), ?_⟩
  rw [packM_eqL _ _ (by decide) rfl, vals_mk]
  exact hp
theorem write_more {x : CallD} {o : List UInt8} (h : writeM x = some o) : readM (o ++ [0]) = none := by
  obtain ⟨l, hl⟩ := write_packM h
  exact readM_none (more_none hl [0] (by simp))
theorem write_less {x : CallD} {o : List UInt8} (h : writeM x = some o) (k : Nat) (hk : k < o.length) : readM (o.take k) = none := by
  obtain ⟨l, hl⟩ := write_packM h
  exact readM_none (less_none hl k hk)
theorem write_inj {x y : CallD} {a b : List UInt8} (h1 : writeM x = some a) (h2 : writeM y = some b) (hx : CallB x) (hy : CallB y) : a = b ↔ x = y := by
  constructor
  · rintro rfl
    have e1 := write_read h1 hx
    have e2 := write_read h2 hy
    rw [e1] at e2
    injection e2
  · rintro rfl
    rw [h1] at h2
    injection h2
end Go.Proofs.Ytlofiinpgkclgaa

/- Calls that came in. -/
namespace Go.Proofs.Ytlofiinpgkclgaa
open Go.ChangeShapes Go.WideShapes Go.ChangeAt Go.RowKit

section
variable {H : Type} {enc : TypeId × Value → H} {w : World} {fuel : Nat} {cs : List Value} {x : DataW H × List MemPlace}
set_option maxRecDepth 100000 in
theorem trod_cat (h : DataW.trod enc Try.prog w 0 (fun _ => true) true fuel 65 cs = some x) :
    ∃ c : CatD, cs = [.int .u64 (c.id : Nat), .int .i64 c.lev] ∧ c.id < 18446744073709551616 := by
  have hc85 : Try.prog.cellsOf 23 = 1 := by kernel_rfl
  have hc3 : Try.prog.cellsOf 3 = 1 := by kernel_rfl
  have hct : Try.prog.cellsOf 65 = 2 := by kernel_rfl
  obtain ⟨xs, m, _, hx, hl, hxl, hf⟩ := DataW.trod_struct Try.underlying65 h
  rw [hct] at hl
  have hxl : xs.length = 2 := hxl
  have f0 : DataW.trod enc Try.prog w 0 (fun _ => true) true m 23 ((cs.drop 0).take (Try.prog.cellsOf 23)) = xs[0]? := hf 0 _ rfl
  rw [hc85, List.getElem?_eq_getElem (by omega)] at f0
  have f1 : DataW.trod enc Try.prog w 0 (fun _ => true) true m 3 ((cs.drop 1).take (Try.prog.cellsOf 3)) = xs[1]? := hf 1 _ rfl
  rw [hc3, List.getElem?_eq_getElem (by omega)] at f1
  obtain ⟨n0, e0, _, w0⟩ := DataW.trod_int Try.underlying23 f0
  obtain ⟨n1, e1, _, _⟩ := DataW.trod_int Try.underlying3 f1
  obtain ⟨h0, h1⟩ := u64_wf w0
  obtain ⟨k, rfl⟩ := Int.eq_ofNat_of_zero_le h0
  refine ⟨⟨k, n1⟩, ?_, show k < 18446744073709551616 by omega⟩
  have g0 := take1F e0
  have g1 := take1F e1
  match cs, hl, g0, g1 with
  | [a, b], _, g0, g1 =>
    simp at g0 g1
    subst g0 g1
    rfl
set_option maxRecDepth 100000 in
theorem trod_cats (h : DataW.trod enc Try.prog w 0 (fun _ => true) true fuel 24 cs = some x) (z : ∀ n ∈ x.1.weights Try.prog 24, n ≤ reachBytes) :
    ∃ A n c l, cs = [.slice A n c] ∧ RCats w A n c l ∧ (∀ j, j < n → (atC l j).id < 18446744073709551616) ∧ n * 16 ≤ 140737488351232 := by
  have hct : Try.prog.cellsOf 65 = 2 := by kernel_rfl
  have hbt : Try.prog.bytesOf 65 = 16 := by kernel_rfl
  rcases Go.Deep.open_slice Try.underlying24 h with ⟨rfl, _⟩ | ⟨a, len, cap, m, n, D, Pl, rfl, _, hl, hm, hmm, hx, hel⟩
  · exact ⟨none, 0, 0, [], rfl, ⟨rfl, Nat.le_refl _, by omega, fun hp => absurd hp (by omega)⟩, fun j hj => absurd hj (by omega), by omega⟩
  · simp only [if_true] at hmm
    subst hmm
    have hget : ∀ i, i < len → ∃ c : CatD, (∀ j u, ([.int .u64 (c.id : Nat), .int .i64 c.lev] : List Value)[j]? = some u → w.cell? ((a.add (i * 2)).add j) = some u) ∧ c.id < 18446744073709551616 := by
      intro i hi
      obtain ⟨cs', h1, h2⟩ := hel i (by omega)
      rw [hct] at h1
      obtain ⟨c, rfl, hok⟩ := trod_cat h2
      exact ⟨c, (cells_range h1).2, hok⟩
    have hlt : len * 16 ≤ 140737488351232 := by
      have hw := z ((((List.range len).map D).length + ((List.range (m - len)).map fun j => D (len + j)).length) * Try.prog.bytesOf 65) (by rw [hx]; simp [DataW.weights, Try.underlying24])
      rw [hbt] at hw
      simp only [List.length_map, List.length_range, reachBytes] at hw
      omega
    obtain ⟨f, hf⟩ : ∃ f : Nat → CatD, ∀ i, i < len → (∀ j u, ([.int .u64 ((f i).id : Nat), .int .i64 (f i).lev] : List Value)[j]? = some u → w.cell? ((a.add (i * 2)).add j) = some u) ∧ (f i).id < 18446744073709551616 :=
      ⟨fun i => if h : i < len then (hget i h).choose else default, fun i hi => by
        simp only [dif_pos hi]
        exact (hget i hi).choose_spec⟩
    have e : ∀ k, k < len → atC ((List.range len).map f) k = f k := fun k hk => by simp [atC, List.getD_eq_getElem?_getD, hk]
    refine ⟨some a, len, m, (List.range len).map f, rfl, ⟨by simp, hl, by simpa [maxLen] using hm, fun hp => ?_⟩, fun j hj => by rw [e j hj]; exact (hf j hj).2, hlt⟩
    obtain ⟨b, o, spot⟩ := a
    have h0 := (hf 0 hp).1 0 _ rfl
    rw [Nat.zero_mul, add_add, Nat.add_zero] at h0
    have hs : spot = none := by simpa [Addr.add] using World.cell?_spot h0
    subst hs
    refine ⟨b, o, rfl, fun k hk => ?_⟩
    rw [e k hk]
    have g0 := (hf k hk).1 0 _ rfl
    have g1 := (hf k hk).1 1 _ rfl
    rw [add_add, add_none] at g0 g1
    exact ⟨g0, g1⟩
set_option maxRecDepth 100000 in
theorem trod_label (h : DataW.trod enc Try.prog w 0 (fun _ => true) true fuel 26 cs = some x) (z : ∀ n ∈ x.1.weights Try.prog 26, n ≤ reachBytes) :
    ∃ A n c, ∃ l : LabD, cs = [.int .i64 l.dflt, .slice A n c] ∧ RLab w A n c l ∧ I64 l.dflt ∧ n * 16 ≤ 140737488351232 := by
  have hc3 : Try.prog.cellsOf 3 = 1 := by kernel_rfl
  have hcs1 : Try.prog.cellsOf 24 = 1 := by kernel_rfl
  have hct : Try.prog.cellsOf 26 = 2 := by kernel_rfl
  obtain ⟨xs, m, _, hx, hl, hxl, hf⟩ := DataW.trod_struct Try.underlying26 h
  rw [hct] at hl
  have hxl : xs.length = 2 := hxl
  have f0 : DataW.trod enc Try.prog w 0 (fun _ => true) true m 3 ((cs.drop 0).take (Try.prog.cellsOf 3)) = xs[0]? := hf 0 _ rfl
  rw [hc3, List.getElem?_eq_getElem (by omega)] at f0
  have f1 : DataW.trod enc Try.prog w 0 (fun _ => true) true m 24 ((cs.drop 1).take (Try.prog.cellsOf 24)) = xs[1]? := hf 1 _ rfl
  rw [hcs1, List.getElem?_eq_getElem (by omega)] at f1
  obtain ⟨n0, e0, _, w0⟩ := DataW.trod_int Try.underlying3 f0
  obtain ⟨A, n, c, l, e1, hr, hid, hn⟩ := trod_cats f1 (fun n hn => z n (by
    rw [hx]
    have hd : (xs.map (·.1))[1]? = some xs[1].1 := by rw [List.getElem?_map, List.getElem?_eq_getElem (by omega)]; rfl
    simp only [DataW.weights, Try.underlying26]
    exact DataW.weights_mem_each (j := 1) rfl hd n hn))
  refine ⟨A, n, c, ⟨n0, l⟩, ?_, ⟨hr, hid⟩, i64_wf w0, hn⟩
  have g0 := take1F e0
  have g1 := take1F e1
  match cs, hl, g0, g1 with
  | [a, b], _, g0, g1 =>
    simp at g0 g1
    subst g0 g1
    rfl
end
theorem take2F {α : Type} {cs : List α} {i : Nat} {u v : α} (h : (cs.drop i).take 2 = [u, v]) : cs[i]? = some u ∧ cs[i + 1]? = some v := by
  have h0 : ((cs.drop i).take 2)[0]? = some u := by rw [h]; rfl
  have h1 : ((cs.drop i).take 2)[1]? = some v := by rw [h]; rfl
  rw [List.getElem?_take, if_pos (by omega), List.getElem?_drop] at h0 h1
  exact ⟨h0, h1⟩
section
variable {H : Type} {enc : TypeId × Value → H} {W : World} {base : Nat} {v : Value} {d : DataW H} {p : List MemPlace}
set_option maxRecDepth 100000 in
theorem open_call (o : Value.okWide Try.prog W .any base 29 v) (r : DataW.Trod enc Try.prog W 0 (fun _ => true) true 29 v d p) (z : ∀ n ∈ d.weights Try.prog 29, n ≤ reachBytes) :
    ∃ x q, v = callV x q ∧ RCall W x q ∧ q.n1 * 16 ≤ 140737488355328 ∧ q.n2 * 16 ≤ 140737488355328 := by
  have hc85 : Try.prog.cellsOf 23 = 1 := by kernel_rfl
  have hc3 : Try.prog.cellsOf 3 = 1 := by kernel_rfl
  have hcl : Try.prog.cellsOf 26 = 2 := by kernel_rfl
  have hcb : Try.prog.cellsOf 27 = 1 := by kernel_rfl
  have hct : Try.prog.cellsOf 29 = 12 := by kernel_rfl
  obtain ⟨cs, rfl, hcs⟩ := okWide_struct Try.underlying29 o
  obtain ⟨fuel, hf⟩ := r
  obtain ⟨xs, m, _, hx, hl, hxl, hfe⟩ := DataW.trod_struct Try.underlying29 hf
  rw [hct] at hl
  have hxl : xs.length = 10 := hxl
  have f0 : DataW.trod enc Try.prog W 0 (fun _ => true) true m 3 (((Value.agg cs).cells.toList.drop 0).take (Try.prog.cellsOf 3)) = xs[0]? := hfe 0 _ rfl
  have f1 : DataW.trod enc Try.prog W 0 (fun _ => true) true m 3 (((Value.agg cs).cells.toList.drop 1).take (Try.prog.cellsOf 3)) = xs[1]? := hfe 1 _ rfl
  have f2 : DataW.trod enc Try.prog W 0 (fun _ => true) true m 3 (((Value.agg cs).cells.toList.drop 2).take (Try.prog.cellsOf 3)) = xs[2]? := hfe 2 _ rfl
  have f3 : DataW.trod enc Try.prog W 0 (fun _ => true) true m 23 (((Value.agg cs).cells.toList.drop 3).take (Try.prog.cellsOf 23)) = xs[3]? := hfe 3 _ rfl
  have f4 : DataW.trod enc Try.prog W 0 (fun _ => true) true m 23 (((Value.agg cs).cells.toList.drop 4).take (Try.prog.cellsOf 23)) = xs[4]? := hfe 4 _ rfl
  have f5 : DataW.trod enc Try.prog W 0 (fun _ => true) true m 23 (((Value.agg cs).cells.toList.drop 5).take (Try.prog.cellsOf 23)) = xs[5]? := hfe 5 _ rfl
  have f6 : DataW.trod enc Try.prog W 0 (fun _ => true) true m 26 (((Value.agg cs).cells.toList.drop 6).take (Try.prog.cellsOf 26)) = xs[6]? := hfe 6 _ rfl
  have f7 : DataW.trod enc Try.prog W 0 (fun _ => true) true m 26 (((Value.agg cs).cells.toList.drop 8).take (Try.prog.cellsOf 26)) = xs[7]? := hfe 7 _ rfl
  have f8 : DataW.trod enc Try.prog W 0 (fun _ => true) true m 27 (((Value.agg cs).cells.toList.drop 10).take (Try.prog.cellsOf 27)) = xs[8]? := hfe 8 _ rfl
  have f9 : DataW.trod enc Try.prog W 0 (fun _ => true) true m 23 (((Value.agg cs).cells.toList.drop 11).take (Try.prog.cellsOf 23)) = xs[9]? := hfe 9 _ rfl
  rw [hc85, List.getElem?_eq_getElem (by omega)] at f3 f4 f5 f9
  rw [hc3, List.getElem?_eq_getElem (by omega)] at f0 f1 f2
  rw [hcl, List.getElem?_eq_getElem (by omega)] at f6 f7
  rw [hcb, List.getElem?_eq_getElem (by omega)] at f8
  have hd : ∀ (j : Nat) (hj : j < 10), (xs.map (·.1))[j]? = some (xs[j]'(by omega)).1 := fun j hj => by rw [List.getElem?_map, List.getElem?_eq_getElem (by omega)]; rfl
  have zz : ∀ n ∈ (d.weights Try.prog 29), n ≤ reachBytes := z
  have hdx := (Prod.mk.inj hx).1
  obtain ⟨n0, e0, _, w0⟩ := DataW.trod_int Try.underlying3 f0
  obtain ⟨n1, e1, _, w1⟩ := DataW.trod_int Try.underlying3 f1
  obtain ⟨n2, e2, _, w2⟩ := DataW.trod_int Try.underlying3 f2
  obtain ⟨n3, e3, _, w3⟩ := DataW.trod_int Try.underlying23 f3
  obtain ⟨n4, e4, _, w4⟩ := DataW.trod_int Try.underlying23 f4
  obtain ⟨n5, e5, _, w5⟩ := DataW.trod_int Try.underlying23 f5
  obtain ⟨A6, n6, c6, l6, e6, r6, b6, z6⟩ := trod_label f6 (fun n hn => zz n (by
    rw [hdx]
    simp only [DataW.weights, Try.underlying29]
    exact DataW.weights_mem_each (j := 6) rfl (hd 6 (by omega)) n hn))
  obtain ⟨A7, n7, c7, l7, e7, r7, b7, z7⟩ := trod_label f7 (fun n hn => zz n (by
    rw [hdx]
    simp only [DataW.weights, Try.underlying29]
    exact DataW.weights_mem_each (j := 7) rfl (hd 7 (by omega)) n hn))
  obtain ⟨A8, n8, c8, bs, e8, r8, z8⟩ := trod_u8s Try.underlying27 Try.underlying5 (by kernel_rfl) (by kernel_rfl) f8 (fun n hn => zz n (by
    rw [hdx]
    simp only [DataW.weights, Try.underlying29]
    exact DataW.weights_mem_each (j := 8) rfl (hd 8 (by omega)) n hn))
  obtain ⟨n9, e9, _, w9⟩ := DataW.trod_int Try.underlying23 f9
  obtain ⟨h3, h3'⟩ := u64_wf w3
  obtain ⟨h4, h4'⟩ := u64_wf w4
  obtain ⟨h5, h5'⟩ := u64_wf w5
  obtain ⟨h9, h9'⟩ := u64_wf w9
  obtain ⟨q3, rfl⟩ := Int.eq_ofNat_of_zero_le h3
  obtain ⟨q4, rfl⟩ := Int.eq_ofNat_of_zero_le h4
  obtain ⟨q5, rfl⟩ := Int.eq_ofNat_of_zero_le h5
  obtain ⟨q9, rfl⟩ := Int.eq_ofNat_of_zero_le h9
  refine ⟨⟨n0, n1, n2, q3, q4, q5, l6, l7, bs, q9⟩, ⟨A6, n6, c6, A7, n7, c7, A8, n8, c8⟩, ?_, ⟨r6, r7, r8, z8, i64_wf w0, i64_wf w1, i64_wf w2, b6, b7, ⟨by show q3 < _; omega, by show q4 < _; omega, by show q5 < _; omega, by show q9 < _; omega⟩⟩, by show n6 * 16 ≤ _; omega, by show n7 * 16 ≤ _; omega⟩
  have g0 := take1F e0
  have g1 := take1F e1
  have g2 := take1F e2
  have g3 := take1F e3
  have g4 := take1F e4
  have g5 := take1F e5
  obtain ⟨g6, g6'⟩ := take2F e6
  obtain ⟨g7, g7'⟩ := take2F e7
  have g8 := take1F e8
  have g9 := take1F e9
  obtain ⟨cl⟩ := cs
  match cl, hl, g0, g1, g2, g3, g4, g5, g6, g6', g7, g7', g8, g9 with
  | [a0, a1, a2, a3, a4, a5, a6, a7, a8, a9, a10, a11], _, g0, g1, g2, g3, g4, g5, g6, g6', g7, g7', g8, g9 =>
    simp [Value.cells] at g0 g1 g2 g3 g4 g5 g6 g6' g7 g7' g8 g9
    subst g0 g1 g2 g3 g4 g5 g6 g6' g7 g7' g8 g9
    rfl
end
end Go.Proofs.Ytlofiinpgkclgaa
