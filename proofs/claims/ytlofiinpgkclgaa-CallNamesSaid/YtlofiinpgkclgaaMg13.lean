/- Same: are two calls the same? The program's and the document's. -/
import Derived.Test.YtlofiinpgkclgaaMg5
import Derived.Test.YtlofiinpgkclgaaMg4
import Derived.Test.YtlofiinpgkclgaaMg12
namespace Go.Proofs.Ytlofiinpgkclgaa
open Go.RowKit

set_option maxRecDepth 20000 in
set_option maxHeartbeats 6400000 in
theorem call_Same (x y : CallD) (p q : CallP) (w : World) (hx : RCall w x p) (hy : RCall w y q) : Calls Try.prog 15 #[callV x p, callV y q] w fun e w' => e = .returned (.bool (decide (x = y))) ∧ Below w.heap.size w w' := by
  have HB := Lib.hid (balloc (below_alloc w (.cells (callCells x p) 29)) (.cells (callCells y q) 29))
  have HBX := Lib.hid ((Box12.new w x p).below (below_alloc _ (.cells (callCells y q) 29)))
  have HBY : Hid (Box12 ((w.alloc (.cells (callCells x p) 29)).alloc (.cells (callCells y q) 29)) (w.heap.size + 1) y q) := Lib.hid (by
    have := Box12.new (w.alloc (.cells (callCells x p) 29)) y q
    rwa [World.size_alloc] at this)
  have HL1 := Lib.hid (fun w' (hb : Below w.heap.size w w') => call_sameLabel (x := x.lab) (y := y.lab) (hx.lab.cats.below hb) (hy.lab.cats.below hb))
  have HL2 := Lib.hid (fun w' (hb : Below w.heap.size w w') => call_sameLabel (x := x.clr) (y := y.clr) (hx.clr.cats.below hb) (hy.clr.cats.below hb))
  have HD := Lib.hid (fun w' (hb : Below w.heap.size w w') => equal_bytes (hx.data.below hb) (hy.data.below hb))
  obtain ⟨op, nn, mm, dir, obj, dir2, lab, clr, data, bits⟩ := x
  obtain ⟨op', nn', mm', dir', obj', dir2', lab', clr', data', bits'⟩ := y
  obtain ⟨A1, n1, c1, A2, n2, c2, A3, n3, c3⟩ := p
  obtain ⟨B1, m1, d1, B2, m2, d2, B3, m3, d3⟩ := q
  obtain ⟨k0, k1, k2, k3, k4, k5, k6, k7, k8, k9, k10, k11⟩ := HBX.out.cells
  obtain ⟨j0, j1, j2, j3, j4, j5, j6, j7, j8, j9, j10, j11⟩ := HBY.out.cells
  unfold callV
  unfold callCells at *
  dsimp only at *
  go_enter Try.func15, Try.ntmps15
  by_cases hop : op = op'
  · subst hop
    by_cases hnn : nn = nn'
    · subst hnn
      by_cases hmm : mm = mm'
      · subst hmm
        by_cases hdir : dir = dir'
        · subst hdir
          by_cases hobj : obj = obj'
          · subst hobj
            by_cases hdir2 : dir2 = dir2'
            · subst hdir2
              by_cases hbits : bits = bits'
              · subst hbits
                have HX3 := Lib.hid hx; have HY3 := Lib.hid hy
                clear hx hy
                by_cases hlab : lab = lab'
                · have HLA := Lib.hid (HL1.out _ HB.out)
                  rw [decide_eq_true hlab] at HLA
                  subst hlab
                  go_wp2_with fail
                  refine HLA.out.mono ?_
                  rintro e w3 ⟨rfl, hb3⟩
                  have HB' := Lib.hid (bthen HB.out hb3)
                  have HBX' := Lib.hid (HBX.out.below hb3); have HBY' := Lib.hid (HBY.out.below hb3)
                  clear HB HBX HBY hb3 k0 k1 k2 k3 k4 k5 k6 k7 k8 k9 k10 k11 j0 j1 j2 j3 j4 j5 j6 j7 j8 j9 j10 j11
                  rename Hid (Below w.heap.size w w3) => HB
                  rename Hid (Box12 w3 w.heap.size _ _) => HBX
                  rename Hid (Box12 w3 (w.heap.size + 1) _ _) => HBY
                  obtain ⟨k0, k1, k2, k3, k4, k5, k6, k7, k8, k9, k10, k11⟩ := HBX.out.cells
                  obtain ⟨j0, j1, j2, j3, j4, j5, j6, j7, j8, j9, j10, j11⟩ := HBY.out.cells
                  dsimp only at k0 k1 k2 k3 k4 k5 k6 k7 k8 k9 k10 k11 j0 j1 j2 j3 j4 j5 j6 j7 j8 j9 j10 j11
                  by_cases hclr : clr = clr'
                  · have HLC := Lib.hid (HL2.out _ HB.out)
                    rw [decide_eq_true hclr] at HLC
                    subst hclr
                    go_wp2_with fail
                    refine HLC.out.mono ?_
                    rintro e w3 ⟨rfl, hb3⟩
                    have HB' := Lib.hid (bthen HB.out hb3)
                    have HBX' := Lib.hid (HBX.out.below hb3); have HBY' := Lib.hid (HBY.out.below hb3)
                    clear HB HBX HBY hb3 k0 k1 k2 k3 k4 k5 k6 k7 k8 k9 k10 k11 j0 j1 j2 j3 j4 j5 j6 j7 j8 j9 j10 j11
                    rename Hid (Below w.heap.size w w3) => HB
                    rename Hid (Box12 w3 w.heap.size _ _) => HBX
                    rename Hid (Box12 w3 (w.heap.size + 1) _ _) => HBY
                    obtain ⟨k0, k1, k2, k3, k4, k5, k6, k7, k8, k9, k10, k11⟩ := HBX.out.cells
                    obtain ⟨j0, j1, j2, j3, j4, j5, j6, j7, j8, j9, j10, j11⟩ := HBY.out.cells
                    dsimp only at k0 k1 k2 k3 k4 k5 k6 k7 k8 k9 k10 k11 j0 j1 j2 j3 j4 j5 j6 j7 j8 j9 j10 j11
                    have HEQ := Lib.hid (show decide ((⟨op, nn, mm, dir, obj, dir2, lab, clr, data, bits⟩ : CallD) = ⟨op, nn, mm, dir, obj, dir2, lab, clr, data', bits⟩) = decide (data = data') by simp)
                    have HDA := Lib.hid (HD.out _ HB.out)
                    go_wp2_with fail
                    refine HDA.out.mono ?_
                    rintro e w5 ⟨rfl, hb5⟩
                    have HB5 := Lib.hid (bthen HB.out hb5)
                    clear hb5
                    go_wp2_with fail
                    go_ret
                    exact ⟨by rw [HEQ.out]; rfl, HB5.out⟩
                  · have HLC := Lib.hid (HL2.out _ HB.out)
                    rw [decide_eq_false hclr] at HLC
                    have HF := Lib.hid (decide_eq_false (show ¬ ((⟨op, nn, mm, dir, obj, dir2, lab, clr, data, bits⟩ : CallD) = ⟨op, nn, mm, dir, obj, dir2, lab, clr', data', bits⟩) from fun e => hclr (by injection e)))
                    go_wp2_with fail
                    refine HLC.out.mono ?_
                    rintro e w3 ⟨rfl, hb3⟩
                    have HB' := Lib.hid (bthen HB.out hb3)
                    clear hb3
                    go_wp2_with fail
                    go_ret
                    exact ⟨by first | rfl | (rw [HF.out]; rfl), HB'.out⟩
                · have HLA := Lib.hid (HL1.out _ HB.out)
                  rw [decide_eq_false hlab] at HLA
                  have HF := Lib.hid (decide_eq_false (show ¬ ((⟨op, nn, mm, dir, obj, dir2, lab, clr, data, bits⟩ : CallD) = ⟨op, nn, mm, dir, obj, dir2, lab', clr', data', bits⟩) from fun e => hlab (by injection e)))
                  go_wp2_with fail
                  refine HLA.out.mono ?_
                  rintro e w3 ⟨rfl, hb3⟩
                  have HB' := Lib.hid (bthen HB.out hb3)
                  clear hb3
                  go_wp2_with fail
                  go_ret
                  exact ⟨by first | rfl | (rw [HF.out]; rfl), HB'.out⟩
              · have HF := Lib.hid (decide_eq_false (show ¬ ((⟨op, nn, mm, dir, obj, dir2, lab, clr, data, bits⟩ : CallD) = ⟨op, nn, mm, dir, obj, dir2, lab', clr', data', bits'⟩) from fun e => hbits (by injection e)))
                have hni : ¬ ((bits : Int) = (bits' : Int)) := by omega
                have hnj : ((bits : Int) != (bits' : Int)) = true := by rw [bne_iff_ne]; exact hni
                clear hx hy
                go_wp2_with fail
                go_ret
                exact ⟨by first | rfl | (rw [HF.out]; rfl), HB.out⟩
            · have HF := Lib.hid (decide_eq_false (show ¬ ((⟨op, nn, mm, dir, obj, dir2, lab, clr, data, bits⟩ : CallD) = ⟨op, nn, mm, dir, obj, dir2', lab', clr', data', bits'⟩) from fun e => hdir2 (by injection e)))
              have hni : ¬ ((dir2 : Int) = (dir2' : Int)) := by omega
              have hnj : ((dir2 : Int) != (dir2' : Int)) = true := by rw [bne_iff_ne]; exact hni
              clear hx hy
              go_wp2_with fail
              go_ret
              exact ⟨by first | rfl | (rw [HF.out]; rfl), HB.out⟩
          · have HF := Lib.hid (decide_eq_false (show ¬ ((⟨op, nn, mm, dir, obj, dir2, lab, clr, data, bits⟩ : CallD) = ⟨op, nn, mm, dir, obj', dir2', lab', clr', data', bits'⟩) from fun e => hobj (by injection e)))
            have hni : ¬ ((obj : Int) = (obj' : Int)) := by omega
            have hnj : ((obj : Int) != (obj' : Int)) = true := by rw [bne_iff_ne]; exact hni
            clear hx hy
            go_wp2_with fail
            go_ret
            exact ⟨by first | rfl | (rw [HF.out]; rfl), HB.out⟩
        · have HF := Lib.hid (decide_eq_false (show ¬ ((⟨op, nn, mm, dir, obj, dir2, lab, clr, data, bits⟩ : CallD) = ⟨op, nn, mm, dir', obj', dir2', lab', clr', data', bits'⟩) from fun e => hdir (by injection e)))
          have hni : ¬ ((dir : Int) = (dir' : Int)) := by omega
          have hnj : ((dir : Int) != (dir' : Int)) = true := by rw [bne_iff_ne]; exact hni
          clear hx hy
          go_wp2_with fail
          go_ret
          exact ⟨by first | rfl | (rw [HF.out]; rfl), HB.out⟩
      · have HF := Lib.hid (decide_eq_false (show ¬ ((⟨op, nn, mm, dir, obj, dir2, lab, clr, data, bits⟩ : CallD) = ⟨op, nn, mm', dir', obj', dir2', lab', clr', data', bits'⟩) from fun e => hmm (by injection e)))
        have hni : ¬ ((mm : Int) = (mm' : Int)) := by omega
        have hnj : ((mm : Int) != (mm' : Int)) = true := by rw [bne_iff_ne]; exact hni
        clear hx hy
        go_wp2_with fail
        go_ret
        exact ⟨by first | rfl | (rw [HF.out]; rfl), HB.out⟩
    · have HF := Lib.hid (decide_eq_false (show ¬ ((⟨op, nn, mm, dir, obj, dir2, lab, clr, data, bits⟩ : CallD) = ⟨op, nn', mm', dir', obj', dir2', lab', clr', data', bits'⟩) from fun e => hnn (by injection e)))
      have hni : ¬ ((nn : Int) = (nn' : Int)) := by omega
      have hnj : ((nn : Int) != (nn' : Int)) = true := by rw [bne_iff_ne]; exact hni
      clear hx hy
      go_wp2_with fail
      go_ret
      exact ⟨by first | rfl | (rw [HF.out]; rfl), HB.out⟩
  · have HF := Lib.hid (decide_eq_false (show ¬ ((⟨op, nn, mm, dir, obj, dir2, lab, clr, data, bits⟩ : CallD) = ⟨op', nn', mm', dir', obj', dir2', lab', clr', data', bits'⟩) from fun e => hop (by injection e)))
    have hni : ¬ ((op : Int) = (op' : Int)) := by omega
    have hnj : ((op : Int) != (op' : Int)) = true := by rw [bne_iff_ne]; exact hni
    clear hx hy
    go_wp2_with fail
    go_ret
    exact ⟨by first | rfl | (rw [HF.out]; rfl), HB.out⟩
set_option maxRecDepth 20000 in
set_option maxHeartbeats 6400000 in
theorem ref19_Same (x y : CallD) (p q : CallP) (w : World) (hx : RCall w x p) (hy : RCall w y q) : Calls Try.prog 12 #[callV x p, callV y q] w fun e w' => e = .returned (.bool (decide (x = y))) ∧ Below w.heap.size w w' := by
  have HB := Lib.hid (balloc (below_alloc w (.cells (callCells x p) 29)) (.cells (callCells y q) 29))
  have HBX := Lib.hid ((Box12.new w x p).below (below_alloc _ (.cells (callCells y q) 29)))
  have HBY : Hid (Box12 ((w.alloc (.cells (callCells x p) 29)).alloc (.cells (callCells y q) 29)) (w.heap.size + 1) y q) := Lib.hid (by
    have := Box12.new (w.alloc (.cells (callCells x p) 29)) y q
    rwa [World.size_alloc] at this)
  have HL1 := Lib.hid (fun w' (hb : Below w.heap.size w w') => ref09_Exact (x := x.lab) (y := y.lab) (hx.lab.cats.below hb) (hy.lab.cats.below hb))
  have HL2 := Lib.hid (fun w' (hb : Below w.heap.size w w') => ref09_Exact (x := x.clr) (y := y.clr) (hx.clr.cats.below hb) (hy.clr.cats.below hb))
  have HD := Lib.hid (fun w' (hb : Below w.heap.size w w') => equal_bytes (hx.data.below hb) (hy.data.below hb))
  obtain ⟨op, nn, mm, dir, obj, dir2, lab, clr, data, bits⟩ := x
  obtain ⟨op', nn', mm', dir', obj', dir2', lab', clr', data', bits'⟩ := y
  obtain ⟨A1, n1, c1, A2, n2, c2, A3, n3, c3⟩ := p
  obtain ⟨B1, m1, d1, B2, m2, d2, B3, m3, d3⟩ := q
  obtain ⟨k0, k1, k2, k3, k4, k5, k6, k7, k8, k9, k10, k11⟩ := HBX.out.cells
  obtain ⟨j0, j1, j2, j3, j4, j5, j6, j7, j8, j9, j10, j11⟩ := HBY.out.cells
  unfold callV
  unfold callCells at *
  dsimp only at *
  go_enter Try.func12, Try.ntmps12
  by_cases hop : op = op'
  · subst hop
    by_cases hnn : nn = nn'
    · subst hnn
      by_cases hmm : mm = mm'
      · subst hmm
        by_cases hdir : dir = dir'
        · subst hdir
          by_cases hobj : obj = obj'
          · subst hobj
            by_cases hdir2 : dir2 = dir2'
            · subst hdir2
              by_cases hbits : bits = bits'
              · subst hbits
                have HX3 := Lib.hid hx; have HY3 := Lib.hid hy
                clear hx hy
                by_cases hlab : lab = lab'
                · have HLA := Lib.hid (HL1.out _ HB.out)
                  rw [decide_eq_true hlab] at HLA
                  subst hlab
                  go_wp2_with fail
                  refine HLA.out.mono ?_
                  rintro e w3 ⟨rfl, hb3⟩
                  have HB' := Lib.hid (bthen HB.out hb3)
                  have HBX' := Lib.hid (HBX.out.below hb3); have HBY' := Lib.hid (HBY.out.below hb3)
                  clear HB HBX HBY hb3 k0 k1 k2 k3 k4 k5 k6 k7 k8 k9 k10 k11 j0 j1 j2 j3 j4 j5 j6 j7 j8 j9 j10 j11
                  rename Hid (Below w.heap.size w w3) => HB
                  rename Hid (Box12 w3 w.heap.size _ _) => HBX
                  rename Hid (Box12 w3 (w.heap.size + 1) _ _) => HBY
                  obtain ⟨k0, k1, k2, k3, k4, k5, k6, k7, k8, k9, k10, k11⟩ := HBX.out.cells
                  obtain ⟨j0, j1, j2, j3, j4, j5, j6, j7, j8, j9, j10, j11⟩ := HBY.out.cells
                  dsimp only at k0 k1 k2 k3 k4 k5 k6 k7 k8 k9 k10 k11 j0 j1 j2 j3 j4 j5 j6 j7 j8 j9 j10 j11
                  by_cases hclr : clr = clr'
                  · have HLC := Lib.hid (HL2.out _ HB.out)
                    rw [decide_eq_true hclr] at HLC
                    subst hclr
                    go_wp2_with fail
                    refine HLC.out.mono ?_
                    rintro e w3 ⟨rfl, hb3⟩
                    have HB' := Lib.hid (bthen HB.out hb3)
                    have HBX' := Lib.hid (HBX.out.below hb3); have HBY' := Lib.hid (HBY.out.below hb3)
                    clear HB HBX HBY hb3 k0 k1 k2 k3 k4 k5 k6 k7 k8 k9 k10 k11 j0 j1 j2 j3 j4 j5 j6 j7 j8 j9 j10 j11
                    rename Hid (Below w.heap.size w w3) => HB
                    rename Hid (Box12 w3 w.heap.size _ _) => HBX
                    rename Hid (Box12 w3 (w.heap.size + 1) _ _) => HBY
                    obtain ⟨k0, k1, k2, k3, k4, k5, k6, k7, k8, k9, k10, k11⟩ := HBX.out.cells
                    obtain ⟨j0, j1, j2, j3, j4, j5, j6, j7, j8, j9, j10, j11⟩ := HBY.out.cells
                    dsimp only at k0 k1 k2 k3 k4 k5 k6 k7 k8 k9 k10 k11 j0 j1 j2 j3 j4 j5 j6 j7 j8 j9 j10 j11
                    have HEQ := Lib.hid (show decide ((⟨op, nn, mm, dir, obj, dir2, lab, clr, data, bits⟩ : CallD) = ⟨op, nn, mm, dir, obj, dir2, lab, clr, data', bits⟩) = decide (data = data') by simp)
                    have hs1 := (HX3.out.below HB.out).data.string (P := Try.prog) (src := 27) (dst := 9) Try.underlying27 Try.underlying5 Try.underlying9
                    have hs2 := (HY3.out.below HB.out).data.string (P := Try.prog) (src := 27) (dst := 9) Try.underlying27 Try.underlying5 Try.underlying9
                    dsimp only at hs1 hs2
                    by_cases hdd : data = data'
                    · subst hdd
                      have hq := str_eq data
                      clear HEQ
                      go_wp2_with fail
                      go_ret
                      exact ⟨rfl, HB.out⟩
                    · have hq := str_ne hdd
                      have HT := Lib.hid (show decide ((⟨op, nn, mm, dir, obj, dir2, lab, clr, data, bits⟩ : CallD) = ⟨op, nn, mm, dir, obj, dir2, lab, clr, data', bits⟩) = false by simp [hdd])
                      clear HEQ hdd
                      go_wp2_with fail
                      go_ret
                      exact ⟨by first | rfl | (rw [HT.out]; rfl), HB.out⟩
                  · have HLC := Lib.hid (HL2.out _ HB.out)
                    rw [decide_eq_false hclr] at HLC
                    have HF := Lib.hid (decide_eq_false (show ¬ ((⟨op, nn, mm, dir, obj, dir2, lab, clr, data, bits⟩ : CallD) = ⟨op, nn, mm, dir, obj, dir2, lab, clr', data', bits⟩) from fun e => hclr (by injection e)))
                    go_wp2_with fail
                    refine HLC.out.mono ?_
                    rintro e w3 ⟨rfl, hb3⟩
                    have HB' := Lib.hid (bthen HB.out hb3)
                    clear hb3
                    go_wp2_with fail
                    go_ret
                    exact ⟨by first | rfl | (rw [HF.out]; rfl), HB'.out⟩
                · have HLA := Lib.hid (HL1.out _ HB.out)
                  rw [decide_eq_false hlab] at HLA
                  have HF := Lib.hid (decide_eq_false (show ¬ ((⟨op, nn, mm, dir, obj, dir2, lab, clr, data, bits⟩ : CallD) = ⟨op, nn, mm, dir, obj, dir2, lab', clr', data', bits⟩) from fun e => hlab (by injection e)))
                  go_wp2_with fail
                  refine HLA.out.mono ?_
                  rintro e w3 ⟨rfl, hb3⟩
                  have HB' := Lib.hid (bthen HB.out hb3)
                  clear hb3
                  go_wp2_with fail
                  go_ret
                  exact ⟨by first | rfl | (rw [HF.out]; rfl), HB'.out⟩
              · have HF := Lib.hid (decide_eq_false (show ¬ ((⟨op, nn, mm, dir, obj, dir2, lab, clr, data, bits⟩ : CallD) = ⟨op, nn, mm, dir, obj, dir2, lab', clr', data', bits'⟩) from fun e => hbits (by injection e)))
                have hni : ¬ ((bits : Int) = (bits' : Int)) := by omega
                have hnj : ((bits : Int) != (bits' : Int)) = true := by rw [bne_iff_ne]; exact hni
                clear hx hy
                go_wp2_with fail
                go_ret
                exact ⟨by first | rfl | (rw [HF.out]; rfl), HB.out⟩
            · have HF := Lib.hid (decide_eq_false (show ¬ ((⟨op, nn, mm, dir, obj, dir2, lab, clr, data, bits⟩ : CallD) = ⟨op, nn, mm, dir, obj, dir2', lab', clr', data', bits'⟩) from fun e => hdir2 (by injection e)))
              have hni : ¬ ((dir2 : Int) = (dir2' : Int)) := by omega
              have hnj : ((dir2 : Int) != (dir2' : Int)) = true := by rw [bne_iff_ne]; exact hni
              clear hx hy
              go_wp2_with fail
              go_ret
              exact ⟨by first | rfl | (rw [HF.out]; rfl), HB.out⟩
          · have HF := Lib.hid (decide_eq_false (show ¬ ((⟨op, nn, mm, dir, obj, dir2, lab, clr, data, bits⟩ : CallD) = ⟨op, nn, mm, dir, obj', dir2', lab', clr', data', bits'⟩) from fun e => hobj (by injection e)))
            have hni : ¬ ((obj : Int) = (obj' : Int)) := by omega
            have hnj : ((obj : Int) != (obj' : Int)) = true := by rw [bne_iff_ne]; exact hni
            clear hx hy
            go_wp2_with fail
            go_ret
            exact ⟨by first | rfl | (rw [HF.out]; rfl), HB.out⟩
        · have HF := Lib.hid (decide_eq_false (show ¬ ((⟨op, nn, mm, dir, obj, dir2, lab, clr, data, bits⟩ : CallD) = ⟨op, nn, mm, dir', obj', dir2', lab', clr', data', bits'⟩) from fun e => hdir (by injection e)))
          have hni : ¬ ((dir : Int) = (dir' : Int)) := by omega
          have hnj : ((dir : Int) != (dir' : Int)) = true := by rw [bne_iff_ne]; exact hni
          clear hx hy
          go_wp2_with fail
          go_ret
          exact ⟨by first | rfl | (rw [HF.out]; rfl), HB.out⟩
      · have HF := Lib.hid (decide_eq_false (show ¬ ((⟨op, nn, mm, dir, obj, dir2, lab, clr, data, bits⟩ : CallD) = ⟨op, nn, mm', dir', obj', dir2', lab', clr', data', bits'⟩) from fun e => hmm (by injection e)))
        have hni : ¬ ((mm : Int) = (mm' : Int)) := by omega
        have hnj : ((mm : Int) != (mm' : Int)) = true := by rw [bne_iff_ne]; exact hni
        clear hx hy
        go_wp2_with fail
        go_ret
        exact ⟨by first | rfl | (rw [HF.out]; rfl), HB.out⟩
    · have HF := Lib.hid (decide_eq_false (show ¬ ((⟨op, nn, mm, dir, obj, dir2, lab, clr, data, bits⟩ : CallD) = ⟨op, nn', mm', dir', obj', dir2', lab', clr', data', bits'⟩) from fun e => hnn (by injection e)))
      have hni : ¬ ((nn : Int) = (nn' : Int)) := by omega
      have hnj : ((nn : Int) != (nn' : Int)) = true := by rw [bne_iff_ne]; exact hni
      clear hx hy
      go_wp2_with fail
      go_ret
      exact ⟨by first | rfl | (rw [HF.out]; rfl), HB.out⟩
  · have HF := Lib.hid (decide_eq_false (show ¬ ((⟨op, nn, mm, dir, obj, dir2, lab, clr, data, bits⟩ : CallD) = ⟨op', nn', mm', dir', obj', dir2', lab', clr', data', bits'⟩) from fun e => hop (by injection e)))
    have hni : ¬ ((op : Int) = (op' : Int)) := by omega
    have hnj : ((op : Int) != (op' : Int)) = true := by rw [bne_iff_ne]; exact hni
    clear hx hy
    go_wp2_with fail
    go_ret
    exact ⟨by first | rfl | (rw [HF.out]; rfl), HB.out⟩
end Go.Proofs.Ytlofiinpgkclgaa

/- The law's example: a halt, written and read. -/
namespace Go.Proofs.Ytlofiinpgkclgaa
open Go.RowKit

def haltC : CallD := ⟨22, 0, 0, 0, 0, 0, ⟨0, []⟩, ⟨0, []⟩, [], 0⟩
def haltB : List UInt8 := [22, 0, 0, 0, 0, 0, 0, 0, 0, 0, 0, 0, 0, 0, 0, 0, 0, 0, 0, 0, 0, 0, 0, 0, 0, 0, 0, 0, 0, 0, 1, 0, 0, 1, 0, 0, 0, 0, 0, 0, 0, 0, 0, 0, 0]
theorem halt_write : writeM haltC = some haltB := by decide
theorem halt_read : readM haltB = some haltC := by decide
theorem rcall_halt (w : World) : RCall w haltC zeroP :=
  ⟨⟨rcats_nil w, fun j hj => absurd hj (by show ¬ j < 0; omega)⟩, ⟨rcats_nil w, fun j hj => absurd hj (by show ¬ j < 0; omega)⟩, RB.nil w, Nat.zero_le _, ⟨by decide, by decide⟩, ⟨by decide, by decide⟩, ⟨by decide, by decide⟩, ⟨by decide, by decide⟩, ⟨by decide, by decide⟩, ⟨by decide, by decide, by decide, by decide⟩⟩
set_option maxRecDepth 20000 in
set_option maxHeartbeats 3200000 in
theorem callAlive_true (w : World) : Calls Try.prog 8 #[] w fun e w' => e = .returned (.bool true) ∧ Below w.heap.size w w' := by
  go_enter Try.func8, Try.ntmps8
  go_wp2_with fail
  refine (call_Write haltC zeroP w (rcall_halt w)).mono ?_
  rw [halt_write]
  rintro e w1 ⟨hb1, ⟨A1, c1, o, ho, rfl, hr1⟩ | ⟨hno, -⟩⟩
  · injection ho with ho
    subst ho
    rw [show haltB.length = 45 from rfl] at hr1 ⊢
    have HB1 := Lib.hid hb1; have HR1 := Lib.hid hr1
    clear hb1 hr1
    go_wp2_with fail
    refine (call_Read A1 45 c1 haltB w1 HR1.out).mono ?_
    rw [halt_read]
    rintro e w2 ⟨hb2, x, p, z, rfl, hrc, -, -, hcase⟩
    obtain ⟨rfl, rfl⟩ : x = haltC ∧ z = 0 := by
      rcases hcase with ⟨h1, h2⟩ | ⟨h1, -, -⟩
      · injection h1 with h1
        exact ⟨h1.symm, h2⟩
      · cases h1
    have HB2 := Lib.hid (bthen HB1.out hb2)
    have hr2 := HR1.out.below hb2
    obtain ⟨A1, n1, c1, A2, n2, c2, A3, n3, c3⟩ := p
    have HRC : Hid (RCall (w2.alloc (.cells #[.int .i64 22, .int .i64 0, .int .i64 0, .int .u64 0, .int .u64 0, .int .u64 0, .int .i64 0, .slice A1 n1 c1, .int .i64 0, .slice A2 n2 c2, .slice A3 n3 c3, .int .u64 0] 29)) haltC ⟨A1, n1, c1, A2, n2, c2, A3, n3, c3⟩) := Lib.hid (hrc.below (below_alloc w2 _))
    have HB3 : Hid (Below w.heap.size w (w2.alloc (.cells #[.int .i64 22, .int .i64 0, .int .i64 0, .int .u64 0, .int .u64 0, .int .u64 0, .int .i64 0, .slice A1 n1 c1, .int .i64 0, .slice A2 n2 c2, .slice A3 n3 c3, .int .u64 0] 29))) := Lib.hid (balloc HB2.out _)
    clear hrc hb2 hcase
    obtain ⟨b, o, rfl, hcs⟩ := (hr2.below (below_alloc w2 (.cells #[.int .i64 22, .int .i64 0, .int .i64 0, .int .u64 0, .int .u64 0, .int .u64 0, .int .i64 0, .slice A1 n1 c1, .int .i64 0, .slice A2 n2 c2, .slice A3 n3 c3, .int .u64 0] 29))).2.2.2 (by omega)
    have i0 : (w2.alloc (.cells #[.int .i64 22, .int .i64 0, .int .i64 0, .int .u64 0, .int .u64 0, .int .u64 0, .int .i64 0, .slice A1 n1 c1, .int .i64 0, .slice A2 n2 c2, .slice A3 n3 c3, .int .u64 0] 29)).cell? ⟨b, o, none⟩ = some (.int .u8 22) := hcs 0 (by omega)
    have i30 : (w2.alloc (.cells #[.int .i64 22, .int .i64 0, .int .i64 0, .int .u64 0, .int .u64 0, .int .u64 0, .int .i64 0, .slice A1 n1 c1, .int .i64 0, .slice A2 n2 c2, .slice A3 n3 c3, .int .u64 0] 29)).cell? ⟨b, o + 30, none⟩ = some (.int .u8 1) := hcs 30 (by omega)
    have HS := Lib.hid (call_Same haltC haltC ⟨A1, n1, c1, A2, n2, c2, A3, n3, c3⟩ zeroP _ HRC.out (rcall_halt _))
    rw [decide_eq_true rfl] at HS
    clear hcs hr2
    rw [show callV haltC ⟨A1, n1, c1, A2, n2, c2, A3, n3, c3⟩ = .agg #[.int .i64 22, .int .i64 0, .int .i64 0, .int .u64 0, .int .u64 0, .int .u64 0, .int .i64 0, .slice A1 n1 c1, .int .i64 0, .slice A2 n2 c2, .slice A3 n3 c3, .int .u64 0] from rfl]
    go_wp2_with fail
    refine HS.out.mono ?_
    rintro e w5 ⟨rfl, hb5⟩
    have HB5 := Lib.hid (bthen HB3.out hb5)
    clear hb5
    go_wp2_with fail
    go_ret
    exact ⟨rfl, HB5.out⟩
  · cases hno
end Go.Proofs.Ytlofiinpgkclgaa

/- The walk of CallNames. -/
namespace Go.Proofs.Ytlofiinpgkclgaa
open Go.RowKit

set_option maxRecDepth 20000 in
set_option maxHeartbeats 1600000 in
theorem callNames_main (w : World) : Calls Try.prog 3 #[] w fun e w' => e = .returned (.bool true) ∧ Below w.heap.size w w' := by
  go_enter Try.func3, Try.ntmps3
  go_wp2_with fail
  refine (callAlive_true _).mono ?_
  rintro e w1 ⟨rfl, hb1⟩
  have HB1 := Lib.hid hb1
  clear hb1
  go_wp2_with fail
  go_ret
  exact ⟨rfl, HB1.out⟩
set_option maxRecDepth 100000 in
theorem callNames_walk (w : World) : Calls Try.prog 3 #[] w fun e w' => e = .returned (.bool true) ∧ Below w.heap.size w w' := callNames_main w
end Go.Proofs.Ytlofiinpgkclgaa
