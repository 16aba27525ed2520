/- The walk of SealTears. -/
import Derived.Test.YtmpeidgmicammaaSealT
import Derived.Test.YtmpeidgmicammaaOpenP
import Derived.Test.YtmpeidgmicammaaStep
import Derived.Deep.RegionHeld3
import Derived.Deep.CutRange
import Derived.Deep.DeepCutAuto
namespace Go.Proofs.Ytmpeidgmicammaa
open Go.RowKit
attribute [local go_sem ↓] loadAt37 storeAt37 build37

set_option maxRecDepth 20000 in
set_option maxHeartbeats 6400000 in
theorem sealTears_main (m0 m1 : Nat) (hm0 : m0 < 18446744073709551616) (hm1 : m1 < 18446744073709551616) (A0 A1 : Option Addr) (n0 c0 n1 c1 : Nat) (b0 b1 : List UInt8) (z : Int) (w : World) (hr0 : RB w A0 n0 c0 b0) (hn0 : n0 ≤ 140737488351232) (hr1 : RB w A1 n1 c1 b1) (hn1 : n1 ≤ 140737488351232) :
    Calls Try.prog 7 #[.agg #[.int .u64 m0, .int .u64 m1], .agg #[.slice A0 n0 c0, .slice A1 n1 c1], .int .i64 z] w fun e w' => e = .returned (.bool true) ∧ Below w.heap.size w w' := by
  have HR0 := Lib.hid hr0; have HR1 := Lib.hid hr1; have HM0 := Lib.hid hm0; have HM1 := Lib.hid hm1
  clear hr0 hr1 hm0 hm1
  go_enter Try.func7, Try.ntmps7
  go_wp2_with fail
  have hbx := (below_alloc w (.cells #[.int .u64 m0, .int .u64 m1] 37)).alloc (by simp) (.cells #[.slice A0 n0 c0, .slice A1 n1 c1] 38)
  have hx2 : ((w.alloc (.cells #[.int .u64 m0, .int .u64 m1] 37)).alloc (.cells #[.slice A0 n0 c0, .slice A1 n1 c1] 38)).heap[w.heap.size]? = some (.cells #[.int .u64 m0, .int .u64 m1] 37 (0, 0)) := by
    rw [Go.heap_alloc_old _ _ (by simp)]
    exact heap_alloc_new w _
  have hx3 : ((w.alloc (.cells #[.int .u64 m0, .int .u64 m1] 37)).alloc (.cells #[.slice A0 n0 c0, .slice A1 n1 c1] 38)).heap[w.heap.size + 1]? = some (.cells #[.slice A0 n0 c0, .slice A1 n1 c1] 38 (0, 0)) := by
    have := heap_alloc_new (w.alloc (.cells #[.int .u64 m0, .int .u64 m1] 37)) (.cells #[.slice A0 n0 c0, .slice A1 n1 c1] 38)
    simpa using this
  have HBX := Lib.hid hbx; have HX2 := Lib.hid hx2; have HX3 := Lib.hid hx3
  clear hbx hx2 hx3
  refine (sealAlive_true _).mono ?_
  rintro e w1 ⟨rfl, hb1⟩
  have HB1 := Lib.hid (bthen HBX.out hb1)
  have HY2 := Lib.hid ((hb1.block w.heap.size (by simp; omega)).trans HX2.out)
  have HY3 := Lib.hid ((hb1.block (w.heap.size + 1) (by simp)).trans HX3.out)
  have hc20 : w1.cell? ⟨w.heap.size, 0, none⟩ = some (.int .u64 m0) := by rw [cell_of_row w1 w.heap.size 0 _ _ _ HY2.out]; rfl
  have hc30 : w1.cell? ⟨w.heap.size + 1, 0, none⟩ = some (.slice A0 n0 c0) := by rw [cell_of_row w1 (w.heap.size + 1) 0 _ _ _ HY3.out]; rfl
  clear HX2 HX3 HBX hb1
  go_upto_region 3 with fail
  go_cut [7, 8] from 17 to 26 (fun p e wx => ∃ g l ev, p = .pointer (some ⟨g, 0, none⟩) ∧ e = .int .i64 ev ∧ Hid (SecAt wx g l) ∧ Hid (w1.heap.size ≤ g) ∧ Hid (Below w1.heap.size w1 wx) ∧ Hid ((makeM m0 b0 = some l ∧ ev = 0) ∨ (makeM m0 b0 = none ∧ l = zsec ∧ ev = 51)))
  case first =>
    go_region_held3 (fun w' => w'.cell? ⟨w.heap.size, 0, none⟩ = some (.int .u64 m0) ∧ w'.cell? ⟨w.heap.size + 1, 0, none⟩ = some (.slice A0 n0 c0)) (first | go_keep | (constructor <;> assumption))
      (first
        | (refine step_append_any (by rfl) _ _ 23 5 (.int .u8 0) 1 1 (by rfl) Try.underlying23 Try.infoU8' rfl (by decide) (by decide) w1.heap.size (.slice (some ⟨w1.heap.size, 0, none⟩) 0 0) 0 [] A0 n0 c0 (bv b0) (by rfl) (by rfl) ((own_empty w1 w1.heap.size _ 1 (Nat.le_refl _)).drew) ((HR0.out.below ((HB1.out.alloc HB1.out.size _).drew)).rd) (bv_one _) (by omega) (by simp) ?_
           intro v2 w2 hown2 hg2 ha2
           rw [Nat.zero_add, List.nil_append] at hown2
           obtain ⟨A2, c2, rfl, hrb2⟩ := own_rb hown2
           have hb2 : Below w1.heap.size w1 w2 := Below.grown ((below_alloc w1 _).drew) hg2 (by simp) (fun k hk => by simp [Value.ownBlock] at hk; omega)
           have hS : w2.cell? ⟨w.heap.size, 0, none⟩ = some (.int .u64 m0) ∧ w2.cell? ⟨w.heap.size + 1, 0, none⟩ = some (.slice A0 n0 c0) := ⟨(World.cell?_of_block (hb2.block w.heap.size (lt_of_heap HY2.out))).trans hc20, (World.cell?_of_block (hb2.block (w.heap.size + 1) (lt_of_heap HY3.out))).trans hc30⟩
           have HV1 : Hid True := Lib.hid trivial
           have HB12 := Lib.hid hb2; have HR2 := Lib.hid hrb2
           clear hown2 hg2 ha2 hrb2 hb2)
        | (refine step_append_any (by rfl) _ _ 23 5 (.int .u8 0) 1 1 (by rfl) Try.underlying23 Try.infoU8' rfl (by decide) (by decide) w1.heap.size (.slice (some ⟨w1.heap.size, 0, none⟩) 0 0) 0 [] A0 n0 c0 (bv b0) (by rfl) (by rfl) (((own_empty w1 w1.heap.size _ 1 (Nat.le_refl _)).alloc _).drew) ((HR0.out.below (((HB1.out.alloc HB1.out.size _).alloc (by have := HB1.out.size; simp; omega) (.cells Try.zeroCells27 27)).drew)).rd) (bv_one _) (by omega) (by simp; omega) ?_
           intro v2 w2 hown2 hg2 ha2
           rw [Nat.zero_add, List.nil_append] at hown2
           obtain ⟨A2, c2, rfl, hrb2⟩ := own_rb hown2
           have hb2 : Below w1.heap.size w1 w2 := Below.grown (((below_alloc w1 _).alloc (by simp) _).drew) hg2 (by simp; omega) (fun k hk => by simp [Value.ownBlock] at hk; omega)
           have hz : SecAt ((w1.alloc (.cells #[] 5)).alloc (.cells Try.zeroCells27 27)).drew (w1.heap.size + 1) zsec := by
             have h0 := SecAt.new (w1.alloc (.cells #[] 5)) zsec zsec_length
             rw [show (w1.alloc (.cells #[] 5)).heap.size = w1.heap.size + 1 by simp] at h0
             rw [Try.zero37]
             exact ⟨h0.1, h0.2⟩
           have hz2 : SecAt w2 (w1.heap.size + 1) zsec := ⟨(hg2.block _ (lt_of_heap hz.1) (by simp [Value.ownBlock])).trans hz.1, zsec_length⟩
           have hS : w2.cell? ⟨w.heap.size, 0, none⟩ = some (.int .u64 m0) ∧ w2.cell? ⟨w.heap.size + 1, 0, none⟩ = some (.slice A0 n0 c0) := ⟨(World.cell?_of_block (hb2.block w.heap.size (lt_of_heap HY2.out))).trans hc20, (World.cell?_of_block (hb2.block (w.heap.size + 1) (lt_of_heap HY3.out))).trans hc30⟩
           have HZa := Lib.hid hz2
           have HB12 := Lib.hid hb2; have HR2 := Lib.hid hrb2
           clear hown2 hg2 ha2 hrb2 hb2 hz hz2)
        | (refine step_append_any (by rfl) _ _ 23 5 (.int .u8 0) 1 1 (by rfl) Try.underlying23 Try.infoU8' rfl (by decide) (by decide) w1.heap.size (.slice (some ⟨w1.heap.size + 1, 0, none⟩) 0 0) 0 [] A0 n0 c0 (bv b0) (by rfl) (by rfl) (by simpa using (own_empty (w1.alloc (.cells Try.zeroCells27 27)) w1.heap.size 5 1 (by simp)).drew) ((HR0.out.below (((HB1.out.alloc HB1.out.size (.cells Try.zeroCells27 27)).alloc (by have := HB1.out.size; simp; omega) _).drew)).rd) (bv_one _) (by omega) (by simp; omega) ?_
           intro v2 w2 hown2 hg2 ha2
           rw [Nat.zero_add, List.nil_append] at hown2
           obtain ⟨A2, c2, rfl, hrb2⟩ := own_rb hown2
           have hb2 : Below w1.heap.size w1 w2 := Below.grown (((below_alloc w1 _).alloc (by simp) _).drew) hg2 (by simp; omega) (fun k hk => by simp [Value.ownBlock] at hk; omega)
           have hz : SecAt ((w1.alloc (.cells Try.zeroCells27 27)).alloc (.cells #[] 5)).drew w1.heap.size zsec := by
             have h0 := (SecAt.new w1 zsec zsec_length).below (below_alloc _ (.cells #[] 5))
             rw [Try.zero37]
             exact ⟨h0.1, h0.2⟩
           have hz2 : SecAt w2 w1.heap.size zsec := ⟨(hg2.block _ (lt_of_heap hz.1) (by simp [Value.ownBlock])).trans hz.1, zsec_length⟩
           have hS : w2.cell? ⟨w.heap.size, 0, none⟩ = some (.int .u64 m0) ∧ w2.cell? ⟨w.heap.size + 1, 0, none⟩ = some (.slice A0 n0 c0) := ⟨(World.cell?_of_block (hb2.block w.heap.size (lt_of_heap HY2.out))).trans hc20, (World.cell?_of_block (hb2.block (w.heap.size + 1) (lt_of_heap HY3.out))).trans hc30⟩
           have HZb := Lib.hid hz2
           have HB12 := Lib.hid hb2; have HR2 := Lib.hid hrb2
           clear hown2 hg2 ha2 hrb2 hb2 hz hz2)
        | (go_at_call 10
           have hB := HZa
           refine (seal_Make m0 HM0.out A2 n0 c2 b0 w2 HR2.out hn0).mono ?_
           rintro e w3 ⟨l3, e3, rfl, hl3, hb3, hc3⟩
           have hsa := hB.out.below hb3
           have ho3 := bv_one l3
           have hn3 : (Try.prog.info? 27).map (·.size) = some (bv l3).length := Try.size37.trans (by rw [bv_length, hl3])
           have hlen3 : (bv l3).length = 128 := by rw [bv_length, hl3]
           have hth3 : w3.there (w1.heap.size + 1) 0 (bv l3).length := by rw [hlen3]; exact hsa.there
           have HB13 := Lib.hid (bthen HB12.out hb3)
           have hfin := hsa.stored hl3
           have HEND : Hid (SecAt (w3.setCells (w1.heap.size + 1) 0 (bv l3)) (w1.heap.size + 1) l3 ∧ w1.heap.size ≤ w1.heap.size + 1 ∧ Below w1.heap.size w1 (w3.setCells (w1.heap.size + 1) 0 (bv l3))) := Lib.hid ⟨hfin.1, by omega, HB13.out.trans (hfin.2.below HB13.out.size (fun _ e => by rw [e]; omega))⟩
           have hS4 := (World.cell?_of_block (a := ⟨w.heap.size, 0, none⟩) (HEND.out.2.2.block w.heap.size (lt_of_heap HY2.out))).trans hc20
           have hS5 := (World.cell?_of_block (a := ⟨w.heap.size + 1, 0, none⟩) (HEND.out.2.2.block (w.heap.size + 1) (lt_of_heap HY3.out))).trans hc30
           have HC3 := Lib.hid hc3
           have hS : w3.cell? ⟨w.heap.size, 0, none⟩ = some (.int .u64 m0) ∧ w3.cell? ⟨w.heap.size + 1, 0, none⟩ = some (.slice A0 n0 c0) := ⟨(World.cell?_of_block (HB13.out.block w.heap.size (lt_of_heap HY2.out))).trans hc20, (World.cell?_of_block (HB13.out.block (w.heap.size + 1) (lt_of_heap HY3.out))).trans hc30⟩
           clear hl3 hb3 hc3 hsa hfin hlen3)
        | (go_at_call 10
           have hB := HZb
           refine (seal_Make m0 HM0.out A2 n0 c2 b0 w2 HR2.out hn0).mono ?_
           rintro e w3 ⟨l3, e3, rfl, hl3, hb3, hc3⟩
           have hsa := hB.out.below hb3
           have ho3 := bv_one l3
           have hn3 : (Try.prog.info? 27).map (·.size) = some (bv l3).length := Try.size37.trans (by rw [bv_length, hl3])
           have hlen3 : (bv l3).length = 128 := by rw [bv_length, hl3]
           have hth3 : w3.there w1.heap.size 0 (bv l3).length := by rw [hlen3]; exact hsa.there
           have HB13 := Lib.hid (bthen HB12.out hb3)
           have hfin := hsa.stored hl3
           have HEND : Hid (SecAt (w3.setCells w1.heap.size 0 (bv l3)) w1.heap.size l3 ∧ w1.heap.size ≤ w1.heap.size ∧ Below w1.heap.size w1 (w3.setCells w1.heap.size 0 (bv l3))) := Lib.hid ⟨hfin.1, by omega, HB13.out.trans (hfin.2.below HB13.out.size (fun _ e => by rw [e]; omega))⟩
           have hS4 := (World.cell?_of_block (a := ⟨w.heap.size, 0, none⟩) (HEND.out.2.2.block w.heap.size (lt_of_heap HY2.out))).trans hc20
           have hS5 := (World.cell?_of_block (a := ⟨w.heap.size + 1, 0, none⟩) (HEND.out.2.2.block (w.heap.size + 1) (lt_of_heap HY3.out))).trans hc30
           have HC3 := Lib.hid hc3
           have hS : w3.cell? ⟨w.heap.size, 0, none⟩ = some (.int .u64 m0) ∧ w3.cell? ⟨w.heap.size + 1, 0, none⟩ = some (.slice A0 n0 c0) := ⟨(World.cell?_of_block (HB13.out.block w.heap.size (lt_of_heap HY2.out))).trans hc20, (World.cell?_of_block (HB13.out.block (w.heap.size + 1) (lt_of_heap HY3.out))).trans hc30⟩
           clear hl3 hb3 hc3 hsa hfin hlen3)
        | (go_at_call 10
           have hB := HV1
           refine (seal_Make m0 HM0.out A2 n0 c2 b0 _ (by first | exact HR2.out | exact HR2.out.alloc _) hn0).mono ?_
           rintro e w3 ⟨l3, e3, rfl, hl3, hb3, hc3⟩
           have ho3 := bv_one l3
           have hn3 : (Try.prog.info? 27).map (·.size) = some (bv l3).length := Try.size37.trans (by rw [bv_length, hl3])
           have hlen3 : (bv l3).length = 128 := by rw [bv_length, hl3]
           have hnw : SecAt (w3.alloc (.cells Try.zeroCells27 27)) w3.heap.size zsec := by
             rw [Try.zero37]
             exact SecAt.new w3 zsec zsec_length
           have hth3 : (w3.alloc (.cells Try.zeroCells27 27)).there w3.heap.size 0 (bv l3).length := by rw [hlen3]; exact hnw.there
           have hfn := hnw.stored hl3
           have hb13 : Below w1.heap.size w1 w3 := by first | exact bthen HB12.out hb3 | exact bthen (balloc HB12.out _) hb3
           have HB13 := Lib.hid hb13
           have HEND : Hid (SecAt ((w3.alloc (.cells Try.zeroCells27 27)).setCells w3.heap.size 0 (bv l3)) w3.heap.size l3 ∧ w1.heap.size ≤ w3.heap.size ∧ Below w1.heap.size w1 ((w3.alloc (.cells Try.zeroCells27 27)).setCells w3.heap.size 0 (bv l3))) := Lib.hid ⟨hfn.1, hb13.size, (balloc hb13 _).trans (hfn.2.below (balloc hb13 _).size (fun _ e => by rw [e]; exact hb13.size))⟩
           have hS4 := (World.cell?_of_block (a := ⟨w.heap.size, 0, none⟩) (HEND.out.2.2.block w.heap.size (lt_of_heap HY2.out))).trans hc20
           have hS5 := (World.cell?_of_block (a := ⟨w.heap.size + 1, 0, none⟩) (HEND.out.2.2.block (w.heap.size + 1) (lt_of_heap HY3.out))).trans hc30
           try (have hsz : SecAt w3 w2.heap.size zsec := by
                  have h0 := SecAt.new w2 zsec zsec_length
                  rw [← Try.zero37] at h0
                  exact h0.below hb3
                have hth4 : w3.there w2.heap.size 0 (bv l3).length := by rw [hlen3]; exact hsz.there
                have hfin := hsz.stored hl3
                have HEND2 : Hid (SecAt (w3.setCells w2.heap.size 0 (bv l3)) w2.heap.size l3 ∧ w1.heap.size ≤ w2.heap.size ∧ Below w1.heap.size w1 (w3.setCells w2.heap.size 0 (bv l3))) := Lib.hid ⟨hfin.1, HB12.out.size, hb13.trans (hfin.2.below hb13.size (fun _ e => by rw [e]; exact HB12.out.size))⟩
                have hS6 := (World.cell?_of_block (a := ⟨w.heap.size, 0, none⟩) (HEND2.out.2.2.block w.heap.size (lt_of_heap HY2.out))).trans hc20
                have hS7 := (World.cell?_of_block (a := ⟨w.heap.size + 1, 0, none⟩) (HEND2.out.2.2.block (w.heap.size + 1) (lt_of_heap HY3.out))).trans hc30
                clear hsz hfin)
           have HC3 := Lib.hid hc3
           have hS : w3.cell? ⟨w.heap.size, 0, none⟩ = some (.int .u64 m0) ∧ w3.cell? ⟨w.heap.size + 1, 0, none⟩ = some (.slice A0 n0 c0) := ⟨(World.cell?_of_block (HB13.out.block w.heap.size (lt_of_heap HY2.out))).trans hc20, (World.cell?_of_block (HB13.out.block (w.heap.size + 1) (lt_of_heap HY3.out))).trans hc30⟩
           clear hl3 hb3 hc3 hb13 hnw hfn hlen3))
    all_goals
      go_wp2_with fail
      go_meet
      first
        | exact ⟨_, l3, e3, rfl, rfl, Lib.hid HEND.out.1, Lib.hid HEND.out.2.1, Lib.hid HEND.out.2.2, HC3⟩
        | exact ⟨_, l3, e3, rfl, rfl, Lib.hid HEND2.out.1, Lib.hid HEND2.out.2.1, Lib.hid HEND2.out.2.2, HC3⟩
  case rest =>
    obtain ⟨g5, l5, e5, rfl, rfl, HS5, HG5, HBc, HC5⟩ := hcut
    obtain ⟨w4, hw4⟩ : ∃ w4, w4 = wc := ⟨wc, rfl⟩
    subst hw4
    have HB4 := Lib.hid (bthen HB1.out HBc.out)
    have HZ2 := Lib.hid ((HBc.out.block w.heap.size (lt_of_heap HY2.out)).trans HY2.out)
    have HZ3 := Lib.hid ((HBc.out.block (w.heap.size + 1) (lt_of_heap HY3.out)).trans HY3.out)
    have hc21 : w4.cell? ⟨w.heap.size, 1, none⟩ = some (.int .u64 m1) := by rw [cell_of_row w4 w.heap.size 1 _ _ _ HZ2.out]; rfl
    have hc31 : w4.cell? ⟨w.heap.size + 1, 1, none⟩ = some (.slice A1 n1 c1) := by rw [cell_of_row w4 (w.heap.size + 1) 1 _ _ _ HZ3.out]; rfl
    clear hc20 hc30
    go_upto_region 4 with fail
    go_cut [9, 10] from 27 to 36 (fun p e wx => ∃ g l ev, p = .pointer (some ⟨g, 0, none⟩) ∧ e = .int .i64 ev ∧ Hid (SecAt wx g l) ∧ Hid (w4.heap.size ≤ g) ∧ Hid (Below w4.heap.size w4 wx) ∧ Hid ((makeM m1 b1 = some l ∧ ev = 0) ∨ (makeM m1 b1 = none ∧ l = zsec ∧ ev = 51)))
    case first =>
      go_region_held3 (fun w' => w'.cell? ⟨w.heap.size, 1, none⟩ = some (.int .u64 m1) ∧ w'.cell? ⟨w.heap.size + 1, 1, none⟩ = some (.slice A1 n1 c1)) (first | go_keep | (constructor <;> assumption))
        (first
          | (refine step_append_any (by rfl) _ _ 23 5 (.int .u8 0) 1 1 (by rfl) Try.underlying23 Try.infoU8' rfl (by decide) (by decide) w4.heap.size (.slice (some ⟨w4.heap.size, 0, none⟩) 0 0) 0 [] A1 n1 c1 (bv b1) (by rfl) (by rfl) ((own_empty w4 w4.heap.size _ 1 (Nat.le_refl _)).drew) ((HR1.out.below ((HB4.out.alloc HB4.out.size _).drew)).rd) (bv_one _) (by omega) (by simp) ?_
             intro v2 w2 hown2 hg2 ha2
             rw [Nat.zero_add, List.nil_append] at hown2
             obtain ⟨A2, c2, rfl, hrb2⟩ := own_rb hown2
             have hb2 : Below w4.heap.size w4 w2 := Below.grown ((below_alloc w4 _).drew) hg2 (by simp) (fun k hk => by simp [Value.ownBlock] at hk; omega)
             have hS : w2.cell? ⟨w.heap.size, 1, none⟩ = some (.int .u64 m1) ∧ w2.cell? ⟨w.heap.size + 1, 1, none⟩ = some (.slice A1 n1 c1) := ⟨(World.cell?_of_block (hb2.block w.heap.size (lt_of_heap HZ2.out))).trans hc21, (World.cell?_of_block (hb2.block (w.heap.size + 1) (lt_of_heap HZ3.out))).trans hc31⟩
             have HV1 : Hid True := Lib.hid trivial
             have HB12 := Lib.hid hb2; have HR2 := Lib.hid hrb2
             clear hown2 hg2 ha2 hrb2 hb2)
          | (refine step_append_any (by rfl) _ _ 23 5 (.int .u8 0) 1 1 (by rfl) Try.underlying23 Try.infoU8' rfl (by decide) (by decide) w4.heap.size (.slice (some ⟨w4.heap.size, 0, none⟩) 0 0) 0 [] A1 n1 c1 (bv b1) (by rfl) (by rfl) (((own_empty w4 w4.heap.size _ 1 (Nat.le_refl _)).alloc _).drew) ((HR1.out.below (((HB4.out.alloc HB4.out.size _).alloc (by have := HB4.out.size; simp; omega) (.cells Try.zeroCells27 27)).drew)).rd) (bv_one _) (by omega) (by simp; omega) ?_
             intro v2 w2 hown2 hg2 ha2
             rw [Nat.zero_add, List.nil_append] at hown2
             obtain ⟨A2, c2, rfl, hrb2⟩ := own_rb hown2
             have hb2 : Below w4.heap.size w4 w2 := Below.grown (((below_alloc w4 _).alloc (by simp) _).drew) hg2 (by simp; omega) (fun k hk => by simp [Value.ownBlock] at hk; omega)
             have hz : SecAt ((w4.alloc (.cells #[] 5)).alloc (.cells Try.zeroCells27 27)).drew (w4.heap.size + 1) zsec := by
               have h0 := SecAt.new (w4.alloc (.cells #[] 5)) zsec zsec_length
               rw [show (w4.alloc (.cells #[] 5)).heap.size = w4.heap.size + 1 by simp] at h0
               rw [Try.zero37]
               exact ⟨h0.1, h0.2⟩
             have hz2 : SecAt w2 (w4.heap.size + 1) zsec := ⟨(hg2.block _ (lt_of_heap hz.1) (by simp [Value.ownBlock])).trans hz.1, zsec_length⟩
             have hS : w2.cell? ⟨w.heap.size, 1, none⟩ = some (.int .u64 m1) ∧ w2.cell? ⟨w.heap.size + 1, 1, none⟩ = some (.slice A1 n1 c1) := ⟨(World.cell?_of_block (hb2.block w.heap.size (lt_of_heap HZ2.out))).trans hc21, (World.cell?_of_block (hb2.block (w.heap.size + 1) (lt_of_heap HZ3.out))).trans hc31⟩
             have HZa := Lib.hid hz2
             have HB12 := Lib.hid hb2; have HR2 := Lib.hid hrb2
             clear hown2 hg2 ha2 hrb2 hb2 hz hz2)
          | (refine step_append_any (by rfl) _ _ 23 5 (.int .u8 0) 1 1 (by rfl) Try.underlying23 Try.infoU8' rfl (by decide) (by decide) w4.heap.size (.slice (some ⟨w4.heap.size + 1, 0, none⟩) 0 0) 0 [] A1 n1 c1 (bv b1) (by rfl) (by rfl) (by simpa using (own_empty (w4.alloc (.cells Try.zeroCells27 27)) w4.heap.size 5 1 (by simp)).drew) ((HR1.out.below (((HB4.out.alloc HB4.out.size (.cells Try.zeroCells27 27)).alloc (by have := HB4.out.size; simp; omega) _).drew)).rd) (bv_one _) (by omega) (by simp; omega) ?_
             intro v2 w2 hown2 hg2 ha2
             rw [Nat.zero_add, List.nil_append] at hown2
             obtain ⟨A2, c2, rfl, hrb2⟩ := own_rb hown2
             have hb2 : Below w4.heap.size w4 w2 := Below.grown (((below_alloc w4 _).alloc (by simp) _).drew) hg2 (by simp; omega) (fun k hk => by simp [Value.ownBlock] at hk; omega)
             have hz : SecAt ((w4.alloc (.cells Try.zeroCells27 27)).alloc (.cells #[] 5)).drew w4.heap.size zsec := by
               have h0 := (SecAt.new w4 zsec zsec_length).below (below_alloc _ (.cells #[] 5))
               rw [Try.zero37]
               exact ⟨h0.1, h0.2⟩
             have hz2 : SecAt w2 w4.heap.size zsec := ⟨(hg2.block _ (lt_of_heap hz.1) (by simp [Value.ownBlock])).trans hz.1, zsec_length⟩
             have hS : w2.cell? ⟨w.heap.size, 1, none⟩ = some (.int .u64 m1) ∧ w2.cell? ⟨w.heap.size + 1, 1, none⟩ = some (.slice A1 n1 c1) := ⟨(World.cell?_of_block (hb2.block w.heap.size (lt_of_heap HZ2.out))).trans hc21, (World.cell?_of_block (hb2.block (w.heap.size + 1) (lt_of_heap HZ3.out))).trans hc31⟩
             have HZb := Lib.hid hz2
             have HB12 := Lib.hid hb2; have HR2 := Lib.hid hrb2
             clear hown2 hg2 ha2 hrb2 hb2 hz hz2)
          | (go_at_call 10
             have hB := HZa
             refine (seal_Make m1 HM1.out A2 n1 c2 b1 w2 HR2.out hn1).mono ?_
             rintro e w3 ⟨l3, e3, rfl, hl3, hb3, hc3⟩
             have hsa := hB.out.below hb3
             have ho3 := bv_one l3
             have hn3 : (Try.prog.info? 27).map (·.size) = some (bv l3).length := Try.size37.trans (by rw [bv_length, hl3])
             have hlen3 : (bv l3).length = 128 := by rw [bv_length, hl3]
             have hth3 : w3.there (w4.heap.size + 1) 0 (bv l3).length := by rw [hlen3]; exact hsa.there
             have HB13 := Lib.hid (bthen HB12.out hb3)
             have hfin := hsa.stored hl3
             have HEND : Hid (SecAt (w3.setCells (w4.heap.size + 1) 0 (bv l3)) (w4.heap.size + 1) l3 ∧ w4.heap.size ≤ w4.heap.size + 1 ∧ Below w4.heap.size w4 (w3.setCells (w4.heap.size + 1) 0 (bv l3))) := Lib.hid ⟨hfin.1, by omega, HB13.out.trans (hfin.2.below HB13.out.size (fun _ e => by rw [e]; omega))⟩
             have hS4 := (World.cell?_of_block (a := ⟨w.heap.size, 1, none⟩) (HEND.out.2.2.block w.heap.size (lt_of_heap HZ2.out))).trans hc21
             have hS5 := (World.cell?_of_block (a := ⟨w.heap.size + 1, 1, none⟩) (HEND.out.2.2.block (w.heap.size + 1) (lt_of_heap HZ3.out))).trans hc31
             have HC3 := Lib.hid hc3
             have hS : w3.cell? ⟨w.heap.size, 1, none⟩ = some (.int .u64 m1) ∧ w3.cell? ⟨w.heap.size + 1, 1, none⟩ = some (.slice A1 n1 c1) := ⟨(World.cell?_of_block (HB13.out.block w.heap.size (lt_of_heap HZ2.out))).trans hc21, (World.cell?_of_block (HB13.out.block (w.heap.size + 1) (lt_of_heap HZ3.out))).trans hc31⟩
             clear hl3 hb3 hc3 hsa hfin hlen3)
          | (go_at_call 10
             have hB := HZb
             refine (seal_Make m1 HM1.out A2 n1 c2 b1 w2 HR2.out hn1).mono ?_
             rintro e w3 ⟨l3, e3, rfl, hl3, hb3, hc3⟩
             have hsa := hB.out.below hb3
             have ho3 := bv_one l3
             have hn3 : (Try.prog.info? 27).map (·.size) = some (bv l3).length := Try.size37.trans (by rw [bv_length, hl3])
             have hlen3 : (bv l3).length = 128 := by rw [bv_length, hl3]
             have hth3 : w3.there w4.heap.size 0 (bv l3).length := by rw [hlen3]; exact hsa.there
             have HB13 := Lib.hid (bthen HB12.out hb3)
             have hfin := hsa.stored hl3
             have HEND : Hid (SecAt (w3.setCells w4.heap.size 0 (bv l3)) w4.heap.size l3 ∧ w4.heap.size ≤ w4.heap.size ∧ Below w4.heap.size w4 (w3.setCells w4.heap.size 0 (bv l3))) := Lib.hid ⟨hfin.1, by omega, HB13.out.trans (hfin.2.below HB13.out.size (fun _ e => by rw [e]; omega))⟩
             have hS4 := (World.cell?_of_block (a := ⟨w.heap.size, 1, none⟩) (HEND.out.2.2.block w.heap.size (lt_of_heap HZ2.out))).trans hc21
             have hS5 := (World.cell?_of_block (a := ⟨w.heap.size + 1, 1, none⟩) (HEND.out.2.2.block (w.heap.size + 1) (lt_of_heap HZ3.out))).trans hc31
             have HC3 := Lib.hid hc3
             have hS : w3.cell? ⟨w.heap.size, 1, none⟩ = some (.int .u64 m1) ∧ w3.cell? ⟨w.heap.size + 1, 1, none⟩ = some (.slice A1 n1 c1) := ⟨(World.cell?_of_block (HB13.out.block w.heap.size (lt_of_heap HZ2.out))).trans hc21, (World.cell?_of_block (HB13.out.block (w.heap.size + 1) (lt_of_heap HZ3.out))).trans hc31⟩
             clear hl3 hb3 hc3 hsa hfin hlen3)
          | (go_at_call 10
             have hB := HV1
             refine (seal_Make m1 HM1.out A2 n1 c2 b1 _ (by first | exact HR2.out | exact HR2.out.alloc _) hn1).mono ?_
             rintro e w3 ⟨l3, e3, rfl, hl3, hb3, hc3⟩
             have ho3 := bv_one l3
             have hn3 : (Try.prog.info? 27).map (·.size) = some (bv l3).length := Try.size37.trans (by rw [bv_length, hl3])
             have hlen3 : (bv l3).length = 128 := by rw [bv_length, hl3]
             have hnw : SecAt (w3.alloc (.cells Try.zeroCells27 27)) w3.heap.size zsec := by
               rw [Try.zero37]
               exact SecAt.new w3 zsec zsec_length
             have hth3 : (w3.alloc (.cells Try.zeroCells27 27)).there w3.heap.size 0 (bv l3).length := by rw [hlen3]; exact hnw.there
             have hfn := hnw.stored hl3
             have hb13 : Below w4.heap.size w4 w3 := by first | exact bthen HB12.out hb3 | exact bthen (balloc HB12.out _) hb3
             have HB13 := Lib.hid hb13
             have HEND : Hid (SecAt ((w3.alloc (.cells Try.zeroCells27 27)).setCells w3.heap.size 0 (bv l3)) w3.heap.size l3 ∧ w4.heap.size ≤ w3.heap.size ∧ Below w4.heap.size w4 ((w3.alloc (.cells Try.zeroCells27 27)).setCells w3.heap.size 0 (bv l3))) := Lib.hid ⟨hfn.1, hb13.size, (balloc hb13 _).trans (hfn.2.below (balloc hb13 _).size (fun _ e => by rw [e]; exact hb13.size))⟩
             have hS4 := (World.cell?_of_block (a := ⟨w.heap.size, 1, none⟩) (HEND.out.2.2.block w.heap.size (lt_of_heap HZ2.out))).trans hc21
             have hS5 := (World.cell?_of_block (a := ⟨w.heap.size + 1, 1, none⟩) (HEND.out.2.2.block (w.heap.size + 1) (lt_of_heap HZ3.out))).trans hc31
             try (have hsz : SecAt w3 w2.heap.size zsec := by
                    have h0 := SecAt.new w2 zsec zsec_length
                    rw [← Try.zero37] at h0
                    exact h0.below hb3
                  have hth4 : w3.there w2.heap.size 0 (bv l3).length := by rw [hlen3]; exact hsz.there
                  have hfin := hsz.stored hl3
                  have HEND2 : Hid (SecAt (w3.setCells w2.heap.size 0 (bv l3)) w2.heap.size l3 ∧ w4.heap.size ≤ w2.heap.size ∧ Below w4.heap.size w4 (w3.setCells w2.heap.size 0 (bv l3))) := Lib.hid ⟨hfin.1, HB12.out.size, hb13.trans (hfin.2.below hb13.size (fun _ e => by rw [e]; exact HB12.out.size))⟩
                  have hS6 := (World.cell?_of_block (a := ⟨w.heap.size, 1, none⟩) (HEND2.out.2.2.block w.heap.size (lt_of_heap HZ2.out))).trans hc21
                  have hS7 := (World.cell?_of_block (a := ⟨w.heap.size + 1, 1, none⟩) (HEND2.out.2.2.block (w.heap.size + 1) (lt_of_heap HZ3.out))).trans hc31
                  clear hsz hfin)
             have HC3 := Lib.hid hc3
             have hS : w3.cell? ⟨w.heap.size, 1, none⟩ = some (.int .u64 m1) ∧ w3.cell? ⟨w.heap.size + 1, 1, none⟩ = some (.slice A1 n1 c1) := ⟨(World.cell?_of_block (HB13.out.block w.heap.size (lt_of_heap HZ2.out))).trans hc21, (World.cell?_of_block (HB13.out.block (w.heap.size + 1) (lt_of_heap HZ3.out))).trans hc31⟩
             clear hl3 hb3 hc3 hb13 hnw hfn hlen3))
      all_goals
        go_wp2_with fail
        go_meet
        first
          | exact ⟨_, l3, e3, rfl, rfl, Lib.hid HEND.out.1, Lib.hid HEND.out.2.1, Lib.hid HEND.out.2.2, HC3⟩
          | exact ⟨_, l3, e3, rfl, rfl, Lib.hid HEND2.out.1, Lib.hid HEND2.out.2.1, Lib.hid HEND2.out.2.2, HC3⟩
    case rest =>
      obtain ⟨g7, l7, e7, rfl, rfl, HS7, HG7, HBd, HC7⟩ := hcut
      have HBE := Lib.hid (bthen HB4.out HBd.out)
      have HS57 := Lib.hid (HS5.out.below HBd.out)
      have hd20 : wc.cell? ⟨w.heap.size, 0, none⟩ = some (.int .u64 m0) := by rw [cell_of_row wc w.heap.size 0 _ _ _ ((HBd.out.block w.heap.size (lt_of_heap HZ2.out)).trans HZ2.out)]; rfl
      have hd21 : wc.cell? ⟨w.heap.size, 1, none⟩ = some (.int .u64 m1) := by rw [cell_of_row wc w.heap.size 1 _ _ _ ((HBd.out.block w.heap.size (lt_of_heap HZ2.out)).trans HZ2.out)]; rfl
      clear hc21 hc31
      have hld5 := run_ldSec (w := wc) HS57.out.range HS57.out.2
      have hld7 := run_ldSec (w := wc) HS7.out.range HS7.out.2
      have hbld := fun W => run_bldSec0 W
      have hzz := eq37 wc zsec zsec zsec_length zsec_length
      rw [decide_eq_true rfl] at hzz
      have HL5 := Lib.hid HS57.out.2; have HL7 := Lib.hid HS7.out.2
      rcases HC7.out with ⟨hs7, rfl⟩ | ⟨hs7, rfl, rfl⟩
      · obtain ⟨h1a, h1b, h1c⟩ := made_some hs7
        have hend7 : Ends l7 m1 := by rw [h1c]; exact ends_seal m1 b1 (by have := HM1.out; omega) h1b
        have hgoal : (e5 = 0 ∧ m0 = m1) ∨ ((e5 = 0 ∧ m0 ≠ m1 ∨ e5 = 51 ∧ l5 = zsec) ∧ ∃ mo, Ends l5 mo ∧ mo ≠ m1) := by
          rcases HC5.out with ⟨hs5, he⟩ | ⟨hs5, he1, he2⟩
          · obtain ⟨h0a, h0b, h0c⟩ := made_some hs5
            by_cases hm : m0 = m1
            · exact .inl ⟨he, hm⟩
            · exact .inr ⟨.inl ⟨he, hm⟩, m0, by rw [h0c]; exact ends_seal m0 b0 (by have := HM0.out; omega) h0b, hm⟩
          · exact .inr ⟨.inr ⟨he2, he1⟩, 0, by rw [he1]; exact ends_zero, fun e => h1a e.symm⟩
        have HE7 := Lib.hid hend7
        clear hs7 h1a h1b h1c hend7 HC5 HC7
        rcases hgoal with ⟨rfl, hm⟩ | ⟨hcase, mo, hmo, hne⟩
        · have hq1 : ((m0 : Int) == (m1 : Int)) = true := by rw [hm]; simp
          clear hm
          go_wp2_with fail
          go_ret
          exact ⟨rfl, HBE.out⟩
        · have HMO := Lib.hid hmo; have HNE := Lib.hid hne
          clear hmo hne
          have key : ∀ P : Prop, (e5 = 0 ∧ ((m0 : Int) == (m1 : Int)) = false → P) ∧ (e5 = 51 ∧ l5 = zsec → P) → P := fun P ⟨h1, h2⟩ => by
            rcases hcase with ⟨h, h'⟩ | h
            · exact h1 ⟨h, by rw [beq_eq_false_iff_ne]; omega⟩
            · exact h2 h
          clear hcase
          refine key _ ⟨fun ⟨he5, hq1⟩ => ?_, fun ⟨he5, hl5⟩ => ?_⟩
          · subst he5
            clear key
            by_cases hz1 : 128 < z
            · have hz2 : ¬ z < 128 := by omega
              go_wp2_with fail
              refine (ref04_Torn l5 l7 HL5.out HL7.out 128 (Nat.le_refl 128) wc).mono ?_
              rintro e w8 ⟨rfl, hb8⟩
              obtain ⟨lt, hlt⟩ : ∃ lt, lt = l7.take 128 ++ (l5).drop 128 := ⟨_, rfl⟩
              rw [← hlt]
              have HLT : Hid (lt.length = 128) := Lib.hid (by
                have h5 := HL5.out
                have h7 := HL7.out
                rw [hlt, List.length_append, List.length_take, List.length_drop, h5, h7]
                have : 128 ≤ 128 := (Nat.le_refl 128)
                omega)
              have HWH := Lib.hid (fun mk body (h : openM lt = some (mk, body)) => torn_whole HMO.out HE7.out HNE.out 128 (Nat.le_refl 128) (hlt ▸ h))
              rw [← hlt] at HWH
              have HB8 := Lib.hid (balloc (bthen HBE.out hb8) (.cells (bv lt).toArray 27))
              have HT8 := Lib.hid (SecAt.new w8 lt HLT.out)
              have HS58 := Lib.hid ((HS57.out.below hb8).below (below_alloc w8 (.cells (bv lt).toArray 27)))
              have HS78 := Lib.hid ((HS7.out.below hb8).below (below_alloc w8 (.cells (bv lt).toArray 27)))
              have hldt := run_ldSec (w := w8.alloc (.cells (bv lt).toArray 27)) HT8.out.range HLT.out
              clear hlt hb8 hld5 hld7 hbld hzz hd20 hd21
              go_wp2_with (refine st37 rfl _ _ rfl _ _ rfl rfl lt rfl HLT.out rfl ?_)
              refine (seal_Open lt HLT.out _).mono ?_
              rintro e w9 ⟨mk, A9, m9, c9, b9, rfl, hb9, ⟨body, ho, rfl, -⟩ | ⟨-, rfl, rfl, rfl, rfl, rfl⟩⟩
              · have hor := HWH.out mk body ho
                have HB9 := Lib.hid (bthen HB8.out hb9)
                have hlda := run_ldSec (HT8.out.below hb9).range HLT.out
                have hldb := run_ldSec (HS58.out.below hb9).range HL5.out
                have hldc := run_ldSec (HS78.out.below hb9).range HL7.out
                have heq1 := eq37 w9 lt (l5) HLT.out HL5.out
                have heq2 := eq37 w9 lt l7 HLT.out HL7.out
                clear hb9 hldt ho
                by_cases hsame : lt = l5
                · rw [decide_eq_true hsame] at heq1
                  clear hsame hor
                  go_wp2_with fail
                  go_ret
                  exact ⟨rfl, HB9.out⟩
                · have hs2 : lt = l7 := by
                    rcases hor with h | h
                    · exact absurd h hsame
                    · exact h
                  rw [decide_eq_false hsame] at heq1
                  rw [decide_eq_true hs2] at heq2
                  clear hsame hor hs2
                  go_wp2_with fail
                  go_ret
                  exact ⟨rfl, HB9.out⟩
              · have HB9 := Lib.hid (bthen HB8.out hb9)
                clear hb9 hldt
                go_wp2_with fail
                go_ret
                exact ⟨rfl, HB9.out⟩
            · by_cases hz2 : z ≤ 0
              · have hz3 : ¬ 0 < z := by omega
                go_wp2_with fail
                refine (ref04_Torn l5 l7 HL5.out HL7.out 0 (Nat.zero_le 128) wc).mono ?_
                rintro e w8 ⟨rfl, hb8⟩
                obtain ⟨lt, hlt⟩ : ∃ lt, lt = l7.take 0 ++ (l5).drop 0 := ⟨_, rfl⟩
                rw [← hlt]
                have HLT : Hid (lt.length = 128) := Lib.hid (by
                  have h5 := HL5.out
                  have h7 := HL7.out
                  rw [hlt, List.length_append, List.length_take, List.length_drop, h5, h7]
                  have : 0 ≤ 128 := (Nat.zero_le 128)
                  omega)
                have HWH := Lib.hid (fun mk body (h : openM lt = some (mk, body)) => torn_whole HMO.out HE7.out HNE.out 0 (Nat.zero_le 128) (hlt ▸ h))
                rw [← hlt] at HWH
                have HB8 := Lib.hid (balloc (bthen HBE.out hb8) (.cells (bv lt).toArray 27))
                have HT8 := Lib.hid (SecAt.new w8 lt HLT.out)
                have HS58 := Lib.hid ((HS57.out.below hb8).below (below_alloc w8 (.cells (bv lt).toArray 27)))
                have HS78 := Lib.hid ((HS7.out.below hb8).below (below_alloc w8 (.cells (bv lt).toArray 27)))
                have hldt := run_ldSec (w := w8.alloc (.cells (bv lt).toArray 27)) HT8.out.range HLT.out
                clear hlt hb8 hld5 hld7 hbld hzz hd20 hd21
                go_wp2_with (refine st37 rfl _ _ rfl _ _ rfl rfl lt rfl HLT.out rfl ?_)
                refine (seal_Open lt HLT.out _).mono ?_
                rintro e w9 ⟨mk, A9, m9, c9, b9, rfl, hb9, ⟨body, ho, rfl, -⟩ | ⟨-, rfl, rfl, rfl, rfl, rfl⟩⟩
                · have hor := HWH.out mk body ho
                  have HB9 := Lib.hid (bthen HB8.out hb9)
                  have hlda := run_ldSec (HT8.out.below hb9).range HLT.out
                  have hldb := run_ldSec (HS58.out.below hb9).range HL5.out
                  have hldc := run_ldSec (HS78.out.below hb9).range HL7.out
                  have heq1 := eq37 w9 lt (l5) HLT.out HL5.out
                  have heq2 := eq37 w9 lt l7 HLT.out HL7.out
                  clear hb9 hldt ho
                  by_cases hsame : lt = l5
                  · rw [decide_eq_true hsame] at heq1
                    clear hsame hor
                    go_wp2_with fail
                    go_ret
                    exact ⟨rfl, HB9.out⟩
                  · have hs2 : lt = l7 := by
                      rcases hor with h | h
                      · exact absurd h hsame
                      · exact h
                    rw [decide_eq_false hsame] at heq1
                    rw [decide_eq_true hs2] at heq2
                    clear hsame hor hs2
                    go_wp2_with fail
                    go_ret
                    exact ⟨rfl, HB9.out⟩
                · have HB9 := Lib.hid (bthen HB8.out hb9)
                  clear hb9 hldt
                  go_wp2_with fail
                  go_ret
                  exact ⟨rfl, HB9.out⟩
              · have hz3 : 0 < z := by omega
                obtain ⟨k, rfl⟩ := Int.eq_ofNat_of_zero_le (show 0 ≤ z by omega)
                have hk : k ≤ 128 := by omega
                have hk2 : 0 < k := by omega
                have hk3 : ¬ 128 < k := by omega
                go_wp2_with fail
                refine (ref04_Torn l5 l7 HL5.out HL7.out k hk wc).mono ?_
                rintro e w8 ⟨rfl, hb8⟩
                obtain ⟨lt, hlt⟩ : ∃ lt, lt = l7.take k ++ (l5).drop k := ⟨_, rfl⟩
                rw [← hlt]
                have HLT : Hid (lt.length = 128) := Lib.hid (by
                  have h5 := HL5.out
                  have h7 := HL7.out
                  rw [hlt, List.length_append, List.length_take, List.length_drop, h5, h7]
                  have : k ≤ 128 := hk
                  omega)
                have HWH := Lib.hid (fun mk body (h : openM lt = some (mk, body)) => torn_whole HMO.out HE7.out HNE.out k hk (hlt ▸ h))
                rw [← hlt] at HWH
                have HB8 := Lib.hid (balloc (bthen HBE.out hb8) (.cells (bv lt).toArray 27))
                have HT8 := Lib.hid (SecAt.new w8 lt HLT.out)
                have HS58 := Lib.hid ((HS57.out.below hb8).below (below_alloc w8 (.cells (bv lt).toArray 27)))
                have HS78 := Lib.hid ((HS7.out.below hb8).below (below_alloc w8 (.cells (bv lt).toArray 27)))
                have hldt := run_ldSec (w := w8.alloc (.cells (bv lt).toArray 27)) HT8.out.range HLT.out
                clear hlt hb8 hld5 hld7 hbld hzz hd20 hd21
                go_wp2_with (refine st37 rfl _ _ rfl _ _ rfl rfl lt rfl HLT.out rfl ?_)
                refine (seal_Open lt HLT.out _).mono ?_
                rintro e w9 ⟨mk, A9, m9, c9, b9, rfl, hb9, ⟨body, ho, rfl, -⟩ | ⟨-, rfl, rfl, rfl, rfl, rfl⟩⟩
                · have hor := HWH.out mk body ho
                  have HB9 := Lib.hid (bthen HB8.out hb9)
                  have hlda := run_ldSec (HT8.out.below hb9).range HLT.out
                  have hldb := run_ldSec (HS58.out.below hb9).range HL5.out
                  have hldc := run_ldSec (HS78.out.below hb9).range HL7.out
                  have heq1 := eq37 w9 lt (l5) HLT.out HL5.out
                  have heq2 := eq37 w9 lt l7 HLT.out HL7.out
                  clear hb9 hldt ho
                  by_cases hsame : lt = l5
                  · rw [decide_eq_true hsame] at heq1
                    clear hsame hor
                    go_wp2_with fail
                    go_ret
                    exact ⟨rfl, HB9.out⟩
                  · have hs2 : lt = l7 := by
                      rcases hor with h | h
                      · exact absurd h hsame
                      · exact h
                    rw [decide_eq_false hsame] at heq1
                    rw [decide_eq_true hs2] at heq2
                    clear hsame hor hs2
                    go_wp2_with fail
                    go_ret
                    exact ⟨rfl, HB9.out⟩
                · have HB9 := Lib.hid (bthen HB8.out hb9)
                  clear hb9 hldt
                  go_wp2_with fail
                  go_ret
                  exact ⟨rfl, HB9.out⟩
          · subst he5 hl5
            clear key
            by_cases hz1 : 128 < z
            · have hz2 : ¬ z < 128 := by omega
              go_wp2_with fail
              refine (ref04_Torn zsec l7 HL5.out HL7.out 128 (Nat.le_refl 128) wc).mono ?_
              rintro e w8 ⟨rfl, hb8⟩
              obtain ⟨lt, hlt⟩ : ∃ lt, lt = l7.take 128 ++ (zsec).drop 128 := ⟨_, rfl⟩
              rw [← hlt]
              have HLT : Hid (lt.length = 128) := Lib.hid (by
                have h5 := HL5.out
                have h7 := HL7.out
                rw [hlt, List.length_append, List.length_take, List.length_drop, h5, h7]
                have : 128 ≤ 128 := (Nat.le_refl 128)
                omega)
              have HWH := Lib.hid (fun mk body (h : openM lt = some (mk, body)) => torn_whole HMO.out HE7.out HNE.out 128 (Nat.le_refl 128) (hlt ▸ h))
              rw [← hlt] at HWH
              have HB8 := Lib.hid (balloc (bthen HBE.out hb8) (.cells (bv lt).toArray 27))
              have HT8 := Lib.hid (SecAt.new w8 lt HLT.out)
              have HS58 := Lib.hid ((HS57.out.below hb8).below (below_alloc w8 (.cells (bv lt).toArray 27)))
              have HS78 := Lib.hid ((HS7.out.below hb8).below (below_alloc w8 (.cells (bv lt).toArray 27)))
              have hldt := run_ldSec (w := w8.alloc (.cells (bv lt).toArray 27)) HT8.out.range HLT.out
              clear hlt hb8 hld5 hld7 hbld hzz hd20 hd21
              go_wp2_with (refine st37 rfl _ _ rfl _ _ rfl rfl lt rfl HLT.out rfl ?_)
              refine (seal_Open lt HLT.out _).mono ?_
              rintro e w9 ⟨mk, A9, m9, c9, b9, rfl, hb9, ⟨body, ho, rfl, -⟩ | ⟨-, rfl, rfl, rfl, rfl, rfl⟩⟩
              · have hor := HWH.out mk body ho
                have HB9 := Lib.hid (bthen HB8.out hb9)
                have hlda := run_ldSec (HT8.out.below hb9).range HLT.out
                have hldb := run_ldSec (HS58.out.below hb9).range HL5.out
                have hldc := run_ldSec (HS78.out.below hb9).range HL7.out
                have heq1 := eq37 w9 lt (zsec) HLT.out HL5.out
                have heq2 := eq37 w9 lt l7 HLT.out HL7.out
                clear hb9 hldt ho
                by_cases hsame : lt = zsec
                · rw [decide_eq_true hsame] at heq1
                  clear hsame hor
                  go_wp2_with fail
                  go_ret
                  exact ⟨rfl, HB9.out⟩
                · have hs2 : lt = l7 := by
                    rcases hor with h | h
                    · exact absurd h hsame
                    · exact h
                  rw [decide_eq_false hsame] at heq1
                  rw [decide_eq_true hs2] at heq2
                  clear hsame hor hs2
                  go_wp2_with fail
                  go_ret
                  exact ⟨rfl, HB9.out⟩
              · have HB9 := Lib.hid (bthen HB8.out hb9)
                clear hb9 hldt
                go_wp2_with fail
                go_ret
                exact ⟨rfl, HB9.out⟩
            · by_cases hz2 : z ≤ 0
              · have hz3 : ¬ 0 < z := by omega
                go_wp2_with fail
                refine (ref04_Torn zsec l7 HL5.out HL7.out 0 (Nat.zero_le 128) wc).mono ?_
                rintro e w8 ⟨rfl, hb8⟩
                obtain ⟨lt, hlt⟩ : ∃ lt, lt = l7.take 0 ++ (zsec).drop 0 := ⟨_, rfl⟩
                rw [← hlt]
                have HLT : Hid (lt.length = 128) := Lib.hid (by
                  have h5 := HL5.out
                  have h7 := HL7.out
                  rw [hlt, List.length_append, List.length_take, List.length_drop, h5, h7]
                  have : 0 ≤ 128 := (Nat.zero_le 128)
                  omega)
                have HWH := Lib.hid (fun mk body (h : openM lt = some (mk, body)) => torn_whole HMO.out HE7.out HNE.out 0 (Nat.zero_le 128) (hlt ▸ h))
                rw [← hlt] at HWH
                have HB8 := Lib.hid (balloc (bthen HBE.out hb8) (.cells (bv lt).toArray 27))
                have HT8 := Lib.hid (SecAt.new w8 lt HLT.out)
                have HS58 := Lib.hid ((HS57.out.below hb8).below (below_alloc w8 (.cells (bv lt).toArray 27)))
                have HS78 := Lib.hid ((HS7.out.below hb8).below (below_alloc w8 (.cells (bv lt).toArray 27)))
                have hldt := run_ldSec (w := w8.alloc (.cells (bv lt).toArray 27)) HT8.out.range HLT.out
                clear hlt hb8 hld5 hld7 hbld hzz hd20 hd21
                go_wp2_with (refine st37 rfl _ _ rfl _ _ rfl rfl lt rfl HLT.out rfl ?_)
                refine (seal_Open lt HLT.out _).mono ?_
                rintro e w9 ⟨mk, A9, m9, c9, b9, rfl, hb9, ⟨body, ho, rfl, -⟩ | ⟨-, rfl, rfl, rfl, rfl, rfl⟩⟩
                · have hor := HWH.out mk body ho
                  have HB9 := Lib.hid (bthen HB8.out hb9)
                  have hlda := run_ldSec (HT8.out.below hb9).range HLT.out
                  have hldb := run_ldSec (HS58.out.below hb9).range HL5.out
                  have hldc := run_ldSec (HS78.out.below hb9).range HL7.out
                  have heq1 := eq37 w9 lt (zsec) HLT.out HL5.out
                  have heq2 := eq37 w9 lt l7 HLT.out HL7.out
                  clear hb9 hldt ho
                  by_cases hsame : lt = zsec
                  · rw [decide_eq_true hsame] at heq1
                    clear hsame hor
                    go_wp2_with fail
                    go_ret
                    exact ⟨rfl, HB9.out⟩
                  · have hs2 : lt = l7 := by
                      rcases hor with h | h
                      · exact absurd h hsame
                      · exact h
                    rw [decide_eq_false hsame] at heq1
                    rw [decide_eq_true hs2] at heq2
                    clear hsame hor hs2
                    go_wp2_with fail
                    go_ret
                    exact ⟨rfl, HB9.out⟩
                · have HB9 := Lib.hid (bthen HB8.out hb9)
                  clear hb9 hldt
                  go_wp2_with fail
                  go_ret
                  exact ⟨rfl, HB9.out⟩
              · have hz3 : 0 < z := by omega
                obtain ⟨k, rfl⟩ := Int.eq_ofNat_of_zero_le (show 0 ≤ z by omega)
                have hk : k ≤ 128 := by omega
                have hk2 : 0 < k := by omega
                have hk3 : ¬ 128 < k := by omega
                go_wp2_with fail
                refine (ref04_Torn zsec l7 HL5.out HL7.out k hk wc).mono ?_
                rintro e w8 ⟨rfl, hb8⟩
                obtain ⟨lt, hlt⟩ : ∃ lt, lt = l7.take k ++ (zsec).drop k := ⟨_, rfl⟩
                rw [← hlt]
                have HLT : Hid (lt.length = 128) := Lib.hid (by
                  have h5 := HL5.out
                  have h7 := HL7.out
                  rw [hlt, List.length_append, List.length_take, List.length_drop, h5, h7]
                  have : k ≤ 128 := hk
                  omega)
                have HWH := Lib.hid (fun mk body (h : openM lt = some (mk, body)) => torn_whole HMO.out HE7.out HNE.out k hk (hlt ▸ h))
                rw [← hlt] at HWH
                have HB8 := Lib.hid (balloc (bthen HBE.out hb8) (.cells (bv lt).toArray 27))
                have HT8 := Lib.hid (SecAt.new w8 lt HLT.out)
                have HS58 := Lib.hid ((HS57.out.below hb8).below (below_alloc w8 (.cells (bv lt).toArray 27)))
                have HS78 := Lib.hid ((HS7.out.below hb8).below (below_alloc w8 (.cells (bv lt).toArray 27)))
                have hldt := run_ldSec (w := w8.alloc (.cells (bv lt).toArray 27)) HT8.out.range HLT.out
                clear hlt hb8 hld5 hld7 hbld hzz hd20 hd21
                go_wp2_with (refine st37 rfl _ _ rfl _ _ rfl rfl lt rfl HLT.out rfl ?_)
                refine (seal_Open lt HLT.out _).mono ?_
                rintro e w9 ⟨mk, A9, m9, c9, b9, rfl, hb9, ⟨body, ho, rfl, -⟩ | ⟨-, rfl, rfl, rfl, rfl, rfl⟩⟩
                · have hor := HWH.out mk body ho
                  have HB9 := Lib.hid (bthen HB8.out hb9)
                  have hlda := run_ldSec (HT8.out.below hb9).range HLT.out
                  have hldb := run_ldSec (HS58.out.below hb9).range HL5.out
                  have hldc := run_ldSec (HS78.out.below hb9).range HL7.out
                  have heq1 := eq37 w9 lt (zsec) HLT.out HL5.out
                  have heq2 := eq37 w9 lt l7 HLT.out HL7.out
                  clear hb9 hldt ho
                  by_cases hsame : lt = zsec
                  · rw [decide_eq_true hsame] at heq1
                    clear hsame hor
                    go_wp2_with fail
                    go_ret
                    exact ⟨rfl, HB9.out⟩
                  · have hs2 : lt = l7 := by
                      rcases hor with h | h
                      · exact absurd h hsame
                      · exact h
                    rw [decide_eq_false hsame] at heq1
                    rw [decide_eq_true hs2] at heq2
                    clear hsame hor hs2
                    go_wp2_with fail
                    go_ret
                    exact ⟨rfl, HB9.out⟩
                · have HB9 := Lib.hid (bthen HB8.out hb9)
                  clear hb9 hldt
                  go_wp2_with fail
                  go_ret
                  exact ⟨rfl, HB9.out⟩
      · clear hs7 HC5 HC7
        go_wp2_with fail
        go_ret
        exact ⟨rfl, HBE.out⟩
set_option maxRecDepth 100000 in
theorem sealTears_walk {H : Type} {enc : TypeId × Value → H} {W : World} {base : Nat} {v0 v1 v2 : Value} {d0 d1 d2 : DataW H} {p0 p1 p2 : List MemPlace}
    (o0 : Value.okWide Try.prog W .any base 37 v0) (r0 : DataW.Trod enc Try.prog W 0 (fun _ => true) true 37 v0 d0 p0) (_z0 : ∀ n ∈ d0.weights Try.prog 37, n ≤ reachBytes)
    (o1 : Value.okWide Try.prog W .any base 38 v1) (r1 : DataW.Trod enc Try.prog W 0 (fun _ => true) true 38 v1 d1 p1) (z1 : ∀ n ∈ d1.weights Try.prog 38, n ≤ reachBytes)
    (o2 : Value.okWide Try.prog W .any base 3 v2) (r2 : DataW.Trod enc Try.prog W 0 (fun _ => true) true 3 v2 d2 p2) (_z2 : ∀ n ∈ d2.weights Try.prog 3, n ≤ reachBytes) :
    Calls Try.prog 7 #[v0, v1, v2] W fun e w' => e = .returned (.bool true) ∧ Below W.heap.size W w' := by
  obtain ⟨m0, m1, rfl, h0, h1⟩ := open_pairN o0 r0
  obtain ⟨A, n, c, b, A', n', c', b', rfl, hr, hn, hr', hn'⟩ := open_pairB o1 r1 z1
  obtain ⟨z, rfl, _, _⟩ := open_i64 Try.underlying3 o2 r2
  exact sealTears_main m0 m1 h0 h1 A A' n c n' c' b b' z W hr hn hr' hn'
end Go.Proofs.Ytmpeidgmicammaa
