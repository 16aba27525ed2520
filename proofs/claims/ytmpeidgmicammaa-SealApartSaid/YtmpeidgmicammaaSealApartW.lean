/- The walk of SealApart. -/
import Derived.Test.YtmpeidgmicammaaSealT
import Derived.Test.YtmpeidgmicammaaOpenP
import Derived.Test.YtmpeidgmicammaaStep
import Derived.Deep.RegionHeld3
import Derived.Deep.CutRange
import Derived.Deep.DeepCutAuto
import Derived.BigQuiet
import Derived.Deep.QuietTactic
namespace Go.Proofs.Ytmpeidgmicammaa
open Go.RowKit
attribute [local go_sem ↓] loadAt37 storeAt37 build37

theorem seal_inj {m m' : Nat} {b b' : List UInt8} (hm : m < 18446744073709551616) (h0 : m ≠ 0) (hb : b.length ≤ 106) (hm' : m' < 18446744073709551616) (h0' : m' ≠ 0) (hb' : b'.length ≤ 106) (h : sealL m b = sealL m' b') : m = m' ∧ b = b' := by
  have e1 := open_seal m b hm h0 hb
  have e2 := open_seal m' b' hm' h0' hb'
  rw [h, e2] at e1
  injection e1 with e1
  injection e1 with e1 e3
  exact ⟨e1.symm, e3.symm⟩
set_option maxRecDepth 20000 in
set_option maxHeartbeats 6400000 in
theorem sealApart_main (m0 m1 : Nat) (hm0 : m0 < 18446744073709551616) (hm1 : m1 < 18446744073709551616) (A0 A1 : Option Addr) (n0 c0 n1 c1 : Nat) (b0 b1 : List UInt8) (w : World) (hr0 : RB w A0 n0 c0 b0) (hn0 : n0 ≤ 140737488351232) (hr1 : RB w A1 n1 c1 b1) (hn1 : n1 ≤ 140737488351232) :
    Calls Try.prog 8 #[.agg #[.int .u64 m0, .int .u64 m1], .agg #[.slice A0 n0 c0, .slice A1 n1 c1]] w fun e w' => e = .returned (.bool true) ∧ Below w.heap.size w w' := by
  have HR0 := Lib.hid hr0; have HR1 := Lib.hid hr1; have HM0 := Lib.hid hm0; have HM1 := Lib.hid hm1
  clear hr0 hr1 hm0 hm1
  go_enter Try.func8, Try.ntmps8
  go_wp2_with fail
  have hbx := (below_alloc w (.cells #[.int .u64 m0, .int .u64 m1] 37)).alloc (by simp) (.cells #[.slice A0 n0 c0, .slice A1 n1 c1] 38)
  have hx2 : ((w.alloc (.cells #[.int .u64 m0, .int .u64 m1] 37)).alloc (.cells #[.slice A0 n0 c0, .slice A1 n1 c1] 38)).heap[w.heap.size]? = some (.cells #[.int .u64 m0, .int .u64 m1] 37 (0, 0)) := by
    rw [Go.heap_alloc_old _ _ (by simp)]
    exact heap_alloc_new w _
  have hx3 : ((w.alloc (.cells #[.int .u64 m0, .int .u64 m1] 37)).alloc (.cells #[.slice A0 n0 c0, .slice A1 n1 c1] 38)).heap[w.heap.size + 1]? = some (.cells #[.slice A0 n0 c0, .slice A1 n1 c1] 38 (0, 0)) := by
    have := heap_alloc_new (w.alloc (.cells #[.int .u64 m0, .int .u64 m1] 37)) (.cells #[.slice A0 n0 c0, .slice A1 n1 c1] 38)
    simpa using this
  have HBX := Lib.hid hbx; have HX2 := Lib.hid hx2; have HX3 := Lib.hid hx3
  clear hbx hx2 hx3
  refine (sealAlive_true _).mono ?_
  rintro e w1 ⟨rfl, hb1⟩
  have HB1 := Lib.hid (bthen HBX.out hb1)
  have HY2 := Lib.hid ((hb1.block w.heap.size (by simp; omega)).trans HX2.out)
  have HY3 := Lib.hid ((hb1.block (w.heap.size + 1) (by simp)).trans HX3.out)
  have hc20 : w1.cell? ⟨w.heap.size, 0, none⟩ = some (.int .u64 m0) := by rw [cell_of_row w1 w.heap.size 0 _ _ _ HY2.out]; rfl
  have hc30 : w1.cell? ⟨w.heap.size + 1, 0, none⟩ = some (.slice A0 n0 c0) := by rw [cell_of_row w1 (w.heap.size + 1) 0 _ _ _ HY3.out]; rfl
  clear HX2 HX3 HBX hb1
  go_upto_region 3 with fail
  go_cut [5, 6] from 11 to 20 (fun p e wx => ∃ g l ev, p = .pointer (some ⟨g, 0, none⟩) ∧ e = .int .i64 ev ∧ Hid (SecAt wx g l) ∧ Hid (w1.heap.size ≤ g) ∧ Hid (Below w1.heap.size w1 wx) ∧ Hid ((makeM m0 b0 = some l ∧ ev = 0) ∨ (makeM m0 b0 = none ∧ l = zsec ∧ ev = 51)))
  case first =>
    go_region_held3 (fun w' => w'.cell? ⟨w.heap.size, 0, none⟩ = some (.int .u64 m0) ∧ w'.cell? ⟨w.heap.size + 1, 0, none⟩ = some (.slice A0 n0 c0)) (first | go_keep | (constructor <;> assumption))
      (first
        | (refine step_append_any (by rfl) _ _ 23 5 (.int .u8 0) 1 1 (by rfl) Try.underlying23 Try.infoU8' rfl (by decide) (by decide) w1.heap.size (.slice (some ⟨w1.heap.size, 0, none⟩) 0 0) 0 [] A0 n0 c0 (bv b0) (by rfl) (by rfl) ((own_empty w1 w1.heap.size _ 1 (Nat.le_refl _)).drew) ((HR0.out.below ((HB1.out.alloc HB1.out.size _).drew)).rd) (bv_one _) (by omega) (by simp) ?_
           intro v2 w2 hown2 hg2 ha2
           rw [Nat.zero_add, List.nil_append] at hown2
           obtain ⟨A2, c2, rfl, hrb2⟩ := own_rb hown2
           have hb2 : Below w1.heap.size w1 w2 := Below.grown ((below_alloc w1 _).drew) hg2 (by simp) (fun k hk => by simp [Value.ownBlock] at hk; omega)
           have hS : w2.cell? ⟨w.heap.size, 0, none⟩ = some (.int .u64 m0) ∧ w2.cell? ⟨w.heap.size + 1, 0, none⟩ = some (.slice A0 n0 c0) := ⟨(World.cell?_of_block (hb2.block w.heap.size (lt_of_heap HY2.out))).trans hc20, (World.cell?_of_block (hb2.block (w.heap.size + 1) (lt_of_heap HY3.out))).trans hc30⟩
           have HV1 : Hid True := Lib.hid trivial
           have HB12 := Lib.hid hb2; have HR2 := Lib.hid hrb2
           clear hown2 hg2 ha2 hrb2 hb2)
        | (refine step_append_any (by rfl) _ _ 23 5 (.int .u8 0) 1 1 (by rfl) Try.underlying23 Try.infoU8' rfl (by decide) (by decide) w1.heap.size (.slice (some ⟨w1.heap.size, 0, none⟩) 0 0) 0 [] A0 n0 c0 (bv b0) (by rfl) (by rfl) (((own_empty w1 w1.heap.size _ 1 (Nat.le_refl _)).alloc _).drew) ((HR0.out.below (((HB1.out.alloc HB1.out.size _).alloc (by have := HB1.out.size; simp; omega) (.cells Try.zeroCells27 27)).drew)).rd) (bv_one _) (by omega) (by simp; omega) ?_
           intro v2 w2 hown2 hg2 ha2
           rw [Nat.zero_add, List.nil_append] at hown2
           obtain ⟨A2, c2, rfl, hrb2⟩ := own_rb hown2
           have hb2 : Below w1.heap.size w1 w2 := Below.grown (((below_alloc w1 _).alloc (by simp) _).drew) hg2 (by simp; omega) (fun k hk => by simp [Value.ownBlock] at hk; omega)
           have hz : SecAt ((w1.alloc (.cells #[] 5)).alloc (.cells Try.zeroCells27 27)).drew (w1.heap.size + 1) zsec := by
             have h0 := SecAt.new (w1.alloc (.cells #[] 5)) zsec zsec_length
             rw [show (w1.alloc (.cells #[] 5)).heap.size = w1.heap.size + 1 by simp] at h0
             rw [Try.zero37]
             exact ⟨h0.1, h0.2⟩
           have hz2 : SecAt w2 (w1.heap.size + 1) zsec := ⟨(hg2.block _ (lt_of_heap hz.1) (by simp [Value.ownBlock])).trans hz.1, zsec_length⟩
           have hS : w2.cell? ⟨w.heap.size, 0, none⟩ = some (.int .u64 m0) ∧ w2.cell? ⟨w.heap.size + 1, 0, none⟩ = some (.slice A0 n0 c0) := ⟨(World.cell?_of_block (hb2.block w.heap.size (lt_of_heap HY2.out))).trans hc20, (World.cell?_of_block (hb2.block (w.heap.size + 1) (lt_of_heap HY3.out))).trans hc30⟩
           have HZa := Lib.hid hz2
           have HB12 := Lib.hid hb2; have HR2 := Lib.hid hrb2
           clear hown2 hg2 ha2 hrb2 hb2 hz hz2)
        | (refine step_append_any (by rfl) _ _ 23 5 (.int .u8 0) 1 1 (by rfl) Try.underlying23 Try.infoU8' rfl (by decide) (by decide) w1.heap.size (.slice (some ⟨w1.heap.size + 1, 0, none⟩) 0 0) 0 [] A0 n0 c0 (bv b0) (by rfl) (by rfl) (by simpa using (own_empty (w1.alloc (.cells Try.zeroCells27 27)) w1.heap.size 5 1 (by simp)).drew) ((HR0.out.below (((HB1.out.alloc HB1.out.size (.cells Try.zeroCells27 27)).alloc (by have := HB1.out.size; simp; omega) _).drew)).rd) (bv_one _) (by omega) (by simp; omega) ?_
           intro v2 w2 hown2 hg2 ha2
           rw [Nat.zero_add, List.nil_append] at hown2
           obtain ⟨A2, c2, rfl, hrb2⟩ := own_rb hown2
           have hb2 : Below w1.heap.size w1 w2 := Below.grown (((below_alloc w1 _).alloc (by simp) _).drew) hg2 (by simp; omega) (fun k hk => by simp [Value.ownBlock] at hk; omega)
           have hz : SecAt ((w1.alloc (.cells Try.zeroCells27 27)).alloc (.cells #[] 5)).drew w1.heap.size zsec := by
             have h0 := (SecAt.new w1 zsec zsec_length).below (below_alloc _ (.cells #[] 5))
             rw [Try.zero37]
             exact ⟨h0.1, h0.2⟩
           have hz2 : SecAt w2 w1.heap.size zsec := ⟨(hg2.block _ (lt_of_heap hz.1) (by simp [Value.ownBlock])).trans hz.1, zsec_length⟩
           have hS : w2.cell? ⟨w.heap.size, 0, none⟩ = some (.int .u64 m0) ∧ w2.cell? ⟨w.heap.size + 1, 0, none⟩ = some (.slice A0 n0 c0) := ⟨(World.cell?_of_block (hb2.block w.heap.size (lt_of_heap HY2.out))).trans hc20, (World.cell?_of_block (hb2.block (w.heap.size + 1) (lt_of_heap HY3.out))).trans hc30⟩
           have HZb := Lib.hid hz2
           have HB12 := Lib.hid hb2; have HR2 := Lib.hid hrb2
           clear hown2 hg2 ha2 hrb2 hb2 hz hz2)
        | (go_at_call 10
           have hB := HZa
           refine (seal_Make m0 HM0.out A2 n0 c2 b0 w2 HR2.out hn0).mono ?_
           rintro e w3 ⟨l3, e3, rfl, hl3, hb3, hc3⟩
           have hsa := hB.out.below hb3
           have ho3 := bv_one l3
           have hn3 : (Try.prog.info? 27).map (·.size) = some (bv l3).length := Try.size37.trans (by rw [bv_length, hl3])
           have hlen3 : (bv l3).length = 128 := by rw [bv_length, hl3]
           have hth3 : w3.there (w1.heap.size + 1) 0 (bv l3).length := by rw [hlen3]; exact hsa.there
           have HB13 := Lib.hid (bthen HB12.out hb3)
           have hfin := hsa.stored hl3
           have HEND : Hid (SecAt (w3.setCells (w1.heap.size + 1) 0 (bv l3)) (w1.heap.size + 1) l3 ∧ w1.heap.size ≤ w1.heap.size + 1 ∧ Below w1.heap.size w1 (w3.setCells (w1.heap.size + 1) 0 (bv l3))) := Lib.hid ⟨hfin.1, by omega, HB13.out.trans (hfin.2.below HB13.out.size (fun _ e => by rw [e]; omega))⟩
           have hS4 := (World.cell?_of_block (a := ⟨w.heap.size, 0, none⟩) (HEND.out.2.2.block w.heap.size (lt_of_heap HY2.out))).trans hc20
           have hS5 := (World.cell?_of_block (a := ⟨w.heap.size + 1, 0, none⟩) (HEND.out.2.2.block (w.heap.size + 1) (lt_of_heap HY3.out))).trans hc30
           have HC3 := Lib.hid hc3
           have hS : w3.cell? ⟨w.heap.size, 0, none⟩ = some (.int .u64 m0) ∧ w3.cell? ⟨w.heap.size + 1, 0, none⟩ = some (.slice A0 n0 c0) := ⟨(World.cell?_of_block (HB13.out.block w.heap.size (lt_of_heap HY2.out))).trans hc20, (World.cell?_of_block (HB13.out.block (w.heap.size + 1) (lt_of_heap HY3.out))).trans hc30⟩
           clear hl3 hb3 hc3 hsa hfin hlen3)
        | (go_at_call 10
           have hB := HZb
           refine (seal_Make m0 HM0.out A2 n0 c2 b0 w2 HR2.out hn0).mono ?_
           rintro e w3 ⟨l3, e3, rfl, hl3, hb3, hc3⟩
           have hsa := hB.out.below hb3
           have ho3 := bv_one l3
           have hn3 : (Try.prog.info? 27).map (·.size) = some (bv l3).length := Try.size37.trans (by rw [bv_length, hl3])
           have hlen3 : (bv l3).length = 128 := by rw [bv_length, hl3]
           have hth3 : w3.there w1.heap.size 0 (bv l3).length := by rw [hlen3]; exact hsa.there
           have HB13 := Lib.hid (bthen HB12.out hb3)
           have hfin := hsa.stored hl3
           have HEND : Hid (SecAt (w3.setCells w1.heap.size 0 (bv l3)) w1.heap.size l3 ∧ w1.heap.size ≤ w1.heap.size ∧ Below w1.heap.size w1 (w3.setCells w1.heap.size 0 (bv l3))) := Lib.hid ⟨hfin.1, by omega, HB13.out.trans (hfin.2.below HB13.out.size (fun _ e => by rw [e]; omega))⟩
           have hS4 := (World.cell?_of_block (a := ⟨w.heap.size, 0, none⟩) (HEND.out.2.2.block w.heap.size (lt_of_heap HY2.out))).trans hc20
           have hS5 := (World.cell?_of_block (a := ⟨w.heap.size + 1, 0, none⟩) (HEND.out.2.2.block (w.heap.size + 1) (lt_of_heap HY3.out))).trans hc30
           have HC3 := Lib.hid hc3
           have hS : w3.cell? ⟨w.heap.size, 0, none⟩ = some (.int .u64 m0) ∧ w3.cell? ⟨w.heap.size + 1, 0, none⟩ = some (.slice A0 n0 c0) := ⟨(World.cell?_of_block (HB13.out.block w.heap.size (lt_of_heap HY2.out))).trans hc20, (World.cell?_of_block (HB13.out.block (w.heap.size + 1) (lt_of_heap HY3.out))).trans hc30⟩
           clear hl3 hb3 hc3 hsa hfin hlen3)
        | (go_at_call 10
           have hB := HV1
           refine (seal_Make m0 HM0.out A2 n0 c2 b0 _ (by first | exact HR2.out | exact HR2.out.alloc _) hn0).mono ?_
           rintro e w3 ⟨l3, e3, rfl, hl3, hb3, hc3⟩
           have ho3 := bv_one l3
           have hn3 : (Try.prog.info? 27).map (·.size) = some (bv l3).length := Try.size37.trans (by rw [bv_length, hl3])
           have hlen3 : (bv l3).length = 128 := by rw [bv_length, hl3]
           have hnw : SecAt (w3.alloc (.cells Try.zeroCells27 27)) w3.heap.size zsec := by
             rw [Try.zero37]
             exact SecAt.new w3 zsec zsec_length
           have hth3 : (w3.alloc (.cells Try.zeroCells27 27)).there w3.heap.size 0 (bv l3).length := by rw [hlen3]; exact hnw.there
           have hfn := hnw.stored hl3
           have hb13 : Below w1.heap.size w1 w3 := by first | exact bthen HB12.out hb3 | exact bthen (balloc HB12.out _) hb3
           have HB13 := Lib.hid hb13
           have HEND : Hid (SecAt ((w3.alloc (.cells Try.zeroCells27 27)).setCells w3.heap.size 0 (bv l3)) w3.heap.size l3 ∧ w1.heap.size ≤ w3.heap.size ∧ Below w1.heap.size w1 ((w3.alloc (.cells Try.zeroCells27 27)).setCells w3.heap.size 0 (bv l3))) := Lib.hid ⟨hfn.1, hb13.size, (balloc hb13 _).trans (hfn.2.below (balloc hb13 _).size (fun _ e => by rw [e]; exact hb13.size))⟩
           have hS4 := (World.cell?_of_block (a := ⟨w.heap.size, 0, none⟩) (HEND.out.2.2.block w.heap.size (lt_of_heap HY2.out))).trans hc20
           have hS5 := (World.cell?_of_block (a := ⟨w.heap.size + 1, 0, none⟩) (HEND.out.2.2.block (w.heap.size + 1) (lt_of_heap HY3.out))).trans hc30
           try (have hsz : SecAt w3 w2.heap.size zsec := by
                  have h0 := SecAt.new w2 zsec zsec_length
                  rw [← Try.zero37] at h0
                  exact h0.below hb3
                have hth4 : w3.there w2.heap.size 0 (bv l3).length := by rw [hlen3]; exact hsz.there
                have hfin := hsz.stored hl3
                have HEND2 : Hid (SecAt (w3.setCells w2.heap.size 0 (bv l3)) w2.heap.size l3 ∧ w1.heap.size ≤ w2.heap.size ∧ Below w1.heap.size w1 (w3.setCells w2.heap.size 0 (bv l3))) := Lib.hid ⟨hfin.1, HB12.out.size, hb13.trans (hfin.2.below hb13.size (fun _ e => by rw [e]; exact HB12.out.size))⟩
                have hS6 := (World.cell?_of_block (a := ⟨w.heap.size, 0, none⟩) (HEND2.out.2.2.block w.heap.size (lt_of_heap HY2.out))).trans hc20
                have hS7 := (World.cell?_of_block (a := ⟨w.heap.size + 1, 0, none⟩) (HEND2.out.2.2.block (w.heap.size + 1) (lt_of_heap HY3.out))).trans hc30
                clear hsz hfin)
           have HC3 := Lib.hid hc3
           have hS : w3.cell? ⟨w.heap.size, 0, none⟩ = some (.int .u64 m0) ∧ w3.cell? ⟨w.heap.size + 1, 0, none⟩ = some (.slice A0 n0 c0) := ⟨(World.cell?_of_block (HB13.out.block w.heap.size (lt_of_heap HY2.out))).trans hc20, (World.cell?_of_block (HB13.out.block (w.heap.size + 1) (lt_of_heap HY3.out))).trans hc30⟩
           clear hl3 hb3 hc3 hb13 hnw hfn hlen3))
    all_goals
      go_wp2_with fail
      go_meet
      first
        | exact ⟨_, l3, e3, rfl, rfl, Lib.hid HEND.out.1, Lib.hid HEND.out.2.1, Lib.hid HEND.out.2.2, HC3⟩
        | exact ⟨_, l3, e3, rfl, rfl, Lib.hid HEND2.out.1, Lib.hid HEND2.out.2.1, Lib.hid HEND2.out.2.2, HC3⟩
  case rest =>
    obtain ⟨g5, l5, e5, rfl, rfl, HS5, HG5, HBc, HC5⟩ := hcut
    obtain ⟨w4, hw4⟩ : ∃ w4, w4 = wc := ⟨wc, rfl⟩
    subst hw4
    have HB4 := Lib.hid (bthen HB1.out HBc.out)
    have HZ2 := Lib.hid ((HBc.out.block w.heap.size (lt_of_heap HY2.out)).trans HY2.out)
    have HZ3 := Lib.hid ((HBc.out.block (w.heap.size + 1) (lt_of_heap HY3.out)).trans HY3.out)
    have hc21 : w4.cell? ⟨w.heap.size, 1, none⟩ = some (.int .u64 m1) := by rw [cell_of_row w4 w.heap.size 1 _ _ _ HZ2.out]; rfl
    have hc31 : w4.cell? ⟨w.heap.size + 1, 1, none⟩ = some (.slice A1 n1 c1) := by rw [cell_of_row w4 (w.heap.size + 1) 1 _ _ _ HZ3.out]; rfl
    clear hc20 hc30
    go_upto_region 4 with fail
    go_cut [7, 8] from 21 to 30 (fun p e wx => ∃ g l ev, p = .pointer (some ⟨g, 0, none⟩) ∧ e = .int .i64 ev ∧ Hid (SecAt wx g l) ∧ Hid (w4.heap.size ≤ g) ∧ Hid (Below w4.heap.size w4 wx) ∧ Hid ((makeM m1 b1 = some l ∧ ev = 0) ∨ (makeM m1 b1 = none ∧ l = zsec ∧ ev = 51)))
    case first =>
      go_region_held3 (fun w' => w'.cell? ⟨w.heap.size, 1, none⟩ = some (.int .u64 m1) ∧ w'.cell? ⟨w.heap.size + 1, 1, none⟩ = some (.slice A1 n1 c1)) (first | go_keep | (constructor <;> assumption))
        (first
          | (refine step_append_any (by rfl) _ _ 23 5 (.int .u8 0) 1 1 (by rfl) Try.underlying23 Try.infoU8' rfl (by decide) (by decide) w4.heap.size (.slice (some ⟨w4.heap.size, 0, none⟩) 0 0) 0 [] A1 n1 c1 (bv b1) (by rfl) (by rfl) ((own_empty w4 w4.heap.size _ 1 (Nat.le_refl _)).drew) ((HR1.out.below ((HB4.out.alloc HB4.out.size _).drew)).rd) (bv_one _) (by omega) (by simp) ?_
             intro v2 w2 hown2 hg2 ha2
             rw [Nat.zero_add, List.nil_append] at hown2
             obtain ⟨A2, c2, rfl, hrb2⟩ := own_rb hown2
             have hb2 : Below w4.heap.size w4 w2 := Below.grown ((below_alloc w4 _).drew) hg2 (by simp) (fun k hk => by simp [Value.ownBlock] at hk; omega)
             have hS : w2.cell? ⟨w.heap.size, 1, none⟩ = some (.int .u64 m1) ∧ w2.cell? ⟨w.heap.size + 1, 1, none⟩ = some (.slice A1 n1 c1) := ⟨(World.cell?_of_block (hb2.block w.heap.size (lt_of_heap HZ2.out))).trans hc21, (World.cell?_of_block (hb2.block (w.heap.size + 1) (lt_of_heap HZ3.out))).trans hc31⟩
             have HV1 : Hid True := Lib.hid trivial
             have HB12 := Lib.hid hb2; have HR2 := Lib.hid hrb2
             clear hown2 hg2 ha2 hrb2 hb2)
          | (refine step_append_any (by rfl) _ _ 23 5 (.int .u8 0) 1 1 (by rfl) Try.underlying23 Try.infoU8' rfl (by decide) (by decide) w4.heap.size (.slice (some ⟨w4.heap.size, 0, none⟩) 0 0) 0 [] A1 n1 c1 (bv b1) (by rfl) (by rfl) (((own_empty w4 w4.heap.size _ 1 (Nat.le_refl _)).alloc _).drew) ((HR1.out.below (((HB4.out.alloc HB4.out.size _).alloc (by have := HB4.out.size; simp; omega) (.cells Try.zeroCells27 27)).drew)).rd) (bv_one _) (by omega) (by simp; omega) ?_
             intro v2 w2 hown2 hg2 ha2
             rw [Nat.zero_add, List.nil_append] at hown2
             obtain ⟨A2, c2, rfl, hrb2⟩ := own_rb hown2
             have hb2 : Below w4.heap.size w4 w2 := Below.grown (((below_alloc w4 _).alloc (by simp) _).drew) hg2 (by simp; omega) (fun k hk => by simp [Value.ownBlock] at hk; omega)
             have hz : SecAt ((w4.alloc (.cells #[] 5)).alloc (.cells Try.zeroCells27 27)).drew (w4.heap.size + 1) zsec := by
               have h0 := SecAt.new (w4.alloc (.cells #[] 5)) zsec zsec_length
               rw [show (w4.alloc (.cells #[] 5)).heap.size = w4.heap.size + 1 by simp] at h0
               rw [Try.zero37]
               exact ⟨h0.1, h0.2⟩
             have hz2 : SecAt w2 (w4.heap.size + 1) zsec := ⟨(hg2.block _ (lt_of_heap hz.1) (by simp [Value.ownBlock])).trans hz.1, zsec_length⟩
             have hS : w2.cell? ⟨w.heap.size, 1, none⟩ = some (.int .u64 m1) ∧ w2.cell? ⟨w.heap.size + 1, 1, none⟩ = some (.slice A1 n1 c1) := ⟨(World.cell?_of_block (hb2.block w.heap.size (lt_of_heap HZ2.out))).trans hc21, (World.cell?_of_block (hb2.block (w.heap.size + 1) (lt_of_heap HZ3.out))).trans hc31⟩
             have HZa := Lib.hid hz2
             have HB12 := Lib.hid hb2; have HR2 := Lib.hid hrb2
             clear hown2 hg2 ha2 hrb2 hb2 hz hz2)
          | (refine step_append_any (by rfl) _ _ 23 5 (.int .u8 0) 1 1 (by rfl) Try.underlying23 Try.infoU8' rfl (by decide) (by decide) w4.heap.size (.slice (some ⟨w4.heap.size + 1, 0, none⟩) 0 0) 0 [] A1 n1 c1 (bv b1) (by rfl) (by rfl) (by simpa using (own_empty (w4.alloc (.cells Try.zeroCells27 27)) w4.heap.size 5 1 (by simp)).drew) ((HR1.out.below (((HB4.out.alloc HB4.out.size (.cells Try.zeroCells27 27)).alloc (by have := HB4.out.size; simp; omega) _).drew)).rd) (bv_one _) (by omega) (by simp; omega) ?_
             intro v2 w2 hown2 hg2 ha2
             rw [Nat.zero_add, List.nil_append] at hown2
             obtain ⟨A2, c2, rfl, hrb2⟩ := own_rb hown2
             have hb2 : Below w4.heap.size w4 w2 := Below.grown (((below_alloc w4 _).alloc (by simp) _).drew) hg2 (by simp; omega) (fun k hk => by simp [Value.ownBlock] at hk; omega)
             have hz : SecAt ((w4.alloc (.cells Try.zeroCells27 27)).alloc (.cells #[] 5)).drew w4.heap.size zsec := by
               have h0 := (SecAt.new w4 zsec zsec_length).below (below_alloc _ (.cells #[] 5))
               rw [Try.zero37]
               exact ⟨h0.1, h0.2⟩
             have hz2 : SecAt w2 w4.heap.size zsec := ⟨(hg2.block _ (lt_of_heap hz.1) (by simp [Value.ownBlock])).trans hz.1, zsec_length⟩
             have hS : w2.cell? ⟨w.heap.size, 1, none⟩ = some (.int .u64 m1) ∧ w2.cell? ⟨w.heap.size + 1, 1, none⟩ = some (.slice A1 n1 c1) := ⟨(World.cell?_of_block (hb2.block w.heap.size (lt_of_heap HZ2.out))).trans hc21, (World.cell?_of_block (hb2.block (w.heap.size + 1) (lt_of_heap HZ3.out))).trans hc31⟩
             have HZb := Lib.hid hz2
             have HB12 := Lib.hid hb2; have HR2 := Lib.hid hrb2
             clear hown2 hg2 ha2 hrb2 hb2 hz hz2)
          | (go_at_call 10
             have hB := HZa
             refine (seal_Make m1 HM1.out A2 n1 c2 b1 w2 HR2.out hn1).mono ?_
             rintro e w3 ⟨l3, e3, rfl, hl3, hb3, hc3⟩
             have hsa := hB.out.below hb3
             have ho3 := bv_one l3
             have hn3 : (Try.prog.info? 27).map (·.size) = some (bv l3).length := Try.size37.trans (by rw [bv_length, hl3])
             have hlen3 : (bv l3).length = 128 := by rw [bv_length, hl3]
             have hth3 : w3.there (w4.heap.size + 1) 0 (bv l3).length := by rw [hlen3]; exact hsa.there
             have HB13 := Lib.hid (bthen HB12.out hb3)
             have hfin := hsa.stored hl3
             have HEND : Hid (SecAt (w3.setCells (w4.heap.size + 1) 0 (bv l3)) (w4.heap.size + 1) l3 ∧ w4.heap.size ≤ w4.heap.size + 1 ∧ Below w4.heap.size w4 (w3.setCells (w4.heap.size + 1) 0 (bv l3))) := Lib.hid ⟨hfin.1, by omega, HB13.out.trans (hfin.2.below HB13.out.size (fun _ e => by rw [e]; omega))⟩
             have hS4 := (World.cell?_of_block (a := ⟨w.heap.size, 1, none⟩) (HEND.out.2.2.block w.heap.size (lt_of_heap HZ2.out))).trans hc21
             have hS5 := (World.cell?_of_block (a := ⟨w.heap.size + 1, 1, none⟩) (HEND.out.2.2.block (w.heap.size + 1) (lt_of_heap HZ3.out))).trans hc31
             have HC3 := Lib.hid hc3
             have hS : w3.cell? ⟨w.heap.size, 1, none⟩ = some (.int .u64 m1) ∧ w3.cell? ⟨w.heap.size + 1, 1, none⟩ = some (.slice A1 n1 c1) := ⟨(World.cell?_of_block (HB13.out.block w.heap.size (lt_of_heap HZ2.out))).trans hc21, (World.cell?_of_block (HB13.out.block (w.heap.size + 1) (lt_of_heap HZ3.out))).trans hc31⟩
             clear hl3 hb3 hc3 hsa hfin hlen3)
          | (go_at_call 10
             have hB := HZb
             refine (seal_Make m1 HM1.out A2 n1 c2 b1 w2 HR2.out hn1).mono ?_
             rintro e w3 ⟨l3, e3, rfl, hl3, hb3, hc3⟩
             have hsa := hB.out.below hb3
             have ho3 := bv_one l3
             have hn3 : (Try.prog.info? 27).map (·.size) = some (bv l3).length := Try.size37.trans (by rw [bv_length, hl3])
             have hlen3 : (bv l3).length = 128 := by rw [bv_length, hl3]
             have hth3 : w3.there w4.heap.size 0 (bv l3).length := by rw [hlen3]; exact hsa.there
             have HB13 := Lib.hid (bthen HB12.out hb3)
             have hfin := hsa.stored hl3
             have HEND : Hid (SecAt (w3.setCells w4.heap.size 0 (bv l3)) w4.heap.size l3 ∧ w4.heap.size ≤ w4.heap.size ∧ Below w4.heap.size w4 (w3.setCells w4.heap.size 0 (bv l3))) := Lib.hid ⟨hfin.1, by omega, HB13.out.trans (hfin.2.below HB13.out.size (fun _ e => by rw [e]; omega))⟩
             have hS4 := (World.cell?_of_block (a := ⟨w.heap.size, 1, none⟩) (HEND.out.2.2.block w.heap.size (lt_of_heap HZ2.out))).trans hc21
             have hS5 := (World.cell?_of_block (a := ⟨w.heap.size + 1, 1, none⟩) (HEND.out.2.2.block (w.heap.size + 1) (lt_of_heap HZ3.out))).trans hc31
             have HC3 := Lib.hid hc3
             have hS : w3.cell? ⟨w.heap.size, 1, none⟩ = some (.int .u64 m1) ∧ w3.cell? ⟨w.heap.size + 1, 1, none⟩ = some (.slice A1 n1 c1) := ⟨(World.cell?_of_block (HB13.out.block w.heap.size (lt_of_heap HZ2.out))).trans hc21, (World.cell?_of_block (HB13.out.block (w.heap.size + 1) (lt_of_heap HZ3.out))).trans hc31⟩
             clear hl3 hb3 hc3 hsa hfin hlen3)
          | (go_at_call 10
             have hB := HV1
             refine (seal_Make m1 HM1.out A2 n1 c2 b1 _ (by first | exact HR2.out | exact HR2.out.alloc _) hn1).mono ?_
             rintro e w3 ⟨l3, e3, rfl, hl3, hb3, hc3⟩
             have ho3 := bv_one l3
             have hn3 : (Try.prog.info? 27).map (·.size) = some (bv l3).length := Try.size37.trans (by rw [bv_length, hl3])
             have hlen3 : (bv l3).length = 128 := by rw [bv_length, hl3]
             have hnw : SecAt (w3.alloc (.cells Try.zeroCells27 27)) w3.heap.size zsec := by
               rw [Try.zero37]
               exact SecAt.new w3 zsec zsec_length
             have hth3 : (w3.alloc (.cells Try.zeroCells27 27)).there w3.heap.size 0 (bv l3).length := by rw [hlen3]; exact hnw.there
             have hfn := hnw.stored hl3
             have hb13 : Below w4.heap.size w4 w3 := by first | exact bthen HB12.out hb3 | exact bthen (balloc HB12.out _) hb3
             have HB13 := Lib.hid hb13
             have HEND : Hid (SecAt ((w3.alloc (.cells Try.zeroCells27 27)).setCells w3.heap.size 0 (bv l3)) w3.heap.size l3 ∧ w4.heap.size ≤ w3.heap.size ∧ Below w4.heap.size w4 ((w3.alloc (.cells Try.zeroCells27 27)).setCells w3.heap.size 0 (bv l3))) := Lib.hid ⟨hfn.1, hb13.size, (balloc hb13 _).trans (hfn.2.below (balloc hb13 _).size (fun _ e => by rw [e]; exact hb13.size))⟩
             have hS4 := (World.cell?_of_block (a := ⟨w.heap.size, 1, none⟩) (HEND.out.2.2.block w.heap.size (lt_of_heap HZ2.out))).trans hc21
             have hS5 := (World.cell?_of_block (a := ⟨w.heap.size + 1, 1, none⟩) (HEND.out.2.2.block (w.heap.size + 1) (lt_of_heap HZ3.out))).trans hc31
             try (have hsz : SecAt w3 w2.heap.size zsec := by
                    have h0 := SecAt.new w2 zsec zsec_length
                    rw [← Try.zero37] at h0
                    exact h0.below hb3
                  have hth4 : w3.there w2.heap.size 0 (bv l3).length := by rw [hlen3]; exact hsz.there
                  have hfin := hsz.stored hl3
                  have HEND2 : Hid (SecAt (w3.setCells w2.heap.size 0 (bv l3)) w2.heap.size l3 ∧ w4.heap.size ≤ w2.heap.size ∧ Below w4.heap.size w4 (w3.setCells w2.heap.size 0 (bv l3))) := Lib.hid ⟨hfin.1, HB12.out.size, hb13.trans (hfin.2.below hb13.size (fun _ e => by rw [e]; exact HB12.out.size))⟩
                  have hS6 := (World.cell?_of_block (a := ⟨w.heap.size, 1, none⟩) (HEND2.out.2.2.block w.heap.size (lt_of_heap HZ2.out))).trans hc21
                  have hS7 := (World.cell?_of_block (a := ⟨w.heap.size + 1, 1, none⟩) (HEND2.out.2.2.block (w.heap.size + 1) (lt_of_heap HZ3.out))).trans hc31
                  clear hsz hfin)
             have HC3 := Lib.hid hc3
             have hS : w3.cell? ⟨w.heap.size, 1, none⟩ = some (.int .u64 m1) ∧ w3.cell? ⟨w.heap.size + 1, 1, none⟩ = some (.slice A1 n1 c1) := ⟨(World.cell?_of_block (HB13.out.block w.heap.size (lt_of_heap HZ2.out))).trans hc21, (World.cell?_of_block (HB13.out.block (w.heap.size + 1) (lt_of_heap HZ3.out))).trans hc31⟩
             clear hl3 hb3 hc3 hb13 hnw hfn hlen3))
      all_goals
        go_wp2_with fail
        go_meet
        first
          | exact ⟨_, l3, e3, rfl, rfl, Lib.hid HEND.out.1, Lib.hid HEND.out.2.1, Lib.hid HEND.out.2.2, HC3⟩
          | exact ⟨_, l3, e3, rfl, rfl, Lib.hid HEND2.out.1, Lib.hid HEND2.out.2.1, Lib.hid HEND2.out.2.2, HC3⟩
    case rest =>
      obtain ⟨g7, l7, e7, rfl, rfl, HS7, HG7, HBd, HC7⟩ := hcut
      have HBE := Lib.hid (bthen HB4.out HBd.out)
      have HS57 := Lib.hid (HS5.out.below HBd.out)
      have hd20 : wc.cell? ⟨w.heap.size, 0, none⟩ = some (.int .u64 m0) := by rw [cell_of_row wc w.heap.size 0 _ _ _ ((HBd.out.block w.heap.size (lt_of_heap HZ2.out)).trans HZ2.out)]; rfl
      have hd21 : wc.cell? ⟨w.heap.size, 1, none⟩ = some (.int .u64 m1) := by rw [cell_of_row wc w.heap.size 1 _ _ _ ((HBd.out.block w.heap.size (lt_of_heap HZ2.out)).trans HZ2.out)]; rfl
      have hd30 : wc.cell? ⟨w.heap.size + 1, 0, none⟩ = some (.slice A0 n0 c0) := by rw [cell_of_row wc (w.heap.size + 1) 0 _ _ _ ((HBd.out.block (w.heap.size + 1) (lt_of_heap HZ3.out)).trans HZ3.out)]; rfl
      have hd31 : wc.cell? ⟨w.heap.size + 1, 1, none⟩ = some (.slice A1 n1 c1) := by rw [cell_of_row wc (w.heap.size + 1) 1 _ _ _ ((HBd.out.block (w.heap.size + 1) (lt_of_heap HZ3.out)).trans HZ3.out)]; rfl
      clear hc21 hc31
      rcases HC5.out with ⟨hs5, rfl⟩ | ⟨hs5, -, rfl⟩
      · rcases HC7.out with ⟨hs7, rfl⟩ | ⟨hs7, -, rfl⟩
        · obtain ⟨h0a, h0b, h0c⟩ := made_some hs5
          obtain ⟨h1a, h1b, h1c⟩ := made_some hs7
          have hinj : l5 = l7 → m0 = m1 ∧ b0 = b1 := fun e => seal_inj HM0.out h0a h0b HM1.out h1a h1b (h0c.symm.trans (e.trans h1c))
          have hsame : m0 = m1 → b0 = b1 → l5 = l7 := fun e e' => by rw [h0c, h1c, e, e']
          have hld5 := fun q => run_ldSec (w := wc.drewN q) (b := g5) (o := 0) HS57.out.range HS57.out.2
          have hld7 := fun q => run_ldSec (w := wc.drewN q) (b := g7) (o := 0) HS7.out.range HS7.out.2
          have heq := fun q => eq37 (wc.drewN q) l5 l7 HS57.out.2 HS7.out.2
          have hs1 := fun q => (HR0.out.below (below_drewN HBE.out q)).string (P := Try.prog) (src := 23) (dst := 9) Try.underlying23 Try.underlying5 Try.underlying9
          have hs2 := fun q => (HR1.out.below (below_drewN HBE.out q)).string (P := Try.prog) (src := 23) (dst := 9) Try.underlying23 Try.underlying5 Try.underlying9
          clear hs5 hs7 h0a h0b h0c h1a h1b h1c HC5 HC7
          by_cases hm : m0 = m1
          · by_cases hb : b0 = b1
            · have hdd : decide (l5 = l7) = true := decide_eq_true (hsame hm hb)
              have hq1 : ((m0 : Int) == (m1 : Int)) = true := by rw [hm]; simp
              have hq2 : ((strOf b0).toList == (strOf b1).toList) = true := by rw [hb]; exact str_eq b1
              simp only [hdd] at heq
              clear hinj hsame hm hb hdd
              go_wp2_with fail
              go_quiet (fail)
              go_wp2_with fail
              go_ret
              exact ⟨rfl, below_drewN HBE.out _⟩
            · have hdd : decide (l5 = l7) = false := decide_eq_false fun e => hb (hinj e).2
              have hq1 : ((m0 : Int) == (m1 : Int)) = true := by rw [hm]; simp
              have hq2 := str_ne hb
              simp only [hdd] at heq
              clear hinj hsame hm hb hdd
              go_wp2_with fail
              go_quiet (fail)
              go_wp2_with fail
              go_ret
              exact ⟨rfl, below_drewN HBE.out _⟩
          · have hdd : decide (l5 = l7) = false := decide_eq_false fun e => hm (hinj e).1
            have hq1 : ((m0 : Int) == (m1 : Int)) = false := by rw [beq_eq_false_iff_ne]; omega
            simp only [hdd] at heq
            clear hinj hsame hm hdd
            go_wp2_with fail
            go_quiet (fail)
            go_wp2_with fail
            go_ret
            exact ⟨rfl, below_drewN HBE.out _⟩
        · clear hs5 hs7 HC5 HC7
          go_wp2_with fail
          go_ret
          exact ⟨rfl, HBE.out⟩
      · clear hs5 HC5
        go_wp2_with fail
        go_ret
        exact ⟨rfl, HBE.out⟩
set_option maxRecDepth 100000 in
theorem sealApart_walk {H : Type} {enc : TypeId × Value → H} {W : World} {base : Nat} {v0 v1 : Value} {d0 d1 : DataW H} {p0 p1 : List MemPlace}
    (o0 : Value.okWide Try.prog W .any base 37 v0) (r0 : DataW.Trod enc Try.prog W 0 (fun _ => true) true 37 v0 d0 p0) (_z0 : ∀ n ∈ d0.weights Try.prog 37, n ≤ reachBytes)
    (o1 : Value.okWide Try.prog W .any base 38 v1) (r1 : DataW.Trod enc Try.prog W 0 (fun _ => true) true 38 v1 d1 p1) (z1 : ∀ n ∈ d1.weights Try.prog 38, n ≤ reachBytes) :
    Calls Try.prog 8 #[v0, v1] W fun e w' => e = .returned (.bool true) ∧ Below W.heap.size W w' := by
  obtain ⟨m0, m1, rfl, h0, h1⟩ := open_pairN o0 r0
  obtain ⟨A, n, c, b, A', n', c', b', rfl, hr, hn, hr', hn'⟩ := open_pairB o1 r1 z1
  exact sealApart_main m0 m1 h0 h1 A A' n c n' c' b b' W hr hn hr' hn'
end Go.Proofs.Ytmpeidgmicammaa
