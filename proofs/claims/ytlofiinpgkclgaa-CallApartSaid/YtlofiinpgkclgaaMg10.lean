/- The document's label as bytes. -/
import Derived.Test.YtlofiinpgkclgaaMg5
import Derived.Test.YtlofiinpgkclgaaMg2
import Derived.Deep.RegionHeld3
import Derived.Test.YtlofiinpgkclgaaMg3
import Derived.Test.YtlofiinpgkclgaaMg4
import Derived.Test.YtlofiinpgkclgaaMg9
namespace Go.Proofs.Ytlofiinpgkclgaa
open Go.RowKit

theorem keep_box {W : World} {B : Nat} {u x : Value} (o : Obj) (h : W.cell? ⟨B, 1, none⟩ = some x ∧ Box2 W B 65 u x) : (W.alloc o).cell? ⟨B, 1, none⟩ = some x ∧ Box2 (W.alloc o) B 65 u x := ⟨(h.2.alloc o).cell1, h.2.alloc o⟩
theorem grown_box {W W' : World} {B base n : Nat} {u x v : Value} {xs : List Value} (h : Box2 W B 65 u x) (hr : W.ownsRow base 5 1 v n xs) (hg : W.grownBy W' v.ownBlock) : W'.cell? ⟨B, 1, none⟩ = some x ∧ Box2 W' B 65 u x := by
  have h2 := h.kept hg (h.not_row (by decide) hr)
  exact ⟨h2.cell1, h2⟩
set_option maxRecDepth 20000 in
set_option maxHeartbeats 3200000 in
theorem ref19_label (A : Option Addr) (n c : Nat) (l : LabD) (w : World) (hr : RLab w A n c l) (hd : -9223372036854775808 ≤ l.dflt ∧ l.dflt ≤ 9223372036854775807) :
    Calls Try.prog 20 #[.agg #[.int .i64 l.dflt, .slice A n c]] w (LbPost w (labBytes l)) := by
  have HR := Lib.hid hr
  have hl : l.cats.length = n := hr.cats.1
  have hnm : (n : Int) ≤ 9223372036854775807 := by have := hr.cats.2.1; have := hr.cats.2.2.1; omega
  have HB0 := Lib.hid (below_alloc w (.cells #[.int .i64 l.dflt, .slice A n c] 26))
  clear hr
  generalize hdf : l.dflt = df at *
  go_enter Try.func20, Try.ntmps20
  by_cases h1 : n ≤ 10
  · have q1 : decide ((10 : Int) < (n : Int)) = false := decide_eq_false (by omega)
    by_cases h2 : 0 ≤ df ∧ df ≤ 255
    · have q2 : decide (df < 0) = false := decide_eq_false (by omega)
      have q3 : decide (255 < df) = false := decide_eq_false (by omega)
      have hw0 : IntKind.u8.wrap df = df := by simp [IntKind.wrap, IntKind.signed, IntKind.bits]; omega
      have HBY : Hid (((byt df).toNat : Int) = df) := Lib.hid (byt_of h2)
      have HOD : Hid (Oct df) := Lib.hid h2
      clear hd h2
      go_wp2_with fail
      have hst : ((w.alloc (.cells #[.int .i64 df, .slice A n c] 26)).alloc (.cells #[.int .u8 df] 5)).ownsRow w.heap.size 5 1 (.slice (some ⟨w.heap.size + 1, 0, none⟩) 1 1) (1 + 9 * 0) (bv (labTo l 0)) := by
        have e : bv (labTo l 0) = [.int .u8 df] := by simp [labTo, bv, hdf, HBY.out]
        rw [e]
        have hh := heap_alloc_new (w.alloc (.cells #[.int .i64 df, .slice A n c] 26)) (.cells #[.int .u8 df] 5)
        rw [World.size_alloc] at hh
        exact ⟨rfl, .inr ⟨w.heap.size + 1, 1, #[.int .u8 df], rfl, by omega, hh, Nat.le_refl _, by simp [maxLen], rfl, rfl⟩⟩
      have HST := Lib.hid hst
      have HB1 := Lib.hid (balloc HB0.out (.cells #[.int .u8 df] 5))
      clear hst
      generalize (w.alloc (.cells #[.int .i64 df, .slice A n c] 26)).alloc (.cells #[.int .u8 df] 5) = w2 at *
      go_loopw [4, 30] (fun u i wr => ∃ k, k ≤ n ∧ i = .int .i64 (k : Nat) ∧ Hid (wr.ownsRow w.heap.size 5 1 u (1 + 9 * k) (bv (labTo l k))) ∧ Hid (Below w.heap.size w wr) ∧ Hid (∀ j, j < k → Oct (atC l.cats j).lev)) (fun _ i _ => n - (intOf i).toNat)
      case atStart => exact ⟨0, by omega, rfl, HST, HB1, Lib.hid fun j hj => absurd hj (by omega)⟩
      case round =>
        obtain ⟨k, hk, rfl, HV, HB, HO⟩ := hrel
        have hk0 : (0 : Int) ≤ (k : Int) := Int.natCast_nonneg _
        by_cases hlt : k < n
        · have hk1 : (k : Int) < (n : Int) := by omega
          obtain ⟨b, o, rfl, hcs⟩ := (HR.out.cats.below HB.out).2.2.2 (by omega)
          obtain ⟨g1, g2⟩ := hcs k hlt
          have HID : Hid ((atC l.cats k).id < 18446744073709551616) := Lib.hid (HR.out.ids k hlt)
          have HTS : Hid (labTo l (k + 1) = labTo l k ++ lab1 (atC l.cats k)) := Lib.hid (labTo_succ l k (by omega))
          have HNO : Hid (¬ Oct (atC l.cats k).lev → labBytes l = none) := Lib.hid (labBytes_none3 (by omega))
          have HYS : Hid (Oct (atC l.cats k).lev → ∀ j, j < k + 1 → Oct (atC l.cats j).lev) := Lib.hid (fun h j hj => by
            by_cases e : j = k
            · rw [e]; exact h
            · exact HO.out j (by omega))
          generalize atC l.cats k = ct at *
          obtain ⟨ci, cl⟩ := ct
          dsimp only at g1 g2 HID HNO HYS
          clear hcs
          by_cases h2 : 0 ≤ cl ∧ cl ≤ 255
          · have q4 : decide (cl < 0) = false := decide_eq_false (by omega)
            have q5 : decide (255 < cl) = false := decide_eq_false (by omega)
            have HYS2 := Lib.hid (HYS.out h2)
            have HOC : Hid (Oct cl) := Lib.hid h2
            have hw1 : IntKind.u8.wrap cl = cl := by simp [IntKind.wrap, IntKind.signed, IntKind.bits]; omega
            have HCB : Hid ([Value.int .u8 cl] = bv [byt cl]) := Lib.hid (by simp [bv, byt_of h2])
            have HNUM := Lib.hid (fun w => ref02_Number ci 8 HID.out (by decide) (by decide) w)
            clear h2 HYS HNO
            go_wp2_with fail
            refine (HNUM.out _).mono ?_
            rintro e w3 ⟨v, rfl, hown3, hb3⟩
            obtain ⟨A3, c3, rfl, hrb3⟩ := own_rb hown3
            have hbw := bthen HB.out (bthen (below_alloc wr (.cells #[.int .u64 ci, .int .i64 cl] 65)) hb3)
            have hv3 := own_below HV.out (bthen (below_alloc wr (.cells #[.int .u64 ci, .int .i64 cl] 65)) hb3)
            have hbx := (Box2.new wr 65 (.int .u64 ci) (.int .i64 cl)).below hb3 (by simp)
            have hcl := hbx.cell1
            have HB3 := Lib.hid hbw; have HV3 := Lib.hid hv3; have HR3 := Lib.hid hrb3; have HBX := Lib.hid hbx
            clear hbw hv3 hrb3 hown3 hb3 hbx
            go_wp2_with fail
            have HBD := Lib.hid (show Box2 w3.drew wr.heap.size 65 (.int .u64 ci) (.int .i64 cl) from HBX.out)
            have HVD := Lib.hid (show w3.drew.ownsRow w.heap.size 5 1 u4 (1 + 9 * k) (bv (labTo l k)) from HV3.out.drew)
            have HRD := Lib.hid (show RB w3.drew A3 8 c3 (be ci 8) from HR3.out.below (Below.refl _ w3).drew)
            have HBB := Lib.hid (show Below w.heap.size w w3.drew from HB3.out.drew)
            have HSZ := Lib.hid (show w.heap.size ≤ w3.heap.size from HB3.out.size)
            have hS0 := (show w3.drew.cell? ⟨wr.heap.size, 1, none⟩ = some (.int .i64 cl) ∧ Box2 w3.drew wr.heap.size 65 (.int .u64 ci) (.int .i64 cl) from ⟨hcl, HBX.out⟩)
            clear hcl
            go_region_held3 (fun W' => W'.cell? ⟨wr.heap.size, 1, none⟩ = some (.int .i64 cl) ∧ Box2 W' wr.heap.size 65 (.int .u64 ci) (.int .i64 cl)) (first | assumption | exact keep_box _ (by assumption)) (first
              | (have hB := HA4
                 refine step_append_any rfl _ _ 27 5 (.int .u8 0) 1 1 rfl Try.underlying27 Try.infoU8' rfl (by decide) (by decide) w.heap.size v4 (1 + 9 * k + 8) _ (some ⟨w4.heap.size, 0, none⟩) 1 1 [.int .u8 cl] rfl rfl (HA4.out.alloc _) (rd_one w4 _ _ _ rfl) (by simp [Value.oneCell']) (by omega) (by have := HS4.out; simp; omega) ?_
                 intro v5 w5 hown5 hg5 hat5
                 have hS5 := grown_box (by assumption : _ ∧ _).2 (HA4.out.alloc (.cells #[.int .u8 cl] 5)) hg5
                 have HO5 := Lib.hid hown5
                 have HB5 := Lib.hid ((HBB4.out.alloc (by have := HS4.out; omega) (.cells #[.int .u8 cl] 5)).grown hg5 (by have := HS4.out; simp; omega) (fun j e => (HA4.out.lt j e).1))
                 clear hown5 hg5 hat5)
              | (have hB := HA4B
                 refine step_append_any rfl _ _ 27 5 (.int .u8 0) 1 1 rfl Try.underlying27 Try.infoU8' rfl (by decide) (by decide) w.heap.size v4 (1 + 9 * k + 8) _ (some ⟨w3.heap.size, 0, none⟩) 1 1 [.int .u8 cl] rfl rfl HA4B.out HRD4.out (by simp [Value.oneCell']) (by omega) HS4.out ?_
                 intro v5 w5 hown5 hg5 hat5
                 have hS5 := grown_box (by assumption : _ ∧ _).2 HA4B.out hg5
                 have HO5 := Lib.hid hown5
                 have HB5 := Lib.hid (HBB4.out.grown hg5 HS4.out (fun j e => (HA4B.out.lt j e).1))
                 clear hown5 hg5 hat5)
              | (refine step_append_any rfl _ _ 27 5 (.int .u8 0) 1 1 rfl Try.underlying27 Try.infoU8' rfl (by decide) (by decide) w.heap.size u4 (1 + 9 * k) _ A3 8 c3 (bv (be ci 8)) rfl rfl HVD.out HRD.out.rd (bv_one _) (by omega) HSZ.out ?_
                 intro v4 w4 hown4 hg4 hat4
                 have hS4 := grown_box HBD.out HVD.out hg4
                 have HA4 := Lib.hid hown4
                 have HBB4 := Lib.hid (HBB.out.grown hg4 HSZ.out (fun j e => (HVD.out.lt j e).1))
                 have HS4 := Lib.hid (show w.heap.size ≤ w4.heap.size from Nat.le_trans HSZ.out hg4.size)
                 clear hown4 hg4 hat4)
              | (refine step_append_any rfl _ _ 27 5 (.int .u8 0) 1 1 rfl Try.underlying27 Try.infoU8' rfl (by decide) (by decide) w.heap.size u4 (1 + 9 * k) _ A3 8 c3 (bv (be ci 8)) rfl rfl (HVD.out.alloc (.cells #[.int .u8 cl] 5)) (HRD.out.alloc (.cells #[.int .u8 cl] 5)).rd (bv_one _) (by omega) (by have := HSZ.out; show _ ≤ (w3.drew.alloc _).heap.size; rw [World.size_alloc]; show _ ≤ w3.heap.size + 1; omega) ?_
                 intro v4 w4 hown4 hg4 hat4
                 have hS4 := grown_box (HBD.out.alloc (.cells #[.int .u8 cl] 5)) (HVD.out.alloc (.cells #[.int .u8 cl] 5)) hg4
                 have HA4B := Lib.hid hown4
                 have HRD4 := Lib.hid (show Rd w4 (some ⟨w3.heap.size, 0, none⟩) 1 1 [.int .u8 cl] from ⟨rfl, fun _ => ⟨_, _, rfl, fun j u hj => hg4.cell ((rd_one w3.drew (.int .u8 cl) 5 w3.heap.size rfl).2 (by simp) |>.elim fun b h => by obtain ⟨o, e, h⟩ := h; cases e; exact h j u hj) (fun e => by have h3 := (HVD.out.lt _ e.symm).2; simp at h3)⟩⟩)
                 have HBB4 := Lib.hid ((HBB.out.alloc HSZ.out (.cells #[.int .u8 cl] 5)).grown hg4 (by have := HSZ.out; rw [World.size_alloc]; show _ ≤ w3.heap.size + 1; omega) (fun j e => (HVD.out.lt j e).1))
                 have HS4 := Lib.hid (show w.heap.size ≤ w4.heap.size from Nat.le_trans (Nat.le_trans HSZ.out (show w3.heap.size ≤ (w3.drew.alloc (.cells #[.int .u8 cl] 5)).heap.size by rw [World.size_alloc]; show _ ≤ w3.heap.size + 1; omega)) hg4.size)
                 clear hown4 hg4 hat4))
            all_goals
              go_wp2_with fail
              go_roundw
              case rel => exact ⟨k + 1, by omega, by go_num, Lib.hid (by
                have := HO5.out
                rw [HCB.out, ← bv_append, ← bv_append, show 1 + 9 * k + 8 + 1 = 1 + 9 * (k + 1) by omega, List.append_assoc] at this
                rw [HTS.out]
                exact this), HB5, HYS2⟩
              case measure => simp [intOf]; omega
          · by_cases h3 : cl < 0
            · have q4 : decide (cl < 0) = true := decide_eq_true h3
              have HN := Lib.hid (HNO.out h2)
              have HBX := Lib.hid (balloc HB.out (.cells #[.int .u64 ci, .int .i64 cl] 65))
              clear h2 HYS HNO
              go_wp2_with fail
              go_ret2
              exact ⟨HBX.out, .inr ⟨HN.out, rfl⟩⟩
            · have q4 : decide (cl < 0) = false := decide_eq_false h3
              have q5 : decide (255 < cl) = true := decide_eq_true (by omega)
              have HN := Lib.hid (HNO.out h2)
              have HBX := Lib.hid (balloc HB.out (.cells #[.int .u64 ci, .int .i64 cl] 65))
              clear h2 HYS HNO
              go_wp2_with fail
              go_ret2
              exact ⟨HBX.out, .inr ⟨HN.out, rfl⟩⟩
        · obtain rfl : k = n := by omega
          obtain ⟨A5, c5, rfl, hr5⟩ := own_rb HV.out
          have HR5 := Lib.hid hr5
          have HLS : Hid (labBytes l = some (labTo l k)) := Lib.hid (by
            have := labBytes_some (l := l) (by omega) (by rw [hdf]; exact HOD.out) (by rw [hl]; exact HO.out)
            rwa [hl] at this)
          have HLL : Hid ((labTo l k).length = 1 + 9 * k) := Lib.hid (labTo_length l k (by omega))
          clear hr5
          go_wp2_with fail
          go_ret2
          exact ⟨HB.out, .inl ⟨A5, c5, labTo l k, HLS.out, by rw [HLL.out]; rfl, by rw [HLL.out]; exact HR5.out⟩⟩
    · have HN : Hid (labBytes l = none) := Lib.hid (labBytes_none2 (by rw [hdf]; exact h2))
      by_cases h3 : df < 0
      · have q2 : decide (df < 0) = true := decide_eq_true h3
        clear hd h2
        go_wp2_with fail
        go_ret2
        exact ⟨HB0.out, .inr ⟨HN.out, rfl⟩⟩
      · have q2 : decide (df < 0) = false := decide_eq_false h3
        have q3 : decide (255 < df) = true := decide_eq_true (by omega)
        clear hd h2
        go_wp2_with fail
        go_ret2
        exact ⟨HB0.out, .inr ⟨HN.out, rfl⟩⟩
  · have q1 : decide ((10 : Int) < (n : Int)) = true := decide_eq_true (by omega)
    have HN : Hid (labBytes l = none) := Lib.hid (labBytes_none1 (by omega))
    go_wp2_with fail
    go_ret2
    exact ⟨HB0.out, .inr ⟨HN.out, rfl⟩⟩
end Go.Proofs.Ytlofiinpgkclgaa

/- No Copy of fields in this chapter: the imports alone. -/


/- The reference's width. -/
namespace Go.Proofs.Ytlofiinpgkclgaa
open Go.RowKit

/-- The reference's width. -/
def letterI (c : UInt8) : Int := match letterW c with
  | none => -1
  | some w => (w : Int)
set_option maxHeartbeats 800000 in
theorem ref02_width (c : UInt8) (w : World) : Calls Try.prog 32 #[.int .u8 (c.toNat : Int)] w fun e w' => e = .returned (.int .i64 (letterI c)) ∧ w = w' := by
  have key : ∀ d : UInt8, c ≠ d → ((c.toNat : Int) == (d.toNat : Int)) = false := fun d hd => by
    rw [beq_eq_false_iff_ne]
    exact fun e => hd (UInt8.toNat_inj.1 (by omega))
  by_cases h1 : c = 49
  · subst h1
    go_enter Try.func32, Try.ntmps32
    go_wp2_with fail
    go_ret
    exact ⟨rfl, rfl⟩
  by_cases h2 : c = 50
  · subst h2
    go_enter Try.func32, Try.ntmps32
    go_wp2_with fail
    go_ret
    exact ⟨rfl, rfl⟩
  by_cases h3 : c = 52
  · subst h3
    go_enter Try.func32, Try.ntmps32
    go_wp2_with fail
    go_ret
    exact ⟨rfl, rfl⟩
  by_cases h4 : c = 56
  · subst h4
    go_enter Try.func32, Try.ntmps32
    go_wp2_with fail
    go_ret
    exact ⟨rfl, rfl⟩
  by_cases h5 : c = 98
  · subst h5
    go_enter Try.func32, Try.ntmps32
    go_wp2_with fail
    go_ret
    exact ⟨rfl, rfl⟩
  have e : letterI c = -1 := by simp [letterI, letterW, h1, h2, h3, h4, h5]
  rw [e]
  have q1 : ((c.toNat : Int) == 49) = false := key 49 h1
  have q2 : ((c.toNat : Int) == 50) = false := key 50 h2
  have q3 : ((c.toNat : Int) == 52) = false := key 52 h3
  have q4 : ((c.toNat : Int) == 56) = false := key 56 h4
  have q5 : ((c.toNat : Int) == 98) = false := key 98 h5
  clear key e h1 h2 h3 h4 h5
  go_enter Try.func32, Try.ntmps32
  go_wp2_with fail
  go_ret
  exact ⟨rfl, rfl⟩

theorem letterI_none {c : UInt8} (h : letterW c = none) : letterI c = -1 := by simp [letterI, h]
theorem letterI_some {c : UInt8} {k : Nat} (h : letterW c = some k) : letterI c = (k : Int) := by simp [letterI, h]
end Go.Proofs.Ytlofiinpgkclgaa

/- The reference's Pack. -/
namespace Go.Proofs.Ytlofiinpgkclgaa
open Go.RowKit

set_option maxRecDepth 20000 in
set_option maxHeartbeats 3200000 in
theorem ref02_pack_main (sh : List UInt8) (A : Option Addr) (n c : Nat) (l : List FieldD) (w : World) (hl : RFields w A n c l) (hs : sh.length = n) (hn : n ≤ 200) :
    Calls Try.prog 21 #[.string (strOf sh), .slice A n c] w (PackedPost w (packTo sh l n)) := by
  have HL := Lib.hid hl
  have hsz : (strOf sh).size = n := by simp [strOf, hs, ByteArray.size]
  have hd : decide ((200 : Int) < (n : Int)) = false := decide_eq_false (by omega)
  clear hl
  go_enter Try.func21, Try.ntmps21
  go_wp2_with fail
  go_loopw [6, 27] (fun u i wr => ∃ k o, k ≤ n ∧ i = .int .i64 (k : Nat) ∧ Hid (packTo sh l k = some o) ∧ Hid (wr.ownsRow w.heap.size 5 1 u o.length (bv o)) ∧ Hid (Below w.heap.size w wr) ∧ Hid (o.length ≤ k * 2000)) (fun _ i _ => n - (intOf i).toNat)
  case atStart => exact ⟨0, [], by omega, rfl, Lib.hid rfl, Lib.hid (own_empty w _ _ _ (Nat.le_refl _)), Lib.hid (below_alloc _ _), Lib.hid (by simp)⟩
  case round =>
    obtain ⟨k, o, hk, rfl, HP, HV, HB, HK⟩ := hrel
    by_cases hlt : k < n
    · have hk0 : (0 : Int) ≤ (k : Int) := Int.natCast_nonneg _
      have hk1 : (k : Int) < (n : Int) := by omega
      obtain ⟨b, o', rfl, hfs⟩ := (HL.out.below HB.out).2.2.2 (by omega)
      obtain ⟨hrg, hok⟩ := hfs k hlt
      have hokw : FieldOk w (fieldAt l k) := by
        obtain ⟨_, _, _, h⟩ := HL.out.2.2.2 (by omega)
        exact (h k hlt).2
      generalize hf : fieldAt l k = f at *
      obtain ⟨num, fA, fn, fc, fb⟩ := f
      have hst := packTo_step HP.out
      rw [hf] at hst
      have hg := strOf_get sh k
      have HRG := Lib.hid hrg
      have HOK := Lib.hid hok
      have HOW := Lib.hid hokw
      clear hf hrg hok hfs hokw
      have HNO : Hid (packTo sh l (k + 1) = none → packTo sh l n = none) := Lib.hid fun h => packTo_none sh l (k + 1) h n (by omega)
      generalize at8 sh k = ch at hst hg
      have HBW := Lib.hid (HB.out.alloc HB.out.size (.cells #[.int .u64 (num : Int), .slice fA fn fc] 52))
      have HVW := Lib.hid (HV.out.alloc (.cells #[.int .u64 (num : Int), .slice fA fn fc] 52))
      rcases letterW_cases ch with hlw | ⟨hlw, rfl⟩ | ⟨wd, hlw, hcw⟩
      · have HST : Hid (packTo sh l (k + 1) = none) := Lib.hid (by rw [hst, encF, hlw]; rfl)
        have HW := Lib.hid (ref02_width ch)
        rw [letterI_none hlw] at HW
        clear hst hlw
        go_wp2_with (first | (refine ld2 52 rfl _ rfl b (o' + k * 2) rfl (.int .u64 num) (.slice fA fn fc) HRG.out Try.underlying52 rfl Try.size87 ?_) | (refine st2 52 rfl _ _ rfl _ _ rfl rfl (.int .u64 num) (.slice fA fn fc) rfl rfl rfl Try.size87 rfl ?_))
        refine (HW.out _).mono ?_
        rintro e w' ⟨rfl, rfl⟩
        go_wp2_with fail
        go_ret2
        exact ⟨HBW.out, .inr ⟨HNO.out HST.out, rfl⟩⟩
      · have hfb : fb.length = fn := HOK.out.rb.1
        have HW := Lib.hid (ref02_width 98)
        rw [letterI_some hlw] at HW
        by_cases h1024 : 1024 < fn
        · have HST : Hid (packTo sh l (k + 1) = none) := Lib.hid (by rw [hst, encF, hlw]; simp only []; rw [if_pos (by rw [hfb]; exact h1024)]; rfl)
          have hd1 : decide ((1024 : Int) < (fn : Int)) = true := decide_eq_true (by omega)
          clear hst hlw h1024 hfb
          go_wp2_with (first | (refine ld2 52 rfl _ rfl b (o' + k * 2) rfl (.int .u64 num) (.slice fA fn fc) HRG.out Try.underlying52 rfl Try.size87 ?_) | (refine st2 52 rfl _ _ rfl _ _ rfl rfl (.int .u64 num) (.slice fA fn fc) rfl rfl rfl Try.size87 rfl ?_))
          refine (HW.out _).mono ?_
          rintro e w' ⟨rfl, rfl⟩
          go_wp2_with fail
          go_ret2
          exact ⟨HBW.out, .inr ⟨HNO.out HST.out, rfl⟩⟩
        · have HST : Hid (packTo sh l (k + 1) = some (o ++ (be fn 2 ++ fb))) := Lib.hid (by rw [hst, encF, hlw]; simp only []; rw [if_neg (by rw [hfb]; exact h1024), hfb]; rfl)
          have hd1 : decide ((1024 : Int) < (fn : Int)) = false := decide_eq_false (by omega)
          have HN := Lib.hid (ref02_Number fn 2 (by omega) (by omega) (by omega))
          have HH : Hid (fn ≤ 1024) := Lib.hid (by omega)
          have hfn0 : (0 : Int) ≤ (fn : Int) := Int.natCast_nonneg _
          have hfn1 : (fn : Int) ≤ 1024 := by omega
          have HWR : Hid (IntKind.u64.wrap (fn : Int) = (fn : Int)) := Lib.hid (wrap_u64 fn (by omega))
          have hub : u6.ownBlock ≠ some wr.heap.size := fun e => by have := (HV.out.lt _ e).2; omega
          have HU := Lib.hid hub
          have HFB := Lib.hid hfb
          clear hst hlw h1024 hfb hub
          go_wp2_with (first | (refine ld2 52 rfl _ rfl b (o' + k * 2) rfl (.int .u64 num) (.slice fA fn fc) HRG.out Try.underlying52 rfl Try.size87 ?_) | (refine st2 52 rfl _ _ rfl _ _ rfl rfl (.int .u64 num) (.slice fA fn fc) rfl rfl rfl Try.size87 rfl ?_))
          refine (HW.out _).mono ?_
          rintro e w' ⟨rfl, rfl⟩
          go_wp2_with fail
          refine (HN.out _).mono ?_
          rintro e w2 ⟨v, rfl, hown2, hb2⟩
          obtain ⟨A2, c2, rfl, hrb2⟩ := own_rb hown2
          have hb2' := bthen HBW.out hb2
          have hv2 := own_below HVW.out hb2
          have hcl : w2.cell? ⟨wr.heap.size, 1, none⟩ = some (.slice fA fn fc) := (World.cell?_of_block (hb2.block wr.heap.size (by simp))).trans (by simp [go_sem])
          have hlt2 := World.block_lt_of_cell? w2 _ hcl
          have HB2 := Lib.hid hb2'; have HV2 := Lib.hid hv2; have HR2 := Lib.hid hrb2; have HC2 := Lib.hid hcl; have HL2 := Lib.hid hlt2
          clear hown2 hb2 hrb2 hb2' hv2 hcl hlt2
          go_wp2_with (at_builtin; first
            | (refine wpList_append_any (w0 := w) w.heap.size rfl _ _ 27 5 (.int .u8 0) 1 1 rfl Try.underlying27 Try.infoU8' rfl (by decide) (by decide) u6 o.length _ A2 2 c2 (bv (be fn 2)) rfl rfl HV2.out HR2.out.rd (bv_one _) (by have := HK.out; omega) HB2.out HB2.out.size ?_
               intro v3 w3 hown3 hb3 hg3 ha3
               have hc3 : w3.cell? ⟨wr.heap.size, 1, none⟩ = some (.slice fA fn fc) := (hg3.cell_far _ HL2.out (fun e => HU.out e.symm)).trans HC2.out
               have HO3 := Lib.hid hown3; have HB3 := Lib.hid hb3
               clear hown3 hb3 hg3 ha3)
            | (refine wpList_append_any (w0 := w) w.heap.size rfl _ _ 27 5 (.int .u8 0) 1 1 rfl Try.underlying27 Try.infoU8' rfl (by decide) (by decide) v3 (o.length + 2) _ fA fn fc (bv fb) rfl rfl HO3.out ((HOW.out.rb.below HB3.out).rd) (bv_one _) (by have := HK.out; have := HH.out; omega) HB3.out HB3.out.size ?_
               intro v4 w4 hown4 hb4 hg4 ha4
               have HO4 := Lib.hid hown4; have HB4 := Lib.hid hb4
               clear hown4 hb4 hg4 ha4))
          go_roundw
          case rel => exact ⟨k + 1, _, by omega, by go_num, HST, by
            have := HO4.out
            rw [← bv_append, ← bv_append, show o.length + 2 + fn = (o ++ (be fn 2 ++ fb)).length by rw [List.length_append, List.length_append, be_length, HFB.out]; omega, List.append_assoc] at this
            exact this, HB4, by
            have := HK.out
            have := HH.out
            show (o ++ (be fn 2 ++ fb)).length ≤ (k + 1) * 2000
            rw [List.length_append, List.length_append, be_length, HFB.out]
            omega⟩
          case measure => simp [intOf]; omega
      · have HW := Lib.hid (ref02_width ch)
        rw [letterI_some hlw] at HW
        have hw8 : wd + 1 ≤ 8 := by omega
        have hw0 : ((wd + 1 : Nat) : Int) ≠ 0 := by omega
        have hw1 : decide (((wd + 1 : Nat) : Int) < 0) = false := decide_eq_false (by omega)
        have hw2 : (((wd + 1 : Nat) : Int) == 0) = false := by rw [beq_eq_false_iff_ne]; omega
        have HN := Lib.hid (ref02_Number num (wd + 1) HOK.out.num (by omega) hw8)
        by_cases hfit : num < 256 ^ (wd + 1)
        · have HST : Hid (packTo sh l (k + 1) = some (o ++ be num (wd + 1))) := Lib.hid (by rw [hst, encF, hlw]; simp only []; rw [if_pos hfit]; rfl)
          rw [decide_eq_true hfit] at HN
          clear hst hlw hcw hfit
          generalize hwd : wd + 1 = wi at *
          go_wp2_with (first | (refine ld2 52 rfl _ rfl b (o' + k * 2) rfl (.int .u64 num) (.slice fA fn fc) HRG.out Try.underlying52 rfl Try.size87 ?_) | (refine st2 52 rfl _ _ rfl _ _ rfl rfl (.int .u64 num) (.slice fA fn fc) rfl rfl rfl Try.size87 rfl ?_))
          refine (HW.out _).mono ?_
          rintro e w' ⟨rfl, rfl⟩
          go_wp2_with fail
          refine (HN.out _).mono ?_
          rintro e w2 ⟨v, rfl, hown2, hb2⟩
          obtain ⟨A2, c2, rfl, hrb2⟩ := own_rb hown2
          have hb2' := bthen HBW.out hb2
          have hv2 := own_below HVW.out hb2
          have HB2 := Lib.hid hb2'; have HV2 := Lib.hid hv2; have HR2 := Lib.hid hrb2
          clear hown2 hb2 hrb2 hb2' hv2
          go_wp2_with (at_builtin; go_must (refine wpList_append_any (w0 := w) w.heap.size rfl _ _ 27 5 (.int .u8 0) 1 1 rfl Try.underlying27 Try.infoU8' rfl (by decide) (by decide) u6 o.length _ A2 wi c2 (bv (be num wi)) rfl rfl HV2.out HR2.out.rd (bv_one _) (by have := HK.out; omega) HB2.out HB2.out.size ?_; intro v3 w3 hown3 hb3 hg3 ha3; have HO3 := Lib.hid hown3; have HB3 := Lib.hid hb3; clear hown3 hb3 hg3 ha3))
          go_roundw
          case rel => exact ⟨k + 1, _, by omega, by go_num, HST, by
            have := HO3.out
            rw [← bv_append, show o.length + wi = (o ++ be num wi).length by rw [List.length_append, be_length]] at this
            exact this, HB3, by
            have := HK.out
            show (o ++ be num wi).length ≤ (k + 1) * 2000
            rw [List.length_append, be_length]
            omega⟩
          case measure => simp [intOf]; omega
        · have HST : Hid (packTo sh l (k + 1) = none) := Lib.hid (by rw [hst, encF, hlw]; simp only []; rw [if_neg hfit]; rfl)
          rw [decide_eq_false hfit] at HN
          clear hst hlw hcw hfit
          generalize hwd : wd + 1 = wi at *
          go_wp2_with (first | (refine ld2 52 rfl _ rfl b (o' + k * 2) rfl (.int .u64 num) (.slice fA fn fc) HRG.out Try.underlying52 rfl Try.size87 ?_) | (refine st2 52 rfl _ _ rfl _ _ rfl rfl (.int .u64 num) (.slice fA fn fc) rfl rfl rfl Try.size87 rfl ?_))
          refine (HW.out _).mono ?_
          rintro e w' ⟨rfl, rfl⟩
          go_wp2_with fail
          refine (HN.out _).mono ?_
          rintro e w2 ⟨v, rfl, hown2, hb2⟩
          have hb2' := bthen HBW.out hb2
          have HB2 := Lib.hid hb2'
          clear hown2 hb2 hb2'
          go_wp2_with fail
          go_ret2
          exact ⟨HB2.out, .inr ⟨HNO.out HST.out, rfl⟩⟩
    · obtain rfl : k = n := by omega
      go_wp2_with fail
      go_ret2
      exact ⟨HB.out, .inl ⟨u6, o, HP.out, rfl, HV.out⟩⟩
set_option maxRecDepth 20000 in
set_option maxHeartbeats 1600000 in
theorem ref02_pack_bad (sh : List UInt8) (A : Option Addr) (n c : Nat) (w : World) (h : 200 < sh.length ∨ (sh.length ≤ 200 ∧ sh.length ≠ n)) :
    Calls Try.prog 21 #[.string (strOf sh), .slice A n c] w fun e w' => e = .returned (.tuple #[.slice none 0 0, .int .i64 21]) ∧ w = w' := by
  have hsz : (strOf sh).size = sh.length := by simp [strOf, ByteArray.size]
  generalize sh.length = m at *
  rcases h with h | ⟨h, h'⟩
  · have hd : decide ((200 : Int) < (m : Int)) = true := decide_eq_true (by omega)
    go_enter Try.func21, Try.ntmps21
    go_wp2_with fail
    go_ret2
    exact ⟨rfl, rfl⟩
  · have hd : decide ((200 : Int) < (m : Int)) = false := decide_eq_false (by omega)
    have hq : ((m : Int) != (n : Int)) = true := by rw [bne_iff_ne]; omega
    go_enter Try.func21, Try.ntmps21
    go_wp2_with fail
    go_ret2
    exact ⟨rfl, rfl⟩
/-- The reference's Pack. -/
theorem ref02_Pack (sh : List UInt8) (A : Option Addr) (n c : Nat) (l : List FieldD) (w : World) (hl : RFields w A n c l) :
    Calls Try.prog 21 #[.string (strOf sh), .slice A n c] w (PackedPost w (packM sh l)) := by
  have hn : l.length = n := hl.1
  unfold packM
  by_cases h : 200 < sh.length ∨ sh.length ≠ l.length
  · rw [if_pos h]
    refine (ref02_pack_bad sh A n c w (by omega)).mono fun e w' ⟨he, hw⟩ => ⟨hw ▸ Below.refl _ _, .inr ⟨rfl, he⟩⟩
  · rw [if_neg h, hn]
    exact ref02_pack_main sh A n c l w hl (by omega) (by omega)
end Go.Proofs.Ytlofiinpgkclgaa

/- The document's Write: a call as bytes. -/
namespace Go.Proofs.Ytlofiinpgkclgaa
open Go.RowKit

theorem writeM_big {x : CallD} (h : 65535 < x.n ∨ 65535 < x.m) : writeM x = none := by
  unfold writeM
  split
  · split
    · exact pack_big h
    · rfl
  · rfl
set_option maxRecDepth 20000 in
set_option maxHeartbeats 3200000 in
theorem ref19_Write (x : CallD) (p : CallP) (w : World) (hr : RCall w x p) : Calls Try.prog 11 #[callV x p] w (WrPost w (writeM x)) := by
  have HR := Lib.hid hr
  have HB0 := Lib.hid (below_alloc w (.cells (callCells x p) 29))
  have HX := Lib.hid (Box12.new w x p)
  have HL1 := Lib.hid (fun w' (hb : Below w.heap.size w w') => ref19_label p.A1 p.n1 p.c1 x.lab w' (hr.lab.below hb) hr.ld)
  have HL2 := Lib.hid (fun w' (hb : Below w.heap.size w w') => ref19_label p.A2 p.n2 p.c2 x.clr w' (hr.clr.below hb) hr.cd)
  have HM1 := Lib.hid (@writeM_none1 x); have HM2 := Lib.hid (@writeM_none2 x); have HM3 := Lib.hid (@writeM_none3 x); have HM4 := Lib.hid (fun a b => @writeM_eq x a b)
  have HBIG := Lib.hid (@writeM_big x)
  clear hr
  obtain ⟨op, nn, mm, dir, obj, dir2, lab, clr, data, bits⟩ := x
  obtain ⟨A1, n1, c1, A2, n2, c2, A3, n3, c3⟩ := p
  unfold callV callCells
  unfold callCells at HB0
  dsimp only at HB0 HL1 HL2 HM1 HM2 HM4 HBIG ⊢
  go_enter Try.func11, Try.ntmps11
  go_wp2_with fail
  refine (HL1.out _ HB0.out).mono ?_
  rintro e w2 ⟨hb2, hc2⟩
  have HB2 := Lib.hid (bthen HB0.out hb2)
  have HX2 := Lib.hid (HX.out.below hb2)
  obtain ⟨k0, k1, k2, k3, k4, k5, k6, k7, k8, k9, k10, k11⟩ := HX2.out.cells
  dsimp only at k0 k1 k2 k3 k4 k5 k6 k7 k8 k9 k10 k11
  clear hb2
  rcases hc2 with ⟨A4, c4, o4, hs4, rfl, hr4⟩ | ⟨hs4, rfl⟩
  · have HS4 := Lib.hid hs4; have HR4 := Lib.hid hr4
    clear hs4 hr4
    go_wp2_with fail
    refine (HL2.out _ HB2.out).mono ?_
    rintro e w3 ⟨hb3, hc3⟩
    have HB3 := Lib.hid (bthen HB2.out hb3)
    have HX3 := Lib.hid (HX2.out.below hb3)
    have HR4' := Lib.hid (HR4.out.below hb3)
    clear hb3 k0 k1 k2 k3 k4 k5 k6 k7 k8 k9 k10 k11
    obtain ⟨k0, k1, k2, k3, k4, k5, k6, k7, k8, k9, k10, k11⟩ := HX3.out.cells
    dsimp only at k0 k1 k2 k3 k4 k5 k6 k7 k8 k9 k10 k11
    rcases hc3 with ⟨A5, c5, o5, hs5, rfl, hr5⟩ | ⟨hs5, rfl⟩
    · have HS5 := Lib.hid hs5; have HR5 := Lib.hid hr5
      have HL3 : Hid (data.length = n3) := Lib.hid HR.out.data.1
      clear hs5 hr5
      by_cases h0 : 0 ≤ op
      · have qh0 : decide (op < 0) = false := decide_eq_false (by omega)
        by_cases h0' : op ≤ 255
        · have qh0' : decide (255 < op) = false := decide_eq_false (by omega)
          by_cases h1 : 0 ≤ nn
          · have qh1 : decide (nn < 0) = false := decide_eq_false (by omega)
            by_cases h1' : nn ≤ 65535
            · have qh1' : decide (65535 < nn) = false := decide_eq_false (by omega)
              by_cases h2 : 0 ≤ mm
              · have qh2 : decide (mm < 0) = false := decide_eq_false (by omega)
                by_cases h2' : mm ≤ 65535
                · have qh2' : decide (65535 < mm) = false := decide_eq_false (by omega)
                  by_cases h3 : n3 ≤ 128
                  · have qh3 : decide ((128 : Int) < (n3 : Int)) = false := decide_eq_false (by omega)
                    have HE := Lib.hid (HM4.out _ _ HS4.out HS5.out ⟨⟨h0, h0'⟩, h1, h2, by show data.length ≤ 128; rw [HL3.out]; exact h3⟩)
                    have HSM := Lib.hid (pack_small (x := ⟨op, nn, mm, dir, obj, dir2, lab, clr, data, bits⟩) ⟨⟨h0, h0'⟩, h1, h2, by show data.length ≤ 128; rw [HL3.out]; exact h3⟩ h1' h2' HR.out.big (labBytes_le HS4.out) (labBytes_le HS5.out))
                    obtain ⟨op, rfl⟩ := Int.eq_ofNat_of_zero_le h0
                    obtain ⟨nn, rfl⟩ := Int.eq_ofNat_of_zero_le h1
                    obtain ⟨mm, rfl⟩ := Int.eq_ofNat_of_zero_le h2
                    have hopb : op ≤ 255 := by omega
                    have hnb : nn ≤ 65535 := by omega
                    have hmb : mm ≤ 65535 := by omega
                    have u1 := wrap_u64 op (by omega)
                    have u2 := wrap_u64 nn (by omega)
                    have u3 := wrap_u64 mm (by omega)
                    clear h0 h0' h1 h1' h2 h2'
                    go_wp2_with fail
                    obtain ⟨L, HL⟩ : ∃ L : List FieldD, Hid (L = [⟨op, none, 0, 0, []⟩, ⟨nn, none, 0, 0, []⟩, ⟨mm, none, 0, 0, []⟩, ⟨dir, none, 0, 0, []⟩, ⟨obj, none, 0, 0, []⟩, ⟨dir2, none, 0, 0, []⟩, ⟨0, A4, o4.length, c4, o4⟩, ⟨0, A5, o5.length, c5, o5⟩, ⟨0, A3, n3, c3, data⟩, ⟨bits, none, 0, 0, []⟩]) := ⟨_, Lib.hid rfl⟩
                    have hok : ∀ f ∈ L, FieldOk w3 f := by
                      intro f hf
                      rw [HL.out] at hf
                      simp only [List.mem_cons, List.not_mem_nil, or_false] at hf
                      have l4 := labBytes_le HS4.out
                      have l5 := labBytes_le HS5.out
                      obtain ⟨d1, d2, d3, d4⟩ := HR.out.big
                      dsimp only at d1 d2 d3 d4
                      rcases hf with rfl | rfl | rfl | rfl | rfl | rfl | rfl | rfl | rfl | rfl
                      · exact ⟨by show op < _; omega, RB.nil _, Nat.zero_le _⟩
                      · exact ⟨by show nn < _; omega, RB.nil _, Nat.zero_le _⟩
                      · exact ⟨by show mm < _; omega, RB.nil _, Nat.zero_le _⟩
                      · exact ⟨d1, RB.nil _, Nat.zero_le _⟩
                      · exact ⟨d2, RB.nil _, Nat.zero_le _⟩
                      · exact ⟨d3, RB.nil _, Nat.zero_le _⟩
                      · exact ⟨by show 0 < _; omega, HR4'.out, by show o4.length ≤ _; omega⟩
                      · exact ⟨by show 0 < _; omega, HR5.out, by show o5.length ≤ _; omega⟩
                      · exact ⟨by show 0 < _; omega, HR.out.data.below HB3.out, HR.out.dlen⟩
                      · exact ⟨d4, RB.nil _, Nat.zero_le _⟩
                    have hLl : L.length = 10 := by rw [HL.out]; rfl
                    have hrf := rfields_new (w := w3) L 52 w3.heap.size rfl #[.int .u64 op, .slice none 0 0, .int .u64 nn, .slice none 0 0, .int .u64 mm, .slice none 0 0, .int .u64 dir, .slice none 0 0, .int .u64 obj, .slice none 0 0, .int .u64 dir2, .slice none 0 0, .int .u64 0, .slice A4 o4.length c4, .int .u64 0, .slice A5 o5.length c5, .int .u64 0, .slice A3 n3 c3, .int .u64 bits, .slice none 0 0] (by rw [HL.out]; rfl) (by rw [hLl]; decide) hok
                    rw [hLl] at hrf
                    have hp := ref02_Pack shapeC (some ⟨w3.heap.size, 0, none⟩) 10 10 L _ hrf
                    rw [packM_eqL shapeC L (by decide) (by rw [hLl]; rfl), show vals L = valsC ⟨op, nn, mm, dir, obj, dir2, lab, clr, data, bits⟩ o4 o5 by rw [HL.out]; rfl, HSM.out] at hp
                    refine hp.mono ?_
                    clear hp hrf hok
                    rintro e w6 ⟨hb6, ⟨v, o, ho, rfl, hown6⟩ | ⟨hno, -⟩⟩
                    · obtain ⟨A7, c7, rfl, hr7⟩ := own_rb hown6
                      have HR7 := Lib.hid hr7; have HO := Lib.hid ho; have HB6 := Lib.hid (bthen (balloc HB3.out _) hb6)
                      clear hr7 ho hb6 hown6
                      go_wp2_with fail
                      go_ret2
                      exact ⟨HB6.out, .inl ⟨A7, c7, o, by rw [HE.out, HSM.out]; exact HO.out, rfl, HR7.out⟩⟩
                    · cases hno
                  · have qh3 : decide ((128 : Int) < (n3 : Int)) = true := decide_eq_true (by omega)
                    have HN := Lib.hid (HM3.out (by rintro ⟨_, _, _, h⟩; have h : data.length ≤ 128 := h; rw [HL3.out] at h; exact h3 h))
                    clear h3
                    go_wp2_with fail
                    go_ret2
                    exact ⟨HB3.out, .inr ⟨HN.out, rfl⟩⟩
                · have qh2' : decide (65535 < mm) = true := decide_eq_true (by omega)
                  have HN := Lib.hid (HBIG.out (.inr (by omega)))
                  clear h2'
                  go_wp2_with fail
                  go_ret2
                  exact ⟨HB3.out, .inr ⟨HN.out, rfl⟩⟩
              · have qh2 : decide (mm < 0) = true := decide_eq_true (by omega)
                have HN := Lib.hid (HM3.out (by rintro ⟨_, _, h, _⟩; exact h2 h))
                clear h2
                go_wp2_with fail
                go_ret2
                exact ⟨HB3.out, .inr ⟨HN.out, rfl⟩⟩
            · have qh1' : decide (65535 < nn) = true := decide_eq_true (by omega)
              have HN := Lib.hid (HBIG.out (.inl (by omega)))
              clear h1'
              go_wp2_with fail
              go_ret2
              exact ⟨HB3.out, .inr ⟨HN.out, rfl⟩⟩
          · have qh1 : decide (nn < 0) = true := decide_eq_true (by omega)
            have HN := Lib.hid (HM3.out (by rintro ⟨_, h, _, _⟩; exact h1 h))
            clear h1
            go_wp2_with fail
            go_ret2
            exact ⟨HB3.out, .inr ⟨HN.out, rfl⟩⟩
        · have qh0' : decide (255 < op) = true := decide_eq_true (by omega)
          have HN := Lib.hid (HM3.out (by rintro ⟨⟨_, h⟩, _, _, _⟩; exact h0' h))
          clear h0'
          go_wp2_with fail
          go_ret2
          exact ⟨HB3.out, .inr ⟨HN.out, rfl⟩⟩
      · have qh0 : decide (op < 0) = true := decide_eq_true (by omega)
        have HN := Lib.hid (HM3.out (by rintro ⟨⟨h, _⟩, _, _, _⟩; exact h0 h))
        clear h0
        go_wp2_with fail
        go_ret2
        exact ⟨HB3.out, .inr ⟨HN.out, rfl⟩⟩
    · have HN := Lib.hid (HM2.out hs5)
      clear hs5
      go_wp2_with fail
      go_ret2
      exact ⟨HB3.out, .inr ⟨HN.out, rfl⟩⟩
  · have HN := Lib.hid (HM1.out hs4)
    clear hs4
    go_wp2_with fail
    refine (HL2.out _ HB2.out).mono ?_
    rintro e w3 ⟨hb3, hc3⟩
    have HB3 := Lib.hid (bthen HB2.out hb3)
    clear hb3 k0 k1 k2 k3 k4 k5 k6 k7 k8 k9 k10 k11
    rcases hc3 with ⟨A5, c5, o5, hs5, rfl, hr5⟩ | ⟨hs5, rfl⟩
    all_goals
      go_wp2_with fail
      go_ret2
      exact ⟨HB3.out, .inr ⟨HN.out, rfl⟩⟩
end Go.Proofs.Ytlofiinpgkclgaa
