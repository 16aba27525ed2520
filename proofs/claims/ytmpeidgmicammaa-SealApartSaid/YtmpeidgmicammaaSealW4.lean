/- The reference's Make. -/
import Derived.Test.YtmpeidgmicammaaSealW3
import Derived.Test.YtmpeidgmicammaaRef02N
namespace Go.Proofs.Ytmpeidgmicammaa
open Go.RowKit
attribute [local go_sem ↓] loadAt37 build37

theorem SecAt.set {w : World} {g : Nat} {l : List UInt8} (h : SecAt w g l) (j : Nat) (x : UInt8) : SecAt (w.setCell ⟨g, j, none⟩ (.int .u8 (x.toNat : Int))) g (l.set j x) := by
  refine ⟨?_, by simp [h.2]⟩
  rw [heap_setCell_same w g j _ _ _ h.1]
  congr 2
  rw [← bv_set]
  apply Array.ext'
  rw [Array.toList_setIfInBounds]
theorem fill_step (b z : List UInt8) (k : Nat) (hb : k < b.length) (hz : z.length = b.length) : (b.take k ++ z.drop k).set k (at8 b k) = b.take (k + 1) ++ z.drop (k + 1) := by
  rw [take_at8 b k hb, List.set_append_right _ _ (by simp; omega)]
  have e : z.drop k = z[k] :: z.drop (k + 1) := List.drop_eq_getElem_cons (by omega)
  have : k - (b.take k).length = 0 := by simp; omega
  rw [this, e, List.set_cons_zero, List.append_assoc]
  rfl
theorem pad_step (a : List UInt8) (j : Nat) : a ++ List.replicate j 0 ++ [0] = a ++ List.replicate (j + 1) 0 := by
  rw [List.append_assoc, List.replicate_succ']
theorem pad_bv (a : List UInt8) (j : Nat) : bv (a ++ List.replicate j 0) ++ [.int .u8 0] = bv (a ++ List.replicate (j + 1) 0) := by
  rw [← pad_step, bv_append (a ++ _)]
  rfl
def lenV : Value → Nat
  | .slice _ n _ => n
  | _ => 0
set_option maxRecDepth 20000 in
set_option maxHeartbeats 6400000 in
theorem ref05_Make (mark : Nat) (hmk : mark < 18446744073709551616) (A : Option Addr) (n c : Nat) (body : List UInt8) (w : World) (hr : RB w A n c body) (hn : n ≤ 140737488351232) :
    Calls Try.prog 12 #[.int .u64 mark, .slice A n c] w (MadePost w (makeM mark body)) := by
  have hlen : body.length = n := hr.1
  have HR := Lib.hid hr
  have HLEN := Lib.hid hlen
  have hg0 : SecAt (w.alloc (.cells Try.zeroCells27 27)) w.heap.size zsec := by
    rw [Try.zero37]
    exact SecAt.new w zsec zsec_length
  have hb1 := below_alloc w (.cells Try.zeroCells27 27)
  have hbld := fun W => run_bldSec0 W
  have HG0 := Lib.hid hg0; have HB1 := Lib.hid hb1
  clear hr hlen hg0 hb1
  by_cases hbad : mark = 0 ∨ 106 < n
  · have HM : Hid (makeM mark body = none) := Lib.hid (by unfold makeM; rw [if_pos (by rw [HLEN.out]; exact hbad)])
    have key : ∀ P : Prop, ((((mark : Int) == 0) = true → P) ∧ ((((mark : Int) == 0) = false ∧ decide ((106 : Int) < (n : Int)) = true) → P)) → P := fun P ⟨h1, h2⟩ => by
      by_cases h0 : mark = 0
      · exact h1 (by subst h0; rfl)
      · exact h2 ⟨by rw [beq_eq_false_iff_ne]; omega, decide_eq_true (by omega)⟩
    clear hbad
    refine key _ ⟨fun h1 => ?_, fun ⟨h1, h2⟩ => ?_⟩
    all_goals
      clear key
      go_enter Try.func12, Try.ntmps12
      go_wp2_with (refine st37_at rfl _ _ rfl w.heap.size zsec rfl HG0.out zsec rfl zsec_length ?_; intro w2 hg2 hk2; have HG2 := Lib.hid hg2; have HB2 := Lib.hid (HB1.out.trans (hk2.below HB1.out.size (fun _ e => by rw [e]; exact Nat.le_refl _))); clear hg2 hk2)
      (try simp only [Exit.inBlock, Exit.then])
      refine bodyPost_ret (retS_tmp rfl _ _ zsec _ w.heap.size rfl rfl HG2.out) rfl ?_
      exact ⟨zsec, 51, rfl, zsec_length, HB2.out, .inr ⟨HM.out, rfl, rfl⟩⟩
  · have HM : Hid (makeM mark body = some (sealL mark body)) := Lib.hid (by unfold makeM; rw [if_neg (by rw [HLEN.out]; exact hbad)])
    have hn106 : n ≤ 106 := by omega
    have h1 : ((mark : Int) == 0) = false := by rw [beq_eq_false_iff_ne]; omega
    have h2 : decide ((106 : Int) < (n : Int)) = false := decide_eq_false (by omega)
    have hn0 : (0 : Int) ≤ (n : Int) := Int.natCast_nonneg _
    have hwr : IntKind.u64.wrap (n : Int) = (n : Int) := by simp [IntKind.wrap, IntKind.signed, IntKind.bits]; omega
    have HN106 : Hid (n ≤ 106) := Lib.hid hn106
    have HMK := Lib.hid hmk
    clear hbad hmk
    go_enter Try.func12, Try.ntmps12
    go_wp2_with fail
    generalize hw1 : w.alloc (.cells Try.zeroCells27 27) = w1 at *
    clear hw1
    refine (ref02_Number mark 8 HMK.out (by omega) (by omega) w1).mono ?_
    rintro e w2 ⟨v2, rfl, ho2, hb2⟩
    have HO2 := Lib.hid ho2; have HB2 := Lib.hid hb2
    clear ho2 hb2
    go_wp2_with fail
    refine (ref02_Number n 2 (by omega) (by omega) (by omega) w2).mono ?_
    rintro e w3 ⟨v3, rfl, ho3, hb3⟩
    obtain ⟨A3, c3, rfl, hr3⟩ := own_rb ho3
    have HO3 := Lib.hid (own_below HO2.out hb3); have HB3 := Lib.hid (bthen HB2.out hb3); have HR3 := Lib.hid hr3
    clear ho3 hb3 hr3 HO2
    go_wp2_with (at_builtin; first
      | (refine wpList_append_any (w0 := w1) w1.heap.size rfl _ _ 23 5 (.int .u8 0) 1 1 rfl Try.underlying23 Try.infoU8' rfl (by decide) (by decide) v2 8 _ A3 2 c3 (bv (be n 2)) rfl rfl HO3.out HR3.out.rd (bv_one _) (by omega) HB3.out HB3.out.size ?_
         intro v4 w4 ho4 hb4 hg4 ha4
         rw [← bv_append] at ho4
         have HO4 := Lib.hid ho4; have HB4 := Lib.hid hb4
         clear ho4 hb4 hg4 ha4)
      | (refine wpList_append_any (w0 := w1) w1.heap.size rfl _ _ 23 5 (.int .u8 0) 1 1 rfl Try.underlying23 Try.infoU8' rfl (by decide) (by decide) v4 (8 + 2) _ A n c (bv body) rfl rfl HO4.out ((HR.out.below (bthen HB1.out HB4.out)).rd) (bv_one _) (by have := HN106.out; omega) HB4.out HB4.out.size ?_
         intro v5 w5 ho5 hb5 hg5 ha5
         rw [← bv_append] at ho5
         have HO5 := Lib.hid ho5; have HB5 := Lib.hid hb5
         clear ho5 hb5 hg5 ha5))
    obtain ⟨A5, c5, rfl, -⟩ := own_rb HO5.out
    obtain ⟨hd, hhd⟩ : ∃ hd, hd = be mark 8 ++ be n 2 ++ body := ⟨_, rfl⟩
    rw [← hhd] at HO5
    have HHD : Hid (hd ++ List.replicate (116 - (10 + n)) 0 = preL mark body) := Lib.hid (by
      rw [hhd, preL, HLEN.out, show 116 - (10 + n) = 106 - n by omega]
      simp)
    have HHL : Hid (hd.length = 10 + n) := Lib.hid (by rw [hhd]; simp [be_length, HLEN.out]; omega)
    clear hhd HO3 HB3 HR3 HB2 HO4 HB4
    go_loopw [6] (fun u wr => ∃ t A' c', t ≤ 116 ∧ 10 + n ≤ t ∧ u = .slice A' t c' ∧ Hid (wr.ownsRow w1.heap.size 5 1 (.slice A' t c') t (bv (hd ++ List.replicate (t - (10 + n)) 0))) ∧ Hid (Below w1.heap.size w1 wr)) (fun u _ => 116 - lenV u)
    case atStart => exact ⟨8 + 2 + n, A5, c5, by omega, by omega, rfl, by simpa using HO5, HB5⟩
    case round =>
      obtain ⟨t, A6, c6, ht, ht2, rfl, HO6, HB6⟩ := hrel
      by_cases hlt : t < 116
      · have hd6 : decide ((t : Int) < 116) = true := decide_eq_true (by omega)
        have ht0 : (0 : Int) ≤ (t : Int) := Int.natCast_nonneg _
        have ht1 : (t : Int) < 116 := by omega
        go_wp2_with (at_builtin; go_must (refine wpList_append_any (w0 := w1) w1.heap.size rfl _ _ 23 5 (.int .u8 0) 1 1 rfl Try.underlying23 Try.infoU8' rfl (by decide) (by decide) (.slice A6 t c6) t _ (some ⟨wr.heap.size, 0, none⟩) 1 1 [.int .u8 0] rfl rfl (HO6.out.alloc _) (rd_one wr _ _ _ rfl) (by simp [Value.oneCell']) (by omega) (HB6.out.alloc HB6.out.size _) (by have := HB6.out.size; simp; omega) ?_; intro v7 w7 ho7 hb7 hg7 ha7; rw [pad_bv, show t - (10 + n) + 1 = t + 1 - (10 + n) by omega] at ho7; obtain ⟨A7, c7, rfl, -⟩ := own_rb ho7; have HO7 := Lib.hid ho7; have HB7 := Lib.hid hb7; clear ho7 hb7 hg7 ha7))
        go_roundw
        case rel => exact ⟨_, _, _, _, _, _, _, ⟨t + 1, A7, c7, by omega, by omega, rfl, HO7, HB7⟩, rfl⟩
        case measure => simp [lenV]; omega
      · obtain rfl : t = 116 := by omega
        rw [HHD.out] at HO6
        obtain ⟨A8, c8, e8, hr8⟩ := own_rb HO6.out
        injection e8 with e8 _ e9
        subst e8 e9
        have HR8 := Lib.hid hr8
        have hsl := sumL_lt mark body
        have HSL : Hid (sumL mark body < 256 ^ 4) := Lib.hid (by omega)
        have hpl : Hid ((preL mark body).length = 116) := Lib.hid hr8.1
        clear hr8 hsl
        go_wp2_with fail
        refine (ref03_Sum 0#32 A6 116 c6 (preL mark body) wr HR8.out).mono ?_
        rw [show (crcAdd 0#32 (preL mark body)).toNat = sumL mark body from rfl]
        rintro e w9 ⟨rfl, rfl⟩
        have hs0 : (0 : Int) ≤ ((sumL mark body : Nat) : Int) := Int.natCast_nonneg _
        have hs1 : ((sumL mark body : Nat) : Int) < 4294967296 := by have := sumL_lt mark body; omega
        have HSS : Hid (sealL mark body = preL mark body ++ be (sumL mark body) 4 ++ be mark 8) := Lib.hid (by simp [sealL])
        generalize sumL mark body = sm at *
        go_wp2_with fail
        refine (ref02_Number sm 4 (by have := HSL.out; omega) (by omega) (by omega) _).mono ?_
        rintro e w10 ⟨v10, rfl, ho10, hb10⟩
        obtain ⟨A10, c10, rfl, hr10⟩ := own_rb ho10
        have HO10 := Lib.hid (own_below HO6.out hb10); have HB10 := Lib.hid (bthen HB6.out hb10); have HR10 := Lib.hid hr10
        clear ho10 hb10 hr10
        go_wp2_with (at_builtin; go_must (refine wpList_append_any (w0 := w1) w1.heap.size rfl _ _ 23 5 (.int .u8 0) 1 1 rfl Try.underlying23 Try.infoU8' rfl (by decide) (by decide) (.slice A6 116 c6) 116 _ A10 4 c10 (bv (be sm 4)) rfl rfl HO10.out HR10.out.rd (bv_one _) (by omega) HB10.out HB10.out.size ?_; intro v11 w11 ho11 hb11 hg11 ha11; rw [← bv_append] at ho11; have HO11 := Lib.hid ho11; have HB11 := Lib.hid hb11; clear ho11 hb11 hg11 ha11))
        refine (ref02_Number mark 8 HMK.out (by omega) (by omega) _).mono ?_
        rintro e w12 ⟨v12, rfl, ho12, hb12⟩
        obtain ⟨A12, c12, rfl, hr12⟩ := own_rb ho12
        have HO12 := Lib.hid (own_below HO11.out hb12); have HB12 := Lib.hid (bthen HB11.out hb12); have HR12 := Lib.hid hr12
        clear ho12 hb12 hr12
        go_wp2_with (first
          | (at_builtin; refine wpList_append_any (w0 := w1) w1.heap.size rfl _ _ 23 5 (.int .u8 0) 1 1 rfl Try.underlying23 Try.infoU8' rfl (by decide) (by decide) v11 (116 + 4) _ A12 8 c12 (bv (be mark 8)) rfl rfl HO12.out HR12.out.rd (bv_one _) (by omega) HB12.out HB12.out.size ?_
             intro v13 w13 ho13 hb13 hg13 ha13
             rw [← bv_append, ← HSS.out] at ho13
             obtain ⟨A13, c13, rfl, hr13⟩ := own_rb ho13
             have HR13 := Lib.hid hr13; have HB13 := Lib.hid hb13
             clear ho13 hb13 hg13 ha13 hr13)
          | (refine st37 rfl _ _ rfl _ _ rfl rfl zsec rfl zsec_length rfl ?_))
        have HZ := Lib.hid (HG0.out.below (HB13.out.alloc HB13.out.size (.cells (bv zsec).toArray 27)))
        have HLS : Hid ((sealL mark body).length = 128) := Lib.hid HR13.out.1
        clear HO6 HB6 HR8 HO10 HB10 HR10 HO11 HB11 HO12 HB12 HR12 hs0 hs1 HSL HSS hpl HHD HHL HO5 HB5
        go_loopw [15] (fun i wr => ∃ k, k ≤ 128 ∧ i = .int .i64 (k : Nat) ∧ Hid (SecAt wr w13.heap.size ((sealL mark body).take k ++ zsec.drop k)) ∧ Hid (Below w13.heap.size w13 wr)) (fun i _ => 128 - (intOf i).toNat)
        case atStart => exact ⟨0, by omega, rfl, by simpa using Lib.hid (SecAt.new w13 zsec zsec_length), Lib.hid (below_alloc _ _)⟩
        case round =>
          obtain ⟨k, hk, rfl, HGk, HBk⟩ := hrel
          by_cases hlt : k < 128
          · have hk0 : (0 : Int) ≤ (k : Int) := Int.natCast_nonneg _
            have hk1 : (k : Int) < 128 := by omega
            obtain ⟨b, o, rfl, hcells⟩ := (HR13.out.below HBk.out).2.2.2 (by omega)
            have hcell := hcells k (by omega)
            have hsc := HGk.out.cell k hlt
            have hfz := frozen_of_row wr w13.heap.size k _ _ HGk.out.1
            have hset := HGk.out.set k (at8 (sealL mark body) k)
            rw [fill_step _ _ k (by rw [HLS.out]; exact hlt) (by rw [HLS.out, zsec_length])] at hset
            have HST := Lib.hid hset
            have HBS : Hid (Below w13.heap.size w13 (wr.setCell ⟨w13.heap.size, k, none⟩ (.int .u8 ((at8 (sealL mark body) k).toNat : Int)))) := Lib.hid (HBk.out.setCell (Nat.le_refl _) _)
            clear hcells hset
            go_wp2_with fail
            go_roundw
            case rel => exact ⟨k + 1, by omega, by go_num, HST, HBS⟩
            case measure => simp [intOf]; omega
          · obtain rfl : k = 128 := by omega
            have hfin := HGk.out
            rw [List.take_of_length_le (by rw [HLS.out]; exact Nat.le_refl _), List.drop_of_length_le (by rw [zsec_length]; exact Nat.le_refl _), List.append_nil] at hfin
            have HF := Lib.hid hfin
            have HZ2 := Lib.hid ((HG0.out.below HB13.out).below HBk.out)
            have HBF := Lib.hid (bthen HB1.out (bthen HB13.out HBk.out))
            have hld := run_ldSec hfin.range hfin.2
            clear hfin
            go_wp2_with (refine st37_at rfl _ _ rfl w.heap.size zsec rfl HZ2.out (sealL mark body) rfl HLS.out ?_; intro w14 hg14 hk14; have HG14 := Lib.hid hg14; have HB14 := Lib.hid (HBF.out.trans (hk14.below HBF.out.size (fun _ e => by rw [e]; exact Nat.le_refl _))); clear hg14 hk14)
            (try simp only [Exit.inBlock, Exit.then])
            refine bodyPost_ret (retS_tmp rfl _ _ (sealL mark body) _ w.heap.size rfl rfl HG14.out) rfl ?_
            exact ⟨sealL mark body, 0, rfl, HLS.out, HB14.out, .inl ⟨HM.out, rfl⟩⟩
end Go.Proofs.Ytmpeidgmicammaa
