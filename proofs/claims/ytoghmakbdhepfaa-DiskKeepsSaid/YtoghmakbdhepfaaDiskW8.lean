/- The chapter's example of a disk. -/
import Derived.Test.YtoghmakbdhepfaaDiskW6
import Derived.Test.YtoghmakbdhepfaaDiskW7
namespace Go.Proofs.Ytoghmakbdhepfaa
open Go.RowKit
attribute [local go_sem ↓] build37 loadAt37

theorem power_live (d : Dk) (h : d.dead = false) (hf : d.fuel < 0) : d.power = (d, true) := by
  unfold Dk.power
  have hn : ¬ (d.dead = true ∨ d.fuel = 0) := fun h1 => by
    rcases h1 with h1 | h1
    · rw [h] at h1; cases h1
    · omega
  rw [if_neg hn, if_neg (by omega)]
theorem bthen2 {B : Nat} {a b c : World} (h : Below B a b) (k : Below B b c) : Below B a c := h.trans k
def D4 (l : List (Nat × List UInt8)) : Dk := ⟨List.replicate 4 zsec, l, -1, false⟩
theorem newDk4 : newDk 4 = D4 [] := rfl
theorem D4_len (l : List (Nat × List UInt8)) : (D4 l).stable.length = 4 := by simp [D4]
theorem D4_power (l : List (Nat × List UInt8)) : (D4 l).power = (D4 l, true) := power_live _ rfl (by simp [D4])
theorem D4_crashed : (D4 [(0, headSec 1), (1, headSec 2)]).crashed [false, true] (-1) 0 = ⟨[zsec, headSec 2, zsec, zsec], [], -1, false⟩ := rfl
/-- What the first half of the example leaves. -/
def HalfPost (w : World) (e : Ending) (w' : World) : Prop := e = .returned (.bool true) ∧ Below w.heap.size w w'

set_option maxRecDepth 20000 in
set_option maxHeartbeats 3200000 in
theorem diskAlive_true (w : World) : Calls Try.prog 8 #[] w fun e w' => e = .returned (.bool true) ∧ Below w.heap.size w w' := by
  have b0 := run_bldSec0
  have b1 : ∀ W, (bldSec #[(0, .int .u8 1)]).run Try.prog W = .ok (.agg (bv (headSec 1)).toArray) W := fun W => run_bldSec1 W 1
  have b2 : ∀ W, (bldSec #[(0, .int .u8 2)]).run Try.prog W = .ok (.agg (bv (headSec 2)).toArray) W := fun W => run_bldSec1 W 2
  go_enter Try.func8, Try.ntmps8
  go_wp2_with fail
  refine (disk_New 4 w).mono ?_
  rintro e w1 ⟨p, s, rfl, hd0, hb0⟩
  rw [newDk4] at hd0
  have H0 := Lib.hid hd0
  have HB0 := Lib.hid hb0
  clear hd0 hb0
  go_wp2_with fail
  refine (disk_Write_yes H0.out HB0.out.size 0 (by rw [D4_len]; omega) (headSec 1) (headSec_length 1) (by rw [D4_power]) (by simp [D4])).mono ?_
  rintro e w2 ⟨v1, rfl, hd1, hk1, hv1⟩
  rw [D4_power] at hd1
  have H1 : Hid (DiskAt w2 w.heap.size p s v1 (D4 [(0, headSec 1)])) := Lib.hid hd1
  have HK1 := Lib.hid hk1
  clear hd1 hk1 hv1
  go_wp2_with fail
  refine (disk_Write_yes H1.out (Nat.le_trans HB0.out.size HK1.out.size) 1 (by rw [D4_len]; omega) (headSec 2) (headSec_length 2) (by rw [D4_power]) (by simp [D4])).mono ?_
  rintro e w3 ⟨v2, rfl, hd2, hk2, hv2⟩
  rw [D4_power] at hd2
  have H2 : Hid (DiskAt w3 w.heap.size p s v2 (D4 [(0, headSec 1), (1, headSec 2)])) := Lib.hid hd2
  have HK2 := Lib.hid hk2
  clear hd2 hk2 hv2
  have hr := disk_Read_yes H2.out 0 (by rw [D4_len]; omega) (by simp [D4])
  have er : (D4 [(0, headSec 1), (1, headSec 2)]).read 0 = headSec 1 := by simp [Dk.read, lastW, D4]
  rw [er] at hr
  have HR := Lib.hid hr
  clear hr er
  go_wp2_with fail
  refine HR.out.mono ?_
  rintro e w4 ⟨rfl, hb4⟩
  have HB4 := Lib.hid hb4
  clear hb4 HR
  go_wp2_with (refine st37 rfl _ _ rfl _ _ rfl rfl (headSec 1) rfl (headSec_length 1) rfl ?_)
  have hd4 := (H2.out.below HB4.out)
  have hd5 := (hd4.below (below_alloc w4 (.cells (bv (headSec 1)).toArray 28))).below (below_alloc _ (.cells #[.bool false, .bool true] 4))
  have hrb := rbl_new' (w4.alloc (.cells (bv (headSec 1)).toArray 28)) [false, true] 4 (w4.heap.size + 1) (by simp) (by simp)
  have hcr := disk_Crash hd5 (by simp [D4]) _ _ _ [false, true] hrb (fun b o e _ hf => by
    cases e
    have := hd4.foot_lt _ hf
    omega) (-1) 0
  rw [D4_crashed] at hcr
  have HCR := Lib.hid hcr
  have HF4 : Hid (∀ k, foot p s v2 k → k < w4.heap.size) := Lib.hid fun k hk => hd4.foot_lt k hk
  clear hd4 hd5 hrb hcr
  refine HCR.out.mono ?_
  rintro e w5 ⟨rfl, hd5, hk5⟩
  have H5 := Lib.hid hd5
  have HK5 := Lib.hid hk5
  have HRG : Hid (w5.rangeAt w4.heap.size 0 (bv (headSec 1))) := Lib.hid (range_kp (range_old (range_alloc w4 (bv (headSec 1)) 28 (0, 0)) _) hk5 (fun hf => by have := HF4.out _ hf; omega))
  clear hd5 hk5 HCR
  have hS0 : Calls Try.prog 16 #[.pointer (some ⟨p, 0, none⟩), .int .i64 0] w5 fun e w' => e = .returned (.agg (bv zsec).toArray) ∧ Below w5.heap.size w5 w' := disk_Stable_yes H5.out 0 (by simp)
  have HS0 := Lib.hid hS0
  clear hS0
  have q1 := eq37 w5 (headSec 1) (headSec 1) (headSec_length 1) (headSec_length 1)
  have hld := run_ldSec (w := w5) HRG.out (headSec_length 1)
  go_wp2_with fail
  refine HS0.out.mono ?_
  rintro e w6 ⟨rfl, hb6⟩
  have HB6 := Lib.hid hb6
  have hs1 : Calls Try.prog 16 #[.pointer (some ⟨p, 0, none⟩), .int .i64 1] w6 fun e w' => e = .returned (.agg (bv (headSec 2)).toArray) ∧ Below w6.heap.size w6 w' := disk_Stable_yes (H5.out.below HB6.out) 1 (by simp)
  have HS1 := Lib.hid hs1
  have q2 := eq37 w6 zsec zsec zsec_length zsec_length
  clear hb6 hs1 HS0 hld q1
  go_wp2_with fail
  refine HS1.out.mono ?_
  rintro e w7 ⟨rfl, hb7⟩
  have HB7 := Lib.hid hb7
  have hp1 := disk_Pending ((H5.out.below HB6.out).below HB7.out) (by simp)
  have HP1 := Lib.hid hp1
  have q3 := eq37 w7 (headSec 2) (headSec 2) (headSec_length 2) (headSec_length 2)
  clear hb7 hp1 HS1 q2
  go_wp2_with fail
  refine HP1.out.mono ?_
  rintro e w8 ⟨v8, rfl, ho8, hb8⟩
  have hv8 : v8 = .slice none 0 0 ∨ ∃ g c, v8 = .slice (some ⟨g, 0, none⟩) 0 c := by
    rcases ho8.2 with ⟨rfl, _⟩ | ⟨g, cap, cur, rfl, _⟩
    · exact .inl rfl
    · exact .inr ⟨g, cap, rfl⟩
  have HB8 := Lib.hid hb8
  clear ho8 hb8 HP1 q3
  rcases hv8 with rfl | ⟨g, c, rfl⟩
  all_goals
    go_wp2_with fail
    have k1 : Below w.heap.size w w2 := bthen2 HB0.out (HK1.out.below HB0.out.size fun k hk => H0.out.foot_base k hk)
    have k2 : Below w.heap.size w w3 := bthen2 k1 (HK2.out.below k1.size fun k hk => H1.out.foot_base k hk)
    have k3 : Below w.heap.size w w4 := bthen k2 HB4.out
    have k4 := balloc (balloc k3 (.cells (bv (headSec 1)).toArray 28)) (.cells #[.bool false, .bool true] 4)
    have k5 : Below w.heap.size w w5 := bthen2 k4 (HK5.out.below k4.size fun k hk => H2.out.foot_base k hk)
    have k8 := bthen (bthen (bthen k5 HB6.out) HB7.out) HB8.out
    clear H0 H1 H2 H5 HB0 HK1 HK2 HB4 HK5 HRG HB6 HB7 HB8 k1 k2 k3 k4 k5
    go_ret
    exact ⟨rfl, k8⟩
end Go.Proofs.Ytoghmakbdhepfaa
