/- The law's example of supers. -/
import Derived.Test.YtanibabfdpgbbaaSuperW4
import Derived.Test.YtanibabfdpgbbaaSealO
namespace Go.Proofs.Ytanibabfdpgbbaa
open Go.RowKit

theorem head_sealed (gen r b q c e : Nat) (hg1 : 1 ≤ gen) (hg2 : gen ≤ 281474976710655) (hr : r ≤ 1024) (hb : b ≤ 255) (hq : q ≤ 48) (hc : c ≤ 1024) (he : e ≤ 65535) (k : Nat) (hk : gen % 2 = k) : headM (sealL gen (bodyL r b q c e)) k = (⟨gen, r, b, q, c, e⟩, true) := by
  unfold headM
  rw [open_seal gen _ (by omega) (by omega) (by rw [bodyL_length]; omega)]
  simp only
  rw [super_unpack r b q c e hr hb hq hc he]
  simp only
  rw [if_pos hk]
  have e1 : sdOf gen [(r, []), (b, []), (q, []), (c, []), (e, [])] = ⟨gen, r, b, q, c, e⟩ := rfl
  rw [e1]
  have hright : (⟨gen, r, b, q, c, e⟩ : SD).right := ⟨hg1, hg2, ⟨by show (0 : Int) ≤ (r : Int); omega, by show (r : Int) ≤ 1024; omega⟩, ⟨by show (0 : Int) ≤ (c : Int); omega, by show (c : Int) ≤ 1024; omega⟩, ⟨by show (0 : Int) ≤ (b : Int); omega, by show (b : Int) ≤ 255; omega⟩, ⟨by show (0 : Int) ≤ (q : Int); omega, by show (q : Int) ≤ 48; omega⟩, ⟨by show (0 : Int) ≤ (e : Int); omega, by show (e : Int) ≤ 65535; omega⟩⟩
  rw [decide_eq_true hright]
theorem head_zero (k : Nat) : headM zsec k = (SD.z, false) := by
  unfold headM
  rw [open_zeros]
theorem new_read (k : Nat) (hk : k < 2) : (newDk 2).read k = zsec := by
  match k, hk with
  | 0, _ => rfl
  | 1, _ => rfl
set_option maxRecDepth 20000 in
set_option maxHeartbeats 3200000 in
theorem superAlive_true (w : World) : Calls Try.prog 11 #[] w fun e w' => e = .returned (.bool true) ∧ Below w.heap.size w w' := by
  go_enter Try.func11, Try.ntmps11
  go_wp2_with fail
  refine (disk_New 2 w).mono ?_
  rintro e w1 ⟨p, s, rfl, hd1, hb1⟩
  have HB1 := Lib.hid hb1
  have HW1 := Lib.hid (super_Write 1 0 0 0 0 0 (by omega) (by omega) (by omega) (by omega) (by omega) (by omega) (by omega) hd1 hb1.size ⟨rfl, rfl⟩ (by simp [newDk]) (by decide : 2 ≤ (newDk 2).stable.length))
  have HF1 := Lib.hid hd1
  clear hd1 hb1
  go_wp2_with fail
  refine HW1.out.mono ?_
  clear HW1
  rintro e w2 ⟨d2, rfl, hd2, hl2, hp2, hn2, hr2, hk2⟩
  have hb2 : Below w.heap.size w w2 := HB1.out.trans (hk2.below HB1.out.size (fun k hk => HF1.out.foot_base k hk))
  have hn22 : 2 ≤ d2.stable.length := by rw [hn2]; exact (by decide : 2 ≤ (newDk 2).stable.length)
  have HB2 := Lib.hid hb2; have HR2 := Lib.hid hr2; have HF2 := Lib.hid hd2
  have HW2 := Lib.hid (super_Write 2 7 3 0 0 0 (by omega) (by omega) (by omega) (by omega) (by omega) (by omega) (by omega) hd2 hb2.size hl2 (by rw [hp2]; simp) hn22)
  have HN2 := Lib.hid hn22
  clear hd2 hl2 hp2 hn2 hr2 hk2 hb2 hn22
  go_wp2_with fail
  refine HW2.out.mono ?_
  clear HW2
  rintro e w3 ⟨d3, rfl, hd3, hl3, hp3, hn3, hr3, hk3⟩
  have hb3 : Below w.heap.size w w3 := HB2.out.trans (hk3.below HB2.out.size (fun k hk => HF2.out.foot_base k hk))
  have hm : readTo d3.read 2 = (⟨2, 7, 3, 0, 0, 0⟩, true) := by
    have e0 : d3.read 0 = sealL 2 (bodyL 7 3 0 0 0) := by rw [hr3 0]; rfl
    have e1 : d3.read 1 = sealL 1 (bodyL 0 0 0 0 0) := by rw [hr3 1, if_neg (by omega), HR2.out 1]; rfl
    have h0 := head_sealed 2 7 3 0 0 0 (by omega) (by omega) (by omega) (by omega) (by omega) (by omega) (by omega) 0 rfl
    have h1 := head_sealed 1 0 0 0 0 0 (by omega) (by omega) (by omega) (by omega) (by omega) (by omega) (by omega) 1 rfl
    simp only [readTo, e0, e1, h0, h1]
    simp [SD.z]
  have HB3 := Lib.hid hb3
  have HRD := Lib.hid (super_Read hd3 (by rw [hp3]; simp) (by rw [hn3]; exact HN2.out))
  rw [hm] at HRD
  clear hd3 hl3 hp3 hn3 hr3 hk3 hb3 hm
  go_wp2_with fail
  refine HRD.out.mono ?_
  clear HRD
  rintro e w4 ⟨rfl, hb4⟩
  unfold SD.v
  dsimp only
  have HB4 := Lib.hid (balloc (bthen HB3.out hb4) (.cells #[.int .u64 2, .int .i64 7, .int .i64 3, .int .i64 0, .int .i64 0, .int .i64 0] 24))
  clear hb4
  go_wp2_with (refine stN 24 [.int .u64 2, .int .i64 7, .int .i64 3, .int .i64 0, .int .i64 0, .int .i64 0] rfl _ _ rfl _ _ rfl rfl rfl (by simp [Value.oneCell']) Try.sizeSuper rfl ?_)
  go_ret
  exact ⟨rfl, HB4.out⟩
end Go.Proofs.Ytanibabfdpgbbaa
