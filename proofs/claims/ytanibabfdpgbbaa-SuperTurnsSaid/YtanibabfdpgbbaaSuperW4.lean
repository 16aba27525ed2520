/- super.Read. -/
import Derived.Test.YtanibabfdpgbbaaSuperW3
namespace Go.Proofs.Ytanibabfdpgbbaa
open Go.RowKit

/-- The super that counts of the first k sectors. -/
def readTo (rd : Nat → List UInt8) : Nat → SD × Bool
  | 0 => (SD.z, false)
  | k + 1 => if (headM (rd k) k).2 = true ∧ (readTo rd k).1.gen ≤ (headM (rd k) k).1.gen then ((headM (rd k) k).1, true) else readTo rd k
def ReadPost (w : World) (r : SD × Bool) (e : Ending) (w' : World) : Prop := e = .returned (.tuple #[r.1.v, .bool r.2]) ∧ Below w.heap.size w w'
set_option maxRecDepth 20000 in
set_option maxHeartbeats 6400000 in
theorem super_Read {w : World} {base p s : Nat} {v : Value} {d : Dk} (h : DiskAt w base p s v d) (hpl : d.pend.length ≤ 1000) (hlen : 2 ≤ d.stable.length) :
    Calls Try.prog 9 #[.pointer (some ⟨p, 0, none⟩)] w (ReadPost w (readTo d.read 2)) := by
  have HD := Lib.hid h; have HPL := Lib.hid hpl; have HLN := Lib.hid hlen
  obtain ⟨wA, hwA⟩ : ∃ wA, wA = (w.alloc (.cells #[.int .u64 0, .int .i64 0, .int .i64 0, .int .i64 0, .int .i64 0, .int .i64 0] 24)).alloc (.cells #[.int .u64 0, .int .i64 0, .int .i64 0, .int .i64 0, .int .i64 0, .int .i64 0] 24) := ⟨_, rfl⟩
  have h2 : RowAt wA w.heap.size 24 [.int .u64 0, .int .i64 0, .int .i64 0, .int .i64 0, .int .i64 0, .int .i64 0] := by
    rw [hwA]
    exact (RowAt.new w 24 [.int .u64 0, .int .i64 0, .int .i64 0, .int .i64 0, .int .i64 0, .int .i64 0]).below (below_alloc _ _)
  have h4 : RowAt wA (w.heap.size + 1) 24 [.int .u64 0, .int .i64 0, .int .i64 0, .int .i64 0, .int .i64 0, .int .i64 0] := by
    have := RowAt.new (w.alloc (.cells ([.int .u64 0, .int .i64 0, .int .i64 0, .int .i64 0, .int .i64 0, .int .i64 0] : List Value).toArray 24)) 24 [.int .u64 0, .int .i64 0, .int .i64 0, .int .i64 0, .int .i64 0, .int .i64 0]
    rw [hwA]
    simpa using this
  have hb : Below w.heap.size w wA := by
    rw [hwA]
    exact (below_alloc w _).alloc (by simp) _
  have HWA := Lib.hid hwA; have H2 := Lib.hid h2; have H4 := Lib.hid h4; have HB := Lib.hid hb
  clear h hpl hlen hwA h2 h4 hb
  go_enter Try.func9, Try.ntmps9
  go_wp2_with (refine stN 24 [.int .u64 0, .int .i64 0, .int .i64 0, .int .i64 0, .int .i64 0, .int .i64 0] rfl _ _ rfl _ _ rfl (by simp) rfl (by simp [Value.oneCell']) Try.sizeSuper rfl ?_)
  rw [← HWA.out]
  clear HWA
  go_loopw [5, 10] (fun f i wr => ∃ k bg b1 b2 b3 b4 b5 fb, k ≤ 2 ∧ i = .int .i64 (k : Nat) ∧ f = .bool fb ∧ Hid (readTo d.read k = (⟨bg, b1, b2, b3, b4, b5⟩, fb)) ∧ Hid (RowAt wr (w.heap.size + 1) 24 [.int .u64 (bg : Nat), .int .i64 b1, .int .i64 b2, .int .i64 b3, .int .i64 b4, .int .i64 b5]) ∧ Hid (RowAt wr w.heap.size 24 [.int .u64 0, .int .i64 0, .int .i64 0, .int .i64 0, .int .i64 0, .int .i64 0]) ∧ Hid (Below w.heap.size w wr)) (fun _ i _ => 2 - (intOf i).toNat)
  case atStart => exact ⟨0, 0, 0, 0, 0, 0, 0, false, by omega, rfl, rfl, Lib.hid rfl, H4, H2, HB⟩
  case round =>
    obtain ⟨k, bg, b1, b2, b3, b4, b5, fb, hk, rfl, rfl, HM, HR4, HR2, HBr⟩ := hrel
    by_cases hlt : k < 2
    · have hk0 : (0 : Int) ≤ (k : Int) := Int.natCast_nonneg _
      have hk1 : (k : Int) < 2 := by omega
      have HH := Lib.hid (super_head (HD.out.below HBr.out) HPL.out k (by have := HLN.out; omega) hlt)
      have hnx : readTo d.read (k + 1) = if (headM (d.read k) k).2 = true ∧ bg ≤ (headM (d.read k) k).1.gen then ((headM (d.read k) k).1, true) else (⟨bg, b1, b2, b3, b4, b5⟩, fb) := by
        rw [readTo, HM.out]
      have HNX := Lib.hid hnx
      clear hnx
      generalize headM (d.read k) k = hm at *
      obtain ⟨⟨sg, s1, s2, s3, s4, s5⟩, ok⟩ := hm
      go_wp2_with fail
      refine HH.out.mono ?_
      clear HH
      rintro e w5 ⟨rfl, hb5⟩
      unfold SD.v
      dsimp only
      have HB5 := Lib.hid (balloc (bthen HBr.out hb5) (.cells ([.int .u64 (sg : Nat), .int .i64 s1, .int .i64 s2, .int .i64 s3, .int .i64 s4, .int .i64 s5] : List Value).toArray 24))
      have HS5 := Lib.hid (RowAt.new w5 24 [.int .u64 (sg : Nat), .int .i64 s1, .int .i64 s2, .int .i64 s3, .int .i64 s4, .int .i64 s5])
      have HR45 := Lib.hid ((HR4.out.below hb5).below (below_alloc w5 (.cells ([.int .u64 (sg : Nat), .int .i64 s1, .int .i64 s2, .int .i64 s3, .int .i64 s4, .int .i64 s5] : List Value).toArray 24)))
      have HR25 := Lib.hid ((HR2.out.below hb5).below (below_alloc w5 (.cells ([.int .u64 (sg : Nat), .int .i64 s1, .int .i64 s2, .int .i64 s3, .int .i64 s4, .int .i64 s5] : List Value).toArray 24)))
      have hc4 := HR45.out.cell 0 _ rfl
      clear hb5
      cases ok with
      | false =>
        have HN : Hid (readTo d.read (k + 1) = (⟨bg, b1, b2, b3, b4, b5⟩, fb)) := Lib.hid (by rw [HNX.out, if_neg (by simp)])
        clear HNX
        go_wp2_with (refine stN 24 [.int .u64 (sg : Nat), .int .i64 s1, .int .i64 s2, .int .i64 s3, .int .i64 s4, .int .i64 s5] rfl _ _ rfl _ _ rfl rfl rfl (by simp [Value.oneCell']) Try.sizeSuper rfl ?_)
        go_roundw
        case rel => exact ⟨k + 1, bg, b1, b2, b3, b4, b5, fb, by omega, by go_num, rfl, HN, HR45, HR25, HB5⟩
        case measure => simp [intOf]; omega
      | true =>
        by_cases hge : bg ≤ sg
        · have HN : Hid (readTo d.read (k + 1) = (⟨sg, s1, s2, s3, s4, s5⟩, true)) := Lib.hid (by rw [HNX.out, if_pos ⟨rfl, hge⟩])
          have hd1 : decide (bg ≤ sg) = true := decide_eq_true hge
          have hd2 : decide ((bg : Int) ≤ (sg : Int)) = true := decide_eq_true (by omega)
          clear HNX
          go_wp2_with (first
            | (refine stN 24 [.int .u64 (sg : Nat), .int .i64 s1, .int .i64 s2, .int .i64 s3, .int .i64 s4, .int .i64 s5] rfl _ _ rfl _ _ rfl rfl rfl (by simp [Value.oneCell']) Try.sizeSuper rfl ?_)
            | (refine ldN 24 [.int .u64 (sg : Nat), .int .i64 s1, .int .i64 s2, .int .i64 s3, .int .i64 s4, .int .i64 s5] rfl _ rfl w5.heap.size 0 rfl HS5.out.range Try.underlying24 rfl Try.sizeSuper ?_)
            | (refine stN_at 24 [.int .u64 (sg : Nat), .int .i64 s1, .int .i64 s2, .int .i64 s3, .int .i64 s4, .int .i64 s5] [.int .u64 (bg : Nat), .int .i64 b1, .int .i64 b2, .int .i64 b3, .int .i64 b4, .int .i64 b5] rfl _ _ rfl (w.heap.size + 1) rfl HR45.out rfl (by simp [Value.oneCell']) Try.sizeSuper rfl ?_
               intro w8 hz8 hk8
               have HZ8 := Lib.hid hz8
               have HB8 := Lib.hid (HB5.out.trans (hk8.below HB5.out.size (fun _ e => by rw [e]; omega)))
               have HR28 := Lib.hid (HR25.out.kp hk8 (by omega))
               clear hz8 hk8))
          go_roundw
          case rel => exact ⟨k + 1, sg, s1, s2, s3, s4, s5, true, by omega, by go_num, rfl, HN, HZ8, HR28, HB8⟩
          case measure => simp [intOf]; omega
        · have HN : Hid (readTo d.read (k + 1) = (⟨bg, b1, b2, b3, b4, b5⟩, fb)) := Lib.hid (by rw [HNX.out, if_neg (fun h => hge h.2)])
          have hd1 : decide (bg ≤ sg) = false := decide_eq_false hge
          have hd2 : decide ((bg : Int) ≤ (sg : Int)) = false := decide_eq_false (by omega)
          clear HNX
          go_wp2_with (refine stN 24 [.int .u64 (sg : Nat), .int .i64 s1, .int .i64 s2, .int .i64 s3, .int .i64 s4, .int .i64 s5] rfl _ _ rfl _ _ rfl rfl rfl (by simp [Value.oneCell']) Try.sizeSuper rfl ?_)
          go_roundw
          case rel => exact ⟨k + 1, bg, b1, b2, b3, b4, b5, fb, by omega, by go_num, rfl, HN, HR45, HR25, HB5⟩
          case measure => simp [intOf]; omega
    · obtain rfl : k = 2 := by omega
      go_wp2_with (first
        | (refine ldN 24 [.int .u64 (bg : Nat), .int .i64 b1, .int .i64 b2, .int .i64 b3, .int .i64 b4, .int .i64 b5] rfl _ rfl (w.heap.size + 1) 0 rfl HR4.out.range Try.underlying24 rfl Try.sizeSuper ?_)
        | (refine stN_at 24 [.int .u64 (bg : Nat), .int .i64 b1, .int .i64 b2, .int .i64 b3, .int .i64 b4, .int .i64 b5] [.int .u64 0, .int .i64 0, .int .i64 0, .int .i64 0, .int .i64 0, .int .i64 0] rfl _ _ rfl w.heap.size rfl HR2.out rfl (by simp [Value.oneCell']) Try.sizeSuper rfl ?_
           intro w8 hz8 hk8
           have HZ8 := Lib.hid hz8
           have HB8 := Lib.hid (HBr.out.trans (hk8.below HBr.out.size (fun _ e => by rw [e]; exact Nat.le_refl _)))
           clear hz8 hk8))
      (try simp only [Exit.inBlock, Exit.then])
      refine bodyPost_ret (res_row_tmp rfl _ _ w.heap.size 0 [.int .u64 (bg : Nat), .int .i64 b1, .int .i64 b2, .int .i64 b3, .int .i64 b4, .int .i64 b5] _ (.bool fb) rfl rfl HZ8.out.range Try.underlying24 rfl Try.sizeSuper) rfl ?_
      exact ⟨by rw [HM.out]; rfl, HB8.out⟩
end Go.Proofs.Ytanibabfdpgbbaa
