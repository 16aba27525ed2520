/- The walk of CrcSums: of three texts of one length the sums add up, bit by bit, to the sum of the three. -/
import Derived.Test.YtbmbhjjgaomlhaaCrcNamesW
import Derived.Test.YtbmbhjjgaomlhaaCrcFindsM
import Derived.Test.YtbmbhjjgaomlhaaOpen
import Derived.Deep.RegionHeld3
import Derived.Deep.AppendLies
namespace Go.Proofs.Ytbmbhjjgaomlhaa
open Go.RowKit

set_option maxHeartbeats 400000 in
theorem crcSums_early (A B C : Option Addr) (n m q c c' c'' : Nat) (w : World) (h : n ≠ m ∨ (n = m ∧ m ≠ q) ∨ (n = m ∧ m = q ∧ 5000 < n)) :
    Calls Try.prog 7 #[.slice A n c, .slice B m c', .slice C q c''] w fun e w' => e = .returned (.bool true) ∧ Below w.heap.size w w' := by
  go_enter Try.func7, Try.ntmps7
  go_wp2_with fail
  refine (crcNames_walk _).mono ?_
  rintro e w1 ⟨rfl, hb⟩
  rcases h with h | ⟨rfl, h⟩ | ⟨rfl, rfl, h⟩
  · have hne : ((n : Int) != (m : Int)) = true := by rw [bne_iff_ne]; omega
    go_wp2_with fail
    go_ret
    exact ⟨rfl, hb⟩
  · have hne : ((n : Int) != (q : Int)) = true := by rw [bne_iff_ne]; omega
    go_wp2_with fail
    go_ret
    exact ⟨rfl, hb⟩
  · go_wp2_with fail
    go_ret
    exact ⟨rfl, hb⟩

theorem Try.infoU8 : (Try.prog.info? 5).map (fun i => (i.zero, i.size, i.bytes)) = some (some (.int .u8 0), 1, 1) := by kernel_rfl
theorem RB.cellAt {w : World} {A : Option Addr} {n c : Nat} {xs : List UInt8} (h : RB w A n c xs) (k : Nat) (hk : k < n) : ∃ b o, A = some ⟨b, o, none⟩ ∧ w.cell? ⟨b, o + k, none⟩ = some (.int .u8 ((at8 xs k).toNat : Int)) := by
  obtain ⟨b, o, e, hc⟩ := h.2.2.2 (by omega)
  exact ⟨b, o, e, hc k hk⟩

set_option maxRecDepth 100000 in
set_option maxHeartbeats 1600000 in
theorem crcSums_main (A B C : Option Addr) (n c c' c'' : Nat) (xs ys zs : List UInt8) (w : World) (hx : RB w A n c xs) (hy : RB w B n c' ys) (hz : RB w C n c'' zs) (hn : n ≤ 5000) :
    Calls Try.prog 7 #[.slice A n c, .slice B n c', .slice C n c''] w fun e w' => e = .returned (.bool true) ∧ Below w.heap.size w w' := by
  have HX := Lib.hid hx; clear hx
  have HY := Lib.hid hy; clear hy
  have HZ := Lib.hid hz; clear hz
  obtain ⟨i0, hi0, hz0, hz1, hz2⟩ := info_parts Try.infoU8
  have HI := Lib.hid hi0; have HI0 := Lib.hid hz0; have HI1 := Lib.hid hz1; have HI2 := Lib.hid hz2
  clear hi0 hz0 hz1 hz2
  go_enter Try.func7, Try.ntmps7
  go_wp2_with fail
  refine (crcNames_walk _).mono ?_
  rintro e w1 ⟨rfl, hb⟩
  go_wp2_with fail
  go_loopw [7, 31] (fun v i wr => ∃ k : Nat, k ≤ n ∧ i = .int .i64 k ∧ wr.ownsRow w1.heap.size 5 1 v k (bv (xor3 (xs.take k) (ys.take k) (zs.take k))) ∧ Below w1.heap.size w1 wr) (fun _ i _ => n - (intOf i).toNat)
  case atStart => exact ⟨0, by omega, rfl, own_empty w1 _ _ _ (Nat.le_refl _), below_alloc _ _⟩
  case round =>
    obtain ⟨k, hk, rfl, hown, hbr⟩ := hrel
    by_cases hlt : k < n
    · obtain ⟨b0, o0, rfl, h0⟩ := ((HX.out.below hb).below hbr).cellAt k hlt
      obtain ⟨b1, o1, rfl, h1⟩ := ((HY.out.below hb).below hbr).cellAt k hlt
      obtain ⟨b2, o2, rfl, h2⟩ := ((HZ.out.below hb).below hbr).cellAt k hlt
      have lb : ∀ b' o' (x : Value), w1.cell? ⟨b', o', none⟩ = some x → u7.ownBlock ≠ some b' := fun b' o' x hx' hu => by
        have l1 := World.block_lt_of_cell? w1 _ hx'
        have l2 := (hown.lt b' hu).1
        simp at l1
        omega
      have ag : u7.ownBlock ≠ some b0 := by
        obtain ⟨b', o', e, h⟩ := (HX.out.below hb).cellAt k hlt
        cases e
        exact lb _ _ _ h
      have ak : u7.ownBlock ≠ some b1 := by
        obtain ⟨b', o', e, h⟩ := (HY.out.below hb).cellAt k hlt
        cases e
        exact lb _ _ _ h
      have av : u7.ownBlock ≠ some b2 := by
        obtain ⟨b', o', e, h⟩ := (HZ.out.below hb).cellAt k hlt
        cases e
        exact lb _ _ _ h
      clear lb
      have lg := World.block_lt_of_cell? wr _ h0
      have lk := World.block_lt_of_cell? wr _ h1
      have lv := World.block_lt_of_cell? wr _ h2
      have HO := Lib.hid hown
      have HB := Lib.hid hbr
      clear hown hbr
      have hk0 : (0 : Int) ≤ (k : Int) := Int.natCast_nonneg _
      have hk1 : (k : Int) < (n : Int) := by omega
      go_wp2_with fail
      have e1 := xor_u8 (at8 xs k) (at8 ys k)
      have e2 := xor_u8 (at8 xs k ^^^ at8 ys k) (at8 zs k)
      have e3 := xor3_snoc xs ys zs k (by rw [HX.out.1]; exact hlt) (by rw [HX.out.1, HY.out.1]) (by rw [HY.out.1, HZ.out.1])
      generalize at8 xs k ^^^ at8 ys k ^^^ at8 zs k = y2 at e2 e3
      generalize at8 xs k ^^^ at8 ys k = y1 at e1 e2
      have E3 := Lib.hid e3; clear e3
      go_region_held3 (fun w' => w'.cell? ⟨b0, o0 + k, none⟩ = some (.int .u8 ((at8 xs k).toNat : Int)) ∧ w'.cell? ⟨b1, o1 + k, none⟩ = some (.int .u8 ((at8 ys k).toNat : Int)) ∧ w'.cell? ⟨b2, o2 + k, none⟩ = some (.int .u8 ((at8 zs k).toNat : Int)))
        (first
          | go_keep
          | (go_split_ands
             refine ⟨?_, ?_, ?_⟩
             · (rw [hgrow.cell_far _ (by simp; omega) (Ne.symm ag)]; assumption)
             · (rw [hgrow.cell_far _ (by simp; omega) (Ne.symm ak)]; assumption)
             · (rw [hgrow.cell_far _ (by simp; omega) (Ne.symm av)]; assumption)))
        ((refine step_append_lies _ (by rfl) _ _ _ (by rfl) w1.heap.size 5 i0 _ 1 1 Try.underlying24 HI.out HI0.out HI1.out HI2.out rfl (by omega) u7 k _ (by rfl) ((HO.out.alloc _).drew) ⟨wr.heap.size, 0, none⟩ 1 1 [.int .u8 (y2.toNat : Int)] (by rfl) (by rfl) (World.news_of_block (cs := #[.int .u8 (y2.toNat : Int)]) (t := 5) (fr := (0, 0)) (heap_alloc_new wr _)) (by simp [Value.oneCell']) (by omega) (by simp [maxLen]; omega) (by omega) (by have := HB.out.size; simp; omega) (wr.heap.size + 1) (by simp) ?_; intro gg cap w2 hown1 hgrow hat hlt2))
      have hown2 : w2.ownsRow w1.heap.size 5 1 (.slice (some ⟨gg, 0, none⟩) (k + 1) cap) (k + 1) (bv (xor3 (xs.take (k + 1)) (ys.take (k + 1)) (zs.take (k + 1)))) := by
        rw [E3.out, bv_append]
        exact hown1
      have hb2 : Below w1.heap.size w1 w2 := (((HB.out).alloc (HB.out.size) _).drew).grown hgrow (by have := HB.out.size; simp; omega) (fun b' hb' => (HO.out.lt b' hb').1)
      clear hown1 hgrow hat E3 HO HB
      go_wp2
      go_roundw
      case rel => exact ⟨k + 1, by omega, by go_num, hown2, hb2⟩
      case measure => simp [intOf]; omega
    · obtain rfl : k = n := by omega
      rw [List.take_of_length_le (by rw [HX.out.1]; omega), List.take_of_length_le (by rw [HY.out.1]; omega), List.take_of_length_le (by rw [HZ.out.1]; omega)] at hown
      obtain ⟨A1, c1, rfl, hrb⟩ := own_rb hown
      have h123 : crcSums [xor3 xs ys zs] = crcSums [xs] ^^^ crcSums [ys] ^^^ crcSums [zs] := crcAdd_xor3 xs ys zs (by rw [HX.out.1, HY.out.1]) (by rw [HY.out.1, HZ.out.1])
      have x1 := xor_u32 (crcSums [xs]) (crcSums [ys])
      have x2 := xor_u32 (crcSums [xs] ^^^ crcSums [ys]) (crcSums [zs])
      rw [← h123] at x2
      generalize crcSums [xs] ^^^ crcSums [ys] = q1 at x1 x2
      clear h123 hown
      have HR0 := Lib.hid (rrb_one hrb 24)
      have HX1 := Lib.hid ((HX.out.below (bthen hb hbr)).alloc (.cells #[.slice A1 k c1] 24))
      have HY1 := Lib.hid ((HY.out.below (bthen hb hbr)).alloc (.cells #[.slice A1 k c1] 24))
      have HZ1 := Lib.hid ((HZ.out.below (bthen hb hbr)).alloc (.cells #[.slice A1 k c1] 24))
      clear hrb HX HY HZ
      go_wp2_with fail
      refine (crc_Sum _ _ _ _ _ HR0.out).mono ?_
      rintro e w3 ⟨rfl, rfl⟩
      go_wp2_with (at_builtin; go_must (refine wpList_copy_bytes rfl _ _ 24 5 rfl Try.underlying24 (by kernel_rfl) A k c xs _ rfl rfl (by simp) HX1.out (by omega) ?_; intro A3 c3 w4 hown hrb3 hb4))
      have HR1 := Lib.hid (rrb_one hrb3 24)
      have HY2 := Lib.hid ((HY1.out.below hb4).alloc (.cells #[.slice A3 k c3] 24))
      have HZ2 := Lib.hid ((HZ1.out.below hb4).alloc (.cells #[.slice A3 k c3] 24))
      clear hown hrb3
      refine (crc_Sum _ _ _ _ _ HR1.out).mono ?_
      rintro e w5 ⟨rfl, rfl⟩
      go_wp2_with (at_builtin; go_must (refine wpList_copy_bytes rfl _ _ 24 5 rfl Try.underlying24 (by kernel_rfl) B k c' ys _ rfl rfl (by simp) HY2.out (by omega) ?_; intro A5 c5 w6 hown hrb5 hb6))
      have HR2 := Lib.hid (rrb_one hrb5 24)
      have HZ3 := Lib.hid ((HZ2.out.below hb6).alloc (.cells #[.slice A5 k c5] 24))
      clear hown hrb5
      refine (crc_Sum _ _ _ _ _ HR2.out).mono ?_
      rintro e w7 ⟨rfl, rfl⟩
      go_wp2_with (at_builtin; go_must (refine wpList_copy_bytes rfl _ _ 24 5 rfl Try.underlying24 (by kernel_rfl) C k c'' zs _ rfl rfl (by simp) HZ3.out (by omega) ?_; intro A7 c7 w8 hown hrb7 hb8))
      have HR3 := Lib.hid (rrb_one hrb7 24)
      clear hown hrb7
      refine (crc_Sum _ _ _ _ _ HR3.out).mono ?_
      rintro e w9 ⟨rfl, rfl⟩
      go_wp2_with fail
      go_ret
      exact ⟨rfl, bthen (bthen hb hbr) (balloc (bthen (balloc (bthen (balloc (bthen (balloc (Below.refl _ _) _) hb4) _) hb6) _) hb8) _)⟩

set_option maxRecDepth 100000 in
theorem crcSums_walk {H : Type} {enc : TypeId × Value → H} {W : World} {base : Nat} {v0 v1 v2 : Value} {d0 d1 d2 : DataW H} {p0 p1 p2 : List MemPlace}
    (o0 : Value.okWide Try.prog W .any base 24 v0) (r0 : DataW.Trod enc Try.prog W 0 (fun _ => true) true 24 v0 d0 p0) (z0 : ∀ n ∈ d0.weights Try.prog 24, n ≤ reachBytes)
    (o1 : Value.okWide Try.prog W .any base 24 v1) (r1 : DataW.Trod enc Try.prog W 0 (fun _ => true) true 24 v1 d1 p1) (z1 : ∀ n ∈ d1.weights Try.prog 24, n ≤ reachBytes)
    (o2 : Value.okWide Try.prog W .any base 24 v2) (r2 : DataW.Trod enc Try.prog W 0 (fun _ => true) true 24 v2 d2 p2) (z2 : ∀ n ∈ d2.weights Try.prog 24, n ≤ reachBytes) :
    Calls Try.prog 7 #[v0, v1, v2] W fun e w' => e = .returned (.bool true) ∧ Below W.heap.size W w' := by
  obtain ⟨A, n, c, xs, rfl, hx, _⟩ := open_bytes Try.underlying24 Try.underlying5 (by kernel_rfl) (by kernel_rfl) o0 r0 z0
  obtain ⟨B, m, c', ys, rfl, hy, _⟩ := open_bytes Try.underlying24 Try.underlying5 (by kernel_rfl) (by kernel_rfl) o1 r1 z1
  obtain ⟨C, q, c'', zs, rfl, hz, _⟩ := open_bytes Try.underlying24 Try.underlying5 (by kernel_rfl) (by kernel_rfl) o2 r2 z2
  by_cases h0 : n = m
  · by_cases h1 : m = q
    · subst h0; subst h1
      by_cases h2 : 5000 < n
      · exact crcSums_early A B C n n n c c' c'' W (.inr (.inr ⟨rfl, rfl, h2⟩))
      · exact crcSums_main A B C n c c' c'' xs ys zs W hx hy hz (by omega)
    · exact crcSums_early A B C n m q c c' c'' W (.inr (.inl ⟨h0, h1⟩))
  · exact crcSums_early A B C n m q c c' c'' W (.inl h0)
end Go.Proofs.Ytbmbhjjgaomlhaa
