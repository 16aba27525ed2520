/- The walk of CrcFinds: bytes of which one is another one have another sum. -/
import Derived.Test.YtbmbhjjgaomlhaaCrcNamesW
import Derived.Test.YtbmbhjjgaomlhaaCrcFindsM
import Derived.Test.YtbmbhjjgaomlhaaOpen
namespace Go.Proofs.Ytbmbhjjgaomlhaa
open Go.RowKit

set_option maxHeartbeats 400000 in
theorem crcFinds_early (A : Option Addr) (n c : Nat) (i : Int) (ch : UInt8) (w : World) (hn : n ≤ 140737488351232) (h : i < 0 ∨ (0 ≤ i ∧ (n : Int) ≤ i) ∨ (0 ≤ i ∧ i < n ∧ ch = 0) ∨ (0 ≤ i ∧ i < n ∧ ch ≠ 0 ∧ 5000 < n)) :
    Calls Try.prog 6 #[.slice A n c, .int .i64 i, .int .u8 (ch.toNat : Int)] w fun e w' => e = .returned (.bool true) ∧ Below w.heap.size w w' := by
  go_enter Try.func6, Try.ntmps6
  go_wp2_with fail
  refine (crcNames_walk _).mono ?_
  rintro e w1 ⟨rfl, hb⟩
  rcases h with h | ⟨h0, h⟩ | ⟨h0, h1, h⟩ | ⟨h0, h1, h2, h⟩
  · go_wp2_with fail
    go_ret
    exact ⟨rfl, hb⟩
  · go_wp2_with fail
    go_ret
    exact ⟨rfl, hb⟩
  · subst h
    go_wp2_with fail
    go_ret
    exact ⟨rfl, hb⟩
  · have hc : ((ch.toNat : Int) == 0) = false := by
      rw [beq_eq_false_iff_ne]
      intro he
      exact h2 (UInt8.toNat_inj.1 (by simpa using he))
    clear h2
    go_wp2_with fail
    go_ret
    exact ⟨rfl, hb⟩

set_option maxHeartbeats 800000 in
theorem crcFinds_main (A : Option Addr) (n c k : Nat) (ch : UInt8) (xs : List UInt8) (w : World) (hx : RB w A n c xs) (hk : k < n) (hch : ch ≠ 0) (hn : n ≤ 5000) :
    Calls Try.prog 6 #[.slice A n c, .int .i64 k, .int .u8 (ch.toNat : Int)] w fun e w' => e = .returned (.bool true) ∧ Below w.heap.size w w' := by
  have HX := Lib.hid hx; clear hx
  have hc : ((ch.toNat : Int) == 0) = false := by
    rw [beq_eq_false_iff_ne]
    intro he
    exact hch (UInt8.toNat_inj.1 (by simpa using he))
  have hl : xs.length = n := HX.out.1
  have hx8 := xor_u8 (at8 xs k) ch
  have hne := crcSums_ne xs k (by omega) ch hch
  generalize at8 xs k ^^^ ch = y at hx8 hne
  clear hl hch
  go_enter Try.func6, Try.ntmps6
  go_wp2_with fail
  refine (crcNames_walk _).mono ?_
  rintro e w1 ⟨rfl, hb⟩
  have H1 := Lib.hid (HX.out.below hb)
  go_wp2_with (at_builtin; go_must (refine wpList_copy_bytes (W := w1) rfl _ _ 24 5 rfl Try.underlying24 (by kernel_rfl) A n c xs _ rfl rfl rfl H1.out (by omega) ?_; intro A1 c1 w2 hown hrb hb2; obtain ⟨g, cap, hv, hgb, hgl⟩ := hown.form (by omega); cases hv; obtain ⟨hcell, hfz, hset⟩ := own_at8 hown k hk; have HS := Lib.hid (hset y); clear hset hown hrb))
  obtain ⟨A2, c2, hv2, hrb2⟩ := own_rb HS.out
  cases hv2
  have hR2 := rrb_one' hrb2 24 w2.heap.size (by simp [World.setCell])
  have HR2 := Lib.hid hR2
  have hb3 : Below w1.heap.size w1 (w2.setCell ⟨g, k, none⟩ (.int .u8 (y.toNat : Int))) := hb2.setCell hgb _
  have HX3 := Lib.hid ((H1.out.below hb3).alloc (.cells #[.slice (some ⟨g, 0, none⟩) n c1] 24))
  clear hR2 hrb2
  refine (crc_Sum _ _ _ _ _ HR2.out).mono ?_
  rintro e w3 ⟨rfl, rfl⟩
  go_wp2_with (at_builtin; go_must (refine wpList_copy_bytes rfl _ _ 24 5 rfl Try.underlying24 (by kernel_rfl) A n c xs _ rfl rfl (by simp [World.setCell]) HX3.out (by omega) ?_; intro A1 c3 w4 hown hrb3 hb4))
  have HR3 := Lib.hid (rrb_one hrb3 24)
  refine (crc_Sum _ _ _ _ _ HR3.out).mono ?_
  rintro e w5 ⟨rfl, rfl⟩
  go_wp2_with fail
  go_ret
  exact ⟨rfl, bthen hb (balloc (bthen (balloc hb3 _) hb4) _)⟩

set_option maxRecDepth 100000 in
theorem crcFinds_walk {H : Type} {enc : TypeId × Value → H} {W : World} {base : Nat} {v0 v1 v2 : Value} {d0 d1 d2 : DataW H} {p0 p1 p2 : List MemPlace}
    (o0 : Value.okWide Try.prog W .any base 24 v0) (r0 : DataW.Trod enc Try.prog W 0 (fun _ => true) true 24 v0 d0 p0) (z0 : ∀ n ∈ d0.weights Try.prog 24, n ≤ reachBytes)
    (o1 : Value.okWide Try.prog W .any base 3 v1) (r1 : DataW.Trod enc Try.prog W 0 (fun _ => true) true 3 v1 d1 p1) (_z1 : ∀ n ∈ d1.weights Try.prog 3, n ≤ reachBytes)
    (o2 : Value.okWide Try.prog W .any base 5 v2) (r2 : DataW.Trod enc Try.prog W 0 (fun _ => true) true 5 v2 d2 p2) (_z2 : ∀ n ∈ d2.weights Try.prog 5, n ≤ reachBytes) :
    Calls Try.prog 6 #[v0, v1, v2] W fun e w' => e = .returned (.bool true) ∧ Below W.heap.size W w' := by
  obtain ⟨A, n, c, xs, rfl, hx, hn⟩ := open_bytes Try.underlying24 Try.underlying5 (by kernel_rfl) (by kernel_rfl) o0 r0 z0
  obtain ⟨i, rfl, _, _⟩ := open_i64 Try.underlying3 o1 r1
  obtain ⟨ch, rfl⟩ := open_u8 Try.underlying5 o2 r2
  by_cases h0 : i < 0
  · exact crcFinds_early A n c i ch W hn (.inl h0)
  by_cases h1 : (n : Int) ≤ i
  · exact crcFinds_early A n c i ch W hn (.inr (.inl ⟨by omega, h1⟩))
  by_cases h2 : ch = 0
  · exact crcFinds_early A n c i ch W hn (.inr (.inr (.inl ⟨by omega, by omega, h2⟩)))
  by_cases h3 : 5000 < n
  · exact crcFinds_early A n c i ch W hn (.inr (.inr (.inr ⟨by omega, by omega, h2, h3⟩)))
  obtain ⟨k, rfl⟩ := Int.eq_ofNat_of_zero_le (show 0 ≤ i by omega)
  exact crcFinds_main A n c k ch xs W hx (by omega) h2 (by omega)
end Go.Proofs.Ytbmbhjjgaomlhaa
