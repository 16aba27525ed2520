/- The walk of CodecCuts. -/
import Derived.Test.YtccofdmnljbegaaCodecW5
import Derived.Test.YtccofdmnljbegaaOpenS
namespace Go.Proofs.Ytccofdmnljbegaa
open Go.RowKit

set_option maxRecDepth 20000 in
set_option maxHeartbeats 3200000 in
theorem codecCuts_main (sh : List UInt8) (A : Option Addr) (n c : Nat) (l : List FieldD) (z : Int) (w : World) (hl : RFields w A n c l) (hn : n * 32 ≤ 140737488351232) :
    Calls Try.prog 7 #[.string (strOf sh), .slice A n c, .int .i64 z] w fun e w' => e = .returned (.bool true) ∧ Below w.heap.size w w' := by
  have HL := Lib.hid hl
  clear hl
  go_enter Try.func7, Try.ntmps7
  go_wp2_with fail
  refine (codecAlive_true _).mono ?_
  rintro e w0 ⟨rfl, hb0⟩
  have HB0 := Lib.hid hb0
  clear hb0
  go_wp2_with fail
  refine (ref02_Copy A n c l w0 (HL.out.below HB0.out) hn).mono ?_
  rintro e w1 ⟨v, l1, rfl, hof1, hv1, hb1⟩
  obtain ⟨A1, c1, rfl, hrf1⟩ := hof1.read
  have HR1 := Lib.hid hrf1; have HV1 := Lib.hid hv1; have HB1 := Lib.hid (bthen HB0.out hb1)
  clear hof1 hv1 hb1 hrf1
  go_wp2_with fail
  refine (codec_Pack sh A1 l1.length c1 l1 w1 HR1.out).mono ?_
  rw [packM_vals HV1.out sh]
  rintro e w2 ⟨hb2, hcase⟩
  have HB2 := Lib.hid (bthen HB1.out hb2)
  clear hb2
  rcases hcase with ⟨v, o, ho, rfl, hown⟩ | ⟨hno, rfl⟩
  · obtain ⟨A2, c2, rfl, hrb2⟩ := own_rb hown
    have HX := Lib.hid hrb2; have HE := Lib.hid ho
    have holen := pack_len ho
    clear hown hrb2 ho
    by_cases hz : z < 0
    · have hdz : decide (z < 0) = true := decide_eq_true hz
      go_wp2_with fail
      go_ret
      exact ⟨rfl, HB2.out⟩
    · have hdz : decide (z < 0) = false := decide_eq_false hz
      obtain ⟨k, rfl⟩ := Int.eq_ofNat_of_zero_le (show 0 ≤ z by omega)
      have hnn := more_none HE.out [0] (by simp)
      have HNN := Lib.hid hnn
      have hk0 : (0 : Int) ≤ (k : Int) := Int.natCast_nonneg _
      generalize hom : o.length = m at *
      have HOM := Lib.hid hom
      clear hnn hom
      have HDONE : Hid (m ≤ k → decide (m ≤ k) = true) := Lib.hid fun h => decide_eq_true h
      go_wp2_with (at_builtin; first
        | (refine wpList_copy_bytes (W := w2) rfl _ _ 22 5 rfl Try.underlying22 Try.infoU8' A2 m c2 o w2.heap.size rfl rfl rfl HX.out (by omega) ?_
           intro A3 c3 w3 hown3 hrb3 hb3
           have HO3 := Lib.hid hown3; have HB3 := Lib.hid (bthen HB2.out hb3); have HS3 := Lib.hid hb3
           clear hown3 hrb3 hb3)
        | (refine wpList_append_any (w0 := w2) w2.heap.size rfl _ _ 22 5 (.int .u8 0) 1 1 rfl Try.underlying22 Try.infoU8' rfl (by decide) (by decide) (.slice A3 m c3) m _ (some ⟨w3.heap.size, 0, none⟩) 1 1 [.int .u8 0] rfl rfl (HO3.out.alloc _) (rd_one w3 _ _ _ rfl) (by simp [Value.oneCell']) (by omega) (balloc HS3.out _) (by have := HS3.out.size; simp; omega) ?_
           intro v4 w4 hown4 hb4 hg4 ha4
           rw [show bv o ++ [.int .u8 0] = bv (o ++ [0]) from (bv_append o [0]).symm] at hown4
           obtain ⟨A4, c4, rfl, hrb4⟩ := own_rb hown4
           have HB4 := Lib.hid (bthen HB2.out hb4); have HR4 := Lib.hid hrb4; have HX4 := Lib.hid (HX.out.below hb4)
           clear hown4 hb4 hg4 ha4 hrb4))
      have hu := codec_Unpack sh A4 _ c4 _ w4 HR4.out
      rw [HNN.out] at hu
      refine hu.mono ?_
      clear hu
      rintro e w5 ⟨hb5, ⟨v, o', ho', -⟩ | ⟨-, rfl⟩⟩
      · cases ho'
      have HB5 := Lib.hid (bthen HB4.out hb5); have HX5 := Lib.hid (HX4.out.below hb5)
      clear hb5
      by_cases hkm : m ≤ k
      · have hd2 : decide (m ≤ k) = true := decide_eq_true hkm
        go_wp2_with fail
        go_ret
        exact ⟨rfl, HB5.out⟩
      · have hd2 : decide (m ≤ k) = false := decide_eq_false hkm
        have hxf := HX5.out.first k (by omega)
        have HXF := Lib.hid hxf
        have HLN := Lib.hid (less_none HE.out k (by rw [HOM.out]; omega))
        have hkc : (k : Int) ≤ (c2 : Int) := by have := HX5.out.2.1; omega
        have HKM := Lib.hid hkm
        clear hxf hkm
        go_wp2_with (at_builtin; refine wpList_copy_bytes (W := w5) rfl _ _ 22 5 rfl Try.underlying22 Try.infoU8' A2 k c2 (o.take k) w5.heap.size rfl rfl rfl HXF.out (by have := HKM.out; omega) ?_; intro A6 c6 w6 hown6 hrb6 hb6; have HR6 := Lib.hid hrb6; have HB6 := Lib.hid (bthen HB5.out hb6); clear hown6 hrb6 hb6)
        have hu := codec_Unpack sh A6 _ c6 _ w6 HR6.out
        rw [HLN.out] at hu
        refine hu.mono ?_
        clear hu
        rintro e w7 ⟨hb7, ⟨v, o', ho', -⟩ | ⟨-, rfl⟩⟩
        · cases ho'
        have HB7 := Lib.hid (bthen HB6.out hb7)
        clear hb7
        go_wp2_with fail
        go_ret
        exact ⟨rfl, HB7.out⟩
  · clear hno
    go_wp2_with fail
    go_ret
    exact ⟨rfl, HB2.out⟩
set_option maxRecDepth 100000 in
theorem codecCuts_walk {H : Type} {enc : TypeId × Value → H} {W : World} {base : Nat} {v0 v1 v2 : Value} {d0 d1 d2 : DataW H} {p0 p1 p2 : List MemPlace}
    (o0 : Value.okWide Try.prog W .any base 9 v0) (r0 : DataW.Trod enc Try.prog W 0 (fun _ => true) true 9 v0 d0 p0) (_z0 : ∀ n ∈ d0.weights Try.prog 9, n ≤ reachBytes)
    (o1 : Value.okWide Try.prog W .any base 26 v1) (r1 : DataW.Trod enc Try.prog W 0 (fun _ => true) true 26 v1 d1 p1) (z1 : ∀ n ∈ d1.weights Try.prog 26, n ≤ reachBytes)
    (o2 : Value.okWide Try.prog W .any base 3 v2) (r2 : DataW.Trod enc Try.prog W 0 (fun _ => true) true 3 v2 d2 p2) (_z2 : ∀ n ∈ d2.weights Try.prog 3, n ≤ reachBytes) :
    Calls Try.prog 7 #[v0, v1, v2] W fun e w' => e = .returned (.bool true) ∧ Below W.heap.size W w' := by
  obtain ⟨sh, rfl, _⟩ := open_str Try.underlying9 o0 r0
  obtain ⟨A, n, c, l, rfl, hl, hn⟩ := open_fields o1 r1 z1
  obtain ⟨i, rfl, _, _⟩ := open_i64 Try.underlying3 o2 r2
  exact codecCuts_main sh A n c l i W hl hn
end Go.Proofs.Ytccofdmnljbegaa
