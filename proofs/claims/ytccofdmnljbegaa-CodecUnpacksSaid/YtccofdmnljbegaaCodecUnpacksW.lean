/- The walk of CodecUnpacks. -/
import Derived.Test.YtccofdmnljbegaaCodecW5
import Derived.Test.YtccofdmnljbegaaRef02W5
import Derived.Test.YtccofdmnljbegaaRef02W4
import Derived.Test.YtccofdmnljbegaaOpenS
namespace Go.Proofs.Ytccofdmnljbegaa
open Go.RowKit

set_option maxRecDepth 20000 in
set_option maxHeartbeats 3200000 in
theorem codecUnpacks_main (sh : List UInt8) (A : Option Addr) (n c : Nat) (bs : List UInt8) (w : World) (hr : RB w A n c bs) (hn : n ≤ 140737488351232) :
    Calls Try.prog 5 #[.string (strOf sh), .slice A n c] w fun e w' => e = .returned (.bool true) ∧ Below w.heap.size w w' := by
  have HR := Lib.hid hr
  clear hr
  go_enter Try.func5, Try.ntmps5
  go_wp2_with (at_builtin; refine wpList_copy_bytes (W := w) rfl _ _ 22 5 rfl Try.underlying22 Try.infoU8' A n c bs w.heap.size rfl rfl rfl HR.out (by omega) ?_; intro A1 c1 w1 hown1 hrb1 hb1; have HB1 := Lib.hid hb1; have HR1 := Lib.hid hrb1; clear hown1 hrb1 hb1)
  refine (codec_Unpack sh A1 n c1 bs w1 HR1.out).mono ?_
  rintro e w2 ⟨hb2, hcase⟩
  have HB2 := Lib.hid (bthen HB1.out hb2)
  have HR2 := Lib.hid (HR1.out.below hb2)
  rcases hcase with ⟨v, lk, ho, rfl, hof⟩ | ⟨hno, rfl⟩
  · obtain ⟨A2, c2, rfl, hrf2⟩ := hof.read
    have HO2 := Lib.hid hrf2; have HE := Lib.hid ho
    clear hof hrf2 hb2 ho
    go_wp2_with fail
    refine (ref02_Unpack sh A n c bs w2 (HR.out.below HB2.out)).mono ?_
    rw [HE.out]
    rintro e w3 ⟨hb3, ⟨v, lk', ho', rfl, hof3⟩ | ⟨hno, -⟩⟩
    · obtain ⟨A3, c3, rfl, hrf3⟩ := hof3.read
      injection ho' with ho'
      have HV := Lib.hid ho'
      have HO3 := Lib.hid hrf3; have HB3 := Lib.hid (bthen HB2.out hb3); have HR3 := Lib.hid (HR2.out.below hb3); have HO23 := Lib.hid (HO2.out.below hb3)
      clear hof3 hrf3 hb3 ho'
      go_wp2_with fail
      refine (codecAlive_true _).mono ?_
      rintro e w4 ⟨rfl, hb4⟩
      have HB4 := Lib.hid (bthen HB3.out hb4)
      have HR4 := Lib.hid (HR3.out.below hb4)
      have HX4 := Lib.hid (HO23.out.below hb4)
      have HY4 := Lib.hid (HO3.out.below hb4)
      clear hb4
      go_wp2_with fail
      refine (ref02_Same A2 A3 lk.length c2 lk'.length c3 lk lk' w4 HX4.out HY4.out).mono ?_
      rintro e w5 ⟨rfl, hb5⟩
      rw [decide_eq_true HV.out]
      have HB5 := Lib.hid (bthen HB4.out hb5)
      have hs1 := (HR4.out.below hb5).string (P := Try.prog) (src := 22) (dst := 9) Try.underlying22 Try.underlying5 Try.underlying9
      have hs2 := (HR.out.below HB5.out).string (P := Try.prog) (src := 22) (dst := 9) Try.underlying22 Try.underlying5 Try.underlying9
      have hq := str_eq bs
      clear hb5
      go_wp2_with fail
      go_ret
      exact ⟨rfl, HB5.out⟩
    · cases hno
  · have HE := Lib.hid hno
    clear hb2 hno
    go_wp2_with fail
    refine (ref02_Unpack sh A n c bs w2 (HR.out.below HB2.out)).mono ?_
    rw [HE.out]
    rintro e w3 ⟨hb3, ⟨v, o', ho', -⟩ | ⟨-, rfl⟩⟩
    · cases ho'
    · have HB3 := Lib.hid (bthen HB2.out hb3); have HR3 := Lib.hid (HR2.out.below hb3)
      clear hb3
      go_wp2_with fail
      refine (codecAlive_true _).mono ?_
      rintro e w4 ⟨rfl, hb4⟩
      have HB4 := Lib.hid (bthen HB3.out hb4)
      have HR4 := Lib.hid (HR3.out.below hb4)
      clear hb4
      go_wp2_with fail
      refine (ref02_Same none none 0 0 0 0 [] [] w4 (rfields_nil _) (rfields_nil _)).mono ?_
      rintro e w5 ⟨rfl, hb5⟩
      rw [decide_eq_true rfl]
      have HB5 := Lib.hid (bthen HB4.out hb5)
      have hs1 := (HR4.out.below hb5).string (P := Try.prog) (src := 22) (dst := 9) Try.underlying22 Try.underlying5 Try.underlying9
      have hs2 := (HR.out.below HB5.out).string (P := Try.prog) (src := 22) (dst := 9) Try.underlying22 Try.underlying5 Try.underlying9
      have hq := str_eq bs
      clear hb5
      go_wp2_with fail
      go_ret
      exact ⟨rfl, HB5.out⟩
set_option maxRecDepth 100000 in
theorem codecUnpacks_walk {H : Type} {enc : TypeId × Value → H} {W : World} {base : Nat} {v0 v1 : Value} {d0 d1 : DataW H} {p0 p1 : List MemPlace}
    (o0 : Value.okWide Try.prog W .any base 9 v0) (r0 : DataW.Trod enc Try.prog W 0 (fun _ => true) true 9 v0 d0 p0) (_z0 : ∀ n ∈ d0.weights Try.prog 9, n ≤ reachBytes)
    (o1 : Value.okWide Try.prog W .any base 22 v1) (r1 : DataW.Trod enc Try.prog W 0 (fun _ => true) true 22 v1 d1 p1) (z1 : ∀ n ∈ d1.weights Try.prog 22, n ≤ reachBytes) :
    Calls Try.prog 5 #[v0, v1] W fun e w' => e = .returned (.bool true) ∧ Below W.heap.size W w' := by
  obtain ⟨sh, rfl, _⟩ := open_str Try.underlying9 o0 r0
  obtain ⟨A, n, c, bs, rfl, hr, hn⟩ := open_bytes Try.underlying22 Try.underlying5 (by kernel_rfl) (by kernel_rfl) o1 r1 z1
  exact codecUnpacks_main sh A n c bs W hr hn
end Go.Proofs.Ytccofdmnljbegaa
