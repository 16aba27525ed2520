/- The walk of CodecPacks. -/
import Derived.Test.YtccofdmnljbegaaCodecW5
import Derived.Test.YtccofdmnljbegaaRef02W3
import Derived.Test.YtccofdmnljbegaaRef02W4
import Derived.Test.YtccofdmnljbegaaOpenS
namespace Go.Proofs.Ytccofdmnljbegaa
open Go.RowKit

set_option maxRecDepth 20000 in
set_option maxHeartbeats 3200000 in
theorem codecPacks_main (sh : List UInt8) (A : Option Addr) (n c : Nat) (l : List FieldD) (w : World) (hl : RFields w A n c l) (hn : n * 32 ≤ 140737488351232) :
    Calls Try.prog 4 #[.string (strOf sh), .slice A n c] w fun e w' => e = .returned (.bool true) ∧ Below w.heap.size w w' := by
  have HL := Lib.hid hl
  clear hl
  go_enter Try.func4, Try.ntmps4
  go_wp2_with fail
  refine (ref02_Copy A n c l w HL.out hn).mono ?_
  rintro e w1 ⟨v, l1, rfl, hof1, hv1, hb1⟩
  obtain ⟨A1, c1, rfl, hrf1⟩ := hof1.read
  have HR1 := Lib.hid hrf1; have HV1 := Lib.hid hv1; have HB1 := Lib.hid hb1
  clear hof1 hv1 hb1 hrf1
  go_wp2_with fail
  refine (codec_Pack sh A1 l1.length c1 l1 w1 HR1.out).mono ?_
  rw [packM_vals HV1.out sh]
  rintro e w2 ⟨hb2, hcase⟩
  have HB2 := Lib.hid (bthen HB1.out hb2)
  have HR2 := Lib.hid (HR1.out.below hb2)
  have hqn : ∀ (z : Int), (z == z) = true := fun z => beq_self_eq_true z
  rcases hcase with ⟨v, o, ho, rfl, hown⟩ | ⟨hno, rfl⟩
  · obtain ⟨A2, c2, rfl, hrb2⟩ := own_rb hown
    have HO2 := Lib.hid hrb2; have HE := Lib.hid ho
    clear hown hrb2 hb2 ho
    go_wp2_with fail
    refine (ref02_Pack sh A n c l w2 (HL.out.below HB2.out)).mono ?_
    rw [HE.out]
    rintro e w3 ⟨hb3, ⟨v, o', ho', rfl, hown3⟩ | ⟨hno, -⟩⟩
    · injection ho' with ho'
      subst ho'
      obtain ⟨A3, c3, rfl, hrb3⟩ := own_rb hown3
      have HO3 := Lib.hid hrb3; have HB3 := Lib.hid (bthen HB2.out hb3); have HR3 := Lib.hid (HR2.out.below hb3); have HO23 := Lib.hid (HO2.out.below hb3)
      clear hown3 hrb3 hb3
      go_wp2_with fail
      refine (codecAlive_true _).mono ?_
      rintro e w4 ⟨rfl, hb4⟩
      have hs1 := (HO23.out.below hb4).string (P := Try.prog) (src := 22) (dst := 9) Try.underlying22 Try.underlying5 Try.underlying9
      have hs2 := (HO3.out.below hb4).string (P := Try.prog) (src := 22) (dst := 9) Try.underlying22 Try.underlying5 Try.underlying9
      have hq := str_eq o
      have HB4 := Lib.hid (bthen HB3.out hb4)
      have HR4 := Lib.hid (HR3.out.below hb4)
      clear hb4
      go_wp2_with fail
      refine (ref02_Same A1 A l1.length c1 n c l1 l w4 HR4.out (HL.out.below HB4.out)).mono ?_
      rintro e w5 ⟨rfl, hb5⟩
      rw [decide_eq_true HV1.out]
      have HB5 := Lib.hid (bthen HB4.out hb5)
      clear hb5
      go_wp2_with fail
      go_ret
      exact ⟨rfl, HB5.out⟩
    · cases hno
  · have HE := Lib.hid hno
    clear hb2 hno
    go_wp2_with fail
    refine (ref02_Pack sh A n c l w2 (HL.out.below HB2.out)).mono ?_
    rw [HE.out]
    rintro e w3 ⟨hb3, ⟨v, o', ho', -⟩ | ⟨-, rfl⟩⟩
    · cases ho'
    · have HB3 := Lib.hid (bthen HB2.out hb3); have HR3 := Lib.hid (HR2.out.below hb3)
      clear hb3
      go_wp2_with fail
      refine (codecAlive_true _).mono ?_
      rintro e w4 ⟨rfl, hb4⟩
      have hs1 := (RB.nil w4).string (P := Try.prog) (src := 22) (dst := 9) Try.underlying22 Try.underlying5 Try.underlying9
      have hq := str_eq []
      have HB4 := Lib.hid (bthen HB3.out hb4)
      have HR4 := Lib.hid (HR3.out.below hb4)
      clear hb4
      go_wp2_with fail
      refine (ref02_Same A1 A l1.length c1 n c l1 l w4 HR4.out (HL.out.below HB4.out)).mono ?_
      rintro e w5 ⟨rfl, hb5⟩
      rw [decide_eq_true HV1.out]
      have HB5 := Lib.hid (bthen HB4.out hb5)
      clear hb5
      go_wp2_with fail
      go_ret
      exact ⟨rfl, HB5.out⟩
set_option maxRecDepth 100000 in
theorem codecPacks_walk {H : Type} {enc : TypeId × Value → H} {W : World} {base : Nat} {v0 v1 : Value} {d0 d1 : DataW H} {p0 p1 : List MemPlace}
    (o0 : Value.okWide Try.prog W .any base 9 v0) (r0 : DataW.Trod enc Try.prog W 0 (fun _ => true) true 9 v0 d0 p0) (_z0 : ∀ n ∈ d0.weights Try.prog 9, n ≤ reachBytes)
    (o1 : Value.okWide Try.prog W .any base 26 v1) (r1 : DataW.Trod enc Try.prog W 0 (fun _ => true) true 26 v1 d1 p1) (z1 : ∀ n ∈ d1.weights Try.prog 26, n ≤ reachBytes) :
    Calls Try.prog 4 #[v0, v1] W fun e w' => e = .returned (.bool true) ∧ Below W.heap.size W w' := by
  obtain ⟨sh, rfl, _⟩ := open_str Try.underlying9 o0 r0
  obtain ⟨A, n, c, l, rfl, hl, hn⟩ := open_fields o1 r1 z1
  exact codecPacks_main sh A n c l W hl hn
end Go.Proofs.Ytccofdmnljbegaa
