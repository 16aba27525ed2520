/- The walk of SealMakes. -/
import Derived.Test.YtmpeidgmicammaaSealW6
import Derived.Test.YtmpeidgmicammaaSealW4
import Derived.Test.YtmpeidgmicammaaOpenX
namespace Go.Proofs.Ytmpeidgmicammaa
open Go.ChangeShapes Go.WideShapes Go.ChangeAt Go.RowKit
attribute [local go_sem ↓] loadAt37 build37

set_option maxRecDepth 20000 in
set_option maxHeartbeats 3200000 in
theorem sealMakes_main (mark : Nat) (hmk : mark < 18446744073709551616) (A : Option Addr) (n c : Nat) (bs : List UInt8) (w : World) (hr : RB w A n c bs) (hn : n ≤ 140737488351232) :
    Calls Try.prog 4 #[.int .u64 mark, .slice A n c] w fun e w' => e = .returned (.bool true) ∧ Below w.heap.size w w' := by
  have HR := Lib.hid hr; have HMK := Lib.hid hmk
  clear hr hmk
  go_enter Try.func4, Try.ntmps4
  go_wp2_with (at_builtin; refine wpList_copy_bytes (W := w) rfl _ _ 23 5 rfl Try.underlying23 Try.infoU8' A n c bs w.heap.size rfl rfl rfl HR.out (by omega) ?_; intro A1 c1 w1 hown1 hrb1 hb1; have HB1 := Lib.hid hb1; have HR1 := Lib.hid hrb1; clear hown1 hrb1 hb1)
  refine (seal_Make mark HMK.out A1 n c1 bs w1 HR1.out hn).mono ?_
  rintro e w2 ⟨l2, e2, rfl, hl2, hb2, hc2⟩
  have HL2 := Lib.hid hl2; have HB2 := Lib.hid (balloc (bthen HB1.out hb2) (.cells (bv l2).toArray 27))
  have HS2 := Lib.hid (SecAt.new w2 l2 hl2); have HC2 := Lib.hid hc2; have HR2 := Lib.hid ((HR1.out.below hb2).alloc (.cells (bv l2).toArray 27))
  clear hl2 hb2 hc2
  go_wp2_with (refine st37 rfl _ _ rfl _ _ rfl rfl l2 rfl HL2.out rfl ?_)
  refine (ref05_Make mark HMK.out A n c bs _ (HR.out.below HB2.out) hn).mono ?_
  rintro e w3 ⟨l3, e3, rfl, hl3, hb3, hc3⟩
  have hsame : l2 = l3 ∧ e2 = e3 := by
    rcases HC2.out with ⟨h1, h2⟩ | ⟨h1, h2, h3⟩ <;> rcases hc3 with ⟨k1, k2⟩ | ⟨k1, k2, k3⟩ <;> simp_all
  obtain ⟨rfl, rfl⟩ := hsame
  have HB3 := Lib.hid (balloc (bthen HB2.out hb3) (.cells (bv l2).toArray 27))
  have HS3 := Lib.hid ((HS2.out.below hb3).below (below_alloc w3 (.cells (bv l2).toArray 27)))
  have HT3 := Lib.hid (SecAt.new w3 l2 hl3)
  have HR3 := Lib.hid ((HR2.out.below hb3).alloc (.cells (bv l2).toArray 27))
  clear hl3 hb3 hc3 HC2
  go_wp2_with (refine st37 rfl _ _ rfl _ _ rfl rfl l2 rfl HL2.out rfl ?_)
  refine (sealAlive_true _).mono ?_
  rintro e w4 ⟨rfl, hb4⟩
  have hld1 := run_ldSec (HS3.out.below hb4).range HL2.out
  have hld2 := run_ldSec (HT3.out.below hb4).range HL2.out
  have heq := eq37 w4 l2 l2 HL2.out HL2.out
  rw [decide_eq_true rfl] at heq
  have hs1 := (HR3.out.below hb4).string (P := Try.prog) (src := 23) (dst := 9) Try.underlying23 Try.underlying5 Try.underlying9
  have hs2 := (HR.out.below (bthen HB3.out hb4)).string (P := Try.prog) (src := 23) (dst := 9) Try.underlying23 Try.underlying5 Try.underlying9
  have hq := str_eq bs
  have HB4 := Lib.hid (bthen HB3.out hb4)
  have hee : (e2 == e2) = true := beq_self_eq_true e2
  clear hb4
  go_wp2_with fail
  go_ret
  exact ⟨rfl, HB4.out⟩
set_option maxRecDepth 100000 in
theorem sealMakes_walk {H : Type} {enc : TypeId × Value → H} {W : World} {base : Nat} {v0 v1 : Value} {d0 d1 : DataW H} {p0 p1 : List MemPlace}
    (o0 : Value.okWide Try.prog W .any base 22 v0) (r0 : DataW.Trod enc Try.prog W 0 (fun _ => true) true 22 v0 d0 p0) (_z0 : ∀ n ∈ d0.weights Try.prog 22, n ≤ reachBytes)
    (o1 : Value.okWide Try.prog W .any base 23 v1) (r1 : DataW.Trod enc Try.prog W 0 (fun _ => true) true 23 v1 d1 p1) (z1 : ∀ n ∈ d1.weights Try.prog 23, n ≤ reachBytes) :
    Calls Try.prog 4 #[v0, v1] W fun e w' => e = .returned (.bool true) ∧ Below W.heap.size W w' := by
  obtain ⟨mark, rfl, hm⟩ := open_u64 Try.underlying22 o0 r0
  obtain ⟨A, n, c, bs, rfl, hr, hn⟩ := open_bytes Try.underlying23 Try.underlying5 (by kernel_rfl) (by kernel_rfl) o1 r1 z1
  exact sealMakes_main mark hm A n c bs W hr hn
end Go.Proofs.Ytmpeidgmicammaa
