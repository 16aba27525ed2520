/- The walk of SealOpens. -/
import Derived.Test.YtmpeidgmicammaaSealW6
import Derived.Test.YtmpeidgmicammaaSealW5
import Derived.Test.YtmpeidgmicammaaOpenX
namespace Go.Proofs.Ytmpeidgmicammaa
open Go.RowKit
attribute [local go_sem ↓] loadAt37 build37

/-- Open's answer, with its bytes in any case. -/
theorem OpenPost.flat {w w' : World} {r : Option (Nat × List UInt8)} {e : Ending} (h : OpenPost w r e w') : ∃ mk A m c b body, e = .returned (.tuple #[.int .u64 ((mk : Nat) : Int), .slice A m c, .bool b]) ∧ Below w.heap.size w w' ∧ RB w' A m c body ∧ mk = (r.getD (0, [])).1 ∧ body = (r.getD (0, [])).2 ∧ b = r.isSome := by
  obtain ⟨mk, A, m, c, b, rfl, hb, ⟨body, rfl, rfl, hrb⟩ | ⟨rfl, rfl, rfl, rfl, rfl, rfl⟩⟩ := h
  · exact ⟨mk, A, m, c, true, body, rfl, hb, hrb, rfl, rfl, rfl⟩
  · exact ⟨0, none, 0, 0, false, [], rfl, hb, RB.nil _, rfl, rfl, rfl⟩
set_option maxRecDepth 20000 in
set_option maxHeartbeats 3200000 in
theorem sealOpens_main (l : List UInt8) (hl : l.length = 128) (w : World) :
    Calls Try.prog 5 #[secV l] w fun e w' => e = .returned (.bool true) ∧ Below w.heap.size w w' := by
  have hb1 := below_alloc w (.cells (bv l).toArray 27)
  have HB1 := Lib.hid hb1; have HL := Lib.hid hl
  have hld := run_ldSec (w := w.alloc (.cells (bv l).toArray 27)) (range_alloc w (bv l) _ _) hl
  have HG := Lib.hid (SecAt.new w l hl)
  have hbl : (bv l).length = 128 := by rw [bv_length, hl]
  clear hl hb1
  unfold secV
  go_enter Try.func5, Try.ntmps5
  go_wp2_with fail
  refine (seal_Open l HL.out _).mono ?_
  rintro e w2 hpost
  obtain ⟨mk, A, m, c, b, body, rfl, hb2, hr2, hmk, hbo, hbb⟩ := hpost.flat
  have HB2 := Lib.hid (bthen HB1.out hb2); have HR2 := Lib.hid hr2
  have hld2 := run_ldSec (HG.out.below hb2).range HL.out
  have HMK := Lib.hid hmk; have HBO := Lib.hid hbo; have HBB := Lib.hid hbb
  clear hb2 hr2 hld hpost hmk hbo hbb
  go_wp2_with fail
  refine (ref05_Open l HL.out _).mono ?_
  rintro e w3 hpost
  obtain ⟨mk', A', m', c', b', body', rfl, hb3, hr3, hmk', hbo', hbb'⟩ := hpost.flat
  obtain rfl : mk = mk' := HMK.out.trans hmk'.symm
  obtain rfl : body = body' := HBO.out.trans hbo'.symm
  obtain rfl : b = b' := HBB.out.trans hbb'.symm
  have HB3 := Lib.hid (bthen HB2.out hb3); have HR3 := Lib.hid hr3; have HR23 := Lib.hid (HR2.out.below hb3)
  clear hb3 hr3 hld2 hpost hmk' hbo' hbb' hbl HMK HBO HBB
  go_wp2_with fail
  refine (sealAlive_true _).mono ?_
  rintro e w4 ⟨rfl, hb4⟩
  have hs1 := (HR23.out.below hb4).string (P := Try.prog) (src := 23) (dst := 9) Try.underlying23 Try.underlying5 Try.underlying9
  have hs2 := (HR3.out.below hb4).string (P := Try.prog) (src := 23) (dst := 9) Try.underlying23 Try.underlying5 Try.underlying9
  have hq := str_eq body
  have hq2 : ((mk : Int) == (mk : Int)) = true := by simp
  have hq3 : (b == b) = true := by simp
  have HB4 := Lib.hid (bthen HB3.out hb4)
  clear hb4
  go_wp2_with fail
  go_ret
  exact ⟨rfl, HB4.out⟩
set_option maxRecDepth 100000 in
theorem sealOpens_walk {H : Type} {enc : TypeId × Value → H} {W : World} {base : Nat} {v0 : Value} {d0 : DataW H} {p0 : List MemPlace}
    (o0 : Value.okWide Try.prog W .any base 27 v0) (r0 : DataW.Trod enc Try.prog W 0 (fun _ => true) true 27 v0 d0 p0) (_z0 : ∀ n ∈ d0.weights Try.prog 27, n ≤ reachBytes) :
    Calls Try.prog 5 #[v0] W fun e w' => e = .returned (.bool true) ∧ Below W.heap.size W w' := by
  obtain ⟨l, rfl, hl⟩ := open_sector o0 r0
  exact sealOpens_main l hl W
end Go.Proofs.Ytmpeidgmicammaa
