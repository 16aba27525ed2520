/- The walk of CrcAdds: the sum behind any bytes is the document's; the copy of the bytes stays. -/
import Derived.Test.YtbmbhjjgaomlhaaCrcNamesW
import Derived.Test.YtbmbhjjgaomlhaaOpen
namespace Go.Proofs.Ytbmbhjjgaomlhaa
open Go.RowKit

set_option maxHeartbeats 400000 in
theorem crcAdds_true (s : BitVec 32) (A : Option Addr) (n c : Nat) (xs : List UInt8) (w : World) (hx : RB w A n c xs) (hn : n ≤ 140737488351232) :
    Calls Try.prog 4 #[.int .u32 (s.toNat : Int), .slice A n c] w fun e w' => e = .returned (.bool true) ∧ Below w.heap.size w w' := by
  have HX := Lib.hid hx; clear hx
  go_enter Try.func4, Try.ntmps4
  have hstr := fun (W : World) (A : Option Addr) (n c : Nat) (ys : List UInt8) (h : RB W A n c ys) => h.string (P := Try.prog) Try.underlying24 Try.underlying5 Try.underlying9
  go_wp2_with (at_builtin; refine wpList_append_any (w0 := w) w.heap.size rfl _ _ 24 5 (.int .u8 0) 1 1 rfl Try.underlying24 (by kernel_rfl) rfl (by decide) (by decide) _ 0 [] A n c (bv xs) rfl rfl (own_empty w _ _ _ (Nat.le_refl _)) (HX.out.alloc _).rd (bv_one xs) (by omega) (below_alloc _ _) (by simp) ?_; intro v1 w1 hown hb _ _)
  obtain ⟨A1, c1, rfl, h1⟩ := own_rb hown
  rw [Nat.zero_add] at h1 ⊢
  refine (crcNames_walk _).mono ?_
  rintro e w2 ⟨rfl, hb2⟩
  have H1 := Lib.hid (h1.below hb2)
  have HX2 := Lib.hid ((HX.out.below hb).below hb2)
  go_wp2_with fail
  refine (crc_Add s A1 n c1 xs w2 H1.out).mono ?_
  rintro e w' ⟨rfl, rfl⟩
  go_wp2_with fail
  refine (ref03_Sum s A n c xs w2 HX2.out).mono ?_
  rintro e w' ⟨rfl, rfl⟩
  have e1 := hstr w2 A1 n c1 xs H1.out
  have e2 := hstr w2 A n c xs HX2.out
  clear hstr
  go_wp2_with fail
  go_ret
  exact ⟨rfl, hb.trans (hb2.mono hb.size)⟩

set_option maxRecDepth 100000 in
theorem crcAdds_walk {H : Type} {enc : TypeId × Value → H} {W : World} {base : Nat} {v0 v1 : Value} {d0 d1 : DataW H} {p0 p1 : List MemPlace}
    (o0 : Value.okWide Try.prog W .any base 22 v0) (r0 : DataW.Trod enc Try.prog W 0 (fun _ => true) true 22 v0 d0 p0) (_z0 : ∀ n ∈ d0.weights Try.prog 22, n ≤ reachBytes)
    (o1 : Value.okWide Try.prog W .any base 24 v1) (r1 : DataW.Trod enc Try.prog W 0 (fun _ => true) true 24 v1 d1 p1) (z1 : ∀ n ∈ d1.weights Try.prog 24, n ≤ reachBytes) :
    Calls Try.prog 4 #[v0, v1] W fun e w' => e = .returned (.bool true) ∧ Below W.heap.size W w' := by
  obtain ⟨s, rfl⟩ := open_u32 Try.underlying22 o0 r0
  obtain ⟨A, n, c, xs, rfl, hx, hn⟩ := open_bytes Try.underlying24 Try.underlying5 (by kernel_rfl) (by kernel_rfl) o1 r1 z1
  exact crcAdds_true s A n c xs W hx hn
end Go.Proofs.Ytbmbhjjgaomlhaa
