/- What a law's arguments are told to be: whole numbers, strings, slices of bytes, with the bounds of the row's reach. -/
import Derived.Test.YtbmbhjjgaomlhaaMem
import Derived.ProofKit
import Derived.OpenShut
import Derived.ShutString
import Derived.SizedLaws
namespace Go.Proofs.Ytbmbhjjgaomlhaa
open Go.ChangeShapes Go.WideShapes Go.ChangeAt Go.RowKit
open Go.ChangeMaps (open_string shut_string)

section
variable {H : Type} {enc : TypeId × Value → H} {P : Program} {W : World} {base : Nat} {t e : TypeId} {v : Value} {d : DataW H} {p : List MemPlace}

theorem u8_of (z : Int) (h : (Lit.int .u8 z).wf = true) : ((UInt8.ofNat z.toNat).toNat : Int) = z := by
  have hb : 0 ≤ z ∧ z ≤ 255 := by simpa [Lit.wf, IntKind.min, IntKind.max, IntKind.signed, IntKind.bits] using h
  rw [UInt8.toNat_ofNat']
  omega

/-- A slice of bytes that came in. -/
theorem open_bytes (hu : P.underlying t = some (.slice e)) (he : P.underlying e = some (.int .u8)) (hc : P.cellsOf e = 1) (hb : P.bytesOf e = 1)
    (o : Value.okWide P W .any base t v) (r : DataW.Trod enc P W 0 (fun _ => true) true t v d p) (z : ∀ n ∈ d.weights P t, n ≤ reachBytes) :
    ∃ A n c xs, v = .slice A n c ∧ RB W A n c xs ∧ n ≤ 140737488351232 := by
  obtain ⟨A, len, cap, rfl⟩ := okWide_slice hu o
  obtain ⟨fuel, hf⟩ := r
  rcases open_ints hu he hc hf with ⟨hcs, _⟩ | ⟨x, l, c, zs, hcs, _, hl, hm, hz, hx, hcell, hwz⟩
  · simp [Value.cells] at hcs
    obtain ⟨rfl, rfl, rfl⟩ := hcs
    exact ⟨none, 0, 0, [], rfl, RB.nil W, by omega⟩
  · simp [Value.cells] at hcs
    obtain ⟨rfl, rfl, rfl⟩ := hcs
    obtain ⟨hx, _⟩ := Prod.mk.inj hx
    subst hx
    have hzl : zs.length = cap := by simpa using hz
    have hlt : len ≤ 140737488351232 := by
      have hw := z (((lits (H := H) .u8 (zs.take len)).length + (lits (H := H) .u8 (zs.drop len)).length) * P.bytesOf e) (by simp [DataW.weights, hu])
      have hn : (lits (H := H) .u8 (zs.take len)).length + (lits (H := H) .u8 (zs.drop len)).length = cap := by simp [lits]; omega
      rw [hn, hb, Nat.mul_one] at hw
      simp only [reachBytes] at hw
      omega
    refine ⟨_, len, cap, (zs.take len).map fun q => UInt8.ofNat q.toNat, rfl, ⟨by simp; omega, hl, by simpa [maxLen] using hm, fun hp => ?_⟩, hlt⟩
    obtain ⟨b, off, spot⟩ := x
    have h0 := hcell 0 (by omega)
    have hs : spot = none := by simpa [Addr.add] using World.cell?_spot h0
    subst hs
    refine ⟨b, off, rfl, fun k hk => ?_⟩
    have hk' := hcell k (by omega)
    rw [add_none] at hk'
    rw [hk', at8]
    have hg : ((zs.take len).map fun q => UInt8.ofNat q.toNat).getD k 0 = UInt8.ofNat (zs.getD k 0).toNat := by
      simp [List.getD_eq_getElem?_getD, hk, List.getElem?_eq_getElem (show k < zs.length by omega)]
    rw [hg, u8_of]
    refine hwz _ ?_
    rw [List.getD_eq_getElem?_getD, List.getElem?_eq_getElem (show k < zs.length by omega)]
    exact List.getElem_mem _

theorem u32_of (x : Int) (h : (Lit.int .u32 x).wf = true) : ∃ s : BitVec 32, (s.toNat : Int) = x := by
  have hb : 0 ≤ x ∧ x ≤ 4294967295 := by simpa [Lit.wf, IntKind.min, IntKind.max, IntKind.signed, IntKind.bits] using h
  refine ⟨BitVec.ofNat 32 x.toNat, ?_⟩
  rw [BitVec.toNat_ofNat]
  omega
/-- A number of 32 bits that came in. -/
theorem open_u32 (hu : P.underlying t = some (.int .u32)) (o : Value.okWide P W .any base t v) (r : DataW.Trod enc P W 0 (fun _ => true) true t v d p) : ∃ s : BitVec 32, v = .int .u32 (s.toNat : Int) := by
  obtain ⟨x, rfl, _, _, wx⟩ := open_int hu o r
  obtain ⟨s, hs⟩ := u32_of x wx
  exact ⟨s, by rw [hs]⟩
/-- An int that came in. -/
theorem open_i64 (hu : P.underlying t = some (.int .i64)) (o : Value.okWide P W .any base t v) (r : DataW.Trod enc P W 0 (fun _ => true) true t v d p) : ∃ x : Int, v = .int .i64 x ∧ -9223372036854775808 ≤ x ∧ x ≤ 9223372036854775807 := by
  obtain ⟨x, rfl, _, _, wx⟩ := open_int hu o r
  have hb : -9223372036854775808 ≤ x ∧ x ≤ 9223372036854775807 := by simpa [Lit.wf, IntKind.min, IntKind.max, IntKind.signed, IntKind.bits] using wx
  exact ⟨x, rfl, hb⟩
/-- A byte that came in. -/
theorem open_u8 (hu : P.underlying t = some (.int .u8)) (o : Value.okWide P W .any base t v) (r : DataW.Trod enc P W 0 (fun _ => true) true t v d p) : ∃ x : UInt8, v = .int .u8 (x.toNat : Int) := by
  obtain ⟨x, rfl, _, _, wx⟩ := open_int hu o r
  exact ⟨UInt8.ofNat x.toNat, by rw [u8_of x wx]⟩
end
end Go.Proofs.Ytbmbhjjgaomlhaa
