/- What a law's arguments are told to be: whole numbers, strings, slices of bytes, with the bounds of the row's reach. -/
import Derived.Test.YtoghmakbdhepfaaMem
import Derived.ProofKit
import Derived.OpenShut
import Derived.ShutString
import Derived.SizedLaws
import Derived.Deep.Matrix
namespace Go.Proofs.Ytoghmakbdhepfaa
open Go.ChangeShapes Go.WideShapes Go.ChangeAt Go.RowKit
open Go.ChangeMaps (open_string shut_string)

section
variable {H : Type} {enc : TypeId × Value → H} {P : Program} {W : World} {base : Nat} {t e : TypeId} {v : Value} {d : DataW H} {p : List MemPlace}

theorem u8_of (z : Int) (h : (Lit.int .u8 z).wf = true) : ((UInt8.ofNat z.toNat).toNat : Int) = z := by
  have hb : 0 ≤ z ∧ z ≤ 255 := by simpa [Lit.wf, IntKind.min, IntKind.max, IntKind.signed, IntKind.bits] using h
  rw [UInt8.toNat_ofNat']
  omega

/-- A slice of bytes that came in. -/
theorem open_bytes (hu : P.underlying t = some (.slice e)) (he : P.underlying e = some (.int .u8)) (hc : P.cellsOf e = 1) (hb : P.bytesOf e = 1)
    (o : Value.okWide P W .any base t v) (r : DataW.Trod enc P W 0 (fun _ => true) true t v d p) (z : ∀ n ∈ d.weights P t, n ≤ reachBytes) :
    ∃ A n c xs, v = .slice A n c ∧ RB W A n c xs ∧ n ≤ 140737488351232 := by
  obtain ⟨A, len, cap, rfl⟩ := okWide_slice hu o
  obtain ⟨fuel, hf⟩ := r
  rcases open_ints hu he hc hf with ⟨hcs, _⟩ | ⟨x, l, c, zs, hcs, _, hl, hm, hz, hx, hcell, hwz⟩
  · simp [Value.cells] at hcs
    obtain ⟨rfl, rfl, rfl⟩ := hcs
    exact ⟨none, 0, 0, [], rfl, RB.nil W, by omega⟩
  · simp [Value.cells] at hcs
    obtain ⟨rfl, rfl, rfl⟩ := hcs
    obtain ⟨hx, _⟩ := Prod.mk.inj hx
    subst hx
    have hzl : zs.length = cap := by simpa using hz
    have hlt : len ≤ 140737488351232 := by
      have hw := z (((lits (H := H) .u8 (zs.take len)).length + (lits (H := H) .u8 (zs.drop len)).length) * P.bytesOf e) (by simp [DataW.weights, hu])
      have hn : (lits (H := H) .u8 (zs.take len)).length + (lits (H := H) .u8 (zs.drop len)).length = cap := by simp [lits]; omega
      rw [hn, hb, Nat.mul_one] at hw
      simp only [reachBytes] at hw
      omega
    refine ⟨_, len, cap, (zs.take len).map fun q => UInt8.ofNat q.toNat, rfl, ⟨by simp; omega, hl, by simpa [maxLen] using hm, fun hp => ?_⟩, hlt⟩
    obtain ⟨b, off, spot⟩ := x
    have h0 := hcell 0 (by omega)
    have hs : spot = none := by simpa [Addr.add] using World.cell?_spot h0
    subst hs
    refine ⟨b, off, rfl, fun k hk => ?_⟩
    have hk' := hcell k (by omega)
    rw [add_none] at hk'
    rw [hk', at8]
    have hg : ((zs.take len).map fun q => UInt8.ofNat q.toNat).getD k 0 = UInt8.ofNat (zs.getD k 0).toNat := by
      simp [List.getD_eq_getElem?_getD, hk, List.getElem?_eq_getElem (show k < zs.length by omega)]
    rw [hg, u8_of]
    refine hwz _ ?_
    rw [List.getD_eq_getElem?_getD, List.getElem?_eq_getElem (show k < zs.length by omega)]
    exact List.getElem_mem _

theorem u32_of (x : Int) (h : (Lit.int .u32 x).wf = true) : ∃ s : BitVec 32, (s.toNat : Int) = x := by
  have hb : 0 ≤ x ∧ x ≤ 4294967295 := by simpa [Lit.wf, IntKind.min, IntKind.max, IntKind.signed, IntKind.bits] using h
  refine ⟨BitVec.ofNat 32 x.toNat, ?_⟩
  rw [BitVec.toNat_ofNat]
  omega
/-- A number of 32 bits that came in. -/
theorem open_u32 (hu : P.underlying t = some (.int .u32)) (o : Value.okWide P W .any base t v) (r : DataW.Trod enc P W 0 (fun _ => true) true t v d p) : ∃ s : BitVec 32, v = .int .u32 (s.toNat : Int) := by
  obtain ⟨x, rfl, _, _, wx⟩ := open_int hu o r
  obtain ⟨s, hs⟩ := u32_of x wx
  exact ⟨s, by rw [hs]⟩
theorem weights_all {H : Type} {P : Program} {e : TypeId} : ∀ {ds : List (DataW H)} {d : DataW H}, d ∈ ds → ∀ n ∈ d.weights P e, n ∈ DataW.weightsAll P e ds
  | x :: r, d, h, n, hn => by
    simp only [DataW.weightsAll, List.mem_append]
    rcases List.mem_cons.1 h with rfl | h
    · exact .inl hn
    · exact .inr (weights_all h n hn)
/-- The weights of a slice's element. -/
theorem weights_elem {H : Type} {P : Program} {t e : TypeId} (hu : P.underlying t = some (.slice e)) {es sp : List (DataW H)} {d : DataW H} (h : d ∈ es) : ∀ n ∈ d.weights P e, n ∈ (DataW.slice es sp).weights P t := by
  intro n hn
  simp only [DataW.weights, hu, List.mem_cons, List.mem_append]
  exact .inr (.inl (weights_all h n hn))
/-- A slice of slices of bytes that came in: its rows, and what its datum says of them. -/
theorem open_rows {q : TypeId} (hu : P.underlying t = some (.slice e)) (he : P.underlying e = some (.slice q)) (hq : P.underlying q = some (.int .u8)) (hc : P.cellsOf e = 1) (hcq : P.cellsOf q = 1) (hb : P.bytesOf e = 24) (hbq : P.bytesOf q = 1)
    (o : Value.okWide P W .any base t v) (r : DataW.Trod enc P W 0 (fun _ => true) true t v d p) (z : ∀ n ∈ d.weights P t, n ≤ reachBytes) :
    ∃ A n c xss, v = .slice A n c ∧ RRB W A n c xss ∧ n * 24 ≤ 140737488351232 ∧ (∀ k, k < n → (atL xss k).length ≤ 140737488351232) ∧
      ((d = .nil ∧ n = 0) ∨ ∃ D sp, d = .slice ((List.range n).map D) sp ∧ ∀ k, k < n → (D k = .nil ∧ (atL xss k).length = 0) ∨ ∃ es sp', D k = .slice es sp' ∧ es.length = (atL xss k).length) := by
  obtain ⟨A0, len0, cap0, rfl⟩ := okWide_slice hu o
  obtain ⟨fuel, hf⟩ := r
  rcases Go.Deep.open_int_rows hu he hq hc hcq hf with ⟨hcs, hx⟩ | ⟨x, len, cap, A, L, C, Z, hcs, _, hl, hm, hx, hrow⟩
  · simp [Value.cells] at hcs
    obtain ⟨rfl, rfl, rfl⟩ := hcs
    obtain ⟨rfl, _⟩ := Prod.mk.inj hx
    exact ⟨none, 0, 0, [], rfl, RRB.nil W, by omega, fun k hk => absurd hk (by omega), .inl ⟨rfl, rfl⟩⟩
  · simp [Value.cells] at hcs
    obtain ⟨rfl, rfl, rfl⟩ := hcs
    obtain ⟨rfl, _⟩ := Prod.mk.inj hx
    have hn : cap0 * 24 ≤ 140737488351232 := by
      have hw := z ((((List.range len0).map fun r => Go.Deep.intRow (H := H) .u8 (A r) (L r) (Z r)).length + ((List.range (cap0 - len0)).map fun j => Go.Deep.intRow (H := H) .u8 (A (len0 + j)) (L (len0 + j)) (Z (len0 + j))).length) * P.bytesOf e) (by simp [DataW.weights, hu])
      rw [hb] at hw
      simp only [List.length_map, List.length_range, reachBytes] at hw
      omega
    have hat : ∀ k, k < len0 → atL ((List.range len0).map fun r => ((Z r).take (L r)).map fun q => UInt8.ofNat q.toNat) k = ((Z k).take (L k)).map fun q => UInt8.ofNat q.toNat := by
      intro k hk
      simp [atL, List.getD_eq_getElem?_getD, hk]
    have hlen : ∀ k, k < len0 → (((Z k).take (L k)).map fun q => UInt8.ofNat q.toNat).length = L k := by
      intro k hk
      obtain ⟨_, h2, _, h4, _⟩ := hrow k (by omega)
      simp
      omega
    refine ⟨some x, len0, cap0, (List.range len0).map fun r => ((Z r).take (L r)).map fun q => UInt8.ofNat q.toNat, rfl, ⟨by simp, hl, by simpa [maxLen] using hm, fun hp => ?_⟩, by omega, fun k hk => ?_, .inr ⟨_, _, rfl, fun k hk => ?_⟩⟩
    · obtain ⟨b, off, spot⟩ := x
      have h0 := (hrow 0 (by omega)).1
      have hs : spot = none := by simpa [Addr.add] using World.cell?_spot h0
      subst hs
      refine ⟨b, off, rfl, fun k hk => ?_⟩
      obtain ⟨h1, h2, h3, h4, h5, h6, h7⟩ := hrow k (by omega)
      rw [add_none] at h1
      refine ⟨A k, L k, C k, h1, ?_⟩
      rw [hat k hk]
      refine ⟨hlen k hk, h2, by simpa [maxLen] using h3, fun hp => ?_⟩
      cases hA : A k with
      | none => exact absurd (h6 hA) (by omega)
      | some x' =>
        obtain ⟨b', o', spot'⟩ := x'
        obtain ⟨_, h8⟩ := h7 _ hA
        have h80 := h8 0 (by omega)
        have hs' : spot' = none := by simpa [Addr.add] using World.cell?_spot h80
        subst hs'
        refine ⟨b', o', rfl, fun j hj => ?_⟩
        have hk' := h8 j (by omega)
        rw [add_none] at hk'
        rw [hk', at8]
        have hg : (((Z k).take (L k)).map fun q => UInt8.ofNat q.toNat).getD j 0 = UInt8.ofNat ((Z k).getD j 0).toNat := by
          simp [List.getD_eq_getElem?_getD, hj, List.getElem?_eq_getElem (show j < (Z k).length by omega)]
        rw [hg, u8_of]
        refine h5 _ ?_
        rw [List.getD_eq_getElem?_getD, List.getElem?_eq_getElem (show j < (Z k).length by omega)]
        exact List.getElem_mem _
    · rw [hat k hk, hlen k hk]
      obtain ⟨_, h2, _, h4, _, h6, _⟩ := hrow k (by omega)
      cases hA : A k with
      | none => have := h6 hA; omega
      | some x' =>
        have hmem : Go.Deep.intRow (H := H) .u8 (A k) (L k) (Z k) ∈ (List.range len0).map fun r => Go.Deep.intRow (H := H) .u8 (A r) (L r) (Z r) := List.mem_map.2 ⟨k, by simpa using hk, rfl⟩
        have hw := z (((lits (H := H) .u8 ((Z k).take (L k))).length + (lits (H := H) .u8 ((Z k).drop (L k))).length) * P.bytesOf q) (weights_elem hu hmem _ (by rw [hA]; simp [Go.Deep.intRow, DataW.weights, he]))
        rw [hbq, Nat.mul_one] at hw
        have hn2 : (lits (H := H) .u8 ((Z k).take (L k))).length + (lits (H := H) .u8 ((Z k).drop (L k))).length = (Z k).length := by simp [lits]; omega
        rw [hn2] at hw
        simp only [reachBytes] at hw
        omega
    · rw [hat k hk, hlen k hk]
      obtain ⟨_, h2, _, h4, _, h6, _⟩ := hrow k (by omega)
      cases hA : A k with
      | none => left; exact ⟨by simp [Go.Deep.intRow], by have := h6 hA; omega⟩
      | some x' => right; exact ⟨_, _, by simp only [Go.Deep.intRow]; rfl, by simp [lits]; omega⟩
/-- An int that came in. -/
theorem open_i64 (hu : P.underlying t = some (.int .i64)) (o : Value.okWide P W .any base t v) (r : DataW.Trod enc P W 0 (fun _ => true) true t v d p) : ∃ x : Int, v = .int .i64 x ∧ -9223372036854775808 ≤ x ∧ x ≤ 9223372036854775807 := by
  obtain ⟨x, rfl, _, _, wx⟩ := open_int hu o r
  have hb : -9223372036854775808 ≤ x ∧ x ≤ 9223372036854775807 := by simpa [Lit.wf, IntKind.min, IntKind.max, IntKind.signed, IntKind.bits] using wx
  exact ⟨x, rfl, hb⟩
/-- A byte that came in. -/
theorem open_u8 (hu : P.underlying t = some (.int .u8)) (o : Value.okWide P W .any base t v) (r : DataW.Trod enc P W 0 (fun _ => true) true t v d p) : ∃ x : UInt8, v = .int .u8 (x.toNat : Int) := by
  obtain ⟨x, rfl, _, _, wx⟩ := open_int hu o r
  exact ⟨UInt8.ofNat x.toNat, by rw [u8_of x wx]⟩
end
end Go.Proofs.Ytoghmakbdhepfaa
