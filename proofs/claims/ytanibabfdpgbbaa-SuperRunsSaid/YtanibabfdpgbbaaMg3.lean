/- Sectors in memory, beside disks. -/
import Derived.Test.YtanibabfdpgbbaaMg2
import Derived.Laws.CopyOwn
import Derived.Test.YtanibabfdpgbbaaMg1
import Derived.ProofKit
import Derived.OpenShut
import Derived.ShutString
import Derived.SizedLaws
import Derived.Deep.Matrix
import Derived.Deep.MidRow
import Derived.Test.YtanibabfdpgbbaaProg
import Derived.KernelRfl
import Derived.WalkKit
import Derived.Tactics
import Derived.Tactics2
import Derived.Defers
import Derived.Recover
import Derived.Laws.Pointers
import Derived.Lib.Hide
import Derived.WalkSpells
import Derived.WalkLawsBesides
namespace Go.Proofs.Ytanibabfdpgbbaa
open Go.RowKit

/-- A block that holds a sector. -/
def SecAt (w : World) (g : Nat) (l : List UInt8) : Prop := w.heap[g]? = some (.cells (bv l).toArray 32 (0, 0)) ∧ l.length = 128
theorem SecAt.kp {w w' : World} {g : Nat} {l : List UInt8} {S : Nat → Prop} (h : SecAt w g l) (hk : Kp S w w') (hg : ¬ S g) : SecAt w' g l := ⟨(hk.block g (lt_of_heap h.1) hg).trans h.1, h.2⟩
theorem SecAt.below {w w' : World} {g : Nat} {l : List UInt8} (h : SecAt w g l) (hb : Below w.heap.size w w') : SecAt w' g l := ⟨(hb.block g (lt_of_heap h.1)).trans h.1, h.2⟩
theorem SecAt.new (w : World) (l : List UInt8) (hl : l.length = 128) : SecAt (w.alloc (.cells (bv l).toArray 32)) w.heap.size l := ⟨heap_alloc_new w _, hl⟩
theorem SecAt.cell {w : World} {g : Nat} {l : List UInt8} (h : SecAt w g l) (j : Nat) (hj : j < 128) : w.cell? ⟨g, j, none⟩ = some (.int .u8 ((at8 l j).toNat : Int)) := by
  rw [cell_of_row w g j _ _ _ h.1, List.getElem?_toArray]
  exact bv_get l j (by rw [h.2]; exact hj)
theorem SecAt.range {w : World} {g : Nat} {l : List UInt8} (h : SecAt w g l) : w.rangeAt g 0 (bv l) := by
  intro j v hj
  have hlt : j < l.length := by have := (List.getElem?_eq_some_iff.1 hj).1; rwa [bv_length] at this
  rw [bv_get l j hlt] at hj
  rw [Nat.zero_add, h.cell j (by rw [← h.2]; exact hlt)]
  exact hj
/-- A part of a sector is read. -/
theorem SecAt.rb {w : World} {g : Nat} {l : List UInt8} (h : SecAt w g l) (o n c : Nat) (ho : o + n ≤ 128) (hc : n ≤ c) (hc2 : c ≤ 9223372036854775807) : RB w (some ⟨g, o, none⟩) n c ((l.drop o).take n) := by
  refine ⟨by simp [h.2]; omega, hc, hc2, fun _ => ⟨g, o, rfl, fun k hk => ?_⟩⟩
  rw [h.cell (o + k) (by omega)]
  simp [at8, List.getD_eq_getElem?_getD, hk]
theorem bv_splice (l : List UInt8) (o : Nat) (xs : List UInt8) : splice (bv l) o (bv xs) = bv (splice l o xs) := by simp [splice, bv]
theorem splice_at {α : Type} (a b b' c : List α) (h : b'.length = b.length) : splice (a ++ (b ++ c)) a.length b' = a ++ (b' ++ c) := by
  unfold splice
  rw [List.take_left, ← List.drop_drop, List.drop_left, h, List.drop_left]
theorem setCells_heap (g : Nat) (T : TypeId) : ∀ (cs : List Value) (c : Array Value) (o : Nat) (w : World), w.heap[g]? = some (.cells c T) → o + cs.length ≤ c.size →
    (w.setCells g o cs).heap[g]? = some (.cells (splice c.toList o cs).toArray T) ∧ Kp (· = g) w (w.setCells g o cs)
  | [], c, o, w, h, _ => ⟨by simpa [World.setCells, splice] using h, Kp.refl _ _⟩
  | v :: r, c, o, w, h, hl => by
    have h1 := heap_setCell_same w g o c T v h
    obtain ⟨h2, h3⟩ := setCells_heap g T r (c.setIfInBounds o v) (o + 1) (w.setCell ⟨g, o, none⟩ v) h1 (by simp at hl ⊢; omega)
    refine ⟨?_, ((Kp.refl (· = g) w).setCell ⟨g, o, none⟩ v (fun _ => rfl)).trans h3 (fun i _ e => e)⟩
    simp only [World.setCells]
    rw [h2, Array.toList_setIfInBounds, splice_set _ _ _ _ (by simp at hl ⊢; omega)]
section
variable {ops : Array Oper} {rest : List Oper} {op : Oper} {a : Act} {w : World} {Q : Exit → Act → World → Prop}
/-- A sector is stored over another. -/
theorem st37_at (hgd : op.guard = none) (x y : Operand) (ho : op.op = .store 32 x y) (g : Nat) (l0 : List UInt8) (hx : a.eval x = .pointer (some ⟨g, 0, none⟩)) (hg : SecAt w g l0) (l : List UInt8) (hy : a.eval y = secV l) (hl : l.length = 128)
    (h : ∀ w', SecAt w' g l → Kp (· = g) w w' → wpList Try.prog ops Q rest (a.put op.dst undef) w') : wpList Try.prog ops Q (op :: rest) a w := by
  have hc := setCells_heap g 32 (bv l) (bv l0).toArray 0 w hg.1 (by simp [bv_length, hl, hg.2])
  refine wpList_store_mid hgd _ x y ho _ 0 (bv l).toArray hx hy ?_ (Try.size37.trans (by simp [bv_length, hl])) (all_oneCell_toArray (bv_one l)) ?_
  · intro j hj
    have hj' : j < 128 := by simpa [bv_length, hl] using hj
    rw [Nat.zero_add]
    exact ⟨by rw [hg.cell j hj']; rfl, frozen_of_row _ _ _ _ _ hg.1⟩
  · refine h _ ⟨?_, hl⟩ ?_
    · have h2 := hc.1
      have e2 : splice (bv l0).toArray.toList 0 (bv l) = bv l := by
        simp only [splice, List.take_zero, List.nil_append, Nat.zero_add]
        rw [List.drop_eq_nil_of_le (by simp [bv_length, hl, hg.2]), List.append_nil]
      rw [e2] at h2
      simpa using h2
    · simpa using hc.2
end
end Go.Proofs.Ytanibabfdpgbbaa

/- Structs of a few cells: loads and stores as laws for the walk; no program in sight. -/
namespace Go.Proofs.Ytanibabfdpgbbaa
open Go.RowKit

/-- A block that holds just the cells cs. -/
def RowAt (w : World) (g : Nat) (t : TypeId) (cs : List Value) : Prop := w.heap[g]? = some (.cells cs.toArray t (0, 0))
theorem RowAt.kp {w w' : World} {g : Nat} {t : TypeId} {cs : List Value} {S : Nat → Prop} (h : RowAt w g t cs) (hk : Kp S w w') (hg : ¬ S g) : RowAt w' g t cs := (hk.block g (lt_of_heap h) hg).trans h
theorem RowAt.below {w w' : World} {g : Nat} {t : TypeId} {cs : List Value} (h : RowAt w g t cs) (hb : Below w.heap.size w w') : RowAt w' g t cs := (hb.block g (lt_of_heap h)).trans h
theorem RowAt.new (w : World) (t : TypeId) (cs : List Value) : RowAt (w.alloc (.cells cs.toArray t)) w.heap.size t cs := heap_alloc_new w _
theorem RowAt.cell {w : World} {g : Nat} {t : TypeId} {cs : List Value} (h : RowAt w g t cs) (j : Nat) (u : Value) (hj : cs[j]? = some u) : w.cell? ⟨g, j, none⟩ = some u := by
  rw [cell_of_row w g j _ _ _ h, List.getElem?_toArray]
  exact hj
theorem RowAt.range {w : World} {g : Nat} {t : TypeId} {cs : List Value} (h : RowAt w g t cs) : w.rangeAt g 0 cs := by
  intro j v hj
  rw [Nat.zero_add]
  exact h.cell j v hj
section
variable {P : Program} {ops : Array Oper} {rest : List Oper} {op : Oper} {a : Act} {w : World} {Q : Exit → Act → World → Prop}
theorem ldN (t : TypeId) (cs : List Value) (hgd : op.guard = none) (x : Operand) (ho : op.op = .load t x) (b o : Nat) (hx : a.eval x = .pointer (some ⟨b, o, none⟩)) (hc : w.rangeAt b o cs) {d : TypeDesc} (hu : P.underlying t = some d) (hd : d.isRow = true) (hi : (P.info? t).map (·.size) = some cs.length)
    (h : wpList P ops Q rest (a.put op.dst (.agg cs.toArray)) w) : wpList P ops Q (op :: rest) a w :=
  wpList_load_mid hgd _ x ho b o hx cs _ hc hu hd hi h
/-- A struct is stored into a new variable of its own. -/
theorem stN (t : TypeId) (cs : List Value) (hgd : op.guard = none) (x y : Operand) (ho : op.op = .store t x y) (c : Array Value) (b : Nat) (hx : a.eval x = .pointer (some ⟨b, 0, none⟩)) (hb : b = w.heap.size) (hy : a.eval y = .agg cs.toArray) (h1 : ∀ u ∈ cs, u.oneCell' = true) (hi : (P.info? t).map (·.size) = some cs.length) (hs : c.size = cs.length)
    (h : wpList P ops Q rest (a.put op.dst undef) (w.alloc (.cells cs.toArray t))) : wpList P ops Q (op :: rest) a (w.alloc (.cells c t)) := by
  subst hb
  refine wpList_store_mid hgd _ x y ho _ 0 cs.toArray hx hy ?_ (hi.trans (by simp)) (all_oneCell_toArray h1) ?_
  · have := there_alloc w c t
    simpa [hs] using this
  · rcases setCells_alloc w t (0, 0) cs c 0 with e | e
    · have e2 : splice c.toList 0 cs = cs := by
        simp only [splice, List.take_zero, List.nil_append, Nat.zero_add]
        rw [List.drop_eq_nil_of_le (by simp [hs]), List.append_nil]
      rw [e2] at e
      simpa only [List.toList_toArray, e] using h
    · simp [hs] at e
/-- A struct is stored over another. -/
theorem stN_at (t : TypeId) (cs cs0 : List Value) (hgd : op.guard = none) (x y : Operand) (ho : op.op = .store t x y) (g : Nat) (hx : a.eval x = .pointer (some ⟨g, 0, none⟩)) (hg : RowAt w g t cs0) (hy : a.eval y = .agg cs.toArray) (h1 : ∀ u ∈ cs, u.oneCell' = true) (hi : (P.info? t).map (·.size) = some cs.length) (hs : cs0.length = cs.length)
    (h : ∀ w', RowAt w' g t cs → Kp (· = g) w w' → wpList P ops Q rest (a.put op.dst undef) w') : wpList P ops Q (op :: rest) a w := by
  have hc := setCells_heap g t cs cs0.toArray 0 w hg (by simp [hs])
  refine wpList_store_mid hgd _ x y ho _ 0 cs.toArray hx hy ?_ (hi.trans (by simp)) (all_oneCell_toArray h1) ?_
  · intro j hj
    have hj' : j < cs0.length := by simpa [hs] using hj
    rw [Nat.zero_add]
    exact ⟨by rw [hg.cell j cs0[j] (List.getElem?_eq_getElem hj')]; rfl, frozen_of_row _ _ _ _ _ hg⟩
  · refine h _ ?_ ?_
    · have h2 := hc.1
      have e2 : splice cs0.toArray.toList 0 cs = cs := by
        simp only [splice, List.take_zero, List.nil_append, Nat.zero_add]
        rw [List.drop_eq_nil_of_le (by simp [hs]), List.append_nil]
      rw [e2] at h2
      simpa [RowAt] using h2
    · simpa using hc.2
end
end Go.Proofs.Ytanibabfdpgbbaa

/- What a law's arguments are told to be: whole numbers, strings, slices of bytes, with the bounds of the row's reach. -/
namespace Go.Proofs.Ytanibabfdpgbbaa
open Go.ChangeShapes Go.WideShapes Go.ChangeAt Go.RowKit
open Go.ChangeMaps (open_string shut_string)

section
variable {H : Type} {enc : TypeId × Value → H} {P : Program} {W : World} {base : Nat} {t e : TypeId} {v : Value} {d : DataW H} {p : List MemPlace}

theorem u8_of (z : Int) (h : (Lit.int .u8 z).wf = true) : ((UInt8.ofNat z.toNat).toNat : Int) = z := by
  have hb : 0 ≤ z ∧ z ≤ 255 := by simpa [Lit.wf, IntKind.min, IntKind.max, IntKind.signed, IntKind.bits] using h
  rw [UInt8.toNat_ofNat']
  omega

/-- A slice of bytes that came in. -/
theorem open_bytes (hu : P.underlying t = some (.slice e)) (he : P.underlying e = some (.int .u8)) (hc : P.cellsOf e = 1) (hb : P.bytesOf e = 1)
    (o : Value.okWide P W .any base t v) (r : DataW.Trod enc P W 0 (fun _ => true) true t v d p) (z : ∀ n ∈ d.weights P t, n ≤ reachBytes) :
    ∃ A n c xs, v = .slice A n c ∧ RB W A n c xs ∧ n ≤ 140737488351232 := by
  obtain ⟨A, len, cap, rfl⟩ := okWide_slice hu o
  obtain ⟨fuel, hf⟩ := r
  rcases open_ints hu he hc hf with ⟨hcs, _⟩ | ⟨x, l, c, zs, hcs, _, hl, hm, hz, hx, hcell, hwz⟩
  · simp [Value.cells] at hcs
    obtain ⟨rfl, rfl, rfl⟩ := hcs
    exact ⟨none, 0, 0, [], rfl, RB.nil W, by omega⟩
  · simp [Value.cells] at hcs
    obtain ⟨rfl, rfl, rfl⟩ := hcs
    obtain ⟨hx, _⟩ := Prod.mk.inj hx
    subst hx
    have hzl : zs.length = cap := by simpa using hz
    have hlt : len ≤ 140737488351232 := by
      have hw := z (((lits (H := H) .u8 (zs.take len)).length + (lits (H := H) .u8 (zs.drop len)).length) * P.bytesOf e) (by simp [DataW.weights, hu])
      have hn : (lits (H := H) .u8 (zs.take len)).length + (lits (H := H) .u8 (zs.drop len)).length = cap := by simp [lits]; omega
      rw [hn, hb, Nat.mul_one] at hw
      simp only [reachBytes] at hw
      omega
    refine ⟨_, len, cap, (zs.take len).map fun q => UInt8.ofNat q.toNat, rfl, ⟨by simp; omega, hl, by simpa [maxLen] using hm, fun hp => ?_⟩, hlt⟩
    obtain ⟨b, off, spot⟩ := x
    have h0 := hcell 0 (by omega)
    have hs : spot = none := by simpa [Addr.add] using World.cell?_spot h0
    subst hs
    refine ⟨b, off, rfl, fun k hk => ?_⟩
    have hk' := hcell k (by omega)
    rw [add_none] at hk'
    rw [hk', at8]
    have hg : ((zs.take len).map fun q => UInt8.ofNat q.toNat).getD k 0 = UInt8.ofNat (zs.getD k 0).toNat := by
      simp [List.getD_eq_getElem?_getD, hk, List.getElem?_eq_getElem (show k < zs.length by omega)]
    rw [hg, u8_of]
    refine hwz _ ?_
    rw [List.getD_eq_getElem?_getD, List.getElem?_eq_getElem (show k < zs.length by omega)]
    exact List.getElem_mem _

theorem u32_of (x : Int) (h : (Lit.int .u32 x).wf = true) : ∃ s : BitVec 32, (s.toNat : Int) = x := by
  have hb : 0 ≤ x ∧ x ≤ 4294967295 := by simpa [Lit.wf, IntKind.min, IntKind.max, IntKind.signed, IntKind.bits] using h
  refine ⟨BitVec.ofNat 32 x.toNat, ?_⟩
  rw [BitVec.toNat_ofNat]
  omega
/-- A number of 32 bits that came in. -/
theorem open_u32 (hu : P.underlying t = some (.int .u32)) (o : Value.okWide P W .any base t v) (r : DataW.Trod enc P W 0 (fun _ => true) true t v d p) : ∃ s : BitVec 32, v = .int .u32 (s.toNat : Int) := by
  obtain ⟨x, rfl, _, _, wx⟩ := open_int hu o r
  obtain ⟨s, hs⟩ := u32_of x wx
  exact ⟨s, by rw [hs]⟩
theorem weights_all {H : Type} {P : Program} {e : TypeId} : ∀ {ds : List (DataW H)} {d : DataW H}, d ∈ ds → ∀ n ∈ d.weights P e, n ∈ DataW.weightsAll P e ds
  | x :: r, d, h, n, hn => by
    simp only [DataW.weightsAll, List.mem_append]
    rcases List.mem_cons.1 h with rfl | h
    · exact .inl hn
    · exact .inr (weights_all h n hn)
/-- The weights of a slice's element. -/
theorem weights_elem {H : Type} {P : Program} {t e : TypeId} (hu : P.underlying t = some (.slice e)) {es sp : List (DataW H)} {d : DataW H} (h : d ∈ es) : ∀ n ∈ d.weights P e, n ∈ (DataW.slice es sp).weights P t := by
  intro n hn
  simp only [DataW.weights, hu, List.mem_cons, List.mem_append]
  exact .inr (.inl (weights_all h n hn))
/-- A slice of slices of bytes that came in: its rows, and what its datum says of them. -/
theorem open_rows {q : TypeId} (hu : P.underlying t = some (.slice e)) (he : P.underlying e = some (.slice q)) (hq : P.underlying q = some (.int .u8)) (hc : P.cellsOf e = 1) (hcq : P.cellsOf q = 1) (hb : P.bytesOf e = 24) (hbq : P.bytesOf q = 1)
    (o : Value.okWide P W .any base t v) (r : DataW.Trod enc P W 0 (fun _ => true) true t v d p) (z : ∀ n ∈ d.weights P t, n ≤ reachBytes) :
    ∃ A n c xss, v = .slice A n c ∧ RRB W A n c xss ∧ n * 24 ≤ 140737488351232 ∧ (∀ k, k < n → (atL xss k).length ≤ 140737488351232) ∧
      ((d = .nil ∧ n = 0) ∨ ∃ D sp, d = .slice ((List.range n).map D) sp ∧ ∀ k, k < n → (D k = .nil ∧ (atL xss k).length = 0) ∨ ∃ es sp', D k = .slice es sp' ∧ es.length = (atL xss k).length) := by
  obtain ⟨A0, len0, cap0, rfl⟩ := okWide_slice hu o
  obtain ⟨fuel, hf⟩ := r
  rcases Go.Deep.open_int_rows hu he hq hc hcq hf with ⟨hcs, hx⟩ | ⟨x, len, cap, A, L, C, Z, hcs, _, hl, hm, hx, hrow⟩
  · simp [Value.cells] at hcs
    obtain ⟨rfl, rfl, rfl⟩ := hcs
    obtain ⟨rfl, _⟩ := Prod.mk.inj hx
    exact ⟨none, 0, 0, [], rfl, RRB.nil W, by omega, fun k hk => absurd hk (by omega), .inl ⟨rfl, rfl⟩⟩
  · simp [Value.cells] at hcs
    obtain ⟨rfl, rfl, rfl⟩ := hcs
    obtain ⟨rfl, _⟩ := Prod.mk.inj hx
    have hn : cap0 * 24 ≤ 140737488351232 := by
      have hw := z ((((List.range len0).map fun r => Go.Deep.intRow (H := H) .u8 (A r) (L r) (Z r)).length + ((List.range (cap0 - len0)).map fun j => Go.Deep.intRow (H := H) .u8 (A (len0 + j)) (L (len0 + j)) (Z (len0 + j))).length) * P.bytesOf e) (by simp [DataW.weights, hu])
      rw [hb] at hw
      simp only [List.length_map, List.length_range, reachBytes] at hw
      omega
    have hat : ∀ k, k < len0 → atL ((List.range len0).map fun r => ((Z r).take (L r)).map fun q => UInt8.ofNat q.toNat) k = ((Z k).take (L k)).map fun q => UInt8.ofNat q.toNat := by
      intro k hk
      simp [atL, List.getD_eq_getElem?_getD, hk]
    have hlen : ∀ k, k < len0 → (((Z k).take (L k)).map fun q => UInt8.ofNat q.toNat).length = L k := by
      intro k hk
      obtain ⟨_, h2, _, h4, _⟩ := hrow k (by omega)
      simp
      omega
    refine ⟨some x, len0, cap0, (List.range len0).map fun r => ((Z r).take (L r)).map fun q => UInt8.ofNat q.toNat, rfl, ⟨by simp, hl, by simpa [maxLen] using hm, fun hp => ?_⟩, by omega, fun k hk => ?_, .inr ⟨_, _, rfl, fun k hk => ?_⟩⟩
    · obtain ⟨b, off, spot⟩ := x
      have h0 := (hrow 0 (by omega)).1
      have hs : spot = none := by simpa [Addr.add] using World.cell?_spot h0
      subst hs
      refine ⟨b, off, rfl, fun k hk => ?_⟩
      obtain ⟨h1, h2, h3, h4, h5, h6, h7⟩ := hrow k (by omega)
      rw [add_none] at h1
      refine ⟨A k, L k, C k, h1, ?_⟩
      rw [hat k hk]
      refine ⟨hlen k hk, h2, by simpa [maxLen] using h3, fun hp => ?_⟩
      cases hA : A k with
      | none => exact absurd (h6 hA) (by omega)
      | some x' =>
        obtain ⟨b', o', spot'⟩ := x'
        obtain ⟨_, h8⟩ := h7 _ hA
        have h80 := h8 0 (by omega)
        have hs' : spot' = none := by simpa [Addr.add] using World.cell?_spot h80
        subst hs'
        refine ⟨b', o', rfl, fun j hj => ?_⟩
        have hk' := h8 j (by omega)
        rw [add_none] at hk'
        rw [hk', at8]
        have hg : (((Z k).take (L k)).map fun q => UInt8.ofNat q.toNat).getD j 0 = UInt8.ofNat ((Z k).getD j 0).toNat := by
          simp [List.getD_eq_getElem?_getD, hj, List.getElem?_eq_getElem (show j < (Z k).length by omega)]
        rw [hg, u8_of]
        refine h5 _ ?_
        rw [List.getD_eq_getElem?_getD, List.getElem?_eq_getElem (show j < (Z k).length by omega)]
        exact List.getElem_mem _
    · rw [hat k hk, hlen k hk]
      obtain ⟨_, h2, _, h4, _, h6, _⟩ := hrow k (by omega)
      cases hA : A k with
      | none => have := h6 hA; omega
      | some x' =>
        have hmem : Go.Deep.intRow (H := H) .u8 (A k) (L k) (Z k) ∈ (List.range len0).map fun r => Go.Deep.intRow (H := H) .u8 (A r) (L r) (Z r) := List.mem_map.2 ⟨k, by simpa using hk, rfl⟩
        have hw := z (((lits (H := H) .u8 ((Z k).take (L k))).length + (lits (H := H) .u8 ((Z k).drop (L k))).length) * P.bytesOf q) (weights_elem hu hmem _ (by rw [hA]; simp [Go.Deep.intRow, DataW.weights, he]))
        rw [hbq, Nat.mul_one] at hw
        have hn2 : (lits (H := H) .u8 ((Z k).take (L k))).length + (lits (H := H) .u8 ((Z k).drop (L k))).length = (Z k).length := by simp [lits]; omega
        rw [hn2] at hw
        simp only [reachBytes] at hw
        omega
    · rw [hat k hk, hlen k hk]
      obtain ⟨_, h2, _, h4, _, h6, _⟩ := hrow k (by omega)
      cases hA : A k with
      | none => left; exact ⟨by simp [Go.Deep.intRow], by have := h6 hA; omega⟩
      | some x' => right; exact ⟨_, _, by simp only [Go.Deep.intRow]; rfl, by simp [lits]; omega⟩
/-- An int that came in. -/
theorem open_i64 (hu : P.underlying t = some (.int .i64)) (o : Value.okWide P W .any base t v) (r : DataW.Trod enc P W 0 (fun _ => true) true t v d p) : ∃ x : Int, v = .int .i64 x ∧ -9223372036854775808 ≤ x ∧ x ≤ 9223372036854775807 := by
  obtain ⟨x, rfl, _, _, wx⟩ := open_int hu o r
  have hb : -9223372036854775808 ≤ x ∧ x ≤ 9223372036854775807 := by simpa [Lit.wf, IntKind.min, IntKind.max, IntKind.signed, IntKind.bits] using wx
  exact ⟨x, rfl, hb⟩
/-- A byte that came in. -/
theorem open_u8 (hu : P.underlying t = some (.int .u8)) (o : Value.okWide P W .any base t v) (r : DataW.Trod enc P W 0 (fun _ => true) true t v d p) : ∃ x : UInt8, v = .int .u8 (x.toNat : Int) := by
  obtain ⟨x, rfl, _, _, wx⟩ := open_int hu o r
  exact ⟨UInt8.ofNat x.toNat, by rw [u8_of x wx]⟩
end
end Go.Proofs.Ytanibabfdpgbbaa

/- Openers for nested data: arrays of bytes, slices of bools, structs in slices; no program in sight. -/
namespace Go.Proofs.Ytanibabfdpgbbaa
open Go.ChangeShapes Go.WideShapes Go.ChangeAt Go.RowKit

section
variable {H : Type} {enc : TypeId × Value → H} {P : Program} {w : World} {t e : TypeId} {fuel : Nat} {cs : List Value} {x : DataW H × List MemPlace}

theorem i64_wf {n : Int} (h : (Lit.int .i64 n).wf = true) : -9223372036854775808 ≤ n ∧ n ≤ 9223372036854775807 := by
  simpa [Lit.wf, IntKind.min, IntKind.max, IntKind.signed, IntKind.bits] using h
theorem u64_wf {n : Int} (h : (Lit.int .u64 n).wf = true) : 0 ≤ n ∧ n ≤ 18446744073709551615 := by
  simpa [Lit.wf, IntKind.min, IntKind.max, IntKind.signed, IntKind.bits] using h

/-- Cells whose every one is a byte's. -/
theorem bytes_of_cells : ∀ (cs : List Value), (∀ i, i < cs.length → ∃ z, cs[i]? = some (.int .u8 z) ∧ (Lit.int .u8 z).wf = true) → ∃ l : List UInt8, cs = bv l
  | [], _ => ⟨[], rfl⟩
  | c :: cs, h => by
    obtain ⟨z, hz, hw⟩ := h 0 (by simp)
    obtain ⟨l, hl⟩ := bytes_of_cells cs fun i hi => by
      have := h (i + 1) (by simp; omega)
      simpa using this
    simp at hz
    exact ⟨UInt8.ofNat z.toNat :: l, by rw [hz, hl]; simp only [bv, List.map_cons]; rw [u8_of z hw]⟩
/-- An array of bytes. -/
theorem trod_bytes {base : Nat} {spare : Nat → Bool} {held : Bool} {n : Nat} (ht : P.underlying t = some (.array n e)) (he : P.underlying e = some (.int .u8)) (hc : P.cellsOf e = 1) (hct : P.cellsOf t = n) (h : DataW.trod enc P w base spare held fuel t cs = some x) :
    ∃ l : List UInt8, cs = bv l ∧ l.length = n := by
  obtain ⟨xs, m, _, _, hl, hxl, hf⟩ := DataW.trod_array ht h
  rw [hct] at hl
  obtain ⟨l, rfl⟩ := bytes_of_cells cs fun i hi => by
    have h1 := hf i (by omega)
    rw [hc, Nat.mul_one, List.getElem?_eq_getElem (by omega)] at h1
    obtain ⟨z, hz, _, hw⟩ := DataW.trod_int he h1
    refine ⟨z, ?_, hw⟩
    have h2 := congrArg List.head? hz
    rw [List.head?_take, if_neg (by decide), List.head?_drop] at h2
    exact h2
  exact ⟨l, rfl, by rw [bv_length] at hl; exact hl⟩

theorem cells_range {base : Nat} {a : Addr} {n : Nat} {cs : List Value} (h : w.cells? base a n = some cs) : cs.length = n ∧ ∀ j u, cs[j]? = some u → w.cell? (a.add j) = some u := by
  unfold World.cells? at h
  split at h
  · have hl := mapM_some_length h
    rw [List.length_range] at hl
    refine ⟨hl, fun j u hj => ?_⟩
    have hlt : j < n := by have := (List.getElem?_eq_some_iff.1 hj).1; omega
    have := mapM_some_get h j j (by simp [hlt])
    rw [hj] at this
    exact this
  · cases h
theorem spot_none {a : Addr} {j : Nat} {u : Value} (h : w.cell? (a.add j) = some u) : (a.add j).spot = none := World.cell?_spot h
theorem add_add (a : Addr) (i j : Nat) : (a.add i).add j = a.add (i + j) := by
  unfold Addr.add
  by_cases h1 : i = 0 <;> by_cases h2 : j = 0 <;> simp [h1, h2, Nat.add_assoc]

/-- A slice of bools. -/
theorem trod_bools (hu : P.underlying t = some (.slice e)) (he : P.underlying e = some .bool) (hc : P.cellsOf e = 1) (hb : P.bytesOf e = 1) (h : DataW.trod enc P w 0 (fun _ => true) true fuel t cs = some x) (z : ∀ n ∈ x.1.weights P t, n ≤ reachBytes) :
    ∃ A n c bs, cs = [.slice A n c] ∧ RBl w A n c bs ∧ n ≤ 140737488351232 := by
  rcases Go.Deep.open_slice hu h with ⟨rfl, _⟩ | ⟨a, len, cap, m, n, D, Pl, rfl, _, hl, hm, hmm, hx, hel⟩
  · exact ⟨none, 0, 0, [], rfl, RBl.nil w, by omega⟩
  · simp only [if_true] at hmm
    subst hmm
    have hget : ∀ i, i < m → ∃ b : Bool, w.cell? (a.add i) = some (.bool b) := by
      intro i hi
      obtain ⟨cs', h1, h2⟩ := hel i hi
      rw [hc, Nat.mul_one] at h1
      obtain ⟨b, rfl, _⟩ := DataW.trod_bool he h2
      obtain ⟨_, h3⟩ := cells_range h1
      have := h3 0 _ rfl
      rw [add_add, Nat.add_zero] at this
      exact ⟨b, this⟩
    have hlt : len ≤ 140737488351232 := by
      have hw := z ((((List.range len).map D).length + ((List.range (m - len)).map fun j => D (len + j)).length) * P.bytesOf e) (by rw [hx]; simp [DataW.weights, hu])
      rw [hb] at hw
      simp only [List.length_map, List.length_range, reachBytes] at hw
      omega
    obtain ⟨f, hf⟩ : ∃ f : Nat → Bool, ∀ i, i < m → w.cell? (a.add i) = some (.bool (f i)) :=
      ⟨fun i => if h : i < m then (hget i h).choose else false, fun i hi => by
        show w.cell? (a.add i) = some (.bool (if h : i < m then (hget i h).choose else false))
        rw [dif_pos hi]
        exact (hget i hi).choose_spec⟩
    refine ⟨some a, len, m, (List.range len).map f, rfl, ⟨by simp, hl, by simpa [maxLen] using hm, fun hp => ?_⟩, hlt⟩
    obtain ⟨b, o, spot⟩ := a
    have h0 := hf 0 (by omega)
    have hs : spot = none := by simpa [Addr.add] using World.cell?_spot h0
    subst hs
    refine ⟨b, o, rfl, fun k hk => ?_⟩
    have hc1 := hf k (by omega)
    rw [add_none] at hc1
    rw [hc1, atB]
    simp [List.getD_eq_getElem?_getD, hk]
end
end Go.Proofs.Ytanibabfdpgbbaa

/- Fields (a number and bytes) as data: read in memory, and how they came in. -/
namespace Go.Proofs.Ytanibabfdpgbbaa
open Go.ChangeShapes Go.WideShapes Go.ChangeAt Go.RowKit

structure FieldD where
  num : Nat
  A : Option Addr
  n : Nat
  c : Nat
  bytes : List UInt8
def fieldCells (f : FieldD) : List Value := [.int .u64 f.num, .slice f.A f.n f.c]
structure FieldOk (w : World) (f : FieldD) : Prop where
  num : f.num < 18446744073709551616
  rb : RB w f.A f.n f.c f.bytes
  len : f.n ≤ 140737488351232
theorem FieldOk.below {w w' : World} {f : FieldD} (h : FieldOk w f) (hb : Below w.heap.size w w') : FieldOk w' f := ⟨h.num, h.rb.below hb, h.len⟩
/-- The k-th field (a name that the walk leaves alone). -/
def fieldAt (l : List FieldD) (k : Nat) : FieldD := l.getD k ⟨0, none, 0, 0, []⟩
/-- The slice value's elements are the fields l. -/
def RFields (w : World) (A : Option Addr) (n c : Nat) (l : List FieldD) : Prop :=
  l.length = n ∧ n ≤ c ∧ c ≤ 9223372036854775807 ∧ (0 < n → ∃ b o, A = some ⟨b, o, none⟩ ∧ ∀ k, k < n → w.rangeAt b (o + k * 2) (fieldCells (fieldAt l k)) ∧ FieldOk w (fieldAt l k))
theorem range_belowF {w w1 : World} {b o : Nat} {cs : List Value} (h : w.rangeAt b o cs) (hb : Below w.heap.size w w1) : w1.rangeAt b o cs := by
  intro j u hj
  have h1 := h j u hj
  rw [← h1]
  exact World.cell?_of_block (hb.block b (World.block_lt_of_cell? w _ h1))
theorem RFields.below {w w1 : World} {A : Option Addr} {n c : Nat} {l : List FieldD} (h : RFields w A n c l) (hb : Below w.heap.size w w1) : RFields w1 A n c l := by
  obtain ⟨h1, h2, h3, h4⟩ := h
  refine ⟨h1, h2, h3, fun hp => ?_⟩
  obtain ⟨b, o, e, hc⟩ := h4 hp
  exact ⟨b, o, e, fun k hk => ⟨range_belowF (hc k hk).1 hb, (hc k hk).2.below hb⟩⟩

section
variable {H : Type} {enc : TypeId × Value → H} {P : Program} {w : World} {t e : TypeId} {fuel : Nat} {cs : List Value} {x : DataW H × List MemPlace}
theorem take1F {α : Type} {cs : List α} {i : Nat} {u : α} (h : (cs.drop i).take 1 = [u]) : cs[i]? = some u := by
  have h2 := congrArg List.head? h
  rw [List.head?_take, if_neg (by decide), List.head?_drop] at h2
  exact h2
/-- A slice of bytes within something. -/
theorem trod_u8s (hu : P.underlying t = some (.slice e)) (he : P.underlying e = some (.int .u8)) (hc : P.cellsOf e = 1) (hb : P.bytesOf e = 1) (h : DataW.trod enc P w 0 (fun _ => true) true fuel t cs = some x) (z : ∀ n ∈ x.1.weights P t, n ≤ reachBytes) :
    ∃ A n c xs, cs = [.slice A n c] ∧ RB w A n c xs ∧ n ≤ 140737488351232 := by
  rcases Go.Deep.open_slice hu h with ⟨rfl, _⟩ | ⟨a, len, cap, m, n, D, Pl, rfl, _, hl, hm, hmm, hx, hel⟩
  · exact ⟨none, 0, 0, [], rfl, RB.nil w, by omega⟩
  · simp only [if_true] at hmm
    subst hmm
    have hget : ∀ i, i < m → ∃ b : UInt8, w.cell? (a.add i) = some (.int .u8 (b.toNat : Int)) := by
      intro i hi
      obtain ⟨cs', h1, h2⟩ := hel i hi
      rw [hc, Nat.mul_one] at h1
      obtain ⟨b, rfl, _, hw⟩ := DataW.trod_int he h2
      obtain ⟨_, h3⟩ := cells_range h1
      have := h3 0 _ rfl
      rw [add_add, Nat.add_zero] at this
      exact ⟨UInt8.ofNat b.toNat, by rw [u8_of b hw]; exact this⟩
    have hlt : len ≤ 140737488351232 := by
      have hw := z ((((List.range len).map D).length + ((List.range (m - len)).map fun j => D (len + j)).length) * P.bytesOf e) (by rw [hx]; simp [DataW.weights, hu])
      rw [hb] at hw
      simp only [List.length_map, List.length_range, reachBytes] at hw
      omega
    obtain ⟨f, hf⟩ : ∃ f : Nat → UInt8, ∀ i, i < m → w.cell? (a.add i) = some (.int .u8 ((f i).toNat : Int)) :=
      ⟨fun i => if h : i < m then (hget i h).choose else 0, fun i hi => by
        simp only [dif_pos hi]
        exact (hget i hi).choose_spec⟩
    refine ⟨some a, len, m, (List.range len).map f, rfl, ⟨by simp, hl, by simpa [maxLen] using hm, fun hp => ?_⟩, hlt⟩
    obtain ⟨b, o, spot⟩ := a
    have h0 := hf 0 (by omega)
    have hs : spot = none := by simpa [Addr.add] using World.cell?_spot h0
    subst hs
    refine ⟨b, o, rfl, fun k hk => ?_⟩
    have hc1 := hf k (by omega)
    rw [add_none] at hc1
    rw [hc1, at8]
    simp [List.getD_eq_getElem?_getD, hk]
end
section
variable {H : Type} {enc : TypeId × Value → H} {w : World} {fuel : Nat} {cs : List Value} {x : DataW H × List MemPlace}
set_option maxRecDepth 100000 in
/-- A field that came in. -/
theorem trod_field (h : DataW.trod enc Try.prog w 0 (fun _ => true) true fuel 83 cs = some x) (z : ∀ n ∈ x.1.weights Try.prog 83, n ≤ reachBytes) :
    ∃ f : FieldD, cs = fieldCells f ∧ FieldOk w f := by
  have hc85 : Try.prog.cellsOf 22 = 1 := by kernel_rfl
  have hc24 : Try.prog.cellsOf 76 = 1 := by kernel_rfl
  have hc87 : Try.prog.cellsOf 83 = 2 := by kernel_rfl
  obtain ⟨xs, m, _, hx, hl, hxl, hf⟩ := DataW.trod_struct Try.underlying83 h
  rw [hc87] at hl
  have hxl : xs.length = 2 := hxl
  have f0 : DataW.trod enc Try.prog w 0 (fun _ => true) true m 22 ((cs.drop 0).take (Try.prog.cellsOf 22)) = xs[0]? := hf 0 _ rfl
  rw [hc85, List.getElem?_eq_getElem (by omega)] at f0
  have f1 : DataW.trod enc Try.prog w 0 (fun _ => true) true m 76 ((cs.drop 1).take (Try.prog.cellsOf 76)) = xs[1]? := hf 1 _ rfl
  rw [hc24, List.getElem?_eq_getElem (by omega)] at f1
  obtain ⟨n0, e0, _, w0⟩ := DataW.trod_int Try.underlying22 f0
  obtain ⟨A, n, c, bs, e1, hrb, hn⟩ := trod_u8s Try.underlying76 Try.underlying5 (by kernel_rfl) (by kernel_rfl) f1 (fun n hn => z n (by
    rw [hx]
    have hd : (xs.map (·.1))[1]? = some xs[1].1 := by rw [List.getElem?_map, List.getElem?_eq_getElem (by omega)]; rfl
    simp only [DataW.weights, Try.underlying83]
    exact DataW.weights_mem_each (j := 1) rfl hd n hn))
  obtain ⟨h0, h1⟩ := u64_wf w0
  obtain ⟨k, rfl⟩ := Int.eq_ofNat_of_zero_le h0
  refine ⟨⟨k, A, n, c, bs⟩, ?_, ⟨show k < 18446744073709551616 by omega, hrb, hn⟩⟩
  have g0 := take1F e0
  have g1 := take1F e1
  match cs, hl, g0, g1 with
  | [a, b], _, g0, g1 =>
    simp at g0 g1
    subst g0 g1
    rfl
set_option maxRecDepth 100000 in
/-- The fields that came in. -/
theorem open_fields {base : Nat} {v : Value} {d : DataW H} {p : List MemPlace} {W : World} (o : Value.okWide Try.prog W .any base 79 v) (r : DataW.Trod enc Try.prog W 0 (fun _ => true) true 79 v d p) (z : ∀ n ∈ d.weights Try.prog 79, n ≤ reachBytes) :
    ∃ A n c l, v = .slice A n c ∧ RFields W A n c l ∧ n * 32 ≤ 140737488351232 := by
  have hc87 : Try.prog.cellsOf 83 = 2 := by kernel_rfl
  have hb87 : Try.prog.bytesOf 83 = 32 := by kernel_rfl
  obtain ⟨A0, len0, cap0, rfl⟩ := okWide_slice Try.underlying79 o
  obtain ⟨fuel, hf⟩ := r
  rcases Go.Deep.open_slice Try.underlying79 hf with ⟨hcs, _⟩ | ⟨a, len, cap, m, n, D, Pl, hcs, _, hl, hm, hmm, hx, hel⟩
  · simp [Value.cells] at hcs
    obtain ⟨rfl, rfl, rfl⟩ := hcs
    exact ⟨none, 0, 0, [], rfl, ⟨rfl, Nat.le_refl _, by omega, fun hp => absurd hp (by omega)⟩, by omega⟩
  · simp [Value.cells] at hcs
    obtain ⟨rfl, rfl, rfl⟩ := hcs
    simp only [if_true] at hmm
    subst hmm
    have hd : d = .slice ((List.range len0).map D) ((List.range (m - len0)).map fun j => D (len0 + j)) := (Prod.mk.inj hx).1
    have hlt : len0 * 32 ≤ 140737488351232 := by
      have hw := z ((((List.range len0).map D).length + ((List.range (m - len0)).map fun j => D (len0 + j)).length) * Try.prog.bytesOf 83) (by rw [hd]; simp [DataW.weights, Try.underlying79])
      rw [hb87] at hw
      simp only [List.length_map, List.length_range, reachBytes] at hw
      omega
    have hget : ∀ i, i < len0 → ∃ ac : FieldD, (∀ j u, (fieldCells ac)[j]? = some u → W.cell? ((a.add (i * 2)).add j) = some u) ∧ FieldOk W ac := by
      intro i hi
      obtain ⟨cs', h1, h2⟩ := hel i (by omega)
      rw [hc87] at h1
      obtain ⟨ac, rfl, hok⟩ := trod_field h2 (fun q hq => z q (by
        rw [hd]
        exact weights_elem Try.underlying79 (List.mem_map.2 ⟨i, by simpa using hi, rfl⟩) q hq))
      exact ⟨ac, (cells_range h1).2, hok⟩
    obtain ⟨f, hf⟩ : ∃ f : Nat → FieldD, ∀ i, i < len0 → (∀ j u, (fieldCells (f i))[j]? = some u → W.cell? ((a.add (i * 2)).add j) = some u) ∧ FieldOk W (f i) :=
      ⟨fun i => if h : i < len0 then (hget i h).choose else ⟨0, none, 0, 0, []⟩, fun i hi => by
        simp only [dif_pos hi]
        exact (hget i hi).choose_spec⟩
    refine ⟨some a, len0, m, (List.range len0).map f, rfl, ⟨by simp, hl, by simpa [maxLen] using hm, fun hp => ?_⟩, hlt⟩
    obtain ⟨b, o, spot⟩ := a
    have h0 := (hf 0 hp).1 0 _ rfl
    rw [Nat.zero_mul, add_add, Nat.add_zero] at h0
    have hs : spot = none := by simpa [Addr.add] using World.cell?_spot h0
    subst hs
    refine ⟨b, _, rfl, fun k hk => ?_⟩
    have e : fieldAt ((List.range len0).map f) k = f k := by simp [fieldAt, List.getD_eq_getElem?_getD, hk]
    rw [e]
    refine ⟨fun j u hj => ?_, (hf k hk).2⟩
    have := (hf k hk).1 j u hj
    rwa [add_add, add_none, ← Nat.add_assoc] at this
end
end Go.Proofs.Ytanibabfdpgbbaa

/- What a call that appends to a row of one's own leaves alone. -/
namespace Go.Proofs.Ytanibabfdpgbbaa
open Go.RowKit

/-- From w to w' nothing but the row v's block has changed and what is new; the row v' lies in that block or in a new one. -/
structure Onto (w w' : World) (v v' : Value) : Prop where
  size : w.heap.size ≤ w'.heap.size
  block : ∀ k, k < w.heap.size → v.ownBlock ≠ some k → w'.heap[k]? = w.heap[k]?
  at_ : ∀ g, v'.ownBlock = some g → v.ownBlock = some g ∨ w.heap.size ≤ g
section
variable {w w1 w2 : World} {v v1 v2 : Value}
theorem Onto.refl (w : World) (v : Value) : Onto w w v v := ⟨Nat.le_refl _, fun _ _ _ => rfl, fun _ h => .inl h⟩
theorem Onto.alloc (h : Onto w w1 v v1) (o : Obj) : Onto w (w1.alloc o) v v1 :=
  ⟨by simp; have := h.size; omega, fun k hk hv => (Go.heap_alloc_old _ _ (Nat.lt_of_lt_of_le hk h.size)).trans (h.block k hk hv), h.at_⟩
theorem Onto.drew (h : Onto w w1 v v1) : Onto w w1.drew v v1 := ⟨h.size, h.block, h.at_⟩
theorem Onto.trans (h : Onto w w1 v v1) (k : Onto w1 w2 v1 v2) : Onto w w2 v v2 :=
  ⟨Nat.le_trans h.size k.size, fun i hi hv => (k.block i (Nat.lt_of_lt_of_le hi h.size) (fun e => by
    rcases h.at_ i e with e | e
    · exact hv e
    · omega)).trans (h.block i hi hv), fun g hg => by
    rcases k.at_ g hg with e | e
    · exact h.at_ g e
    · exact .inr (Nat.le_trans h.size e)⟩
theorem Onto.grown (h : Onto w w1 v v1) (hg : w1.grownBy w2 v1.ownBlock) (ha : v2.ownBlock = v1.ownBlock ∨ v2.ownBlock = some w1.heap.size) : Onto w w2 v v2 :=
  ⟨Nat.le_trans h.size hg.size, fun i hi hv => (hg.block i (Nat.lt_of_lt_of_le hi h.size) (fun e => by
    rcases h.at_ i e.symm with e | e
    · exact hv e
    · omega)).trans (h.block i hi hv), fun g hgg => by
    rcases ha with e | e
    · exact h.at_ g (e ▸ hgg)
    · rw [e] at hgg
      injection hgg with hgg
      exact .inr (hgg ▸ h.size)⟩
theorem Onto.below (h : Onto w w1 v v1) (hb : Below w1.heap.size w1 w2) : Onto w w2 v v1 :=
  ⟨Nat.le_trans h.size hb.size, fun i hi hv => (hb.block i (Nat.lt_of_lt_of_le hi h.size)).trans (h.block i hi hv), h.at_⟩
end
end Go.Proofs.Ytanibabfdpgbbaa

/- The small functions of the codec: fail, width, and the deferred one that turns giving up into an error. -/
namespace Go.Proofs.Ytanibabfdpgbbaa
open Go.RowKit

/-- What giving up looks like. -/
def gaveUp : List PanicEntry := [{ v := .iface 39 (.int .i64 21), recovered := false }]

theorem fail_no (w : World) : Calls Try.prog 57 #[.bool false] w fun e w' => e = .returned (.tuple #[]) ∧ w = w' := by
  go_enter Try.func57, Try.ntmps57
  go_wp2_with fail
  go_end0
  exact ⟨rfl, rfl⟩
theorem fail_yes (w : World) : Calls Try.prog 57 #[.bool true] w fun e w' => e = .panicked gaveUp ∧ w = w' := by
  go_enter Try.func57, Try.ntmps57
  go_wp2_with fail
  exact ⟨rfl, rfl, rfl⟩

/-- How many bytes a letter's number has; 0: bytes; none: no letter. -/
def letterW (c : UInt8) : Option Nat := if c = 49 then some 1 else if c = 50 then some 2 else if c = 52 then some 4 else if c = 56 then some 8 else if c = 98 then some 0 else none
theorem width_digit (c : UInt8) (k : Nat) (h : (c = 49 ∧ k = 1) ∨ (c = 50 ∧ k = 2) ∨ (c = 52 ∧ k = 4) ∨ (c = 56 ∧ k = 8)) (w : World) :
    Calls Try.prog 58 #[.int .u8 (c.toNat : Int)] w fun e w' => e = .returned (.int .i64 k) ∧ w = w' := by
  rcases h with ⟨rfl, rfl⟩ | ⟨rfl, rfl⟩ | ⟨rfl, rfl⟩ | ⟨rfl, rfl⟩
  all_goals
    go_enter Try.func58, Try.ntmps58
    go_wp2_with fail
    go_ret
    exact ⟨rfl, rfl⟩
theorem width_b (w : World) : Calls Try.prog 58 #[.int .u8 98] w fun e w' => e = .returned (.int .i64 0) ∧ w = w' := by
  go_enter Try.func58, Try.ntmps58
  go_wp2_with fail
  refine (fail_no _).mono ?_
  rintro e w' ⟨rfl, rfl⟩
  go_wp2_with fail
  go_ret
  exact ⟨rfl, rfl⟩
theorem width_none (c : UInt8) (h : letterW c = none) (w : World) :
    Calls Try.prog 58 #[.int .u8 (c.toNat : Int)] w fun e w' => e = .panicked gaveUp ∧ w = w' := by
  have hn : c ≠ 49 ∧ c ≠ 50 ∧ c ≠ 52 ∧ c ≠ 56 ∧ c ≠ 98 := by
    unfold letterW at h
    refine ⟨?_, ?_, ?_, ?_, ?_⟩ <;> (rintro rfl; revert h; decide)
  obtain ⟨h1, h2, h3, h4, h5⟩ := hn
  have key : ∀ d : UInt8, c ≠ d → ((c.toNat : Int) == (d.toNat : Int)) = false := fun d hd => by
    rw [beq_eq_false_iff_ne]
    exact fun e => hd (UInt8.toNat_inj.1 (by omega))
  have q1 : ((c.toNat : Int) == 49) = false := key 49 h1
  have q2 : ((c.toNat : Int) == 50) = false := key 50 h2
  have q3 : ((c.toNat : Int) == 52) = false := key 52 h3
  have q4 : ((c.toNat : Int) == 56) = false := key 56 h4
  have q5 : ((c.toNat : Int) != 98) = true := by rw [bne, show ((c.toNat : Int) == 98) = false from key 98 h5]; rfl
  clear key h h1 h2 h3 h4 h5
  go_enter Try.func58, Try.ntmps58
  go_wp2_with fail
  refine (fail_yes _).mono ?_
  rintro e w' ⟨rfl, rfl⟩
  go_wp2_with fail
  exact ⟨rfl, rfl, rfl⟩

theorem errno_assert (v : Value) (xT : TypeId) (w : World) : (Instr.typeAssert (.iface 39 v) xT 39 false).run Try.prog w = .ok v w := by
  unfold Instr.typeAssert
  simp [go_sem]
set_option maxRecDepth 20000 in
/-- The deferred function of a call that gave up, and of one that didn't. -/
theorem caught_up (p : Addr) (x : Int) (w : World) (hc : w.cell? p = some (.int .i64 x)) (hz : w.frozen? p = false) :
    CallsD Try.prog 49 #[.pointer (some p)] (.panicking gaveUp) w fun e u' w' =>
      e = .returned (.tuple #[]) ∧ u' = .panicking [{ v := .iface 39 (.int .i64 21), recovered := true }] ∧ w' = w.setCell p (.int .i64 21) := by
  refine callsD_of_wpS Try.func49 rfl fun c₀ cs hu => ?_
  apply wpS_seq
  apply wpS_region
  simp [wpOpsS, go_sem, recoverD, hu, gaveUp, Try.ntmps49, Exit.thenS]
  apply wpS_seq
  apply wpS_region
  simp [wpOpsS, go_sem, recoverD, hu, gaveUp, Exit.thenS]
  refine wpS_cond (t := true) (by simp [Act.eval, Array.replicate]) ?_
  simp only [if_true]
  apply wpS_region
  simp [wpOpsS, go_sem, errno_assert, hc, hz, bodyPostS, results, Try.results49]
set_option maxRecDepth 20000 in
theorem caught_idle (p : Addr) (w : World) :
    CallsD Try.prog 49 #[.pointer (some p)] .returning w fun e u' w' => e = .returned (.tuple #[]) ∧ u' = .returning ∧ w' = w := by
  refine callsD_of_wpS Try.func49 rfl fun c₀ cs hu => ?_
  apply wpS_seq
  apply wpS_region
  simp [wpOpsS, go_sem, recoverD, hu, Try.ntmps49, Exit.thenS]
  apply wpS_seq
  apply wpS_region
  simp [wpOpsS, go_sem, recoverD, hu, Exit.thenS]
  refine wpS_cond (t := false) (by simp [Act.eval, Array.replicate]) ?_
  simp only [Bool.false_eq_true, if_false]
  refine wpS_of_wp (wp_skip ?_)
  cases c₀
  simp_all [bodyPostS, results, Try.results49]
end Go.Proofs.Ytanibabfdpgbbaa
