/- Sectors in memory, beside disks. -/
import Derived.Test.YtoghmakbdhepfaaSec
import Derived.Laws.CopyOwn
namespace Go.Proofs.Ytoghmakbdhepfaa
open Go.RowKit

/-- A block that holds a sector. -/
def SecAt (w : World) (g : Nat) (l : List UInt8) : Prop := w.heap[g]? = some (.cells (bv l).toArray 28 (0, 0)) ∧ l.length = 128
theorem SecAt.kp {w w' : World} {g : Nat} {l : List UInt8} {S : Nat → Prop} (h : SecAt w g l) (hk : Kp S w w') (hg : ¬ S g) : SecAt w' g l := ⟨(hk.block g (lt_of_heap h.1) hg).trans h.1, h.2⟩
theorem SecAt.below {w w' : World} {g : Nat} {l : List UInt8} (h : SecAt w g l) (hb : Below w.heap.size w w') : SecAt w' g l := ⟨(hb.block g (lt_of_heap h.1)).trans h.1, h.2⟩
theorem SecAt.new (w : World) (l : List UInt8) (hl : l.length = 128) : SecAt (w.alloc (.cells (bv l).toArray 28)) w.heap.size l := ⟨heap_alloc_new w _, hl⟩
theorem SecAt.cell {w : World} {g : Nat} {l : List UInt8} (h : SecAt w g l) (j : Nat) (hj : j < 128) : w.cell? ⟨g, j, none⟩ = some (.int .u8 ((at8 l j).toNat : Int)) := by
  rw [cell_of_row w g j _ _ _ h.1, List.getElem?_toArray]
  exact bv_get l j (by rw [h.2]; exact hj)
theorem SecAt.range {w : World} {g : Nat} {l : List UInt8} (h : SecAt w g l) : w.rangeAt g 0 (bv l) := by
  intro j v hj
  have hlt : j < l.length := by have := (List.getElem?_eq_some_iff.1 hj).1; rwa [bv_length] at this
  rw [bv_get l j hlt] at hj
  rw [Nat.zero_add, h.cell j (by rw [← h.2]; exact hlt)]
  exact hj
/-- A part of a sector is read. -/
theorem SecAt.rb {w : World} {g : Nat} {l : List UInt8} (h : SecAt w g l) (o n c : Nat) (ho : o + n ≤ 128) (hc : n ≤ c) (hc2 : c ≤ 9223372036854775807) : RB w (some ⟨g, o, none⟩) n c ((l.drop o).take n) := by
  refine ⟨by simp [h.2]; omega, hc, hc2, fun _ => ⟨g, o, rfl, fun k hk => ?_⟩⟩
  rw [h.cell (o + k) (by omega)]
  simp [at8, List.getD_eq_getElem?_getD, hk]
theorem bv_splice (l : List UInt8) (o : Nat) (xs : List UInt8) : splice (bv l) o (bv xs) = bv (splice l o xs) := by simp [splice, bv]
theorem splice_at {α : Type} (a b b' c : List α) (h : b'.length = b.length) : splice (a ++ (b ++ c)) a.length b' = a ++ (b' ++ c) := by
  unfold splice
  rw [List.take_left, ← List.drop_drop, List.drop_left, h, List.drop_left]
theorem setCells_heap (g : Nat) (T : TypeId) : ∀ (cs : List Value) (c : Array Value) (o : Nat) (w : World), w.heap[g]? = some (.cells c T) → o + cs.length ≤ c.size →
    (w.setCells g o cs).heap[g]? = some (.cells (splice c.toList o cs).toArray T) ∧ Kp (· = g) w (w.setCells g o cs)
  | [], c, o, w, h, _ => ⟨by simpa [World.setCells, splice] using h, Kp.refl _ _⟩
  | v :: r, c, o, w, h, hl => by
    have h1 := heap_setCell_same w g o c T v h
    obtain ⟨h2, h3⟩ := setCells_heap g T r (c.setIfInBounds o v) (o + 1) (w.setCell ⟨g, o, none⟩ v) h1 (by simp at hl ⊢; omega)
    refine ⟨?_, ((Kp.refl (· = g) w).setCell ⟨g, o, none⟩ v (fun _ => rfl)).trans h3 (fun i _ e => e)⟩
    simp only [World.setCells]
    rw [h2, Array.toList_setIfInBounds, splice_set _ _ _ _ (by simp at hl ⊢; omega)]
section
variable {ops : Array Oper} {rest : List Oper} {op : Oper} {a : Act} {w : World} {Q : Exit → Act → World → Prop}
/-- A sector is stored over another. -/
theorem st37_at (hgd : op.guard = none) (x y : Operand) (ho : op.op = .store 28 x y) (g : Nat) (l0 : List UInt8) (hx : a.eval x = .pointer (some ⟨g, 0, none⟩)) (hg : SecAt w g l0) (l : List UInt8) (hy : a.eval y = secV l) (hl : l.length = 128)
    (h : ∀ w', SecAt w' g l → Kp (· = g) w w' → wpList Try.prog ops Q rest (a.put op.dst undef) w') : wpList Try.prog ops Q (op :: rest) a w := by
  have hc := setCells_heap g 28 (bv l) (bv l0).toArray 0 w hg.1 (by simp [bv_length, hl, hg.2])
  refine wpList_store_mid hgd _ x y ho _ 0 (bv l).toArray hx hy ?_ (Try.size37.trans (by simp [bv_length, hl])) (all_oneCell_toArray (bv_one l)) ?_
  · intro j hj
    have hj' : j < 128 := by simpa [bv_length, hl] using hj
    rw [Nat.zero_add]
    exact ⟨by rw [hg.cell j hj']; rfl, frozen_of_row _ _ _ _ _ hg.1⟩
  · refine h _ ⟨?_, hl⟩ ?_
    · have h2 := hc.1
      have e2 : splice (bv l0).toArray.toList 0 (bv l) = bv l := by
        simp only [splice, List.take_zero, List.nil_append, Nat.zero_add]
        rw [List.drop_eq_nil_of_le (by simp [bv_length, hl, hg.2]), List.append_nil]
      rw [e2] at h2
      simpa using h2
    · simpa using hc.2
end
end Go.Proofs.Ytoghmakbdhepfaa
