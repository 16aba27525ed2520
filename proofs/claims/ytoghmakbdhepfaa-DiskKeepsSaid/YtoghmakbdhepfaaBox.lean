/- Boxes: a variable's own block, and acts in them. -/
import Derived.Test.YtoghmakbdhepfaaAct
namespace Go.Proofs.Ytoghmakbdhepfaa
open Go.RowKit

/-- The block b holds just the cells cs. -/
def Box (w : World) (b : Nat) (t : TypeId) (cs : List Value) : Prop := w.heap[b]? = some (.cells cs.toArray t (0, 0))
section
variable {w w' : World} {b : Nat} {t : TypeId} {cs cs' : List Value}
theorem Box.new (w : World) (cs : List Value) (t : TypeId) : Box (w.alloc (.cells cs.toArray t)) w.heap.size t cs := heap_alloc_new w _
theorem Box.lt (h : Box w b t cs) : b < w.heap.size := lt_of_heap h
theorem Box.range (h : Box w b t cs) : w.rangeAt b 0 cs := fun j u hj => by
  rw [cell_of_row w b _ _ _ _ h, Nat.zero_add, List.getElem?_toArray]
  exact hj
theorem Box.cell (h : Box w b t cs) (j : Nat) (u : Value) (hj : cs[j]? = some u) : w.cell? ⟨b, j, none⟩ = some u := by
  have := h.range j u hj
  rwa [Nat.zero_add] at this
theorem Box.there (h : Box w b t cs) : w.there b 0 cs.length := fun j hj => by
  rw [cell_of_row w b _ _ _ _ h, Nat.zero_add, List.getElem?_toArray]
  exact ⟨by rw [List.getElem?_eq_getElem hj]; rfl, frozen_of_row w b j _ _ h⟩
theorem Box.kp (h : Box w b t cs) {S : Nat → Prop} (hk : Kp S w w') (hb : ¬ S b) : Box w' b t cs := (hk.block b h.lt hb).trans h
theorem Box.old (h : Box w b t cs) (o : Obj) : Box (w.alloc o) b t cs := h.kp (S := fun _ => False) (Kp.of_below (below_alloc w o)) (fun hf => hf)
theorem Box.below (h : Box w b t cs) (hb : Below w.heap.size w w') : Box w' b t cs := h.kp (S := fun _ => False) (Kp.of_below hb) (fun hf => hf)
theorem Box.set (h : Box w b t cs) (hl : cs'.length = cs.length) : Box (w.setCells b 0 cs') b t cs' := by
  have := heap_setCells_same b cs' 0 w cs t h (by omega)
  have e2 : splice cs 0 cs' = cs' := by
    simp only [splice, List.take_zero, List.nil_append, Nat.zero_add]
    rw [List.drop_eq_nil_of_le (by omega), List.append_nil]
  rwa [e2] at this
end

theorem Try.size40 : (Try.prog.info? 31).map (·.size) = some 132 := by kernel_rfl
/-- An act as a value. -/
def actV (a : ActD) : Value := .agg (actCells a).toArray
theorem actCells_one (a : ActD) : ∀ u ∈ actCells a, u.oneCell' = true := by
  intro u hu
  simp only [actCells, List.mem_cons, List.mem_append, List.not_mem_nil, or_false] at hu
  rcases hu with rfl | rfl | rfl | hu | rfl
  · rfl
  · rfl
  · rfl
  · exact bv_one _ u hu
  · rfl
section
variable {ops : Array Oper} {rest : List Oper} {op : Oper} {a : Act} {w : World} {Q : Exit → Act → World → Prop}
/-- An act is loaded. -/
theorem ld40 (hgd : op.guard = none) (x : Operand) (ho : op.op = .load 31 x) (b o : Nat) (hx : a.eval x = .pointer (some ⟨b, o, none⟩)) (y : ActD) (hc : w.rangeAt b o (actCells y)) (hl : y.data.length = 128)
    (h : wpList Try.prog ops Q rest (a.put op.dst (actV y)) w) : wpList Try.prog ops Q (op :: rest) a w :=
  wpList_load_mid hgd _ x ho b o hx _ _ hc Try.underlying31 rfl (Try.size40.trans (by rw [actCells_length y hl])) h
/-- An act is stored into a new variable of its own. -/
theorem st40 (hgd : op.guard = none) (x y : Operand) (ho : op.op = .store 31 x y) (c : Array Value) (b : Nat) (hx : a.eval x = .pointer (some ⟨b, 0, none⟩)) (hb : b = w.heap.size) (z : ActD) (hy : a.eval y = actV z) (hl : z.data.length = 128) (hs : c.size = 132)
    (h : wpList Try.prog ops Q rest (a.put op.dst undef) (w.alloc (.cells (actCells z).toArray 31))) : wpList Try.prog ops Q (op :: rest) a (w.alloc (.cells c 31)) := by
  subst hb
  have hz := actCells_length z hl
  refine wpList_store_mid hgd _ x y ho _ 0 (actCells z).toArray hx hy ?_ (Try.size40.trans (by simp [hz])) (all_oneCell_toArray (actCells_one z)) ?_
  · have := there_alloc w c 31
    simpa [hz, hs] using this
  · rcases setCells_alloc w 31 (0, 0) (actCells z) c 0 with e | e
    · have e2 : splice c.toList 0 (actCells z) = actCells z := by
        simp only [splice, List.take_zero, List.nil_append, Nat.zero_add]
        rw [List.drop_eq_nil_of_le (by simp [hz, hs]), List.append_nil]
      rw [e2] at e
      simpa only [List.toList_toArray, e] using h
    · simp [hz, hs] at e
/-- A sector is stored into a box. -/
theorem st37_over (hgd : op.guard = none) (x y : Operand) (ho : op.op = .store 28 x y) (b : Nat) (hx : a.eval x = .pointer (some ⟨b, 0, none⟩)) (l l0 : List UInt8) (hb : Box w b 28 (bv l0)) (hy : a.eval y = secV l) (hl : l.length = 128) (hl0 : l0.length = 128)
    (h : wpList Try.prog ops Q rest (a.put op.dst undef) (w.setCells b 0 (bv l))) : wpList Try.prog ops Q (op :: rest) a w := by
  refine wpList_store_mid hgd _ x y ho _ 0 (bv l).toArray hx hy ?_ (Try.size37.trans (by simp [bv_length, hl])) (all_oneCell_toArray (bv_one l)) ?_
  · have := hb.there
    simpa [bv_length, hl, hl0] using this
  · simpa only [List.toList_toArray] using h
end
end Go.Proofs.Ytoghmakbdhepfaa
