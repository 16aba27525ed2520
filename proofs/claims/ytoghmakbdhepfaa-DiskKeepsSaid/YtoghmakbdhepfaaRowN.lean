/- Structs of a few cells: loads and stores as laws for the walk; no program in sight. -/
import Derived.Test.YtoghmakbdhepfaaSect
namespace Go.Proofs.Ytoghmakbdhepfaa
open Go.RowKit

/-- A block that holds just the cells cs. -/
def RowAt (w : World) (g : Nat) (t : TypeId) (cs : List Value) : Prop := w.heap[g]? = some (.cells cs.toArray t (0, 0))
theorem RowAt.kp {w w' : World} {g : Nat} {t : TypeId} {cs : List Value} {S : Nat → Prop} (h : RowAt w g t cs) (hk : Kp S w w') (hg : ¬ S g) : RowAt w' g t cs := (hk.block g (lt_of_heap h) hg).trans h
theorem RowAt.below {w w' : World} {g : Nat} {t : TypeId} {cs : List Value} (h : RowAt w g t cs) (hb : Below w.heap.size w w') : RowAt w' g t cs := (hb.block g (lt_of_heap h)).trans h
theorem RowAt.new (w : World) (t : TypeId) (cs : List Value) : RowAt (w.alloc (.cells cs.toArray t)) w.heap.size t cs := heap_alloc_new w _
theorem RowAt.cell {w : World} {g : Nat} {t : TypeId} {cs : List Value} (h : RowAt w g t cs) (j : Nat) (u : Value) (hj : cs[j]? = some u) : w.cell? ⟨g, j, none⟩ = some u := by
  rw [cell_of_row w g j _ _ _ h, List.getElem?_toArray]
  exact hj
theorem RowAt.range {w : World} {g : Nat} {t : TypeId} {cs : List Value} (h : RowAt w g t cs) : w.rangeAt g 0 cs := by
  intro j v hj
  rw [Nat.zero_add]
  exact h.cell j v hj
section
variable {P : Program} {ops : Array Oper} {rest : List Oper} {op : Oper} {a : Act} {w : World} {Q : Exit → Act → World → Prop}
theorem ldN (t : TypeId) (cs : List Value) (hgd : op.guard = none) (x : Operand) (ho : op.op = .load t x) (b o : Nat) (hx : a.eval x = .pointer (some ⟨b, o, none⟩)) (hc : w.rangeAt b o cs) {d : TypeDesc} (hu : P.underlying t = some d) (hd : d.isRow = true) (hi : (P.info? t).map (·.size) = some cs.length)
    (h : wpList P ops Q rest (a.put op.dst (.agg cs.toArray)) w) : wpList P ops Q (op :: rest) a w :=
  wpList_load_mid hgd _ x ho b o hx cs _ hc hu hd hi h
/-- A struct is stored into a new variable of its own. -/
theorem stN (t : TypeId) (cs : List Value) (hgd : op.guard = none) (x y : Operand) (ho : op.op = .store t x y) (c : Array Value) (b : Nat) (hx : a.eval x = .pointer (some ⟨b, 0, none⟩)) (hb : b = w.heap.size) (hy : a.eval y = .agg cs.toArray) (h1 : ∀ u ∈ cs, u.oneCell' = true) (hi : (P.info? t).map (·.size) = some cs.length) (hs : c.size = cs.length)
    (h : wpList P ops Q rest (a.put op.dst undef) (w.alloc (.cells cs.toArray t))) : wpList P ops Q (op :: rest) a (w.alloc (.cells c t)) := by
  subst hb
  refine wpList_store_mid hgd _ x y ho _ 0 cs.toArray hx hy ?_ (hi.trans (by simp)) (all_oneCell_toArray h1) ?_
  · have := there_alloc w c t
    simpa [hs] using this
  · rcases setCells_alloc w t (0, 0) cs c 0 with e | e
    · have e2 : splice c.toList 0 cs = cs := by
        simp only [splice, List.take_zero, List.nil_append, Nat.zero_add]
        rw [List.drop_eq_nil_of_le (by simp [hs]), List.append_nil]
      rw [e2] at e
      simpa only [List.toList_toArray, e] using h
    · simp [hs] at e
/-- A struct is stored over another. -/
theorem stN_at (t : TypeId) (cs cs0 : List Value) (hgd : op.guard = none) (x y : Operand) (ho : op.op = .store t x y) (g : Nat) (hx : a.eval x = .pointer (some ⟨g, 0, none⟩)) (hg : RowAt w g t cs0) (hy : a.eval y = .agg cs.toArray) (h1 : ∀ u ∈ cs, u.oneCell' = true) (hi : (P.info? t).map (·.size) = some cs.length) (hs : cs0.length = cs.length)
    (h : ∀ w', RowAt w' g t cs → Kp (· = g) w w' → wpList P ops Q rest (a.put op.dst undef) w') : wpList P ops Q (op :: rest) a w := by
  have hc := setCells_heap g t cs cs0.toArray 0 w hg (by simp [hs])
  refine wpList_store_mid hgd _ x y ho _ 0 cs.toArray hx hy ?_ (hi.trans (by simp)) (all_oneCell_toArray h1) ?_
  · intro j hj
    have hj' : j < cs0.length := by simpa [hs] using hj
    rw [Nat.zero_add]
    exact ⟨by rw [hg.cell j cs0[j] (List.getElem?_eq_getElem hj')]; rfl, frozen_of_row _ _ _ _ _ hg⟩
  · refine h _ ?_ ?_
    · have h2 := hc.1
      have e2 : splice cs0.toArray.toList 0 cs = cs := by
        simp only [splice, List.take_zero, List.nil_append, Nat.zero_add]
        rw [List.drop_eq_nil_of_le (by simp [hs]), List.append_nil]
      rw [e2] at h2
      simpa [RowAt] using h2
    · simpa using hc.2
end
end Go.Proofs.Ytoghmakbdhepfaa
