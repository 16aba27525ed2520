/- Loads and stores of structs of a few cells; no program in sight but for sizes. -/
import Derived.Test.YtanibabfdpgbbaaMem
import Derived.Deep.MidRow
import Derived.KernelRfl
import Derived.Test.YtanibabfdpgbbaaProg
namespace Go.Proofs.Ytanibabfdpgbbaa
open Go.RowKit

theorem Try.size87 : (Try.prog.info? 83).map (·.size) = some 2 := by kernel_rfl
section
variable {P : Program} {ops : Array Oper} {rest : List Oper} {op : Oper} {a : Act} {w : World} {Q : Exit → Act → World → Prop}
theorem ld2 (t : TypeId) (hgd : op.guard = none) (x : Operand) (ho : op.op = .load t x) (b o : Nat) (hx : a.eval x = .pointer (some ⟨b, o, none⟩)) (u v : Value) (hc : w.rangeAt b o [u, v]) {d : TypeDesc} (hu : P.underlying t = some d) (hd : d.isRow = true) (hi : (P.info? t).map (·.size) = some 2)
    (h : wpList P ops Q rest (a.put op.dst (.agg #[u, v])) w) : wpList P ops Q (op :: rest) a w :=
  wpList_load_mid hgd _ x ho b o hx _ _ hc hu hd hi h
/-- A struct of two cells is stored into a new variable of its own. -/
theorem st2 (t : TypeId) (hgd : op.guard = none) (x y : Operand) (ho : op.op = .store t x y) (c : Array Value) (b : Nat) (hx : a.eval x = .pointer (some ⟨b, 0, none⟩)) (hb : b = w.heap.size) (u v : Value) (hy : a.eval y = .agg #[u, v]) (h1 : u.oneCell' = true) (h2 : v.oneCell' = true) (hi : (P.info? t).map (·.size) = some 2) (hs : c.size = 2)
    (h : wpList P ops Q rest (a.put op.dst undef) (w.alloc (.cells #[u, v] t))) : wpList P ops Q (op :: rest) a (w.alloc (.cells c t)) := by
  subst hb
  refine wpList_store_mid hgd _ x y ho _ 0 #[u, v] hx hy ?_ hi (by simp [h1, h2]) ?_
  · intro j hj
    rw [Nat.zero_add]
    have hj : j < c.size := by rw [hs]; simpa using hj
    refine ⟨?_, frozen_of_row _ _ _ c t (heap_alloc_new w _)⟩
    rw [World.cell?_alloc_mark, Array.getElem?_eq_getElem hj]
    rfl
  · match c, hs with
    | ⟨[x, y]⟩, _ =>
      simp only [World.setCells]
      rw [World.setCell_alloc_new, World.setCell_alloc_new]
      exact h
end
end Go.Proofs.Ytanibabfdpgbbaa
