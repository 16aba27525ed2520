/- What a call that appends to a row of one's own leaves alone. -/
import Derived.Test.YtoghmakbdhepfaaMem
import Derived.Laws.CopyOwn
namespace Go.Proofs.Ytoghmakbdhepfaa
open Go.RowKit

/-- From w to w' nothing but the row v's block has changed and what is new; the row v' lies in that block or in a new one. -/
structure Onto (w w' : World) (v v' : Value) : Prop where
  size : w.heap.size ≤ w'.heap.size
  block : ∀ k, k < w.heap.size → v.ownBlock ≠ some k → w'.heap[k]? = w.heap[k]?
  at_ : ∀ g, v'.ownBlock = some g → v.ownBlock = some g ∨ w.heap.size ≤ g
section
variable {w w1 w2 : World} {v v1 v2 : Value}
theorem Onto.refl (w : World) (v : Value) : Onto w w v v := ⟨Nat.le_refl _, fun _ _ _ => rfl, fun _ h => .inl h⟩
theorem Onto.alloc (h : Onto w w1 v v1) (o : Obj) : Onto w (w1.alloc o) v v1 :=
  ⟨by simp; have := h.size; omega, fun k hk hv => (Go.heap_alloc_old _ _ (Nat.lt_of_lt_of_le hk h.size)).trans (h.block k hk hv), h.at_⟩
theorem Onto.drew (h : Onto w w1 v v1) : Onto w w1.drew v v1 := ⟨h.size, h.block, h.at_⟩
theorem Onto.trans (h : Onto w w1 v v1) (k : Onto w1 w2 v1 v2) : Onto w w2 v v2 :=
  ⟨Nat.le_trans h.size k.size, fun i hi hv => (k.block i (Nat.lt_of_lt_of_le hi h.size) (fun e => by
    rcases h.at_ i e with e | e
    · exact hv e
    · omega)).trans (h.block i hi hv), fun g hg => by
    rcases k.at_ g hg with e | e
    · exact h.at_ g e
    · exact .inr (Nat.le_trans h.size e)⟩
theorem Onto.grown (h : Onto w w1 v v1) (hg : w1.grownBy w2 v1.ownBlock) (ha : v2.ownBlock = v1.ownBlock ∨ v2.ownBlock = some w1.heap.size) : Onto w w2 v v2 :=
  ⟨Nat.le_trans h.size hg.size, fun i hi hv => (hg.block i (Nat.lt_of_lt_of_le hi h.size) (fun e => by
    rcases h.at_ i e.symm with e | e
    · exact hv e
    · omega)).trans (h.block i hi hv), fun g hgg => by
    rcases ha with e | e
    · exact h.at_ g (e ▸ hgg)
    · rw [e] at hgg
      injection hgg with hgg
      exact .inr (hgg ▸ h.size)⟩
theorem Onto.below (h : Onto w w1 v v1) (hb : Below w1.heap.size w1 w2) : Onto w w2 v v1 :=
  ⟨Nat.le_trans h.size hb.size, fun i hi hv => (hb.block i (Nat.lt_of_lt_of_le hi h.size)).trans (h.block i hi hv), h.at_⟩
end
end Go.Proofs.Ytoghmakbdhepfaa
