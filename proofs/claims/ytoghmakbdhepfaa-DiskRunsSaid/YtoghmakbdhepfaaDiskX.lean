/- More on disks as data: live disks; what is read behind a write and a flush. -/
import Derived.Test.YtoghmakbdhepfaaDiskW5
namespace Go.Proofs.Ytoghmakbdhepfaa
open Go.RowKit

theorem power_live (d : Dk) (h : d.dead = false) (hf : d.fuel < 0) : d.power = (d, true) := by
  unfold Dk.power
  have hn : ¬ (d.dead = true ∨ d.fuel = 0) := fun h1 => by
    rcases h1 with h1 | h1
    · rw [h] at h1; cases h1
    · omega
  rw [if_neg hn, if_neg (by omega)]
/-- A live disk: it has no fuel to run out of. -/
def Dk.live (d : Dk) : Prop := d.fuel = -1 ∧ d.dead = false
theorem Dk.live.power {d : Dk} (h : d.live) : d.power = (d, true) := power_live d h.2 (by rw [h.1]; decide)

theorem applyW_append (st : List (List UInt8)) (l l' : List (Nat × List UInt8)) : applyW st (l ++ l') = applyW (applyW st l) l' := List.foldl_append
theorem secAt_applyW : ∀ (l : List (Nat × List UInt8)) (st : List (List UInt8)) (k : Nat), (∀ x ∈ l, x.1 < st.length) → secAt (applyW st l) k = lastW l k (secAt st k)
  | [], _, _, _ => rfl
  | x :: l, st, k, h => by
    have hx := h x List.mem_cons_self
    show secAt (applyW (st.set x.1 x.2) l) k = lastW l k (if x.1 = k then x.2 else secAt st k)
    rw [secAt_applyW l _ k (fun y hy => by rw [List.length_set]; exact h y (List.mem_cons_of_mem _ hy))]
    congr 1
    by_cases e : x.1 = k
    · subst e
      rw [if_pos rfl, secAt, List.getD_eq_getElem?_getD, List.getElem?_set_self hx]
      rfl
    · rw [if_neg e, secAt, List.getD_eq_getElem?_getD, List.getElem?_set_ne e, secAt, List.getD_eq_getElem?_getD]
theorem read_flushed (d : Dk) (k : Nat) (h : ∀ x ∈ d.pend, x.1 < d.stable.length) : d.flushed.read k = d.read k := by
  show lastW [] k (secAt (applyW d.stable d.pend) k) = lastW d.pend k (secAt d.stable k)
  rw [secAt_applyW _ _ _ h]
  rfl
theorem read_push (d : Dk) (k i : Nat) (l : List UInt8) : ({ d with pend := d.pend ++ [(i, l)] } : Dk).read k = if i = k then l else d.read k := by
  show lastW (d.pend ++ [(i, l)]) k (secAt d.stable k) = _
  rw [lastW_append]
  rfl
theorem read_len {w : World} {base p s : Nat} {v : Value} {d : Dk} (h : DiskAt w base p s v d) (k : Nat) (hk : k < d.stable.length) : (d.read k).length = 128 :=
  lastW_len _ _ _ (h.swid k hk) (fun x hx => (h.pin x hx).2)
end Go.Proofs.Ytoghmakbdhepfaa
