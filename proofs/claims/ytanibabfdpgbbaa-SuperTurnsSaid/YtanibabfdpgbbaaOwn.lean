/- More on rows of one's own: what leaves them alone; parts of bytes that are read. No program in sight but for the types' numbers. -/
import Derived.Test.YtanibabfdpgbbaaFields2
import Derived.Laws.Strings
namespace Go.Proofs.Ytanibabfdpgbbaa
open Go.RowKit

theorem own_below {B : Nat} {e : TypeId} {k : Nat} {v : Value} {n : Nat} {xs : List Value} {w w' : World} (h : w.ownsRow B e k v n xs) (hb : Below w.heap.size w w') : w'.ownsRow B e k v n xs :=
  h.kept (row := none) ⟨hb.os, hb.tape, hb.output, hb.size, fun j hj _ => hb.block j hj⟩ (by cases hv : v.ownBlock <;> simp)
theorem OFields.below {w w' : World} {base : Nat} {v : Value} {l : List FieldD} (h : OFields w base v l) (hb : Below w.heap.size w w') : OFields w' base v l :=
  ⟨own_below h.row hb, h.num, fun f hf => own_below (h.bytes f hf) hb, h.len⟩
theorem OFields.mono {w : World} {base base' : Nat} {v : Value} {l : List FieldD} (h : OFields w base' v l) (hb : base ≤ base') : OFields w base v l :=
  ⟨own_mono h.row hb, h.num, fun f hf => own_mono (h.bytes f hf) hb, h.len⟩
theorem OFields.set {w : World} {base : Nat} {v : Value} {l : List FieldD} (h : OFields w base v l) (a : Addr) (u : Value) (hne : a.block < base) : OFields (w.setCell a u) base v l :=
  ⟨own_set h.row a u (fun e => by have := (h.row.lt _ e).1; omega), h.num, fun f hf => own_set (h.bytes f hf) a u (fun e => by have := ((h.bytes f hf).lt _ e).1; omega), h.len⟩

/-- Where a part of a slice begins. -/
def cutA (A : Option Addr) (c l : Nat) : Option Addr := if c = l then A else A.map (·.add l)
theorem RB.cut {w : World} {A : Option Addr} {n c : Nat} {xs : List UInt8} (h : RB w A n c xs) (l m : Nat) (hl : l + m ≤ n) : RB w (cutA A c l) m (c - l) ((xs.drop l).take m) := by
  obtain ⟨h1, h2, h3, h4⟩ := h
  refine ⟨by simp; omega, by omega, by omega, fun hp => ?_⟩
  obtain ⟨b, o, rfl, hc⟩ := h4 (by omega)
  refine ⟨b, o + l, ?_, fun k hk => ?_⟩
  · unfold cutA
    rw [if_neg (by omega), Option.map_some, add_none]
  · rw [Nat.add_assoc, hc (l + k) (by omega)]
    simp [at8, List.getD_eq_getElem?_getD, hk]
theorem RB.rest {w : World} {A : Option Addr} {n c : Nat} {xs : List UInt8} (h : RB w A n c xs) (l : Nat) (hl : l ≤ n) : RB w (cutA A c l) (n - l) (c - l) (xs.drop l) := by
  have := h.cut l (n - l) (by omega)
  rwa [List.take_of_length_le (by simp [h.1])] at this

theorem RB.first {w : World} {A : Option Addr} {n c : Nat} {xs : List UInt8} (h : RB w A n c xs) (k : Nat) (hk : k ≤ n) : RB w A k c (xs.take k) := by
  obtain ⟨h1, h2, h3, h4⟩ := h
  refine ⟨by simp; omega, by omega, h3, fun hp => ?_⟩
  obtain ⟨b, o, e, hc⟩ := h4 (by omega)
  refine ⟨b, o, e, fun j hj => ?_⟩
  rw [hc j (by omega)]
  simp [at8, List.getD_eq_getElem?_getD, hj]
theorem OFields.kept {w w1 w' : World} {base b : Nat} {v : Value} {l : List FieldD} (h : OFields w base v l) (h1 : OFields w1 base v l) (hg : w1.grownBy w' (some b)) (hb : w.heap.size ≤ b) : OFields w' base v l :=
  ⟨h1.row.kept hg (.inr fun e => by have := (h.row.lt _ e).2; omega), h.num, fun f hf => (h1.bytes f hf).kept hg (.inr fun e => by have := ((h.bytes f hf).lt _ e).2; omega), h.len⟩
theorem strOf_toList (xs : List UInt8) : (strOf xs).toList = xs := by
  rw [ByteArray.toList_eq]
  simp [strOf]
theorem str_eq (xs : List UInt8) : ((strOf xs).toList == (strOf xs).toList) = true := by simp
theorem str_ne {xs ys : List UInt8} (h : xs ≠ ys) : ((strOf xs).toList == (strOf ys).toList) = false := by
  rw [strOf_toList, strOf_toList, beq_eq_false_iff_ne]
  exact h
/-- The number of bytes. -/
def numOf (xs : List UInt8) : Nat := xs.foldl (fun n x => n * 256 + x.toNat) 0
theorem numOf_push (xs : List UInt8) (x : UInt8) : numOf (xs ++ [x]) = numOf xs * 256 + x.toNat := by simp [numOf]
theorem numOf_take (xs : List UInt8) (k : Nat) (h : k < xs.length) : numOf (xs.take (k + 1)) = numOf (xs.take k) * 256 + (at8 xs k).toNat := by
  rw [List.take_succ_eq_append_getElem h, numOf_push]
  simp [at8, List.getD_eq_getElem?_getD, h]
theorem numOf_lt (xs : List UInt8) (k : Nat) : numOf (xs.take k) < 256 ^ k := by
  induction k with
  | zero => simp [numOf]
  | succ k ih =>
    by_cases h : k < xs.length
    · rw [numOf_take xs k h, Nat.pow_succ]
      have := (at8 xs k).toNat_lt
      omega
    · rw [List.take_of_length_le (by omega)]
      rw [List.take_of_length_le (by omega)] at ih
      rw [Nat.pow_succ]
      omega
theorem numOf_small (xs : List UInt8) (k : Nat) (h : k ≤ 8) : numOf (xs.take k) < 18446744073709551616 := by
  have h1 := numOf_lt xs k
  have h2 : (256 : Nat) ^ k ≤ 256 ^ 8 := Nat.pow_le_pow_right (by decide) h
  omega
/-- A new block of fields. -/
theorem rfields_new {w : World} (l : List FieldD) (T : TypeId) (b : Nat) (hb : b = w.heap.size) (cs : Array Value) (hcs : cs.toList = fcells l) (hl : l.length ≤ 9223372036854775807) (hok : ∀ f ∈ l, FieldOk w f) : RFields (w.alloc (.cells cs T)) (some ⟨b, 0, none⟩) l.length l.length l := by
  subst hb
  refine ⟨rfl, Nat.le_refl _, hl, fun _ => ⟨_, _, rfl, fun k hk => ⟨fun j u hj => ?_, (hok _ (by rw [fieldAt_get hk]; exact List.getElem_mem _)).below (below_alloc _ _)⟩⟩⟩
  rw [World.cell?_alloc_mark, Nat.zero_add]
  have := fcells_get l k hk j u hj
  rw [← hcs] at this
  simpa using this
theorem rfields_nil (w : World) : RFields w none 0 0 [] := ⟨rfl, Nat.le_refl _, by omega, fun h => absurd h (by omega)⟩
end Go.Proofs.Ytanibabfdpgbbaa
