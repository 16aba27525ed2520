/- Words on memory: bytes that are read (RB), rows of bytes that are read (RRB), and what keeps them. No program in sight. -/
import Derived.WalkKit
namespace Go.Proofs.Ytbmbhjjgaomlhaa
open Go.RowKit

/-- Bytes as the model's values. -/
def bv (xs : List UInt8) : List Value := xs.map fun x => .int .u8 (x.toNat : Int)
theorem bv_length (xs : List UInt8) : (bv xs).length = xs.length := by simp [bv]
theorem bv_append (xs ys : List UInt8) : bv (xs ++ ys) = bv xs ++ bv ys := by simp [bv]
/-- The k-th byte (a name that the walk leaves alone). -/
def at8 (xs : List UInt8) (k : Nat) : UInt8 := xs.getD k 0
theorem bv_get (xs : List UInt8) (i : Nat) (h : i < xs.length) : (bv xs)[i]? = some (.int .u8 ((at8 xs i).toNat : Int)) := by
  simp [bv, at8, List.getElem?_eq_getElem h, List.getD_eq_getElem?_getD]

/-- The slice value's elements are the bytes xs (they are only read). -/
def RB (w : World) (A : Option Addr) (n c : Nat) (xs : List UInt8) : Prop :=
  xs.length = n ∧ n ≤ c ∧ c ≤ 9223372036854775807 ∧ (0 < n → ∃ b o, A = some ⟨b, o, none⟩ ∧ ∀ k, k < n → w.cell? ⟨b, o + k, none⟩ = some (.int .u8 ((at8 xs k).toNat : Int)))
/-- The k-th row of bytes (a name that the walk leaves alone). -/
def atL (xss : List (List UInt8)) (k : Nat) : List UInt8 := xss.getD k []
/-- The slice value's elements are slices whose elements are the bytes xss. -/
def RRB (w : World) (A : Option Addr) (n c : Nat) (xss : List (List UInt8)) : Prop :=
  xss.length = n ∧ n ≤ c ∧ c ≤ 9223372036854775807 ∧ (0 < n → ∃ b o, A = some ⟨b, o, none⟩ ∧ ∀ k, k < n → ∃ A' n' c', w.cell? ⟨b, o + k, none⟩ = some (.slice A' n' c') ∧ RB w A' n' c' (atL xss k))

theorem RB.below {w w1 : World} {A : Option Addr} {n c : Nat} {xs : List UInt8} (h : RB w A n c xs) (hb : Below w.heap.size w w1) : RB w1 A n c xs := by
  obtain ⟨h1, h2, h3, h4⟩ := h
  refine ⟨h1, h2, h3, fun hp => ?_⟩
  obtain ⟨b, o, e, hc⟩ := h4 hp
  refine ⟨b, o, e, fun k hk => ?_⟩
  have hk' := hc k hk
  rw [hb.cell (p := ⟨b, o + k, none⟩) (World.block_lt_of_cell? w _ hk')]
  exact hk'
theorem RRB.below {w w1 : World} {A : Option Addr} {n c : Nat} {xss : List (List UInt8)} (h : RRB w A n c xss) (hb : Below w.heap.size w w1) : RRB w1 A n c xss := by
  obtain ⟨h1, h2, h3, h4⟩ := h
  refine ⟨h1, h2, h3, fun hp => ?_⟩
  obtain ⟨b, o, e, hc⟩ := h4 hp
  refine ⟨b, o, e, fun k hk => ?_⟩
  obtain ⟨A', n', c', hk', hr⟩ := hc k hk
  refine ⟨A', n', c', ?_, hr.below hb⟩
  rw [hb.cell (p := ⟨b, o + k, none⟩) (World.block_lt_of_cell? w _ hk')]
  exact hk'
theorem below_alloc (w : World) (o : Obj) : Below w.heap.size w (w.alloc o) := (Below.refl _ _).alloc (Nat.le_refl _) o
theorem RB.alloc {w : World} {A : Option Addr} {n c : Nat} {xs : List UInt8} (h : RB w A n c xs) (o : Obj) : RB (w.alloc o) A n c xs := h.below (below_alloc w o)
theorem RRB.alloc {w : World} {A : Option Addr} {n c : Nat} {xss : List (List UInt8)} (h : RRB w A n c xss) (o : Obj) : RRB (w.alloc o) A n c xss := h.below (below_alloc w o)
theorem RB.nil (w : World) : RB w none 0 0 [] := ⟨rfl, Nat.le_refl _, by omega, fun h => absurd h (by omega)⟩
theorem RRB.nil (w : World) : RRB w none 0 0 [] := ⟨rfl, Nat.le_refl _, by omega, fun h => absurd h (by omega)⟩
/-- A new block of bytes. -/
theorem rb_new (w : World) (xs : List UInt8) (T : TypeId) (fr : Nat × Nat) (hl : xs.length ≤ 9223372036854775807) : RB (w.alloc (.cells (bv xs).toArray T fr)) (some ⟨w.heap.size, 0, none⟩) xs.length xs.length xs := by
  refine ⟨rfl, Nat.le_refl _, hl, fun _ => ⟨_, _, rfl, fun k hk => ?_⟩⟩
  rw [World.cell?_alloc_mark, Nat.zero_add, List.getElem?_toArray]
  exact bv_get xs k hk
/-- A new block of one slice. -/
theorem rrb_one {w : World} {A : Option Addr} {n c : Nat} {xs : List UInt8} (h : RB w A n c xs) (T : TypeId) : RRB (w.alloc (.cells #[.slice A n c] T)) (some ⟨w.heap.size, 0, none⟩) 1 1 [xs] := by
  refine ⟨rfl, Nat.le_refl _, by omega, fun _ => ⟨_, _, rfl, fun k hk => ?_⟩⟩
  obtain rfl : k = 0 := by omega
  exact ⟨A, n, c, by rw [World.cell?_alloc_mark]; rfl, h.alloc _⟩
/-- The same, the block's number spelled as it may be. -/
theorem rrb_one' {w : World} {A : Option Addr} {n c : Nat} {xs : List UInt8} (h : RB w A n c xs) (T : TypeId) (b : Nat) (hb : b = w.heap.size) : RRB (w.alloc (.cells #[.slice A n c] T)) (some ⟨b, 0, none⟩) 1 1 [xs] := by
  subst hb; exact rrb_one h T
theorem rb_new' (w : World) (xs : List UInt8) (T : TypeId) (fr : Nat × Nat) (hl : xs.length ≤ 9223372036854775807) (b : Nat) (hb : b = w.heap.size) : RB (w.alloc (.cells (bv xs).toArray T fr)) (some ⟨b, 0, none⟩) xs.length xs.length xs := by
  subst hb; exact rb_new w xs T fr hl
end Go.Proofs.Ytbmbhjjgaomlhaa
