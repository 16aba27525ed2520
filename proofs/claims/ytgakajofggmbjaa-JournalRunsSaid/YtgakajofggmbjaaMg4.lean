/- A disk in memory and as plain data: what its words mean, and what keeps them. -/
import Derived.Test.YtgakajofggmbjaaMg1
import Derived.Test.YtgakajofggmbjaaMg3
import Derived.Deep.MidRow
import Derived.Laws.CopyOwn
import Derived.Test.YtgakajofggmbjaaProg
import Derived.KernelRfl
import Derived.Stop.BytesEq
namespace Go.Proofs.Ytgakajofggmbjaa
open Go.RowKit

/-! ### What a call keeps: all blocks but those of S, and what is new -/
structure Kp (S : Nat → Prop) (w w' : World) : Prop where
  os : w'.os = w.os
  tape : w'.tape = w.tape
  output : w'.output = w.output
  size : w.heap.size ≤ w'.heap.size
  block : ∀ k, k < w.heap.size → ¬ S k → w'.heap[k]? = w.heap[k]?
theorem Kp.refl (S : Nat → Prop) (w : World) : Kp S w w := ⟨rfl, rfl, rfl, Nat.le_refl _, fun _ _ _ => rfl⟩
theorem Kp.trans {S S' : Nat → Prop} {a b c : World} (h : Kp S a b) (k : Kp S' b c) (hs : ∀ i, i < a.heap.size → S' i → S i) : Kp S a c :=
  ⟨k.os.trans h.os, k.tape.trans h.tape, k.output.trans h.output, Nat.le_trans h.size k.size, fun i hi hn =>
    (k.block i (Nat.lt_of_lt_of_le hi h.size) (fun hq => hn (hs i hi hq))).trans (h.block i hi hn)⟩
theorem Kp.imp {S S' : Nat → Prop} {a b : World} (h : Kp S a b) (hs : ∀ i, i < a.heap.size → S i → S' i) : Kp S' a b :=
  ⟨h.os, h.tape, h.output, h.size, fun i hi hn => h.block i hi (fun hq => hn (hs i hi hq))⟩
theorem Kp.below {S : Nat → Prop} {B : Nat} {a b : World} (h : Kp S a b) (hB : B ≤ a.heap.size) (hs : ∀ i, S i → B ≤ i) : Below B a b :=
  ⟨h.os, h.tape, h.output, h.size, fun i hi => h.block i (by omega) (fun hq => by have := hs i hq; omega)⟩
theorem Kp.of_below {S : Nat → Prop} {a b : World} (h : Below a.heap.size a b) : Kp S a b := ⟨h.os, h.tape, h.output, h.size, fun i hi _ => h.block i hi⟩
theorem Kp.of_grown {S : Nat → Prop} {a b : World} {row : Option Nat} (h : a.grownBy b row) (hs : ∀ k, row = some k → S k) : Kp S a b :=
  ⟨h.os, h.tape, h.output, h.size, fun i hi hn => h.block i hi (fun e => hn (hs i e.symm))⟩
theorem Kp.alloc {S : Nat → Prop} {a b : World} (h : Kp S a b) (o : Obj) : Kp S a (b.alloc o) :=
  h.trans (Kp.of_below (S := fun _ => False) (below_alloc b o)) (fun _ _ hf => hf.elim)
theorem Kp.drew {S : Nat → Prop} {a b : World} (h : Kp S a b) : Kp S a b.drew := ⟨h.os, h.tape, h.output, h.size, h.block⟩
theorem Kp.drewN {S : Nat → Prop} {a b : World} (h : Kp S a b) (n : Nat) : Kp S a (b.drewN n) := ⟨h.os, h.tape, h.output, h.size, h.block⟩
theorem Kp.setCell {S : Nat → Prop} {a b : World} (h : Kp S a b) (p : Addr) (u : Value) (hp : p.block < a.heap.size → S p.block) : Kp S a (b.setCell p u) :=
  ⟨h.os, h.tape, h.output, by simp [World.setCell]; exact h.size, fun i hi hn => by
    rw [Below.heap_setCell _ _ _ _ (fun e => hn (by rw [e]; exact hp (by omega)))]
    exact h.block i hi hn⟩

/-- Blocks of other types are other blocks. -/
theorem ne_of_types {w : World} {a b : Nat} {c c' : Array Value} {t t' : TypeId} {f f' : Nat × Nat} (h : w.heap[a]? = some (.cells c t f)) (h' : w.heap[b]? = some (.cells c' t' f')) (ht : t ≠ t') : a ≠ b := by
  rintro rfl
  rw [h] at h'
  injection h' with h'
  injection h' with _ h2
  exact ht h2
theorem own_ne {w : World} {base n size : Nat} {e t : TypeId} {v : Value} {xs : List Value} {b : Nat} {c : Array Value} {f : Nat × Nat} (h : w.ownsRow base e size v n xs) (h' : w.heap[b]? = some (.cells c t f)) (ht : e ≠ t) : v.ownBlock ≠ some b := by
  intro hk
  rcases h.2 with ⟨rfl, _⟩ | ⟨g, cap, cur, rfl, _, hg, _⟩
  · simp [Value.ownBlock] at hk
  · have : g = b := by simpa [Value.ownBlock] using hk
    subst this
    exact ne_of_types hg h' ht rfl
theorem lt_of_heap {w : World} {b : Nat} {o : Obj} (h : w.heap[b]? = some o) : b < w.heap.size := (Array.getElem?_eq_some_iff.1 h).1

/-! ### Sectors -/
/-- A sector of zeros (a name that the walk leaves alone). -/
def zsec : List UInt8 := List.replicate 128 0
theorem zsec_length : zsec.length = 128 := by simp [zsec]
/-- A sector as a value. -/
def secV (x : List UInt8) : Value := .agg (bv x).toArray
/-- The cells of sectors in a row. -/
def secs (l : List (List UInt8)) : List Value := bv l.flatten
/-- The cells of writes in a row. -/
def pcells (l : List (Nat × List UInt8)) : List Value := l.flatMap fun x => Value.int .i64 (x.1 : Int) :: bv x.2
theorem secs_length (l : List (List UInt8)) (h : ∀ x ∈ l, x.length = 128) : (secs l).length = l.length * 128 := by
  induction l with
  | nil => rfl
  | cons x l ih =>
    have := ih fun y hy => h y (List.mem_cons_of_mem _ hy)
    have hx := h x List.mem_cons_self
    simp only [secs, bv_length, List.flatten_cons, List.length_append, List.length_cons] at this ⊢
    omega
theorem pcells_length (l : List (Nat × List UInt8)) (h : ∀ x ∈ l, x.2.length = 128) : (pcells l).length = l.length * 129 := by
  induction l with
  | nil => rfl
  | cons x l ih =>
    have := ih fun y hy => h y (List.mem_cons_of_mem _ hy)
    have hx := h x List.mem_cons_self
    simp only [pcells, List.flatMap_cons, List.length_append, List.length_cons, bv_length] at this ⊢
    omega
/-- The k-th sector, the k-th write (names that the walk leaves alone). -/
def secAt (l : List (List UInt8)) (k : Nat) : List UInt8 := l.getD k zsec
def penAt (l : List (Nat × List UInt8)) (k : Nat) : Nat × List UInt8 := l.getD k (0, zsec)
theorem secAt_mem {l : List (List UInt8)} {k : Nat} (h : k < l.length) : secAt l k ∈ l := by
  rw [secAt, List.getD_eq_getElem?_getD, List.getElem?_eq_getElem h]; exact List.getElem_mem _
theorem penAt_mem {l : List (Nat × List UInt8)} {k : Nat} (h : k < l.length) : penAt l k ∈ l := by
  rw [penAt, List.getD_eq_getElem?_getD, List.getElem?_eq_getElem h]; exact List.getElem_mem _
theorem secs_split (l : List (List UInt8)) (k : Nat) (h : k < l.length) : secs l = secs (l.take k) ++ (bv (secAt l k) ++ secs (l.drop (k + 1))) := by
  have e : l = l.take k ++ secAt l k :: l.drop (k + 1) := by
    have : secAt l k = l[k] := by rw [secAt, List.getD_eq_getElem?_getD, List.getElem?_eq_getElem h]; rfl
    rw [this, List.getElem_cons_drop, List.take_append_drop]
  conv => lhs; rw [e]
  simp [secs, bv_append]
theorem pcells_split (l : List (Nat × List UInt8)) (k : Nat) (h : k < l.length) : pcells l = pcells (l.take k) ++ (Value.int .i64 ((penAt l k).1 : Int) :: bv (penAt l k).2) ++ pcells (l.drop (k + 1)) := by
  have e : l = l.take k ++ penAt l k :: l.drop (k + 1) := by
    have : penAt l k = l[k] := by rw [penAt, List.getD_eq_getElem?_getD, List.getElem?_eq_getElem h]; rfl
    rw [this, List.getElem_cons_drop, List.take_append_drop]
  conv => lhs; rw [e]
  simp [pcells]
/-- Cells in the middle of a list. -/
theorem mid_get {α : Type} (a b c : List α) (j : Nat) (v : α) (h : b[j]? = some v) : (a ++ (b ++ c))[a.length + j]? = some v := by
  rw [List.getElem?_append_right (by omega), Nat.add_sub_cancel_left, List.getElem?_append_left (List.getElem?_eq_some_iff.1 h).1]
  exact h

theorem range_lt {w : World} {b o : Nat} {cs : List Value} (h : w.rangeAt b o cs) (hp : 0 < cs.length) : b < w.heap.size := by
  have := h 0 _ (List.getElem?_eq_getElem hp)
  exact World.block_lt_of_cell? w _ this
theorem range_kp {w w' : World} {S : Nat → Prop} {b o : Nat} {cs : List Value} (h : w.rangeAt b o cs) (hk : Kp S w w') (hb : ¬ S b) : w'.rangeAt b o cs := by
  intro j u hj
  have h1 := h j u hj
  rw [← h1]
  exact World.cell?_of_block (hk.block b (World.block_lt_of_cell? w _ h1) hb)
theorem range_grown {w w' : World} {row : Option Nat} {b o : Nat} {cs : List Value} (h : w.rangeAt b o cs) (hg : w.grownBy w' row) (hb : row ≠ some b) : w'.rangeAt b o cs :=
  range_kp (S := fun k => row = some k) h (Kp.of_grown hg (fun _ e => e)) hb
theorem range_setCell {w : World} {a : Addr} {u : Value} {b o : Nat} {cs : List Value} (h : w.rangeAt b o cs) (hb : b ≠ a.block) : (w.setCell a u).rangeAt b o cs :=
  range_kp (S := fun k => k = a.block) h ((Kp.refl _ w).setCell a u (fun _ => rfl)) hb

/-! ### The disk -/
structure Dk where
  stable : List (List UInt8)
  pend : List (Nat × List UInt8)
  fuel : Int
  dead : Bool

/-- The disk d lies in memory: its object in block p, its sectors in block s, its pending writes in the row v; all of these from block base on. -/
structure DiskAt (w : World) (base p s : Nat) (v : Value) (d : Dk) : Prop where
  hp : base ≤ p
  hs : base ≤ s
  obj : w.heap[p]? = some (.cells #[.slice (some ⟨s, 0, none⟩) d.stable.length d.stable.length, v, .int .i64 d.fuel, .bool d.dead] 66 (0, 0))
  sta : w.heap[s]? = some (.cells (secs d.stable).toArray 55 (0, 0))
  pen : w.ownsRow base 94 129 v d.pend.length (pcells d.pend)
  len : d.stable.length ≤ 1024
  wid : ∀ x ∈ d.stable, x.length = 128
  pin : ∀ x ∈ d.pend, x.1 < d.stable.length ∧ x.2.length = 128
  fu : -1 ≤ d.fuel ∧ d.fuel ≤ 9223372036854775807

/-- The blocks that belong to a disk. -/
def foot (p s : Nat) (v : Value) (k : Nat) : Prop := k = p ∨ k = s ∨ v.ownBlock = some k

section
variable {w w' : World} {base p s : Nat} {v : Value} {d : Dk}
theorem DiskAt.ps (h : DiskAt w base p s v d) : p ≠ s := ne_of_types h.obj h.sta (by decide)
theorem DiskAt.vp (h : DiskAt w base p s v d) : v.ownBlock ≠ some p := own_ne h.pen h.obj (by decide)
theorem DiskAt.vs (h : DiskAt w base p s v d) : v.ownBlock ≠ some s := own_ne h.pen h.sta (by decide)
theorem DiskAt.foot_base (h : DiskAt w base p s v d) (k : Nat) (hk : foot p s v k) : base ≤ k := by
  rcases hk with rfl | rfl | hk
  · exact h.hp
  · exact h.hs
  · exact (h.pen.lt k hk).1
theorem DiskAt.foot_lt (h : DiskAt w base p s v d) (k : Nat) (hk : foot p s v k) : k < w.heap.size := by
  rcases hk with rfl | rfl | hk
  · exact lt_of_heap h.obj
  · exact lt_of_heap h.sta
  · exact (h.pen.lt k hk).2
/-- What doesn't touch the disk's blocks keeps it. -/
theorem DiskAt.kept (h : DiskAt w base p s v d) {S : Nat → Prop} (hk : Kp S w w') (hS : ∀ k, foot p s v k → ¬ S k) : DiskAt w' base p s v d := by
  have hpl := h.foot_lt p (.inl rfl)
  have hsl := h.foot_lt s (.inr (.inl rfl))
  refine ⟨h.hp, h.hs, ?_, ?_, ?_, h.len, h.wid, h.pin, h.fu⟩
  · rw [hk.block p hpl (hS p (.inl rfl))]; exact h.obj
  · rw [hk.block s hsl (hS s (.inr (.inl rfl)))]; exact h.sta
  · refine ⟨h.pen.1, ?_⟩
    rcases h.pen.2 with hn | ⟨g, cap, cur, rfl, hb, hgg, rest⟩
    · exact .inl hn
    · refine .inr ⟨g, cap, cur, rfl, hb, ?_, rest⟩
      rw [hk.block g (lt_of_heap hgg) (hS g (.inr (.inr rfl)))]
      exact hgg
theorem DiskAt.below (h : DiskAt w base p s v d) (hb : Below w.heap.size w w') : DiskAt w' base p s v d :=
  h.kept (S := fun _ => False) (Kp.of_below hb) (fun _ _ hf => hf)
theorem DiskAt.drew (h : DiskAt w base p s v d) : DiskAt w.drew base p s v d := h.below ((Below.refl _ _).drew)
/-- The object's fields. -/
theorem DiskAt.c0 (h : DiskAt w base p s v d) : w.cell? ⟨p, 0, none⟩ = some (.slice (some ⟨s, 0, none⟩) d.stable.length d.stable.length) := by rw [cell_of_row w p 0 _ _ _ h.obj]; rfl
theorem DiskAt.c1 (h : DiskAt w base p s v d) : w.cell? ⟨p, 1, none⟩ = some v := by rw [cell_of_row w p 1 _ _ _ h.obj]; rfl
theorem DiskAt.c2 (h : DiskAt w base p s v d) : w.cell? ⟨p, 2, none⟩ = some (.int .i64 d.fuel) := by rw [cell_of_row w p 2 _ _ _ h.obj]; rfl
theorem DiskAt.c3 (h : DiskAt w base p s v d) : w.cell? ⟨p, 3, none⟩ = some (.bool d.dead) := by rw [cell_of_row w p 3 _ _ _ h.obj]; rfl
theorem DiskAt.fz (h : DiskAt w base p s v d) (j : Nat) : w.frozen? ⟨p, j, none⟩ = false := frozen_of_row w p j _ _ h.obj
theorem DiskAt.plt (h : DiskAt w base p s v d) : p < w.heap.size := lt_of_heap h.obj
theorem DiskAt.slt (h : DiskAt w base p s v d) : s < w.heap.size := lt_of_heap h.sta
/-- A field is written. -/
theorem DiskAt.set1 (h : DiskAt w base p s v d) (v' : Value) (l : List (Nat × List UInt8)) (hv : (w.setCell ⟨p, 1, none⟩ v').ownsRow base 94 129 v' l.length (pcells l)) (hl : ∀ x ∈ l, x.1 < d.stable.length ∧ x.2.length = 128) :
    DiskAt (w.setCell ⟨p, 1, none⟩ v') base p s v' { d with pend := l } := by
  refine ⟨h.hp, h.hs, ?_, ?_, hv, h.len, h.wid, hl, h.fu⟩
  · rw [heap_setCell_same w p 1 _ _ v' h.obj]; rfl
  · rw [heap_setCell_other w ⟨p, 1, none⟩ s v' (Ne.symm h.ps)]; exact h.sta
theorem own_setCell {w : World} {base n size : Nat} {e : TypeId} {v : Value} {xs : List Value} (h : w.ownsRow base e size v n xs) (a : Addr) (u : Value) (hne : v.ownBlock ≠ some a.block) : (w.setCell a u).ownsRow base e size v n xs :=
  h.kept (row := some a.block) ⟨rfl, rfl, rfl, by simp [World.setCell], fun k _ hk => Below.heap_setCell _ _ _ _ (fun e => hk (by rw [e]))⟩ (.inr hne)
theorem DiskAt.set2 (h : DiskAt w base p s v d) (f : Int) (hf : -1 ≤ f ∧ f ≤ 9223372036854775807) : DiskAt (w.setCell ⟨p, 2, none⟩ (.int .i64 f)) base p s v { d with fuel := f } := by
  refine ⟨h.hp, h.hs, ?_, ?_, own_setCell h.pen _ _ h.vp, h.len, h.wid, h.pin, hf⟩
  · rw [heap_setCell_same w p 2 _ _ _ h.obj]; rfl
  · rw [heap_setCell_other w ⟨p, 2, none⟩ s _ (Ne.symm h.ps)]; exact h.sta
theorem DiskAt.set3 (h : DiskAt w base p s v d) (b : Bool) : DiskAt (w.setCell ⟨p, 3, none⟩ (.bool b)) base p s v { d with dead := b } := by
  refine ⟨h.hp, h.hs, ?_, ?_, own_setCell h.pen _ _ h.vp, h.len, h.wid, h.pin, h.fu⟩
  · rw [heap_setCell_same w p 3 _ _ _ h.obj]; rfl
  · rw [heap_setCell_other w ⟨p, 3, none⟩ s _ (Ne.symm h.ps)]; exact h.sta
/-- The sectors' cells. -/
theorem DiskAt.sec (h : DiskAt w base p s v d) (k : Nat) (hk : k < d.stable.length) : w.rangeAt s (k * 128) (bv (secAt d.stable k)) := by
  intro j u hj
  rw [cell_of_row w s _ _ _ _ h.sta, List.getElem?_toArray, secs_split d.stable k hk]
  have hl : (secs (d.stable.take k)).length = k * 128 := by
    rw [secs_length _ (fun x hx => h.wid x (List.mem_of_mem_take hx)), List.length_take]
    congr 1
    omega
  have := mid_get (secs (d.stable.take k)) (bv (secAt d.stable k)) (secs (d.stable.drop (k + 1))) j u hj
  rwa [hl] at this
theorem DiskAt.swid (h : DiskAt w base p s v d) (k : Nat) (hk : k < d.stable.length) : (secAt d.stable k).length = 128 := h.wid _ (secAt_mem hk)
/-- The pending writes' row: its shape, and its cells. -/
theorem own_form {w : World} {base n size : Nat} {e : TypeId} {v : Value} {xs : List Value} (h : w.ownsRow base e size v n xs) : ∃ A c, v = .slice A n c := by
  rcases h.2 with ⟨rfl, rfl⟩ | ⟨g, cap, cur, rfl, _⟩
  · exact ⟨none, 0, rfl⟩
  · exact ⟨_, cap, rfl⟩
theorem DiskAt.pcell {A : Option Addr} {n c : Nat} (h : DiskAt w base p s (.slice A n c) d) (k : Nat) (hk : k < d.pend.length) :
    ∃ g, A = some ⟨g, 0, none⟩ ∧ g < w.heap.size ∧ n = d.pend.length ∧ w.rangeAt g (k * 129) (Value.int .i64 ((penAt d.pend k).1 : Int) :: bv (penAt d.pend k).2) := by
  rcases h.pen.2 with ⟨_, h0⟩ | ⟨g, cap, cur, he, _, hg, _, _, _, ht⟩
  · omega
  · injection he with e1 e2 e3
    subst e1 e3
    refine ⟨g, rfl, lt_of_heap hg, e2, ?_⟩
    intro j u hj
    rw [cell_of_row w g _ _ _ _ hg]
    have hl : (pcells (d.pend.take k)).length = k * 129 := by
      rw [pcells_length _ (fun x hx => (h.pin x (List.mem_of_mem_take hx)).2), List.length_take]
      congr 1
      omega
    have hp := pcells_split d.pend k hk
    rw [List.append_assoc] at hp
    have hm := mid_get (pcells (d.pend.take k)) (Value.int .i64 ((penAt d.pend k).1 : Int) :: bv (penAt d.pend k).2) (pcells (d.pend.drop (k + 1))) j u hj
    rw [hl, ← hp, ← ht, List.getElem?_take] at hm
    split at hm
    · simpa using hm
    · cases hm
theorem DiskAt.pin' (h : DiskAt w base p s v d) (k : Nat) (hk : k < d.pend.length) : (penAt d.pend k).1 < d.stable.length ∧ (penAt d.pend k).2.length = 128 := h.pin _ (penAt_mem hk)
theorem range_head {w : World} {b o : Nat} {u : Value} {cs : List Value} (h : w.rangeAt b o (u :: cs)) : w.cell? ⟨b, o, none⟩ = some u ∧ w.rangeAt b (o + 1) cs := by
  refine ⟨by have := h 0 u rfl; rwa [Nat.add_zero] at this, fun j v hj => ?_⟩
  have := h (j + 1) v (by rw [List.getElem?_cons_succ]; exact hj)
  rwa [show o + (j + 1) = o + 1 + j by omega] at this
/-- What is read of a sector: what was written last, else what is stable. -/
def lastW : List (Nat × List UInt8) → Nat → List UInt8 → List UInt8
  | [], _, z => z
  | x :: l, k, z => lastW l k (if x.1 = k then x.2 else z)
def Dk.read (d : Dk) (k : Nat) : List UInt8 := lastW d.pend k (secAt d.stable k)
theorem lastW_append (l l' : List (Nat × List UInt8)) (k : Nat) (z : List UInt8) : lastW (l ++ l') k z = lastW l' k (lastW l k z) := by
  induction l generalizing z with
  | nil => rfl
  | cons x l ih => simp only [List.cons_append, lastW]; exact ih _
theorem lastW_none (l : List (Nat × List UInt8)) (k : Nat) (z : List UInt8) (h : ∀ x ∈ l, x.1 ≠ k) : lastW l k z = z := by
  induction l generalizing z with
  | nil => rfl
  | cons x l ih =>
    simp only [lastW]
    rw [if_neg (h x List.mem_cons_self)]
    exact ih z fun y hy => h y (List.mem_cons_of_mem _ hy)
theorem lastW_at (l : List (Nat × List UInt8)) (k j : Nat) (z : List UInt8) (hj : j < l.length) (he : (penAt l j).1 = k) (h : ∀ i, j < i → i < l.length → (penAt l i).1 ≠ k) : lastW l k z = (penAt l j).2 := by
  have e : l = l.take j ++ penAt l j :: l.drop (j + 1) := by
    have : penAt l j = l[j] := by rw [penAt, List.getD_eq_getElem?_getD, List.getElem?_eq_getElem hj]; rfl
    rw [this, List.getElem_cons_drop, List.take_append_drop]
  conv => lhs; rw [e]
  rw [lastW_append]
  simp only [lastW]
  rw [if_pos he]
  refine lastW_none _ _ _ fun x hx => ?_
  obtain ⟨i, hi, rfl⟩ := List.mem_iff_getElem.1 hx
  have := h (j + 1 + i) (by omega) (by simp at hi; omega)
  rw [List.getElem_drop]
  rw [penAt, List.getD_eq_getElem?_getD, List.getElem?_eq_getElem (by simp at hi; omega)] at this
  exact this
theorem lastW_len (l : List (Nat × List UInt8)) (k : Nat) (z : List UInt8) (hz : z.length = 128) (h : ∀ x ∈ l, x.2.length = 128) : (lastW l k z).length = 128 := by
  induction l generalizing z with
  | nil => exact hz
  | cons x l ih =>
    simp only [lastW]
    refine ih _ ?_ fun y hy => h y (List.mem_cons_of_mem _ hy)
    split
    · exact h x List.mem_cons_self
    · exact hz
theorem heap_setCells_other (b : Nat) : ∀ (cs : List Value) (o : Nat) (w : World) (k : Nat), k ≠ b → (w.setCells b o cs).heap[k]? = w.heap[k]?
  | [], _, _, _, _ => rfl
  | u :: r, o, w, k, h => by
    rw [World.setCells, heap_setCells_other b r (o + 1) _ k h]
    exact Below.heap_setCell w ⟨b, o, none⟩ u k h
theorem heap_setCells_same (b : Nat) : ∀ (cs : List Value) (o : Nat) (w : World) (cur : List Value) (t : TypeId), w.heap[b]? = some (.cells cur.toArray t (0, 0)) → o + cs.length ≤ cur.length → (w.setCells b o cs).heap[b]? = some (.cells (splice cur o cs).toArray t (0, 0))
  | [], o, w, cur, t, h, _ => by simpa [World.setCells, splice] using h
  | u :: r, o, w, cur, t, h, hl => by
    simp only [List.length_cons] at hl
    have h1 := heap_setCell_same w b o _ t u h
    have h2 := heap_setCells_same b r (o + 1) (w.setCell ⟨b, o, none⟩ u) (cur.set o u) t (by rw [h1]; simp) (by simp; omega)
    rw [World.setCells, h2]
    congr 3
    unfold splice
    have e1 : (cur.set o u).take (o + 1) = cur.take o ++ [u] := by
      rw [List.take_succ_eq_append_getElem (by simp; omega), List.take_set_of_le (Nat.le_refl _)]
      simp
    have e2 : (cur.set o u).drop (o + 1 + r.length) = cur.drop (o + (u :: r).length) := by
      rw [List.drop_set_of_lt (by omega)]
      congr 1
      simp
      omega
    rw [e1, e2]
    simp
theorem size_setCells (b : Nat) : ∀ (cs : List Value) (o : Nat) (w : World), (w.setCells b o cs).heap.size = w.heap.size
  | [], _, _ => rfl
  | u :: r, o, w => by rw [World.setCells, size_setCells b r]; simp [World.setCell]
theorem kp_setCells {S : Nat → Prop} {a : World} (b : Nat) : ∀ (cs : List Value) (o : Nat) (w : World), Kp S a w → (b < a.heap.size → S b) → Kp S a (w.setCells b o cs)
  | [], _, _, h, _ => h
  | u :: r, o, w, h, hb => by
    rw [World.setCells]
    exact kp_setCells b r (o + 1) _ (h.setCell ⟨b, o, none⟩ u hb) hb
theorem secs_set (st : List (List UInt8)) (k : Nat) (l : List UInt8) (hk : k < st.length) (hl : l.length = 128) (hw : ∀ x ∈ st, x.length = 128) : splice (secs st) (k * 128) (bv l) = secs (st.set k l) := by
  have h1 : (secs (st.take k)).length = k * 128 := by
    rw [secs_length _ (fun x hx => hw x (List.mem_of_mem_take hx)), List.length_take]
    congr 1
    omega
  have h2 : (bv (secAt st k)).length = 128 := by rw [bv_length]; exact hw _ (secAt_mem hk)
  have h3 : (bv l).length = 128 := by rw [bv_length, hl]
  have e : secs (st.set k l) = secs (st.take k) ++ (bv l ++ secs (st.drop (k + 1))) := by
    rw [List.set_eq_take_append_cons_drop, if_pos hk]
    simp [secs, bv_append]
  rw [e, splice, secs_split st k hk, List.take_left' h1]
  congr 2
  rw [h3, ← List.append_assoc]
  exact List.drop_left' (by rw [List.length_append, h1, h2])
theorem DiskAt.sthere (h : DiskAt w base p s v d) (k : Nat) (hk : k < d.stable.length) : w.there s (k * 128) 128 := by
  intro j hj
  have hl := secs_length d.stable h.wid
  constructor
  · rw [cell_of_row w s _ _ _ _ h.sta, List.getElem?_toArray, List.getElem?_eq_getElem (by rw [hl]; have := Nat.mul_le_mul_right 128 (show k + 1 ≤ d.stable.length from hk); omega)]
    rfl
  · exact frozen_of_row w s _ _ _ h.sta
/-- A sector is stored. -/
theorem DiskAt.setSec (h : DiskAt w base p s v d) (k : Nat) (l : List UInt8) (hk : k < d.stable.length) (hl : l.length = 128) : DiskAt (w.setCells s (k * 128) (bv l)) base p s v { d with stable := d.stable.set k l } := by
  have hlen : (d.stable.set k l).length = d.stable.length := by simp
  have hs := secs_length d.stable h.wid
  have hkk := Nat.mul_le_mul_right 128 (show k + 1 ≤ d.stable.length from hk)
  refine ⟨h.hp, h.hs, ?_, ?_, ?_, by simpa using h.len, ?_, fun x hx => by have := h.pin x hx; simpa using this, h.fu⟩
  · rw [heap_setCells_other s _ _ _ _ h.ps]
    simp only [hlen]
    exact h.obj
  · rw [heap_setCells_same s (bv l) (k * 128) w (secs d.stable) _ h.sta (by rw [bv_length, hl, hs]; omega), secs_set d.stable k l hk hl h.wid]
  · refine h.pen.kept (row := some s) ⟨?_, ?_, ?_, ?_, fun i _ hi => heap_setCells_other s _ _ _ _ (fun e => hi (by rw [e]))⟩ (.inr h.vs)
    · exact (kp_setCells (S := fun _ => True) s (bv l) (k * 128) w (Kp.refl _ w) (fun _ => trivial)).os
    · exact (kp_setCells (S := fun _ => True) s (bv l) (k * 128) w (Kp.refl _ w) (fun _ => trivial)).tape
    · exact (kp_setCells (S := fun _ => True) s (bv l) (k * 128) w (Kp.refl _ w) (fun _ => trivial)).output
    · rw [size_setCells]; exact Nat.le_refl _
  · intro x hx
    rcases List.mem_or_eq_of_mem_set hx with hx | rfl
    · exact h.wid x hx
    · exact hl
/-- Writes that are done. -/
def applyW (st : List (List UInt8)) (l : List (Nat × List UInt8)) : List (List UInt8) := l.foldl (fun st x => st.set x.1 x.2) st
theorem applyW_length (l : List (Nat × List UInt8)) : ∀ st, (applyW st l).length = st.length := by
  induction l with
  | nil => intro st; rfl
  | cons x l ih =>
    intro st
    show (applyW (st.set x.1 x.2) l).length = _
    rw [ih]; simp
theorem applyW_take (st : List (List UInt8)) (l : List (Nat × List UInt8)) (k : Nat) (h : k < l.length) : applyW st (l.take (k + 1)) = (applyW st (l.take k)).set (penAt l k).1 (penAt l k).2 := by
  rw [List.take_succ_eq_append_getElem h, applyW, List.foldl_append, penAt, List.getD_eq_getElem?_getD, List.getElem?_eq_getElem h]; rfl
/-- A sector of which only the first bytes are new. -/
def tornSec (old now : List UInt8) (m : Nat) : List UInt8 := now.take m ++ old.drop m
def crashStep (keep : List Bool) (torn : Int) (m : Nat) (st : List (List UInt8)) (k : Nat) (x : Nat × List UInt8) : List (List UInt8) :=
  if (k : Int) = torn then st.set x.1 (tornSec (secAt st x.1) x.2 m) else if atB keep k = true then st.set x.1 x.2 else st
/-- What is stable when the first n pending writes have been gone through. -/
def crashTo (keep : List Bool) (torn : Int) (m : Nat) (st : List (List UInt8)) (l : List (Nat × List UInt8)) : Nat → List (List UInt8)
  | 0 => st
  | n + 1 => crashStep keep torn m (crashTo keep torn m st l n) n (penAt l n)
theorem crashStep_length (keep : List Bool) (torn : Int) (m : Nat) (st : List (List UInt8)) (k : Nat) (x : Nat × List UInt8) : (crashStep keep torn m st k x).length = st.length := by
  unfold crashStep
  split
  · simp
  · split <;> simp
theorem crashTo_length (keep : List Bool) (torn : Int) (m : Nat) (st : List (List UInt8)) (l : List (Nat × List UInt8)) : ∀ n, (crashTo keep torn m st l n).length = st.length
  | 0 => rfl
  | n + 1 => by rw [crashTo, crashStep_length, crashTo_length keep torn m st l n]
/-- The disk behind a crash. -/
def Dk.crashed (d : Dk) (keep : List Bool) (torn : Int) (cut : Int) : Dk := ⟨crashTo keep torn (max 0 (min cut 128)).toNat d.stable d.pend d.pend.length, [], -1, false⟩
theorem splice_mid {α : Type} (A B C X : List α) (h : X.length ≤ B.length) : splice (A ++ (B ++ C)) A.length X = A ++ (splice B 0 X ++ C) := by
  unfold splice
  have e : (A ++ (B ++ C)).drop (A.length + X.length) = B.drop X.length ++ C := by
    rw [List.drop_length_add_append, List.drop_append_of_le_length h]
  rw [List.take_left' rfl, e]
  simp
theorem splice_torn (old now : List UInt8) (m : Nat) (h2 : now.length = 128) (hm : m ≤ 128) : splice (bv old) 0 (bv (now.take m)) = bv (tornSec old now m) := by
  unfold splice tornSec
  rw [List.take_zero, List.nil_append, bv_append, bv_length, List.length_take, h2, Nat.zero_add, Nat.min_eq_left hm]
  congr 1
  simp [bv, List.map_drop]
/-- A sector's first bytes are stored. -/
theorem DiskAt.setTorn (h : DiskAt w base p s v d) (k : Nat) (l : List UInt8) (m : Nat) (hk : k < d.stable.length) (hl : l.length = 128) (hm : m ≤ 128) : DiskAt (w.setCells s (k * 128) (bv (l.take m))) base p s v { d with stable := d.stable.set k (tornSec (secAt d.stable k) l m) } := by
  have hlen : (d.stable.set k (tornSec (secAt d.stable k) l m)).length = d.stable.length := by simp
  have hs := secs_length d.stable h.wid
  have hkk := Nat.mul_le_mul_right 128 (show k + 1 ≤ d.stable.length from hk)
  have hw := h.swid k hk
  have htl : (tornSec (secAt d.stable k) l m).length = 128 := by simp [tornSec, hl, hw]; omega
  have h1 : (secs (d.stable.take k)).length = k * 128 := by
    rw [secs_length _ (fun x hx => h.wid x (List.mem_of_mem_take hx)), List.length_take]
    congr 1
    omega
  refine ⟨h.hp, h.hs, ?_, ?_, ?_, by simpa using h.len, ?_, fun x hx => by have := h.pin x hx; simpa using this, h.fu⟩
  · rw [heap_setCells_other s _ _ _ _ h.ps]
    simp only [hlen]
    exact h.obj
  · rw [heap_setCells_same s (bv (l.take m)) (k * 128) w (secs d.stable) _ h.sta (by rw [bv_length, List.length_take, hs]; omega)]
    have e : secs (d.stable.set k (tornSec (secAt d.stable k) l m)) = secs (d.stable.take k) ++ (bv (tornSec (secAt d.stable k) l m) ++ secs (d.stable.drop (k + 1))) := by
      rw [List.set_eq_take_append_cons_drop, if_pos hk]
      simp [secs, bv_append]
    rw [e, ← splice_torn _ _ m hl hm, secs_split d.stable k hk]
    have e2 := splice_mid (secs (d.stable.take k)) (bv (secAt d.stable k)) (secs (d.stable.drop (k + 1))) (bv (l.take m)) (by rw [bv_length, bv_length, List.length_take, hw]; omega)
    rw [h1] at e2
    rw [e2]
  · refine h.pen.kept (row := some s) ⟨?_, ?_, ?_, ?_, fun i _ hi => heap_setCells_other s _ _ _ _ (fun e => hi (by rw [e]))⟩ (.inr h.vs)
    · exact (kp_setCells (S := fun _ => True) s (bv (l.take m)) (k * 128) w (Kp.refl _ w) (fun _ => trivial)).os
    · exact (kp_setCells (S := fun _ => True) s (bv (l.take m)) (k * 128) w (Kp.refl _ w) (fun _ => trivial)).tape
    · exact (kp_setCells (S := fun _ => True) s (bv (l.take m)) (k * 128) w (Kp.refl _ w) (fun _ => trivial)).output
    · rw [size_setCells]; exact Nat.le_refl _
  · intro x hx
    rcases List.mem_or_eq_of_mem_set hx with hx | rfl
    · exact h.wid x hx
    · exact htl
end
end Go.Proofs.Ytgakajofggmbjaa

/- Loads and stores of whole sectors and writes, as laws for the walk. -/
namespace Go.Proofs.Ytgakajofggmbjaa
open Go.RowKit

set_option maxRecDepth 20000 in
theorem Try.zero37 : Try.zeroCells55 = (bv zsec).toArray := rfl
theorem Try.size37 : (Try.prog.info? 55).map (·.size) = some 128 := by kernel_rfl
theorem Try.size157 : (Try.prog.info? 94).map (·.size) = some 129 := by kernel_rfl

/-- A write as a value. -/
def penV (x : Nat × List UInt8) : Value := .agg (Value.int .i64 (x.1 : Int) :: bv x.2).toArray

theorem splice_set (L : List Value) (o : Nat) (v : Value) (r : List Value) (h : o + 1 + r.length ≤ L.length) : splice (L.set o v) (o + 1) r = splice L o (v :: r) := by
  unfold splice
  have h1 : (L.set o v).take (o + 1) = L.take o ++ [v] := by
    rw [List.take_succ_eq_append_getElem (by simp; omega), List.take_set_of_le (Nat.le_refl _)]
    simp
  have h2 : (L.set o v).drop (o + 1 + r.length) = L.drop (o + (v :: r).length) := by
    rw [List.drop_set_of_lt (by omega)]
    congr 1
    simp
    omega
  rw [h1, h2]
  simp
theorem setCells_alloc (w : World) (t : TypeId) (fr : Nat × Nat) : ∀ (cs : List Value) (c : Array Value) (o : Nat), (w.alloc (.cells c t fr)).setCells w.heap.size o cs = w.alloc (.cells (splice c.toList o cs).toArray t fr) ∨ c.size < o + cs.length
  | [], c, o => .inl (by simp [World.setCells, splice])
  | v :: r, c, o => by
    by_cases h : c.size < o + (v :: r).length
    · exact .inr h
    · left
      have e : (w.alloc (.cells c t fr)).setCell ⟨w.heap.size, o, none⟩ v = w.alloc (.cells (c.setIfInBounds o v) t fr) := by
        simp only [World.setCell, World.alloc]
        congr 1
        apply Array.ext
        · simp
        · intro i h1 h2
          simp only [Array.getElem_modify, Array.getElem_push]
          by_cases hi : i < w.heap.size
          · rw [dif_pos hi, dif_pos hi, if_neg (by omega)]
          · have : w.heap.size = i := by simp at h2; omega
            rw [dif_neg hi, dif_neg hi, if_pos this]
            simp
      simp only [World.setCells]
      rw [e]
      rcases setCells_alloc w t fr r (c.setIfInBounds o v) (o + 1) with h2 | h2
      · rw [h2]
        congr 2
        simp only [List.length_cons] at h
        rw [Array.toList_setIfInBounds]
        rw [splice_set _ _ _ _ (by simp; omega)]
      · simp only [Array.size_setIfInBounds] at h2
        simp only [List.length_cons] at h
        omega

theorem there_alloc (w : World) (c : Array Value) (t : TypeId) : (w.alloc (.cells c t)).there w.heap.size 0 c.size := by
  intro j hj
  rw [Nat.zero_add]
  constructor
  · rw [World.cell?_alloc_mark, Array.getElem?_eq_getElem hj]; rfl
  · exact frozen_of_row _ _ _ c t (heap_alloc_new w _)
theorem range_alloc (w : World) (cs : List Value) (t : TypeId) (fr : Nat × Nat) : (w.alloc (.cells cs.toArray t fr)).rangeAt w.heap.size 0 cs := by
  intro j v hj
  rw [World.cell?_alloc_mark, Nat.zero_add, List.getElem?_toArray]
  exact hj
theorem range_alloc1 (w : World) (v : Value) (cs : List Value) (t : TypeId) (fr : Nat × Nat) : (w.alloc (.cells (v :: cs).toArray t fr)).rangeAt w.heap.size 1 cs := by
  intro j u hj
  rw [World.cell?_alloc_mark, List.getElem?_toArray, Nat.add_comm, List.getElem?_cons_succ]
  exact hj
theorem range_old {w : World} {b o : Nat} {cs : List Value} (h : w.rangeAt b o cs) (x : Obj) : (w.alloc x).rangeAt b o cs := by
  intro j v hj
  have := h j v hj
  rw [World.cell?_alloc_past _ _ _ (World.block_lt_of_cell? w _ this)]
  exact this

section
variable {ops : Array Oper} {rest : List Oper} {op : Oper} {a : Act} {w : World} {Q : Exit → Act → World → Prop}
/-- A sector is loaded. -/
theorem ld37 (hgd : op.guard = none) (x : Operand) (ho : op.op = .load 55 x) (b o : Nat) (hx : a.eval x = .pointer (some ⟨b, o, none⟩)) (l : List UInt8) (hc : w.rangeAt b o (bv l)) (hl : l.length = 128)
    (h : wpList Try.prog ops Q rest (a.put op.dst (secV l)) w) : wpList Try.prog ops Q (op :: rest) a w :=
  wpList_load_mid hgd _ x ho b o hx (bv l) _ hc Try.underlying55 rfl (Try.size37.trans (by rw [bv_length, hl])) h
/-- A write is loaded. -/
theorem ld157 (hgd : op.guard = none) (x : Operand) (ho : op.op = .load 94 x) (b o : Nat) (hx : a.eval x = .pointer (some ⟨b, o, none⟩)) (y : Nat × List UInt8) (hc : w.rangeAt b o (Value.int .i64 (y.1 : Int) :: bv y.2)) (hl : y.2.length = 128)
    (h : wpList Try.prog ops Q rest (a.put op.dst (penV y)) w) : wpList Try.prog ops Q (op :: rest) a w :=
  wpList_load_mid hgd _ x ho b o hx _ _ hc Try.underlying94 rfl (Try.size157.trans (by rw [List.length_cons, bv_length, hl])) h
/-- A sector is stored into a new variable of its own. -/
theorem st37 (hgd : op.guard = none) (x y : Operand) (ho : op.op = .store 55 x y) (c : Array Value) (b : Nat) (hx : a.eval x = .pointer (some ⟨b, 0, none⟩)) (hb : b = w.heap.size) (l : List UInt8) (hy : a.eval y = secV l) (hl : l.length = 128) (hs : c.size = 128)
    (h : wpList Try.prog ops Q rest (a.put op.dst undef) (w.alloc (.cells (bv l).toArray 55))) : wpList Try.prog ops Q (op :: rest) a (w.alloc (.cells c 55)) := by
  subst hb
  refine wpList_store_mid hgd _ x y ho _ 0 (bv l).toArray hx hy ?_ (Try.size37.trans (by simp [bv_length, hl])) (all_oneCell_toArray (bv_one l)) ?_
  · have := there_alloc w c 55
    simpa [bv_length, hl, hs] using this
  · rcases setCells_alloc w 55 (0, 0) (bv l) c 0 with e | e
    · have e2 : splice c.toList 0 (bv l) = bv l := by
        simp only [splice, List.take_zero, List.nil_append, Nat.zero_add]
        rw [List.drop_eq_nil_of_le (by simp [bv_length, hl, hs]), List.append_nil]
      rw [e2] at e
      simpa only [List.toList_toArray, e] using h
    · simp [bv_length, hl, hs] at e
/-- A write is stored into a new variable of its own. -/
theorem st157 (hgd : op.guard = none) (x y : Operand) (ho : op.op = .store 94 x y) (c : Array Value) (b : Nat) (hx : a.eval x = .pointer (some ⟨b, 0, none⟩)) (hb : b = w.heap.size) (z : Nat × List UInt8) (hy : a.eval y = penV z) (hl : z.2.length = 128) (hs : c.size = 129)
    (h : wpList Try.prog ops Q rest (a.put op.dst undef) (w.alloc (.cells (Value.int .i64 (z.1 : Int) :: bv z.2).toArray 94))) : wpList Try.prog ops Q (op :: rest) a (w.alloc (.cells c 94)) := by
  subst hb
  refine wpList_store_mid hgd _ x y ho _ 0 (Value.int .i64 (z.1 : Int) :: bv z.2).toArray hx hy ?_ (Try.size157.trans (by simp [bv_length, hl])) (all_oneCell_toArray (fun u hu => by
      rcases List.mem_cons.1 hu with rfl | hu
      · rfl
      · exact bv_one _ u hu)) ?_
  · have := there_alloc w c 94
    simpa [bv_length, hl, hs] using this
  · rcases setCells_alloc w 94 (0, 0) (Value.int .i64 (z.1 : Int) :: bv z.2) c 0 with e | e
    · have e2 : splice c.toList 0 (Value.int .i64 (z.1 : Int) :: bv z.2) = Value.int .i64 (z.1 : Int) :: bv z.2 := by
        simp only [splice, List.take_zero, List.nil_append, Nat.zero_add]
        rw [List.drop_eq_nil_of_le (by simp [bv_length, hl, hs]), List.append_nil]
      rw [e2] at e
      simpa only [List.toList_toArray, e] using h
    · simp [bv_length, hl, hs] at e
end
/-! ### For regions that draw their order: a sector's load behind a name, so that the walk doesn't open it -/
def ldSec (p : Value) : Sem Value := Instr.loadAt 55 p
theorem loadAt37 (p : Value) : Instr.loadAt 55 p = ldSec p := rfl
theorem run_ldSec {w : World} {b o : Nat} {l : List UInt8} (hc : w.rangeAt b o (bv l)) (hl : l.length = 128) : (ldSec (.pointer (some ⟨b, o, none⟩))).run Try.prog w = .ok (.agg (bv l).toArray) w :=
  run_loadAt_mid w b o _ (bv l) _ hc Try.underlying55 rfl (Try.size37.trans (by rw [bv_length, hl]))

def stSec (p x : Value) : Sem Unit := Instr.storeAt 55 p x
theorem storeAt37 (p x : Value) : Instr.storeAt 55 p x = stSec p x := rfl
theorem run_stSec {w : World} {b o : Nat} {l : List UInt8} (ht : w.there b o 128) (hl : l.length = 128) : (stSec (.pointer (some ⟨b, o, none⟩)) (.agg (bv l).toArray)).run Try.prog w = .ok () (w.setCells b o (bv l)) := by
  have h := run_storeAt_mid (P := Try.prog) w b o 55 (bv l).toArray (by simpa [bv_length, hl] using ht) (Try.size37.trans (by simp [bv_length, hl])) (all_oneCell_toArray (bv_one l))
  exact h
theorem fold_set (xs : List Value) : ∀ (z : Array Value) (o j : Nat), (xs.zipIdx j).foldl (fun cs x => cs.setIfInBounds (o + x.2) x.1) z = (splice z.toList (o + j) xs).toArray ∨ z.size < o + j + xs.length := by
  induction xs with
  | nil => intro z o j; left; simp [splice]
  | cons x xs ih =>
    intro z o j
    by_cases h : z.size < o + j + (x :: xs).length
    · exact .inr h
    · left
      rw [List.zipIdx_cons, List.foldl_cons]
      rcases ih (z.setIfInBounds (o + j) x) o (j + 1) with e | e
      · rw [e, Array.toList_setIfInBounds]
        have := splice_set z.toList (o + j) x xs (by simp at h; simp; omega)
        rw [← this]
        rfl
      · simp at e h; omega
theorem fold_full (xs : List Value) (z : Array Value) (h : z.size = xs.length) : xs.zipIdx.foldl (fun cs x => cs.setIfInBounds x.2 x.1) z = xs.toArray := by
  have e := fold_set xs z 0 0
  simp only [Nat.zero_add] at e
  rcases e with e | e
  · rw [e]
    simp [splice, h]
  · omega
theorem fold_one (u : Value) (xs : List Value) (z : Array Value) (h : z.size = xs.length + 1) : xs.zipIdx.foldl (fun cs x => cs.setIfInBounds (1 + x.2) x.1) (z.setIfInBounds 0 u) = (u :: xs).toArray := by
  rcases fold_set xs (z.setIfInBounds 0 u) 1 0 with e | e
  · rw [e, Array.toList_setIfInBounds]
    have hz : z.toList.length = xs.length + 1 := by simpa using h
    cases hl : z.toList with
    | nil => rw [hl] at hz; simp at hz
    | cons a r =>
      rw [hl] at hz
      simp only [List.length_cons] at hz
      simp only [List.set_cons_zero, splice, Nat.add_zero, List.take_succ_cons, List.take_zero, List.cons_append, List.nil_append]
      rw [List.drop_eq_nil_of_le (by simp; omega), List.append_nil]
  · simp at e; omega
/-- A write, and a slice of one write, are built: behind names. -/
def bldPen (parts : Array (Nat × Value)) : Sem Value := Instr.build 94 parts
theorem build157 (parts : Array (Nat × Value)) : Instr.build 94 parts = bldPen parts := rfl
def bldPens (n : Nat) (parts : Array (Nat × Value)) : Sem Value := Instr.buildSlice 64 n parts
theorem buildSlice152 (n : Nat) (parts : Array (Nat × Value)) : Instr.buildSlice 64 n parts = bldPens n parts := rfl
set_option maxRecDepth 20000 in
theorem run_bldPen (w : World) (k : Int) (l : List UInt8) (hl : l.length = 128) : (bldPen #[(0, .int .i64 k), (1, .agg (bv l).toArray)]).run Try.prog w = .ok (.agg (Value.int .i64 k :: bv l).toArray) w := by
  have hb : (bv l).length = 128 := by rw [bv_length, hl]
  unfold bldPen
  simp [go_sem, hb]
  exact fold_one _ _ _ (by rw [hb]; rfl)
set_option maxRecDepth 20000 in
theorem run_bldPens (w : World) (cs : List Value) (hl : cs.length = 129) : (bldPens 1 #[(0, .agg cs.toArray)]).run Try.prog w = .ok (.slice (some ⟨w.heap.size, 0, none⟩) 1 1) (w.alloc (.cells cs.toArray 94)) := by
  unfold bldPens
  simp [go_sem, hl]
  rw [fold_full _ _ (by rw [hl]; rfl)]

/-! ### Results that lie in a variable -/
theorem res_row {P : Program} {fn : Func} {p : Tmp} {ty : TypeId} (h : fn.results = #[.cell p ty]) (tmps : Array Value) (w : World) (g o : Nat) (cs : List Value) (d : TypeDesc)
    (hp : tmps.getD p undef = .pointer (some ⟨g, o, none⟩)) (hg : w.rangeAt g o cs)
    (hu : P.underlying ty = some d) (hd : d.isRow = true) (hi : (P.info? ty).map (·.size) = some cs.length) :
    (results fn tmps).run P w = .ok (.agg cs.toArray) w := by
  have hp' : tmps[p]?.getD undef = .pointer (some ⟨g, o, none⟩) := by simpa using hp
  have hl := run_loadVar_mid (P := P) w g o ty cs d hg hu hd hi
  simp [results, h, hp', asAddr, hl]
theorem res_row_tmp {P : Program} {fn : Func} {p q : Tmp} {ty : TypeId} (h : fn.results = #[.cell p ty, .tmp q]) (tmps : Array Value) (w : World) (g o : Nat) (cs : List Value) (d : TypeDesc) (u : Value)
    (hp : tmps.getD p undef = .pointer (some ⟨g, o, none⟩)) (hq : tmps.getD q undef = u) (hg : w.rangeAt g o cs)
    (hu : P.underlying ty = some d) (hd : d.isRow = true) (hi : (P.info? ty).map (·.size) = some cs.length) :
    (results fn tmps).run P w = .ok (.tuple #[.agg cs.toArray, u]) w := by
  have hp' : tmps[p]?.getD undef = .pointer (some ⟨g, o, none⟩) := by simpa using hp
  have hq' : tmps[q]?.getD undef = u := by simpa using hq
  have hl := run_loadVar_mid (P := P) w g o ty cs d hg hu hd hi
  simp [results, h, hp', hq', asAddr, hl]
/-- A sector that is handed back. -/
theorem ret37 {fn : Func} {p : Tmp} (h : fn.results = #[.cell p 55]) (tmps : Array Value) (w : World) (l : List UInt8) (hl : l.length = 128) (g : Nat) (hp : tmps.getD p undef = .pointer (some ⟨g, 0, none⟩)) (hg : g = w.heap.size) :
    (results fn tmps).run Try.prog (w.alloc (.cells (bv l).toArray 55)) = .ok (secV l) (w.alloc (.cells (bv l).toArray 55)) := by
  subst hg
  exact res_row h tmps _ _ _ (bv l) _ hp (range_alloc w (bv l) _ _) Try.underlying55 rfl (Try.size37.trans (by simp [bv_length, hl]))
/-- A sector and something more that are handed back. -/
theorem ret37_tmp {fn : Func} {p q : Tmp} (h : fn.results = #[.cell p 55, .tmp q]) (tmps : Array Value) (w : World) (l : List UInt8) (hl : l.length = 128) (u : Value) (g : Nat) (hp : tmps.getD p undef = .pointer (some ⟨g, 0, none⟩)) (hq : tmps.getD q undef = u) (hg : g = w.heap.size) :
    (results fn tmps).run Try.prog (w.alloc (.cells (bv l).toArray 55)) = .ok (.tuple #[secV l, u]) (w.alloc (.cells (bv l).toArray 55)) := by
  subst hg
  exact res_row_tmp h tmps _ _ _ (bv l) _ u hp hq (range_alloc w (bv l) _ _) Try.underlying55 rfl (Try.size37.trans (by simp [bv_length, hl]))
/-! ### Sectors compared; small sectors built -/
theorem eq37 (w : World) (l l' : List UInt8) (h : l.length = 128) (h' : l'.length = 128) : (Op.equalIn 10000 55 (.agg (bv l).toArray) (.agg (bv l').toArray)).run Try.prog w = .ok (decide (l = l')) w := by
  have e := run_equalIn_bytes (P := Try.prog) w 9998 55 5 128 Try.underlying55 Try.underlying5 (fun w => by simp [sizeOf, go_sem]; rfl) l l' h h'
  have e2 : (l == l') = decide (l = l') := by
    by_cases hl : l = l'
    · subst hl; simp
    · rw [decide_eq_false hl, beq_eq_false_iff_ne]; exact hl
  rw [← e2]
  exact e
/-- A sector whose first byte is x, all others 0. -/
def headSec (x : UInt8) : List UInt8 := x :: List.replicate 127 0
theorem headSec_length (x : UInt8) : (headSec x).length = 128 := by simp [headSec]
def bldSec (parts : Array (Nat × Value)) : Sem Value := Instr.build 55 parts
theorem build37 (parts : Array (Nat × Value)) : Instr.build 55 parts = bldSec parts := rfl
set_option maxRecDepth 20000 in
theorem run_bldSec0 (w : World) : (bldSec #[]).run Try.prog w = .ok (.agg (bv zsec).toArray) w := by
  unfold bldSec
  simp [go_sem]
  rfl
set_option maxRecDepth 20000 in
theorem run_bldSec1 (w : World) (x : UInt8) : (bldSec #[(0, .int .u8 (x.toNat : Int))]).run Try.prog w = .ok (.agg (bv (headSec x)).toArray) w := by
  unfold bldSec
  simp [go_sem]
  rfl
end Go.Proofs.Ytgakajofggmbjaa
