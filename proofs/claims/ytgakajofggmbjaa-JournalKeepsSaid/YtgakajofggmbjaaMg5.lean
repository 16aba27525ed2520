/- The codec's Pack: pack, with giving up turned into an error. -/
import Derived.Test.YtgakajofggmbjaaMg4
import Derived.Laws.Strings
import Derived.Laws.Slices
import Derived.RangeFuncNested
import Derived.RangeFuncBound
import Derived.RangeFuncCalls
import Derived.RangeFuncLeaves
import Derived.Shelf.Abstract
import Derived.Shelf.RegionOpen
import Derived.WalkKit
import Derived.OwnWalkIn
import Derived.TacticsInMore
import Derived.LoopNIn
import Derived.LoopIn
import Derived.Test.YtgakajofggmbjaaMg2
import Derived.Test.YtgakajofggmbjaaMg3
import Derived.Test.YtgakajofggmbjaaMg1
namespace Go.Proofs.Ytgakajofggmbjaa
open Go.RowKit

/-- What Pack answers and leaves. -/
def PackedPost (w : World) (r : Option (List UInt8)) (e : Ending) (w' : World) : Prop :=
  Below w.heap.size w w' ∧ ((∃ v o, r = some o ∧ e = .returned (.tuple #[v, .int .i64 0]) ∧ w'.ownsRow w.heap.size 5 1 v o.length (bv o)) ∨ (r = none ∧ e = .returned (.tuple #[.slice none 0 0, .int .i64 21])))

theorem own_mono {w : World} {base base' n size : Nat} {e : TypeId} {v : Value} {xs : List Value} (h : w.ownsRow base' e size v n xs) (hb : base ≤ base') : w.ownsRow base e size v n xs := by
  refine ⟨h.1, ?_⟩
  rcases h.2 with hn | ⟨g, cap, cur, rfl, hg, rest⟩
  · exact .inl hn
  · exact .inr ⟨g, cap, cur, rfl, Nat.le_trans hb hg, rest⟩
theorem own_set {w : World} {base n size : Nat} {e : TypeId} {v : Value} {xs : List Value} (h : w.ownsRow base e size v n xs) (a : Addr) (u : Value) (hne : v.ownBlock ≠ some a.block) : (w.setCell a u).ownsRow base e size v n xs :=
  h.kept (row := some a.block) ⟨rfl, rfl, rfl, by simp [World.setCell], fun k _ hk => Below.heap_setCell _ _ _ _ (fun e => hk (by rw [e]))⟩ (.inr hne)

set_option maxRecDepth 20000 in
set_option maxHeartbeats 1600000 in
theorem codec_Pack_of (s : ByteArray) (A : Option Addr) (n c : Nat) (r : Option (List UInt8)) (w : World)
    (h : Calls Try.prog 49 #[.string s, .slice A n c] (w.alloc (.cells #[.int .i64 0] 41)) (PackPost (w.alloc (.cells #[.int .i64 0] 41)) r)) :
    Calls Try.prog 29 #[.string s, .slice A n c] w (PackedPost w r) := by
  have hmf : ∀ (fn : Fn) (first cap : Array Value) (w : World), (Instr.makeFunc fn first cap).run Try.prog w = .ok (.func fn first cap) w := fun _ _ _ _ => rfl
  have HP := Lib.hid h
  clear h
  go_enter_defers Try.func29, Try.ntmps29
  go_wp2_with fail
  refine HP.out.mono ?_
  rintro e w1 (⟨v, o, rfl, rfl, hown, hb⟩ | ⟨rfl, rfl, hb⟩)
  · have hw1 : w1.heap[w.heap.size]? = some (.cells #[.int .i64 0] 41 (0, 0)) := (hb.block _ (by simp)).trans (heap_alloc_new w _)
    have c5 : w1.cell? ⟨w.heap.size, 0, none⟩ = some (.int .i64 0) := by rw [cell_of_row w1 w.heap.size 0 _ _ _ hw1]; rfl
    have f5 : w1.frozen? ⟨w.heap.size, 0, none⟩ = false := frozen_of_row w1 w.heap.size 0 _ _ hw1
    have hbf : Below w.heap.size w (w1.setCell ⟨w.heap.size, 0, none⟩ (.int .i64 0)) := ((below_alloc w _).trans (hb.mono (by simp))).setCell (Nat.le_refl _) _
    have c6 : (w1.setCell ⟨w.heap.size, 0, none⟩ (.int .i64 0)).cell? ⟨w.heap.size, 0, none⟩ = some (.int .i64 0) := by
      rw [cell_of_row _ w.heap.size 0 _ _ _ (heap_setCell_same w1 w.heap.size 0 _ _ _ hw1)]
      rfl
    have hrow : (w1.setCell ⟨w.heap.size, 0, none⟩ (.int .i64 0)).ownsRow w.heap.size 5 1 v o.length (bv o) :=
      own_set (own_mono hown (by simp)) _ _ (fun e => by have := (hown.lt _ e).1; simp at this; omega)
    have HBF := Lib.hid hbf; have HO := Lib.hid hrow; have HC6 := Lib.hid c6
    clear hbf hown hb hw1 hrow c6
    go_wp2_with fail
    refine leaves_cons (f := 48) (args := #[.pointer (some ⟨w.heap.size, 0, none⟩)]) (by simp) (by simp [go_sem]) ?_
    refine (caught_idle ⟨w.heap.size, 0, none⟩ _).mono ?_
    rintro e u' w'' ⟨rfl, rfl, rfl⟩
    simp [Leaves, settle, results, Try.results29, go_sem, HC6.out]
    exact ⟨HBF.out, .inl ⟨v, o, rfl, rfl, HO.out⟩⟩
  · have hw1 : w1.heap[w.heap.size]? = some (.cells #[.int .i64 0] 41 (0, 0)) := (hb.block _ (by simp)).trans (heap_alloc_new w _)
    have c5 : w1.cell? ⟨w.heap.size, 0, none⟩ = some (.int .i64 0) := by rw [cell_of_row w1 w.heap.size 0 _ _ _ hw1]; rfl
    have f5 : w1.frozen? ⟨w.heap.size, 0, none⟩ = false := frozen_of_row w1 w.heap.size 0 _ _ hw1
    have c6 : (w1.setCell ⟨w.heap.size, 0, none⟩ (.int .i64 21)).cell? ⟨w.heap.size, 0, none⟩ = some (.int .i64 21) := by
      rw [cell_of_row _ w.heap.size 0 _ _ _ (heap_setCell_same w1 w.heap.size 0 _ _ _ hw1)]
      rfl
    have hbf : Below w.heap.size w (w1.setCell ⟨w.heap.size, 0, none⟩ (.int .i64 21)) := ((below_alloc w _).trans (hb.mono (by simp))).setCell (Nat.le_refl _) _
    refine leaves_cons (f := 48) (args := #[.pointer (some ⟨w.heap.size, 0, none⟩)]) (by simp) (by simp [go_sem]) ?_
    refine (caught_up ⟨w.heap.size, 0, none⟩ 0 _ c5 f5).mono ?_
    rintro e u' w'' ⟨rfl, rfl, rfl⟩
    simp [Leaves, settle, results, Try.results29, go_sem, c6]
    exact ⟨hbf, .inr ⟨rfl, rfl⟩⟩

/-- What pack computes. -/
def packM (sh : List UInt8) (l : List FieldD) : Option (List UInt8) := if 200 < sh.length ∨ sh.length ≠ l.length then none else packTo sh l l.length
set_option maxRecDepth 20000 in
set_option maxHeartbeats 1600000 in
theorem pack_bad (sh : List UInt8) (A : Option Addr) (n c : Nat) (w : World) (h : 200 < sh.length ∨ (sh.length ≤ 200 ∧ sh.length ≠ n)) :
    Calls Try.prog 49 #[.string (strOf sh), .slice A n c] w fun e w' => e = .panicked gaveUp ∧ w = w' := by
  have hsz : (strOf sh).size = sh.length := by simp [strOf, ByteArray.size]
  generalize sh.length = m at *
  rcases h with h | ⟨h, h'⟩
  · have hd : decide ((200 : Int) < (m : Int)) = true := decide_eq_true (by omega)
    go_enter Try.func49, Try.ntmps49
    go_wp2_with fail
    refine (fail_yes _).mono ?_
    rintro e w' ⟨rfl, rfl⟩
    exact ⟨rfl, rfl, rfl⟩
  · have hd : decide ((200 : Int) < (m : Int)) = false := decide_eq_false (by omega)
    have hq : ((m : Int) != (n : Int)) = true := by rw [bne_iff_ne]; omega
    go_enter Try.func49, Try.ntmps49
    go_wp2_with fail
    refine (fail_yes _).mono ?_
    rintro e w' ⟨rfl, rfl⟩
    exact ⟨rfl, rfl, rfl⟩
theorem codec_pack (sh : List UInt8) (A : Option Addr) (n c : Nat) (l : List FieldD) (w : World) (hl : RFields w A n c l) :
    Calls Try.prog 49 #[.string (strOf sh), .slice A n c] w (PackPost w (packM sh l)) := by
  have hn : l.length = n := hl.1
  unfold packM
  by_cases h : 200 < sh.length ∨ sh.length ≠ l.length
  · rw [if_pos h]
    refine (pack_bad sh A n c w (by omega)).mono fun e w' ⟨he, hw⟩ => .inr ⟨rfl, he, hw ▸ Below.refl _ _⟩
  · rw [if_neg h, hn]
    exact pack_main sh A n c l w hl (by omega) (by omega)
/-- Pack. -/
theorem codec_Pack (sh : List UInt8) (A : Option Addr) (n c : Nat) (l : List FieldD) (w : World) (hl : RFields w A n c l) :
    Calls Try.prog 29 #[.string (strOf sh), .slice A n c] w (PackedPost w (packM sh l)) :=
  codec_Pack_of _ A n c _ w (codec_pack sh A n c l _ (hl.below (below_alloc w _)))
end Go.Proofs.Ytgakajofggmbjaa

/- Rows of fields of one's own; no program in sight but for the types' numbers. -/
namespace Go.Proofs.Ytgakajofggmbjaa
open Go.RowKit

/-- What a field says, wherever its bytes lie. -/
def vals (l : List FieldD) : List (Nat × List UInt8) := l.map fun f => (f.num, f.bytes)
/-- The cells of fields in a row. -/
def fcells (l : List FieldD) : List Value := l.flatMap fieldCells
theorem fcells_length (l : List FieldD) : (fcells l).length = l.length * 2 := by
  induction l with
  | nil => rfl
  | cons x l ih =>
    simp only [fcells, List.flatMap_cons, List.length_append, List.length_cons, fieldCells, List.length_nil] at ih ⊢
    omega
theorem fieldAt_get {l : List FieldD} {k : Nat} (h : k < l.length) : fieldAt l k = l[k] := by
  rw [fieldAt, List.getD_eq_getElem?_getD, List.getElem?_eq_getElem h]; rfl
theorem fcells_get (l : List FieldD) (k : Nat) (h : k < l.length) (j : Nat) (u : Value) (hj : (fieldCells (fieldAt l k))[j]? = some u) : (fcells l)[k * 2 + j]? = some u := by
  have e : fcells l = fcells (l.take k) ++ (fieldCells (fieldAt l k) ++ fcells (l.drop (k + 1))) := by
    have e0 : l = l.take k ++ fieldAt l k :: l.drop (k + 1) := by
      rw [fieldAt_get h, List.getElem_cons_drop, List.take_append_drop]
    conv => lhs; rw [e0]
    simp [fcells]
  have hl : (fcells (l.take k)).length = k * 2 := by rw [fcells_length, List.length_take]; congr 1; omega
  rw [e, List.getElem?_append_right (by omega), hl, Nat.add_sub_cancel_left, List.getElem?_append_left (List.getElem?_eq_some_iff.1 hj).1]
  exact hj
/-- Fields in rows of one's own: the row of fields, and each field's bytes. -/
structure OFields (w : World) (base : Nat) (v : Value) (l : List FieldD) : Prop where
  row : w.ownsRow base 78 2 v l.length (fcells l)
  num : ∀ f ∈ l, f.num < 18446744073709551616
  bytes : ∀ f ∈ l, w.ownsRow base 5 1 (.slice f.A f.n f.c) f.n (bv f.bytes)
  len : ∀ f ∈ l, f.n ≤ 140737488351232
/-- They are read as fields. -/
theorem OFields.read {w : World} {base : Nat} {v : Value} {l : List FieldD} (h : OFields w base v l) : ∃ A c, v = .slice A l.length c ∧ RFields w A l.length c l := by
  have ok : ∀ f ∈ l, FieldOk w f := fun f hf => by
    refine ⟨h.num f hf, ?_, h.len f hf⟩
    obtain ⟨A, c, e, hr⟩ := own_rb (h.bytes f hf)
    injection e with e1 _ e3
    subst e1 e3
    exact hr
  rcases h.row.2 with ⟨rfl, h0⟩ | ⟨g, cap, cur, rfl, _, hg, hnc, hcm, _⟩
  · rw [h0]
    exact ⟨none, 0, rfl, h0, Nat.le_refl _, by omega, fun hp => absurd hp (by omega)⟩
  · refine ⟨_, cap, rfl, rfl, hnc, by simpa [maxLen] using hcm, fun _ => ⟨g, 0, rfl, fun k hk => ⟨fun j u hj => ?_, ok _ (by rw [fieldAt_get hk]; exact List.getElem_mem _)⟩⟩⟩
    have := h.row.cells (g := g) rfl (k * 2 + j) u (fcells_get l k hk j u hj)
    rw [add_none] at this
    rw [Nat.zero_add]
    simpa using this

theorem own_apart {w : World} {base base' n n' size size' : Nat} {e e' : TypeId} {v v' : Value} {xs xs' : List Value} (h : w.ownsRow base e size v n xs) (h' : w.ownsRow base' e' size' v' n' xs') (ht : e ≠ e') (g : Nat) (hg : v.ownBlock = some g) : v'.ownBlock ≠ some g := by
  intro hg'
  rcases h.2 with ⟨rfl, _⟩ | ⟨a, cap, cur, rfl, _, ha, _⟩
  · simp [Value.ownBlock] at hg
  · rcases h'.2 with ⟨rfl, _⟩ | ⟨a', cap', cur', rfl, _, ha', _⟩
    · simp [Value.ownBlock] at hg'
    · have e1 : a = g := by simpa [Value.ownBlock] using hg
      have e2 : a' = g := by simpa [Value.ownBlock] using hg'
      subst e1
      subst e2
      rw [ha] at ha'
      injection ha' with ha'
      injection ha' with _ h2
      exact ht h2
section
variable {w w' : World} {base : Nat} {v : Value} {l : List FieldD}
theorem OFields.alloc (h : OFields w base v l) (o : Obj) : OFields (w.alloc o) base v l := ⟨h.row.alloc o, h.num, fun f hf => (h.bytes f hf).alloc o, h.len⟩
theorem OFields.drew (h : OFields w base v l) : OFields w.drew base v l := ⟨h.row.drew, h.num, fun f hf => (h.bytes f hf).drew, h.len⟩
/-- A new block grows: the fields stay. -/
theorem OFields.beside (h : OFields w base v l) {o : Obj} (hg : (w.alloc o).grownBy w' (some w.heap.size)) : OFields w' base v l :=
  ⟨(h.row.alloc o).kept hg (.inr fun e => by have := (h.row.lt _ e).2; omega), h.num, fun f hf => ((h.bytes f hf).alloc o).kept hg (.inr fun e => by have := ((h.bytes f hf).lt _ e).2; omega), h.len⟩
/-- One field more. -/
theorem OFields.push (h : OFields w base v l) (f : FieldD) (hn : f.num < 18446744073709551616) (hl : f.n ≤ 140737488351232) (hb : w.ownsRow base 5 1 (.slice f.A f.n f.c) f.n (bv f.bytes)) {v' : Value} (hg : w.grownBy w' v.ownBlock)
    (hr : w'.ownsRow base 78 2 v' (l.length + 1) (fcells l ++ fieldCells f)) : OFields w' base v' (l ++ [f]) := by
  have keep : ∀ f' : FieldD, w.ownsRow base 5 1 (.slice f'.A f'.n f'.c) f'.n (bv f'.bytes) → w'.ownsRow base 5 1 (.slice f'.A f'.n f'.c) f'.n (bv f'.bytes) := fun f' hf' =>
    hf'.kept hg (by
      cases hv : v.ownBlock with
      | none =>
        cases hv' : (Value.slice f'.A f'.n f'.c).ownBlock with
        | none => exact .inl rfl
        | some g => exact .inr (fun e => by cases e)
      | some g => exact .inr (own_apart h.row hf' (by decide) g hv))
  refine ⟨?_, fun f' hf' => ?_, fun f' hf' => ?_, fun f' hf' => ?_⟩
  · rw [List.length_append, List.length_singleton]
    have e : fcells (l ++ [f]) = fcells l ++ fieldCells f := by simp [fcells]
    rw [e]
    exact hr
  · rcases List.mem_append.1 hf' with hf' | hf'
    · exact h.num _ hf'
    · rw [List.mem_singleton.1 hf']; exact hn
  · rcases List.mem_append.1 hf' with hf' | hf'
    · exact keep _ (h.bytes _ hf')
    · rw [List.mem_singleton.1 hf']; exact keep _ hb
  · rcases List.mem_append.1 hf' with hf' | hf'
    · exact h.len _ hf'
    · rw [List.mem_singleton.1 hf']; exact hl
end
theorem vals_take (l : List FieldD) (k : Nat) (h : k < l.length) : vals (l.take (k + 1)) = vals (l.take k) ++ [((fieldAt l k).num, (fieldAt l k).bytes)] := by
  unfold vals
  rw [List.take_succ_eq_append_getElem h, List.map_append, fieldAt_get h]
  rfl
theorem Try.info87 : (Try.prog.info? 78).map (fun i => (i.zero, i.size, i.bytes)) = some (some (.agg #[.int .u64 0, .slice none 0 0]), 2, 32) := by kernel_rfl
end Go.Proofs.Ytgakajofggmbjaa

/- More on rows of one's own: what leaves them alone; parts of bytes that are read. No program in sight but for the types' numbers. -/
namespace Go.Proofs.Ytgakajofggmbjaa
open Go.RowKit

theorem own_below {B : Nat} {e : TypeId} {k : Nat} {v : Value} {n : Nat} {xs : List Value} {w w' : World} (h : w.ownsRow B e k v n xs) (hb : Below w.heap.size w w') : w'.ownsRow B e k v n xs :=
  h.kept (row := none) ⟨hb.os, hb.tape, hb.output, hb.size, fun j hj _ => hb.block j hj⟩ (by cases hv : v.ownBlock <;> simp)
theorem OFields.below {w w' : World} {base : Nat} {v : Value} {l : List FieldD} (h : OFields w base v l) (hb : Below w.heap.size w w') : OFields w' base v l :=
  ⟨own_below h.row hb, h.num, fun f hf => own_below (h.bytes f hf) hb, h.len⟩
theorem OFields.mono {w : World} {base base' : Nat} {v : Value} {l : List FieldD} (h : OFields w base' v l) (hb : base ≤ base') : OFields w base v l :=
  ⟨own_mono h.row hb, h.num, fun f hf => own_mono (h.bytes f hf) hb, h.len⟩
theorem OFields.set {w : World} {base : Nat} {v : Value} {l : List FieldD} (h : OFields w base v l) (a : Addr) (u : Value) (hne : a.block < base) : OFields (w.setCell a u) base v l :=
  ⟨own_set h.row a u (fun e => by have := (h.row.lt _ e).1; omega), h.num, fun f hf => own_set (h.bytes f hf) a u (fun e => by have := ((h.bytes f hf).lt _ e).1; omega), h.len⟩

/-- Where a part of a slice begins. -/
def cutA (A : Option Addr) (c l : Nat) : Option Addr := if c = l then A else A.map (·.add l)
theorem RB.cut {w : World} {A : Option Addr} {n c : Nat} {xs : List UInt8} (h : RB w A n c xs) (l m : Nat) (hl : l + m ≤ n) : RB w (cutA A c l) m (c - l) ((xs.drop l).take m) := by
  obtain ⟨h1, h2, h3, h4⟩ := h
  refine ⟨by simp; omega, by omega, by omega, fun hp => ?_⟩
  obtain ⟨b, o, rfl, hc⟩ := h4 (by omega)
  refine ⟨b, o + l, ?_, fun k hk => ?_⟩
  · unfold cutA
    rw [if_neg (by omega), Option.map_some, add_none]
  · rw [Nat.add_assoc, hc (l + k) (by omega)]
    simp [at8, List.getD_eq_getElem?_getD, hk]
theorem RB.rest {w : World} {A : Option Addr} {n c : Nat} {xs : List UInt8} (h : RB w A n c xs) (l : Nat) (hl : l ≤ n) : RB w (cutA A c l) (n - l) (c - l) (xs.drop l) := by
  have := h.cut l (n - l) (by omega)
  rwa [List.take_of_length_le (by simp [h.1])] at this

theorem RB.first {w : World} {A : Option Addr} {n c : Nat} {xs : List UInt8} (h : RB w A n c xs) (k : Nat) (hk : k ≤ n) : RB w A k c (xs.take k) := by
  obtain ⟨h1, h2, h3, h4⟩ := h
  refine ⟨by simp; omega, by omega, h3, fun hp => ?_⟩
  obtain ⟨b, o, e, hc⟩ := h4 (by omega)
  refine ⟨b, o, e, fun j hj => ?_⟩
  rw [hc j (by omega)]
  simp [at8, List.getD_eq_getElem?_getD, hj]
theorem OFields.kept {w w1 w' : World} {base b : Nat} {v : Value} {l : List FieldD} (h : OFields w base v l) (h1 : OFields w1 base v l) (hg : w1.grownBy w' (some b)) (hb : w.heap.size ≤ b) : OFields w' base v l :=
  ⟨h1.row.kept hg (.inr fun e => by have := (h.row.lt _ e).2; omega), h.num, fun f hf => (h1.bytes f hf).kept hg (.inr fun e => by have := ((h.bytes f hf).lt _ e).2; omega), h.len⟩
theorem strOf_toList (xs : List UInt8) : (strOf xs).toList = xs := by
  rw [ByteArray.toList_eq]
  simp [strOf]
theorem str_eq (xs : List UInt8) : ((strOf xs).toList == (strOf xs).toList) = true := by simp
theorem str_ne {xs ys : List UInt8} (h : xs ≠ ys) : ((strOf xs).toList == (strOf ys).toList) = false := by
  rw [strOf_toList, strOf_toList, beq_eq_false_iff_ne]
  exact h
/-- The number of bytes. -/
def numOf (xs : List UInt8) : Nat := xs.foldl (fun n x => n * 256 + x.toNat) 0
theorem numOf_push (xs : List UInt8) (x : UInt8) : numOf (xs ++ [x]) = numOf xs * 256 + x.toNat := by simp [numOf]
theorem numOf_take (xs : List UInt8) (k : Nat) (h : k < xs.length) : numOf (xs.take (k + 1)) = numOf (xs.take k) * 256 + (at8 xs k).toNat := by
  rw [List.take_succ_eq_append_getElem h, numOf_push]
  simp [at8, List.getD_eq_getElem?_getD, h]
theorem numOf_lt (xs : List UInt8) (k : Nat) : numOf (xs.take k) < 256 ^ k := by
  induction k with
  | zero => simp [numOf]
  | succ k ih =>
    by_cases h : k < xs.length
    · rw [numOf_take xs k h, Nat.pow_succ]
      have := (at8 xs k).toNat_lt
      omega
    · rw [List.take_of_length_le (by omega)]
      rw [List.take_of_length_le (by omega)] at ih
      rw [Nat.pow_succ]
      omega
theorem numOf_small (xs : List UInt8) (k : Nat) (h : k ≤ 8) : numOf (xs.take k) < 18446744073709551616 := by
  have h1 := numOf_lt xs k
  have h2 : (256 : Nat) ^ k ≤ 256 ^ 8 := Nat.pow_le_pow_right (by decide) h
  omega
/-- A new block of fields. -/
theorem rfields_new {w : World} (l : List FieldD) (T : TypeId) (b : Nat) (hb : b = w.heap.size) (cs : Array Value) (hcs : cs.toList = fcells l) (hl : l.length ≤ 9223372036854775807) (hok : ∀ f ∈ l, FieldOk w f) : RFields (w.alloc (.cells cs T)) (some ⟨b, 0, none⟩) l.length l.length l := by
  subst hb
  refine ⟨rfl, Nat.le_refl _, hl, fun _ => ⟨_, _, rfl, fun k hk => ⟨fun j u hj => ?_, (hok _ (by rw [fieldAt_get hk]; exact List.getElem_mem _)).below (below_alloc _ _)⟩⟩⟩
  rw [World.cell?_alloc_mark, Nat.zero_add]
  have := fcells_get l k hk j u hj
  rw [← hcs] at this
  simpa using this
theorem rfields_nil (w : World) : RFields w none 0 0 [] := ⟨rfl, Nat.le_refl _, by omega, fun h => absurd h (by omega)⟩
end Go.Proofs.Ytgakajofggmbjaa

/- x[lo:hi] of a slice of bytes, as a step of a walk: where it begins is left as it is called. -/
namespace Go.Proofs.Ytgakajofggmbjaa
open Go.RowKit

section
variable {ops : Array Oper} {rest : List Oper} {o : Oper} {a : Act} {w : World} {Q : Exit → Act → World → Prop}
set_option maxRecDepth 20000 in
theorem run_cut (A : Option Addr) (n c l k : Nat) (hc : l + k ≤ c) (w : World) :
    (Instr.sliceAt 37 (.slice A n c) (some (.int .i64 (l : Int))) (some (.int .i64 ((l : Int) + (k : Int)))) none).run Try.prog w = .ok (.slice (cutA A c l) k (c - l)) w := by
  have ht : Try.prog.underlying 37 = some (.slice (Try.prog.elem 37)) := by kernel_rfl
  have he : Try.prog.elem 37 = 5 := by kernel_rfl
  obtain ⟨i0, hi0, hz0, hz1, hz2⟩ := info_parts Try.infoU8'
  rw [run_sliceAt_slice w _ _ _ _ _ ht, run_slice_lh w _ _ _ _ ht .i64 .i64 l ((l : Int) + (k : Int)) (by omega) (by omega) (by omega), he]
  have e2 : ((l : Int) + (k : Int)).toNat = l + k := by omega
  simp [sizeOf, typeInfo, hi0, hz1, e2, sliced, cutA, Result.andThen, Nat.mul_one]
theorem wpList_cut (hgd : o.guard = none) (x lo hi : Operand) (ho : o.op = .slice 37 x (some lo) (some hi) none) (A : Option Addr) (n c l k : Nat) (hx : a.eval x = .slice A n c) (hlo : a.eval lo = .int .i64 (l : Int)) (H : Int) (hhi : a.eval hi = .int .i64 H) (hH : H = (l : Int) + (k : Int)) (hc : l + k ≤ c)
    (h : wpList Try.prog ops Q rest (a.put o.dst (.slice (cutA A c l) k (c - l))) w) : wpList Try.prog ops Q (o :: rest) a w := by
  subst hH
  refine wpList_plain hgd fun K hK => ?_
  unfold Oper.wp execOp
  simp only [ho, Option.map_some, Option.map_none, hx, hlo, hhi]
  simp only [Sem.run_bind, run_cut A n c l k hc w, Result.andThen_ok, Sem.run_pure]
  exact hK _ _ h
end
end Go.Proofs.Ytgakajofggmbjaa

/- slices.Chunk over bytes, a hundred and twenty-eight at a time, the last piece shorter: its contract as an iterator. -/
namespace Go.Proofs.Ytgakajofggmbjaa
open Go.RowKit Go.Shelf
attribute [local go_sem] Oper.semAt_some

/-- The k-th piece of at most 128 bytes of n that begin at place o of block b. -/
def pieceJ (b o n : Nat) (k : Nat) : Value := .slice (some ⟨b, o + 128 * k, none⟩) (min 128 (n - 128 * k)) (min 128 (n - 128 * k))
/-- The two boxes lie as they lay. -/
structure KC (Bs Bm : Nat) (W W' : World) : Prop where
  s : W'.heap[Bs]? = W.heap[Bs]?
  m : W'.heap[Bm]? = W.heap[Bm]?
theorem KC.refl (Bs Bm : Nat) (W : World) : KC Bs Bm W W := ⟨rfl, rfl⟩
theorem KC.trans {Bs Bm : Nat} {A B C : World} (h : KC Bs Bm A B) (k : KC Bs Bm B C) : KC Bs Bm A C := ⟨k.s.trans h.s, k.m.trans h.m⟩
theorem KC.put {Bs Bm : Nat} {w : World} (h1 : Bs < w.heap.size) (h2 : Bm < w.heap.size) (W : World) (l : Nat) (o o' : Obj) (hl : w.heap.size ≤ l) (_ : W.heap[l]? = some o) (_ : o.isCells = false) (_ : o.isWalk = false) : KC Bs Bm W (W.putObj l o') :=
  ⟨World.putObj_heap_other (by omega), World.putObj_heap_other (by omega)⟩
theorem KC.of_below {Bs Bm n : Nat} {W W' : World} (h : Below n W W') (h1 : Bs < n) (h2 : Bm < n) : KC Bs Bm W W' := ⟨h.block _ h1, h.block _ h2⟩
set_option maxRecDepth 100000 in
set_option maxHeartbeats 2000000 in
theorem chunk1_in (F : Fence) (n : Nat) (h7 : F.fn 46) (hro : F.round = none) (hn : 1 ≤ n) (hF : F = Fence.wide) (l Bs Bm b off N q cap : Nat) (hq : N ≤ 128 * q ∧ 128 * q < N + 128) (hcap : N ≤ cap) (hcap2 : cap ≤ 9223372036854775807) (hN : N ≤ 140737488355328) (J Jx : List Nat → World → Prop)
    (hJd : ∀ pre W m, J pre W → J pre (W.drewN m))
    (hY : ∀ pre x W, x < q → J pre W → pre.length < q → YieldAt F (n - 1) Try.prog l #[pieceJ b off N x] W fun e W' =>
      (e = .returned (.bool true) ∧ J (pre ++ [x]) W' ∧ KC Bs Bm W W') ∨ (e = .returned (.bool false) ∧ Jx (pre ++ [x]) W'))
    (W : World) (hBs : W.cell? ⟨Bs, 0, none⟩ = some (.slice (some ⟨b, off, none⟩) N cap)) (hBm : W.cell? ⟨Bm, 0, none⟩ = some (.int .i64 128)) (h0 : J [] W) :
    CallsIn F n Try.prog 46 #[.func (.yield l) #[] #[], .pointer (some ⟨Bs, 0, none⟩), .pointer (some ⟨Bm, 0, none⟩)] W fun e W' => (∃ v, e = .returned v) ∧
      (J (List.range q) W' ∨ (∃ k, k ≤ q ∧ Jx (List.range k) W')) := by
  refine callsIn_of_wp Try.func46 rfl h7 ?_ hro
  simp only [Try.ntmps46, List.size_toArray, List.length_cons, List.length_nil, Nat.reduceAdd, Nat.reduceSub, Array.replicate_succ, Array.replicate_zero, List.push_toArray, List.append_toArray, List.nil_append, List.cons_append]
  gi_wp2
  gi_loopw [4] (fun i wr => ∃ k : Nat, k ≤ q ∧ i = .int .i64 (128 * k : Nat) ∧ J (List.range k) wr ∧ KC Bs Bm W wr)
    (fun i _ => 128 * q - (intOf i).toNat)
  case atStart => exact ⟨0, Nat.zero_le _, rfl, h0, KC.refl _ _ _⟩
  case round =>
    obtain ⟨k, hk, rfl, hJs, hnx⟩ := hrel
    have hbs : wr.cell? ⟨Bs, 0, none⟩ = some (.slice (some ⟨b, off, none⟩) N cap) := (World.cell?_of_block hnx.s).trans hBs
    have hbm : wr.cell? ⟨Bm, 0, none⟩ = some (.int .i64 128) := (World.cell?_of_block hnx.m).trans hBm
    by_cases hlt : k < q
    · have hk1 : ((128 * k : Nat) : Int) < (N : Int) := by omega
      have hk0 : (0 : Int) ≤ ((128 * k : Nat) : Int) := Int.natCast_nonneg _
      gi_wp2
      subst hF
      have hkc : ¬ (128 * k = cap) := by omega
      have hki : ((128 * k : Nat) : Int) ≤ (N : Int) := by omega
      have hkd : ((128 * k : Nat) : Int) ≤ (cap : Int) := by omega
      refine wpIn_wide.2 ?_
      by_cases hfull : 128 ≤ N - 128 * k
      · have hmin : ¬ ((N - 128 * k : Nat) : Int) < 128 := by omega
        have hpe : pieceJ b off N k = .slice (some ⟨b, off + 128 * k, none⟩) 128 128 := by unfold pieceJ; rw [Nat.min_eq_left hfull]
        go_quiet (fail)
        obtain ⟨fn, tmps, assign, body, hy, hR⟩ := hY _ k _ hlt (hJd _ _ nq hJs) (by simp; exact hlt)
        rw [hpe] at hy
        have hbs2 : (wr.drewN nq).cell? ⟨Bs, 0, none⟩ = some (.slice (some ⟨b, off, none⟩) N cap) := hbs
        have hbm2 : (wr.drewN nq).cell? ⟨Bm, 0, none⟩ = some (.int .i64 128) := hbm
        have hw9 : IntKind.i64.wrap (((128 * k : Nat) : Int) + 128) = ((128 * k + 128 : Nat) : Int) := by simp [IntKind.wrap, IntKind.signed, IntKind.bits]; omega
        have hk9 : ((128 * k + 128 : Nat) : Int) ≤ (cap : Int) := by omega
        have hk8 : ((128 * k : Nat) : Int) ≤ ((128 * k + 128 : Nat) : Int) := by omega
        have hs9 : 128 * k + 128 - 128 * k = 128 := by omega
        have hnx2 : KC Bs Bm W (wr.drewN nq) := ⟨hnx.s, hnx.m⟩
        clear hpe hmin
        generalize hwn : wr.drewN nq = wn at *
        clear hwn
        gi_wp2
        refine hR.mono ?_
        rintro e W3 (⟨rfl, hJ3, hk3⟩ | ⟨rfl, hJx3⟩)
        · have hbm3 : W3.cell? ⟨Bm, 0, none⟩ = some (.int .i64 128) := (World.cell?_of_block hk3.m).trans hbm2
          gi_wp2
          go_roundw
          case rel => exact ⟨k + 1, by omega, by go_num, by rw [List.range_succ]; exact hJ3, hnx2.trans hk3⟩
          case measure => simp [intOf]; omega
        · gi_wp2
          refine bodyPost_ret (results_none rfl _ _ _) rfl ?_
          exact ⟨⟨_, rfl⟩, .inr ⟨k + 1, by omega, by rw [List.range_succ]; exact hJx3⟩⟩
      · have hmin : ((N - 128 * k : Nat) : Int) < 128 := by omega
        have hpe : pieceJ b off N k = .slice (some ⟨b, off + 128 * k, none⟩) (N - 128 * k) (N - 128 * k) := by unfold pieceJ; rw [Nat.min_eq_right (by omega)]
        go_quiet (fail)
        obtain ⟨fn, tmps, assign, body, hy, hR⟩ := hY _ k _ hlt (hJd _ _ nq hJs) (by simp; exact hlt)
        rw [hpe] at hy
        have hbs2 : (wr.drewN nq).cell? ⟨Bs, 0, none⟩ = some (.slice (some ⟨b, off, none⟩) N cap) := hbs
        have hbm2 : (wr.drewN nq).cell? ⟨Bm, 0, none⟩ = some (.int .i64 128) := hbm
        have hw9 : IntKind.i64.wrap (((128 * k : Nat) : Int) + ((N - 128 * k : Nat) : Int)) = ((N : Nat) : Int) := by simp [IntKind.wrap, IntKind.signed, IntKind.bits]; omega
        have hw8 : IntKind.i64.wrap (((128 * k : Nat) : Int) + 128) = ((128 * k + 128 : Nat) : Int) := by simp [IntKind.wrap, IntKind.signed, IntKind.bits]; omega
        have hk9 : ((N : Nat) : Int) ≤ (cap : Int) := by omega
        have hk8 : ((128 * k : Nat) : Int) ≤ ((N : Nat) : Int) := by omega
        have hnx2 : KC Bs Bm W (wr.drewN nq) := ⟨hnx.s, hnx.m⟩
        clear hpe hmin
        generalize hwn : wr.drewN nq = wn at *
        clear hwn
        gi_wp2
        refine hR.mono ?_
        rintro e W3 (⟨rfl, hJ3, hk3⟩ | ⟨rfl, hJx3⟩)
        · have hbm3 : W3.cell? ⟨Bm, 0, none⟩ = some (.int .i64 128) := (World.cell?_of_block hk3.m).trans hbm2
          gi_wp2
          go_roundw
          case rel => exact ⟨k + 1, by omega, by go_num, by rw [List.range_succ]; exact hJ3, hnx2.trans hk3⟩
          case measure => simp [intOf]; omega
        · gi_wp2
          refine bodyPost_ret (results_none rfl _ _ _) rfl ?_
          exact ⟨⟨_, rfl⟩, .inr ⟨k + 1, by omega, by rw [List.range_succ]; exact hJx3⟩⟩
    · have hk1 : ¬ ((128 * k : Nat) : Int) < (N : Int) := by omega
      obtain rfl : k = q := by omega
      gi_wp2
      go_end0
      exact ⟨⟨_, rfl⟩, .inl hJs⟩
set_option maxRecDepth 100000 in
set_option maxHeartbeats 2000000 in
/-- .. where there is nothing: no round. -/
theorem chunk0_in (F : Fence) (n : Nat) (h7 : F.fn 46) (hro : F.round = none) (l Bs Bm : Nat) (A : Option Addr) (c : Nat) (J : World → Prop) (W : World) (hBs : W.cell? ⟨Bs, 0, none⟩ = some (.slice A 0 c)) (h0 : J W) :
    CallsIn F n Try.prog 46 #[.func (.yield l) #[] #[], .pointer (some ⟨Bs, 0, none⟩), .pointer (some ⟨Bm, 0, none⟩)] W fun e W' => (∃ v, e = .returned v) ∧ J W' := by
  refine callsIn_of_wp Try.func46 rfl h7 ?_ hro
  simp only [Try.ntmps46, List.size_toArray, List.length_cons, List.length_nil, Nat.reduceAdd, Nat.reduceSub, Array.replicate_succ, Array.replicate_zero, List.push_toArray, List.append_toArray, List.nil_append, List.cons_append]
  gi_wp2
  gi_loopw [4] (fun i wr => i = .int .i64 0 ∧ wr = W) (fun _ _ => 0)
  case atStart => exact ⟨rfl, rfl⟩
  case round =>
    obtain ⟨rfl, rfl⟩ := hrel
    gi_wp2
    go_end0
    exact ⟨⟨_, rfl⟩, h0⟩
set_option maxHeartbeats 2000000 in
/-- slices.Chunk: the slice and the size are boxed. -/
theorem chunk_make (A : Option Addr) (n c : Nat) (w : World) :
    Calls Try.prog 26 #[.slice A n c, .int .i64 128] w fun e w' => e = .returned (.func (.func 46) #[] #[.pointer (some ⟨w.heap.size, 0, none⟩), .pointer (some ⟨w.heap.size + 1, 0, none⟩)]) ∧ w' = (w.alloc (.cells #[.slice A n c] 37)).alloc (.cells #[.int .i64 128] 3) := by
  go_enter Try.func26, Try.ntmps26
  go_wp2_with fail
  go_ret
  exact ⟨rfl, rfl⟩
/-- A hundred and twenty-eight bytes at a time: q pieces, in order. -/
theorem chunk_stops (n : Nat) (hn : 1 ≤ n) (Bs Bm b off N q cap : Nat) (hq : N ≤ 128 * q ∧ 128 * q < N + 128) (hcap : N ≤ cap) (hcap2 : cap ≤ 9223372036854775807) (hN : N ≤ 140737488355328) (w : World) (hBs0 : Bs < w.heap.size) (hBm0 : Bm < w.heap.size)
    (hBs : w.cell? ⟨Bs, 0, none⟩ = some (.slice (some ⟨b, off, none⟩) N cap)) (hBm : w.cell? ⟨Bm, 0, none⟩ = some (.int .i64 128)) :
    SeqStopsK Fence.wide n Try.prog 46 #[.pointer (some ⟨Bs, 0, none⟩), .pointer (some ⟨Bm, 0, none⟩)] (fun x : Fin q => #[pieceJ b off N x.1]) (KC Bs Bm) (fun ys => ys.map (·.1) = List.range q) (fun pre => ∃ k, k ≤ q ∧ pre.map (·.1) = List.range k) q w := fun l J Jx W hW hJ _ hY h0 => by
  have hBs' := (hW.cell (p := ⟨Bs, 0, none⟩) hBs0).trans hBs
  have hBm' := (hW.cell (p := ⟨Bm, 0, none⟩) hBm0).trans hBm
  refine (chunk1_in Fence.wide n trivial rfl hn rfl l Bs Bm b off N q cap hq hcap hcap2 hN (fun r W => ∃ ys : List (Fin q), ys.map (·.1) = r ∧ J ys W) (fun r W => ∃ ys : List (Fin q), ys.map (·.1) = r ∧ Jx ys W) ?_ ?_ W hBs' hBm' ⟨[], rfl, h0⟩).mono ?_
  · rintro pre W m ⟨ys, e, h⟩
    exact ⟨ys, e, hJ ys W _ none h ⟨rfl, rfl, rfl, Nat.le_refl _, fun _ _ _ => rfl⟩ (fun r e => by cases e)⟩
  · rintro pre x W hx ⟨ys, rfl, h⟩ hl
    refine (hY ys ⟨x, hx⟩ W h (by simpa using hl)).mono ?_
    rintro e W' (⟨he, hj, hk⟩ | ⟨he, hj⟩)
    · exact .inl ⟨he, ⟨ys ++ [⟨x, hx⟩], by simp, hj⟩, hk⟩
    · exact .inr ⟨he, ys ++ [⟨x, hx⟩], by simp, hj⟩
  · rintro e W' ⟨he, ⟨ys, h1, h2⟩ | ⟨k, hk, ys, h1, h2⟩⟩
    · exact ⟨he, .inl ⟨ys, h1, h2⟩⟩
    · exact ⟨he, .inr ⟨ys, ⟨k, hk, h1⟩, h2⟩⟩
end Go.Proofs.Ytgakajofggmbjaa

/- The journal's small functions: Start, Len, mark, head. -/
namespace Go.Proofs.Ytgakajofggmbjaa
open Go.RowKit

/-- The cells of a journal. -/
def jC (p : Nat) (first : Int) (gen count : Nat) : List Value := [.pointer (some ⟨p, 0, none⟩), .int .i64 first, .int .u64 (gen : Int), .int .i64 (count : Int)]
/-- A journal lies in block j. -/
def JAt (w : World) (j p : Nat) (first : Int) (gen count : Nat) : Prop := RowAt w j 68 (jC p first gen count)
theorem JAt.c0 {w : World} {j p gen count : Nat} {first : Int} (h : JAt w j p first gen count) : w.cell? ⟨j, 0, none⟩ = some (.pointer (some ⟨p, 0, none⟩)) := RowAt.cell h 0 _ rfl
theorem JAt.c1 {w : World} {j p gen count : Nat} {first : Int} (h : JAt w j p first gen count) : w.cell? ⟨j, 1, none⟩ = some (.int .i64 first) := RowAt.cell h 1 _ rfl
theorem JAt.c2 {w : World} {j p gen count : Nat} {first : Int} (h : JAt w j p first gen count) : w.cell? ⟨j, 2, none⟩ = some (.int .u64 (gen : Int)) := RowAt.cell h 2 _ rfl
theorem JAt.c3 {w : World} {j p gen count : Nat} {first : Int} (h : JAt w j p first gen count) : w.cell? ⟨j, 3, none⟩ = some (.int .i64 (count : Int)) := RowAt.cell h 3 _ rfl
theorem JAt.fz {w : World} {j p gen count : Nat} {first : Int} (h : JAt w j p first gen count) (i : Nat) : w.frozen? ⟨j, i, none⟩ = false := frozen_of_row w j i _ _ h
theorem JAt.lt {w : World} {j p gen count : Nat} {first : Int} (h : JAt w j p first gen count) : j < w.heap.size := lt_of_heap h
theorem JAt.not_foot {w : World} {base j p q s gen count : Nat} {first : Int} {v : Value} {d : Dk} (h : JAt w j p first gen count) (hd : DiskAt w base q s v d) : ¬ foot q s v j := by
  rintro (rfl | rfl | h1)
  · exact ne_of_types hd.obj h (by decide) rfl
  · exact ne_of_types hd.sta h (by decide) rfl
  · exact own_ne hd.pen h (by decide) h1
/-- The count is written. -/
theorem JAt.set3 {w : World} {j p gen count : Nat} {first : Int} (h : JAt w j p first gen count) (n : Nat) : JAt (w.setCell ⟨j, 3, none⟩ (.int .i64 (n : Int))) j p first gen n := by
  have := heap_setCell_same w j 3 _ _ (.int .i64 (n : Int)) h
  unfold JAt RowAt
  rw [this]
  rfl
set_option maxHeartbeats 400000 in
theorem journal_Start (p : Nat) (first : Int) (gen : Nat) (w : World) :
    Calls Try.prog 12 #[.pointer (some ⟨p, 0, none⟩), .int .i64 first, .int .u64 (gen : Int)] w fun e w' =>
      e = .returned (.pointer (some ⟨w.heap.size, 0, none⟩)) ∧ w' = w.alloc (.cells (jC p first gen 0).toArray 68) := by
  go_enter Try.func12, Try.ntmps12
  go_wp2_with fail
  go_ret
  exact ⟨rfl, rfl⟩
set_option maxHeartbeats 400000 in
theorem journal_Len {j p gen count : Nat} {first : Int} (w : World) (h : JAt w j p first gen count) :
    Calls Try.prog 19 #[.pointer (some ⟨j, 0, none⟩)] w fun e w' => e = .returned (.int .i64 (count : Int)) ∧ w = w' := by
  have c3 := h.c3
  clear h
  go_enter Try.func19, Try.ntmps19
  go_wp2_with fail
  go_ret
  exact ⟨rfl, rfl⟩
set_option maxHeartbeats 400000 in
theorem journal_mark (gen n : Nat) (h : gen * 256 + n < 18446744073709551616) (hn : n < 1000) (w : World) :
    Calls Try.prog 32 #[.int .u64 (gen : Int), .int .i64 (n : Int)] w fun e w' => e = .returned (.int .u64 ((gen * 256 + n : Nat) : Int)) ∧ w = w' := by
  have h1 : IntKind.u64.wrap ((gen : Int) * 256) = ((gen * 256 : Nat) : Int) := by simp [IntKind.wrap, IntKind.signed, IntKind.bits]; omega
  have h2 : IntKind.u64.wrap (n : Int) = (n : Int) := by simp [IntKind.wrap, IntKind.signed, IntKind.bits]; omega
  have h3 : IntKind.u64.wrap (((gen * 256 : Nat) : Int) + (n : Int)) = ((gen * 256 + n : Nat) : Int) := by simp [IntKind.wrap, IntKind.signed, IntKind.bits]; omega
  go_enter Try.func32, Try.ntmps32
  go_wp2_with fail
  go_ret
  exact ⟨rfl, rfl⟩
set_option maxHeartbeats 400000 in
theorem journal_head (first place : Nat) (h : first ≤ 100000) (hn : place < 1000) (w : World) :
    Calls Try.prog 25 #[.int .i64 (first : Int), .int .i64 (place : Int)] w fun e w' => e = .returned (.int .i64 ((first + 4 * place : Nat) : Int)) ∧ w = w' := by
  have h1 : IntKind.i64.wrap (4 * (place : Int)) = ((4 * place : Nat) : Int) := by simp [IntKind.wrap, IntKind.signed, IntKind.bits]; omega
  have h3 : IntKind.i64.wrap ((first : Int) + ((4 * place : Nat) : Int)) = ((first + 4 * place : Nat) : Int) := by simp [IntKind.wrap, IntKind.signed, IntKind.bits]; omega
  go_enter Try.func25, Try.ntmps25
  go_wp2_with fail
  go_ret
  exact ⟨rfl, rfl⟩
end Go.Proofs.Ytgakajofggmbjaa

/- Nothing is lacking here: a seat in parts has the zero values of great types. -/
namespace Go.Proofs.Ytgakajofggmbjaa
end Go.Proofs.Ytgakajofggmbjaa

/- What Stable and Read of a disk compute. -/
namespace Go.Proofs.Ytgakajofggmbjaa
open Go.RowKit

section
variable {w : World} {base p s : Nat} {v : Value} {d : Dk}
set_option maxRecDepth 20000 in
set_option maxHeartbeats 400000 in
theorem disk_Stable_yes (h : DiskAt w base p s v d) (k : Nat) (hk : k < d.stable.length) :
    Calls Try.prog 23 #[.pointer (some ⟨p, 0, none⟩), .int .i64 k] w fun e w' => e = .returned (secV (secAt d.stable k)) ∧ Below w.heap.size w w' := by
  have hsec := h.sec k hk
  have hw := h.swid k hk
  have c0 := (h.below (below_alloc w (.cells Try.zeroCells55 55))).c0
  have H1 := Lib.hid (h.below (below_alloc w (.cells Try.zeroCells55 55)))
  have HS := Lib.hid (range_old hsec (.cells Try.zeroCells55 55))
  have HW := Lib.hid hw
  have hk0 : (0 : Int) ≤ (k : Int) := Int.natCast_nonneg _
  have hk1 : (k : Int) < (d.stable.length : Int) := by omega
  clear h hsec hw
  go_enter Try.func23, Try.ntmps23
  go_wp2_with fail
  refine (disk_there_yes H1.out k hk).mono ?_
  rintro e w1 ⟨rfl, rfl⟩
  go_wp2_with (first | (refine ld37 rfl _ rfl s (k * 128) rfl (secAt d.stable k) HS.out HW.out ?_) | (refine st37 rfl _ _ rfl _ _ rfl rfl (secAt d.stable k) rfl HW.out rfl ?_))
  exact bodyPost_ret (ret37 Try.results23 _ w (secAt d.stable k) HW.out _ rfl rfl) rfl ⟨rfl, below_alloc w _⟩
set_option maxRecDepth 20000 in
set_option maxHeartbeats 400000 in
theorem disk_Stable_no (h : DiskAt w base p s v d) (i : Int) (hi : i < 0 ∨ (d.stable.length : Int) ≤ i) :
    Calls Try.prog 23 #[.pointer (some ⟨p, 0, none⟩), .int .i64 i] w fun e w' => e = .returned (secV zsec) ∧ Below w.heap.size w w' := by
  have H1 := Lib.hid (h.below (below_alloc w (.cells Try.zeroCells55 55)))
  have HI := Lib.hid hi
  clear h hi
  go_enter Try.func23, Try.ntmps23
  go_wp2_with fail
  refine (disk_there_no H1.out i HI.out).mono ?_
  rintro e w1 ⟨rfl, rfl⟩
  go_wp2_with (first | (refine st37 rfl _ _ rfl _ _ rfl rfl zsec rfl zsec_length rfl ?_))
  exact bodyPost_ret (ret37 Try.results23 _ w zsec zsec_length _ rfl rfl) rfl ⟨rfl, below_alloc w _⟩
set_option maxRecDepth 20000 in
set_option maxHeartbeats 400000 in
theorem disk_Read_no (h : DiskAt w base p s v d) (i : Int) (hi : i < 0 ∨ (d.stable.length : Int) ≤ i) :
    Calls Try.prog 55 #[.pointer (some ⟨p, 0, none⟩), .int .i64 i] w fun e w' => e = .returned (.tuple #[secV zsec, .int .i64 41]) ∧ Below w.heap.size w w' := by
  have H1 := Lib.hid (h.below (below_alloc w (.cells Try.zeroCells55 55)))
  have HI := Lib.hid hi
  clear h hi
  go_enter Try.func55, Try.ntmps55
  go_wp2_with fail
  refine (disk_there_no H1.out i HI.out).mono ?_
  rintro e w1 ⟨rfl, rfl⟩
  go_wp2_with (first | (refine st37 rfl _ _ rfl _ _ rfl rfl zsec rfl zsec_length rfl ?_))
  exact bodyPost_ret (ret37_tmp Try.results55 _ w zsec zsec_length _ _ rfl rfl rfl) rfl ⟨rfl, below_alloc w _⟩
set_option maxRecDepth 20000 in
set_option maxHeartbeats 800000 in
theorem disk_Read_yes (h : DiskAt w base p s v d) (k : Nat) (hk : k < d.stable.length) (hpl : d.pend.length ≤ 1000000) :
    Calls Try.prog 55 #[.pointer (some ⟨p, 0, none⟩), .int .i64 k] w fun e w' => e = .returned (.tuple #[secV (d.read k), .int .i64 0]) ∧ Below w.heap.size w w' := by
  obtain ⟨A, c, rfl⟩ := own_form h.pen
  have hsec := h.sec k hk
  have hw := h.swid k hk
  have h1 := h.below (below_alloc w (.cells Try.zeroCells55 55))
  have c0 := h1.c0
  have c1 := h1.c1
  have H1 := Lib.hid h1
  have HS := Lib.hid (range_old hsec (.cells Try.zeroCells55 55))
  have HW := Lib.hid hw
  have hk0 : (0 : Int) ≤ (k : Int) := Int.natCast_nonneg _
  have hk1 : (k : Int) < (d.stable.length : Int) := by omega
  clear h hsec hw h1
  go_enter Try.func55, Try.ntmps55
  go_wp2_with fail
  refine (disk_there_yes H1.out k hk).mono ?_
  rintro e w1 ⟨rfl, rfl⟩
  go_wp2_with fail
  go_loop [6] (fun i => ∃ m : Nat, m ≤ d.pend.length ∧ i = .int .i64 ((m : Int) - 1) ∧ Hid (∀ j, m ≤ j → j < d.pend.length → (penAt d.pend j).1 ≠ k)) (fun i => (intOf i + 1).toNat)
  case atStart => exact ⟨d.pend.length, Nat.le_refl _, rfl, Lib.hid fun j h1 h2 => by omega⟩
  case round =>
    obtain ⟨m, hm, rfl, HN⟩ := hrel
    cases m with
    | zero =>
      go_wp2_with (first | (refine ld37 rfl _ rfl s (k * 128) rfl (secAt d.stable k) HS.out HW.out ?_) | (refine st37 rfl _ _ rfl _ _ rfl rfl (secAt d.stable k) rfl HW.out rfl ?_))
      have e : d.read k = secAt d.stable k := lastW_none _ _ _ fun x hx => by
        obtain ⟨i, hi, rfl⟩ := List.mem_iff_getElem.1 hx
        have := HN.out i (by omega) hi
        rw [penAt, List.getD_eq_getElem?_getD, List.getElem?_eq_getElem hi] at this
        exact this
      rw [e]
      exact bodyPost_ret (ret37_tmp Try.results55 _ w (secAt d.stable k) HW.out _ _ rfl rfl rfl) rfl ⟨rfl, below_alloc w _⟩
    | succ m =>
      have e : (((m + 1 : Nat) : Int) - 1) = (m : Int) := by omega
      rw [e]
      clear e
      obtain ⟨g, rfl, hg, _, hr⟩ := H1.out.pcell m (by omega)
      obtain ⟨hcell, hr1⟩ := range_head hr
      have HR := Lib.hid hr1
      have HP := Lib.hid (H1.out.pin' m (by omega))
      have hm0 : (0 : Int) ≤ (m : Int) := Int.natCast_nonneg _
      have hm1 : (m : Int) < (d.pend.length : Int) := by omega
      clear hr hr1
      by_cases hq : (penAt d.pend m).1 = k
      · have hb : (((penAt d.pend m).1 : Int) == (k : Int)) = true := by rw [beq_iff_eq]; omega
        have HQ := Lib.hid hq
        clear hq
        go_wp2_with (first | (refine ld37 rfl _ rfl g (m * 129 + 1) rfl (penAt d.pend m).2 HR.out HP.out.2 ?_) | (refine st37 rfl _ _ rfl _ _ rfl rfl (penAt d.pend m).2 rfl HP.out.2 rfl ?_))
        have e : d.read k = (penAt d.pend m).2 := lastW_at _ _ m _ (by omega) HQ.out fun i h1 h2 => HN.out i (by omega) h2
        rw [e]
        exact bodyPost_ret (ret37_tmp Try.results55 _ w (penAt d.pend m).2 HP.out.2 _ _ rfl rfl rfl) rfl ⟨rfl, below_alloc w _⟩
      · have hb : (((penAt d.pend m).1 : Int) == (k : Int)) = false := by rw [beq_eq_false_iff_ne]; omega
        have HQ := Lib.hid hq
        clear hq
        go_wp2_with fail
        go_round
        case rel => exact ⟨m, by omega, rfl, Lib.hid fun j h1 h2 => by
          by_cases hj : j = m
          · subst hj; exact HQ.out
          · exact HN.out j (by omega) h2⟩
        case measure => simp [intOf]
end
end Go.Proofs.Ytgakajofggmbjaa
