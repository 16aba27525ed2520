/- The codec's Pack: pack, with giving up turned into an error. -/
import Derived.Test.YtlofiinpgkclgaaMg2
import Derived.Laws.Strings
import Derived.Laws.Slices
import Derived.RangeFuncNested
import Derived.RangeFuncBound
import Derived.RangeFuncCalls
import Derived.RangeFuncLeaves
import Derived.Shelf.Abstract
import Derived.Shelf.RegionOpen
import Derived.WalkKit
import Derived.OwnWalkIn
import Derived.TacticsInMore
import Derived.LoopNIn
import Derived.LoopIn
namespace Go.Proofs.Ytlofiinpgkclgaa
open Go.RowKit

/-- What Pack answers and leaves. -/
def PackedPost (w : World) (r : Option (List UInt8)) (e : Ending) (w' : World) : Prop :=
  Below w.heap.size w w' ∧ ((∃ v o, r = some o ∧ e = .returned (.tuple #[v, .int .i64 0]) ∧ w'.ownsRow w.heap.size 5 1 v o.length (bv o)) ∨ (r = none ∧ e = .returned (.tuple #[.slice none 0 0, .int .i64 21])))

theorem own_mono {w : World} {base base' n size : Nat} {e : TypeId} {v : Value} {xs : List Value} (h : w.ownsRow base' e size v n xs) (hb : base ≤ base') : w.ownsRow base e size v n xs := by
  refine ⟨h.1, ?_⟩
  rcases h.2 with hn | ⟨g, cap, cur, rfl, hg, rest⟩
  · exact .inl hn
  · exact .inr ⟨g, cap, cur, rfl, Nat.le_trans hb hg, rest⟩
theorem own_set {w : World} {base n size : Nat} {e : TypeId} {v : Value} {xs : List Value} (h : w.ownsRow base e size v n xs) (a : Addr) (u : Value) (hne : v.ownBlock ≠ some a.block) : (w.setCell a u).ownsRow base e size v n xs :=
  h.kept (row := some a.block) ⟨rfl, rfl, rfl, by simp [World.setCell], fun k _ hk => Below.heap_setCell _ _ _ _ (fun e => hk (by rw [e]))⟩ (.inr hne)

set_option maxRecDepth 20000 in
set_option maxHeartbeats 1600000 in
theorem codec_Pack_of (s : ByteArray) (A : Option Addr) (n c : Nat) (r : Option (List UInt8)) (w : World)
    (h : Calls Try.prog 30 #[.string s, .slice A n c] (w.alloc (.cells #[.int .i64 0] 31)) (PackPost (w.alloc (.cells #[.int .i64 0] 31)) r)) :
    Calls Try.prog 19 #[.string s, .slice A n c] w (PackedPost w r) := by
  have hmf : ∀ (fn : Fn) (first cap : Array Value) (w : World), (Instr.makeFunc fn first cap).run Try.prog w = .ok (.func fn first cap) w := fun _ _ _ _ => rfl
  have HP := Lib.hid h
  clear h
  go_enter_defers Try.func19, Try.ntmps19
  go_wp2_with fail
  refine HP.out.mono ?_
  rintro e w1 (⟨v, o, rfl, rfl, hown, hb⟩ | ⟨rfl, rfl, hb⟩)
  · have hw1 : w1.heap[w.heap.size]? = some (.cells #[.int .i64 0] 31 (0, 0)) := (hb.block _ (by simp)).trans (heap_alloc_new w _)
    have c5 : w1.cell? ⟨w.heap.size, 0, none⟩ = some (.int .i64 0) := by rw [cell_of_row w1 w.heap.size 0 _ _ _ hw1]; rfl
    have f5 : w1.frozen? ⟨w.heap.size, 0, none⟩ = false := frozen_of_row w1 w.heap.size 0 _ _ hw1
    have hbf : Below w.heap.size w (w1.setCell ⟨w.heap.size, 0, none⟩ (.int .i64 0)) := ((below_alloc w _).trans (hb.mono (by simp))).setCell (Nat.le_refl _) _
    have c6 : (w1.setCell ⟨w.heap.size, 0, none⟩ (.int .i64 0)).cell? ⟨w.heap.size, 0, none⟩ = some (.int .i64 0) := by
      rw [cell_of_row _ w.heap.size 0 _ _ _ (heap_setCell_same w1 w.heap.size 0 _ _ _ hw1)]
      rfl
    have hrow : (w1.setCell ⟨w.heap.size, 0, none⟩ (.int .i64 0)).ownsRow w.heap.size 5 1 v o.length (bv o) :=
      own_set (own_mono hown (by simp)) _ _ (fun e => by have := (hown.lt _ e).1; simp at this; omega)
    have HBF := Lib.hid hbf; have HO := Lib.hid hrow; have HC6 := Lib.hid c6
    clear hbf hown hb hw1 hrow c6
    go_wp2_with fail
    refine leaves_cons (f := 29) (args := #[.pointer (some ⟨w.heap.size, 0, none⟩)]) (by simp) (by simp [go_sem]) ?_
    refine (caught_idle ⟨w.heap.size, 0, none⟩ _).mono ?_
    rintro e u' w'' ⟨rfl, rfl, rfl⟩
    simp [Leaves, settle, results, Try.results19, go_sem, HC6.out]
    exact ⟨HBF.out, .inl ⟨v, o, rfl, rfl, HO.out⟩⟩
  · have hw1 : w1.heap[w.heap.size]? = some (.cells #[.int .i64 0] 31 (0, 0)) := (hb.block _ (by simp)).trans (heap_alloc_new w _)
    have c5 : w1.cell? ⟨w.heap.size, 0, none⟩ = some (.int .i64 0) := by rw [cell_of_row w1 w.heap.size 0 _ _ _ hw1]; rfl
    have f5 : w1.frozen? ⟨w.heap.size, 0, none⟩ = false := frozen_of_row w1 w.heap.size 0 _ _ hw1
    have c6 : (w1.setCell ⟨w.heap.size, 0, none⟩ (.int .i64 21)).cell? ⟨w.heap.size, 0, none⟩ = some (.int .i64 21) := by
      rw [cell_of_row _ w.heap.size 0 _ _ _ (heap_setCell_same w1 w.heap.size 0 _ _ _ hw1)]
      rfl
    have hbf : Below w.heap.size w (w1.setCell ⟨w.heap.size, 0, none⟩ (.int .i64 21)) := ((below_alloc w _).trans (hb.mono (by simp))).setCell (Nat.le_refl _) _
    refine leaves_cons (f := 29) (args := #[.pointer (some ⟨w.heap.size, 0, none⟩)]) (by simp) (by simp [go_sem]) ?_
    refine (caught_up ⟨w.heap.size, 0, none⟩ 0 _ c5 f5).mono ?_
    rintro e u' w'' ⟨rfl, rfl, rfl⟩
    simp [Leaves, settle, results, Try.results19, go_sem, c6]
    exact ⟨hbf, .inr ⟨rfl, rfl⟩⟩

/-- What pack computes. -/
def packM (sh : List UInt8) (l : List FieldD) : Option (List UInt8) := if 200 < sh.length ∨ sh.length ≠ l.length then none else packTo sh l l.length
set_option maxRecDepth 20000 in
set_option maxHeartbeats 1600000 in
theorem pack_bad (sh : List UInt8) (A : Option Addr) (n c : Nat) (w : World) (h : 200 < sh.length ∨ (sh.length ≤ 200 ∧ sh.length ≠ n)) :
    Calls Try.prog 30 #[.string (strOf sh), .slice A n c] w fun e w' => e = .panicked gaveUp ∧ w = w' := by
  have hsz : (strOf sh).size = sh.length := by simp [strOf, ByteArray.size]
  generalize sh.length = m at *
  rcases h with h | ⟨h, h'⟩
  · have hd : decide ((200 : Int) < (m : Int)) = true := decide_eq_true (by omega)
    go_enter Try.func30, Try.ntmps30
    go_wp2_with fail
    refine (fail_yes _).mono ?_
    rintro e w' ⟨rfl, rfl⟩
    exact ⟨rfl, rfl, rfl⟩
  · have hd : decide ((200 : Int) < (m : Int)) = false := decide_eq_false (by omega)
    have hq : ((m : Int) != (n : Int)) = true := by rw [bne_iff_ne]; omega
    go_enter Try.func30, Try.ntmps30
    go_wp2_with fail
    refine (fail_yes _).mono ?_
    rintro e w' ⟨rfl, rfl⟩
    exact ⟨rfl, rfl, rfl⟩
theorem codec_pack (sh : List UInt8) (A : Option Addr) (n c : Nat) (l : List FieldD) (w : World) (hl : RFields w A n c l) :
    Calls Try.prog 30 #[.string (strOf sh), .slice A n c] w (PackPost w (packM sh l)) := by
  have hn : l.length = n := hl.1
  unfold packM
  by_cases h : 200 < sh.length ∨ sh.length ≠ l.length
  · rw [if_pos h]
    refine (pack_bad sh A n c w (by omega)).mono fun e w' ⟨he, hw⟩ => .inr ⟨rfl, he, hw ▸ Below.refl _ _⟩
  · rw [if_neg h, hn]
    exact pack_main sh A n c l w hl (by omega) (by omega)
/-- Pack. -/
theorem codec_Pack (sh : List UInt8) (A : Option Addr) (n c : Nat) (l : List FieldD) (w : World) (hl : RFields w A n c l) :
    Calls Try.prog 19 #[.string (strOf sh), .slice A n c] w (PackedPost w (packM sh l)) :=
  codec_Pack_of _ A n c _ w (codec_pack sh A n c l _ (hl.below (below_alloc w _)))
end Go.Proofs.Ytlofiinpgkclgaa

/- Rows of fields of one's own; no program in sight but for the types' numbers. -/
namespace Go.Proofs.Ytlofiinpgkclgaa
open Go.RowKit

/-- What a field says, wherever its bytes lie. -/
def vals (l : List FieldD) : List (Nat × List UInt8) := l.map fun f => (f.num, f.bytes)
/-- The cells of fields in a row. -/
def fcells (l : List FieldD) : List Value := l.flatMap fieldCells
theorem fcells_length (l : List FieldD) : (fcells l).length = l.length * 2 := by
  induction l with
  | nil => rfl
  | cons x l ih =>
    simp only [fcells, List.flatMap_cons, List.length_append, List.length_cons, fieldCells, List.length_nil] at ih ⊢
    omega
theorem fieldAt_get {l : List FieldD} {k : Nat} (h : k < l.length) : fieldAt l k = l[k] := by
  rw [fieldAt, List.getD_eq_getElem?_getD, List.getElem?_eq_getElem h]; rfl
theorem fcells_get (l : List FieldD) (k : Nat) (h : k < l.length) (j : Nat) (u : Value) (hj : (fieldCells (fieldAt l k))[j]? = some u) : (fcells l)[k * 2 + j]? = some u := by
  have e : fcells l = fcells (l.take k) ++ (fieldCells (fieldAt l k) ++ fcells (l.drop (k + 1))) := by
    have e0 : l = l.take k ++ fieldAt l k :: l.drop (k + 1) := by
      rw [fieldAt_get h, List.getElem_cons_drop, List.take_append_drop]
    conv => lhs; rw [e0]
    simp [fcells]
  have hl : (fcells (l.take k)).length = k * 2 := by rw [fcells_length, List.length_take]; congr 1; omega
  rw [e, List.getElem?_append_right (by omega), hl, Nat.add_sub_cancel_left, List.getElem?_append_left (List.getElem?_eq_some_iff.1 hj).1]
  exact hj
/-- Fields in rows of one's own: the row of fields, and each field's bytes. -/
structure OFields (w : World) (base : Nat) (v : Value) (l : List FieldD) : Prop where
  row : w.ownsRow base 52 2 v l.length (fcells l)
  num : ∀ f ∈ l, f.num < 18446744073709551616
  bytes : ∀ f ∈ l, w.ownsRow base 5 1 (.slice f.A f.n f.c) f.n (bv f.bytes)
  len : ∀ f ∈ l, f.n ≤ 140737488351232
/-- They are read as fields. -/
theorem OFields.read {w : World} {base : Nat} {v : Value} {l : List FieldD} (h : OFields w base v l) : ∃ A c, v = .slice A l.length c ∧ RFields w A l.length c l := by
  have ok : ∀ f ∈ l, FieldOk w f := fun f hf => by
    refine ⟨h.num f hf, ?_, h.len f hf⟩
    obtain ⟨A, c, e, hr⟩ := own_rb (h.bytes f hf)
    injection e with e1 _ e3
    subst e1 e3
    exact hr
  rcases h.row.2 with ⟨rfl, h0⟩ | ⟨g, cap, cur, rfl, _, hg, hnc, hcm, _⟩
  · rw [h0]
    exact ⟨none, 0, rfl, h0, Nat.le_refl _, by omega, fun hp => absurd hp (by omega)⟩
  · refine ⟨_, cap, rfl, rfl, hnc, by simpa [maxLen] using hcm, fun _ => ⟨g, 0, rfl, fun k hk => ⟨fun j u hj => ?_, ok _ (by rw [fieldAt_get hk]; exact List.getElem_mem _)⟩⟩⟩
    have := h.row.cells (g := g) rfl (k * 2 + j) u (fcells_get l k hk j u hj)
    rw [add_none] at this
    rw [Nat.zero_add]
    simpa using this

theorem own_apart {w : World} {base base' n n' size size' : Nat} {e e' : TypeId} {v v' : Value} {xs xs' : List Value} (h : w.ownsRow base e size v n xs) (h' : w.ownsRow base' e' size' v' n' xs') (ht : e ≠ e') (g : Nat) (hg : v.ownBlock = some g) : v'.ownBlock ≠ some g := by
  intro hg'
  rcases h.2 with ⟨rfl, _⟩ | ⟨a, cap, cur, rfl, _, ha, _⟩
  · simp [Value.ownBlock] at hg
  · rcases h'.2 with ⟨rfl, _⟩ | ⟨a', cap', cur', rfl, _, ha', _⟩
    · simp [Value.ownBlock] at hg'
    · have e1 : a = g := by simpa [Value.ownBlock] using hg
      have e2 : a' = g := by simpa [Value.ownBlock] using hg'
      subst e1
      subst e2
      rw [ha] at ha'
      injection ha' with ha'
      injection ha' with _ h2
      exact ht h2
section
variable {w w' : World} {base : Nat} {v : Value} {l : List FieldD}
theorem OFields.alloc (h : OFields w base v l) (o : Obj) : OFields (w.alloc o) base v l := ⟨h.row.alloc o, h.num, fun f hf => (h.bytes f hf).alloc o, h.len⟩
theorem OFields.drew (h : OFields w base v l) : OFields w.drew base v l := ⟨h.row.drew, h.num, fun f hf => (h.bytes f hf).drew, h.len⟩
/-- A new block grows: the fields stay. -/
theorem OFields.beside (h : OFields w base v l) {o : Obj} (hg : (w.alloc o).grownBy w' (some w.heap.size)) : OFields w' base v l :=
  ⟨(h.row.alloc o).kept hg (.inr fun e => by have := (h.row.lt _ e).2; omega), h.num, fun f hf => ((h.bytes f hf).alloc o).kept hg (.inr fun e => by have := ((h.bytes f hf).lt _ e).2; omega), h.len⟩
/-- One field more. -/
theorem OFields.push (h : OFields w base v l) (f : FieldD) (hn : f.num < 18446744073709551616) (hl : f.n ≤ 140737488351232) (hb : w.ownsRow base 5 1 (.slice f.A f.n f.c) f.n (bv f.bytes)) {v' : Value} (hg : w.grownBy w' v.ownBlock)
    (hr : w'.ownsRow base 52 2 v' (l.length + 1) (fcells l ++ fieldCells f)) : OFields w' base v' (l ++ [f]) := by
  have keep : ∀ f' : FieldD, w.ownsRow base 5 1 (.slice f'.A f'.n f'.c) f'.n (bv f'.bytes) → w'.ownsRow base 5 1 (.slice f'.A f'.n f'.c) f'.n (bv f'.bytes) := fun f' hf' =>
    hf'.kept hg (by
      cases hv : v.ownBlock with
      | none =>
        cases hv' : (Value.slice f'.A f'.n f'.c).ownBlock with
        | none => exact .inl rfl
        | some g => exact .inr (fun e => by cases e)
      | some g => exact .inr (own_apart h.row hf' (by decide) g hv))
  refine ⟨?_, fun f' hf' => ?_, fun f' hf' => ?_, fun f' hf' => ?_⟩
  · rw [List.length_append, List.length_singleton]
    have e : fcells (l ++ [f]) = fcells l ++ fieldCells f := by simp [fcells]
    rw [e]
    exact hr
  · rcases List.mem_append.1 hf' with hf' | hf'
    · exact h.num _ hf'
    · rw [List.mem_singleton.1 hf']; exact hn
  · rcases List.mem_append.1 hf' with hf' | hf'
    · exact keep _ (h.bytes _ hf')
    · rw [List.mem_singleton.1 hf']; exact keep _ hb
  · rcases List.mem_append.1 hf' with hf' | hf'
    · exact h.len _ hf'
    · rw [List.mem_singleton.1 hf']; exact hl
end
theorem vals_take (l : List FieldD) (k : Nat) (h : k < l.length) : vals (l.take (k + 1)) = vals (l.take k) ++ [((fieldAt l k).num, (fieldAt l k).bytes)] := by
  unfold vals
  rw [List.take_succ_eq_append_getElem h, List.map_append, fieldAt_get h]
  rfl
theorem Try.info87 : (Try.prog.info? 52).map (fun i => (i.zero, i.size, i.bytes)) = some (some (.agg #[.int .u64 0, .slice none 0 0]), 2, 32) := by kernel_rfl
end Go.Proofs.Ytlofiinpgkclgaa

/- More on rows of one's own: what leaves them alone; parts of bytes that are read. No program in sight but for the types' numbers. -/
namespace Go.Proofs.Ytlofiinpgkclgaa
open Go.RowKit

theorem own_below {B : Nat} {e : TypeId} {k : Nat} {v : Value} {n : Nat} {xs : List Value} {w w' : World} (h : w.ownsRow B e k v n xs) (hb : Below w.heap.size w w') : w'.ownsRow B e k v n xs :=
  h.kept (row := none) ⟨hb.os, hb.tape, hb.output, hb.size, fun j hj _ => hb.block j hj⟩ (by cases hv : v.ownBlock <;> simp)
theorem OFields.below {w w' : World} {base : Nat} {v : Value} {l : List FieldD} (h : OFields w base v l) (hb : Below w.heap.size w w') : OFields w' base v l :=
  ⟨own_below h.row hb, h.num, fun f hf => own_below (h.bytes f hf) hb, h.len⟩
theorem OFields.mono {w : World} {base base' : Nat} {v : Value} {l : List FieldD} (h : OFields w base' v l) (hb : base ≤ base') : OFields w base v l :=
  ⟨own_mono h.row hb, h.num, fun f hf => own_mono (h.bytes f hf) hb, h.len⟩
theorem OFields.set {w : World} {base : Nat} {v : Value} {l : List FieldD} (h : OFields w base v l) (a : Addr) (u : Value) (hne : a.block < base) : OFields (w.setCell a u) base v l :=
  ⟨own_set h.row a u (fun e => by have := (h.row.lt _ e).1; omega), h.num, fun f hf => own_set (h.bytes f hf) a u (fun e => by have := ((h.bytes f hf).lt _ e).1; omega), h.len⟩

/-- Where a part of a slice begins. -/
def cutA (A : Option Addr) (c l : Nat) : Option Addr := if c = l then A else A.map (·.add l)
theorem RB.cut {w : World} {A : Option Addr} {n c : Nat} {xs : List UInt8} (h : RB w A n c xs) (l m : Nat) (hl : l + m ≤ n) : RB w (cutA A c l) m (c - l) ((xs.drop l).take m) := by
  obtain ⟨h1, h2, h3, h4⟩ := h
  refine ⟨by simp; omega, by omega, by omega, fun hp => ?_⟩
  obtain ⟨b, o, rfl, hc⟩ := h4 (by omega)
  refine ⟨b, o + l, ?_, fun k hk => ?_⟩
  · unfold cutA
    rw [if_neg (by omega), Option.map_some, add_none]
  · rw [Nat.add_assoc, hc (l + k) (by omega)]
    simp [at8, List.getD_eq_getElem?_getD, hk]
theorem RB.rest {w : World} {A : Option Addr} {n c : Nat} {xs : List UInt8} (h : RB w A n c xs) (l : Nat) (hl : l ≤ n) : RB w (cutA A c l) (n - l) (c - l) (xs.drop l) := by
  have := h.cut l (n - l) (by omega)
  rwa [List.take_of_length_le (by simp [h.1])] at this

theorem RB.first {w : World} {A : Option Addr} {n c : Nat} {xs : List UInt8} (h : RB w A n c xs) (k : Nat) (hk : k ≤ n) : RB w A k c (xs.take k) := by
  obtain ⟨h1, h2, h3, h4⟩ := h
  refine ⟨by simp; omega, by omega, h3, fun hp => ?_⟩
  obtain ⟨b, o, e, hc⟩ := h4 (by omega)
  refine ⟨b, o, e, fun j hj => ?_⟩
  rw [hc j (by omega)]
  simp [at8, List.getD_eq_getElem?_getD, hj]
theorem OFields.kept {w w1 w' : World} {base b : Nat} {v : Value} {l : List FieldD} (h : OFields w base v l) (h1 : OFields w1 base v l) (hg : w1.grownBy w' (some b)) (hb : w.heap.size ≤ b) : OFields w' base v l :=
  ⟨h1.row.kept hg (.inr fun e => by have := (h.row.lt _ e).2; omega), h.num, fun f hf => (h1.bytes f hf).kept hg (.inr fun e => by have := ((h.bytes f hf).lt _ e).2; omega), h.len⟩
theorem strOf_toList (xs : List UInt8) : (strOf xs).toList = xs := by
  rw [ByteArray.toList_eq]
  simp [strOf]
theorem str_eq (xs : List UInt8) : ((strOf xs).toList == (strOf xs).toList) = true := by simp
theorem str_ne {xs ys : List UInt8} (h : xs ≠ ys) : ((strOf xs).toList == (strOf ys).toList) = false := by
  rw [strOf_toList, strOf_toList, beq_eq_false_iff_ne]
  exact h
/-- The number of bytes. -/
def numOf (xs : List UInt8) : Nat := xs.foldl (fun n x => n * 256 + x.toNat) 0
theorem numOf_push (xs : List UInt8) (x : UInt8) : numOf (xs ++ [x]) = numOf xs * 256 + x.toNat := by simp [numOf]
theorem numOf_take (xs : List UInt8) (k : Nat) (h : k < xs.length) : numOf (xs.take (k + 1)) = numOf (xs.take k) * 256 + (at8 xs k).toNat := by
  rw [List.take_succ_eq_append_getElem h, numOf_push]
  simp [at8, List.getD_eq_getElem?_getD, h]
theorem numOf_lt (xs : List UInt8) (k : Nat) : numOf (xs.take k) < 256 ^ k := by
  induction k with
  | zero => simp [numOf]
  | succ k ih =>
    by_cases h : k < xs.length
    · rw [numOf_take xs k h, Nat.pow_succ]
      have := (at8 xs k).toNat_lt
      omega
    · rw [List.take_of_length_le (by omega)]
      rw [List.take_of_length_le (by omega)] at ih
      rw [Nat.pow_succ]
      omega
theorem numOf_small (xs : List UInt8) (k : Nat) (h : k ≤ 8) : numOf (xs.take k) < 18446744073709551616 := by
  have h1 := numOf_lt xs k
  have h2 : (256 : Nat) ^ k ≤ 256 ^ 8 := Nat.pow_le_pow_right (by decide) h
  omega
/-- A new block of fields. -/
theorem rfields_new {w : World} (l : List FieldD) (T : TypeId) (b : Nat) (hb : b = w.heap.size) (cs : Array Value) (hcs : cs.toList = fcells l) (hl : l.length ≤ 9223372036854775807) (hok : ∀ f ∈ l, FieldOk w f) : RFields (w.alloc (.cells cs T)) (some ⟨b, 0, none⟩) l.length l.length l := by
  subst hb
  refine ⟨rfl, Nat.le_refl _, hl, fun _ => ⟨_, _, rfl, fun k hk => ⟨fun j u hj => ?_, (hok _ (by rw [fieldAt_get hk]; exact List.getElem_mem _)).below (below_alloc _ _)⟩⟩⟩
  rw [World.cell?_alloc_mark, Nat.zero_add]
  have := fcells_get l k hk j u hj
  rw [← hcs] at this
  simpa using this
theorem rfields_nil (w : World) : RFields w none 0 0 [] := ⟨rfl, Nat.le_refl _, by omega, fun h => absurd h (by omega)⟩
end Go.Proofs.Ytlofiinpgkclgaa

/- x[lo:hi] of a slice of bytes, as a step of a walk: where it begins is left as it is called. -/
namespace Go.Proofs.Ytlofiinpgkclgaa
open Go.RowKit

section
variable {ops : Array Oper} {rest : List Oper} {o : Oper} {a : Act} {w : World} {Q : Exit → Act → World → Prop}
set_option maxRecDepth 20000 in
theorem run_cut (A : Option Addr) (n c l k : Nat) (hc : l + k ≤ c) (w : World) :
    (Instr.sliceAt 27 (.slice A n c) (some (.int .i64 (l : Int))) (some (.int .i64 ((l : Int) + (k : Int)))) none).run Try.prog w = .ok (.slice (cutA A c l) k (c - l)) w := by
  have ht : Try.prog.underlying 27 = some (.slice (Try.prog.elem 27)) := by kernel_rfl
  have he : Try.prog.elem 27 = 5 := by kernel_rfl
  obtain ⟨i0, hi0, hz0, hz1, hz2⟩ := info_parts Try.infoU8'
  rw [run_sliceAt_slice w _ _ _ _ _ ht, run_slice_lh w _ _ _ _ ht .i64 .i64 l ((l : Int) + (k : Int)) (by omega) (by omega) (by omega), he]
  have e2 : ((l : Int) + (k : Int)).toNat = l + k := by omega
  simp [sizeOf, typeInfo, hi0, hz1, e2, sliced, cutA, Result.andThen, Nat.mul_one]
theorem wpList_cut (hgd : o.guard = none) (x lo hi : Operand) (ho : o.op = .slice 27 x (some lo) (some hi) none) (A : Option Addr) (n c l k : Nat) (hx : a.eval x = .slice A n c) (hlo : a.eval lo = .int .i64 (l : Int)) (H : Int) (hhi : a.eval hi = .int .i64 H) (hH : H = (l : Int) + (k : Int)) (hc : l + k ≤ c)
    (h : wpList Try.prog ops Q rest (a.put o.dst (.slice (cutA A c l) k (c - l))) w) : wpList Try.prog ops Q (o :: rest) a w := by
  subst hH
  refine wpList_plain hgd fun K hK => ?_
  unfold Oper.wp execOp
  simp only [ho, Option.map_some, Option.map_none, hx, hlo, hhi]
  simp only [Sem.run_bind, run_cut A n c l k hc w, Result.andThen_ok, Sem.run_pure]
  exact hK _ _ h
end
end Go.Proofs.Ytlofiinpgkclgaa

/- slices.Chunk over bytes, nine at a time: its contract as an iterator. -/
namespace Go.Proofs.Ytlofiinpgkclgaa
open Go.RowKit Go.Shelf
attribute [local go_sem] Oper.semAt_some

/-- The k-th piece of nine bytes that begin at place o of block b. -/
def piece9 (b o : Nat) (k : Nat) : Value := .slice (some ⟨b, o + 9 * k, none⟩) 9 9
/-- The two boxes lie as they lay. -/
structure KC (Bs Bm : Nat) (W W' : World) : Prop where
  s : W'.heap[Bs]? = W.heap[Bs]?
  m : W'.heap[Bm]? = W.heap[Bm]?
theorem KC.refl (Bs Bm : Nat) (W : World) : KC Bs Bm W W := ⟨rfl, rfl⟩
theorem KC.trans {Bs Bm : Nat} {A B C : World} (h : KC Bs Bm A B) (k : KC Bs Bm B C) : KC Bs Bm A C := ⟨k.s.trans h.s, k.m.trans h.m⟩
theorem KC.put {Bs Bm : Nat} {w : World} (h1 : Bs < w.heap.size) (h2 : Bm < w.heap.size) (W : World) (l : Nat) (o o' : Obj) (hl : w.heap.size ≤ l) (_ : W.heap[l]? = some o) (_ : o.isCells = false) (_ : o.isWalk = false) : KC Bs Bm W (W.putObj l o') :=
  ⟨World.putObj_heap_other (by omega), World.putObj_heap_other (by omega)⟩
theorem KC.of_below {Bs Bm n : Nat} {W W' : World} (h : Below n W W') (h1 : Bs < n) (h2 : Bm < n) : KC Bs Bm W W' := ⟨h.block _ h1, h.block _ h2⟩
set_option maxRecDepth 100000 in
set_option maxHeartbeats 2000000 in
theorem chunk1_in (F : Fence) (n : Nat) (h7 : F.fn 42) (hro : F.round = none) (hn : 1 ≤ n) (hF : F = Fence.wide) (l Bs Bm b off q cap : Nat) (hcap : 9 * q ≤ cap) (hcap2 : cap ≤ 9223372036854775807) (J Jx : List Nat → World → Prop)
    (hJd : ∀ pre W m, J pre W → J pre (W.drewN m))
    (hY : ∀ pre x W, x < q → J pre W → pre.length < q → YieldAt F (n - 1) Try.prog l #[piece9 b off x] W fun e W' =>
      (e = .returned (.bool true) ∧ J (pre ++ [x]) W' ∧ KC Bs Bm W W') ∨ (e = .returned (.bool false) ∧ Jx (pre ++ [x]) W'))
    (W : World) (hBs : W.cell? ⟨Bs, 0, none⟩ = some (.slice (some ⟨b, off, none⟩) ((9 * q : Nat)) cap)) (hBm : W.cell? ⟨Bm, 0, none⟩ = some (.int .i64 9)) (h0 : J [] W) :
    CallsIn F n Try.prog 42 #[.func (.yield l) #[] #[], .pointer (some ⟨Bs, 0, none⟩), .pointer (some ⟨Bm, 0, none⟩)] W fun e W' => (∃ v, e = .returned v) ∧
      (J (List.range q) W' ∨ (∃ k, k ≤ q ∧ Jx (List.range k) W')) := by
  refine callsIn_of_wp Try.func42 rfl h7 ?_ hro
  simp only [Try.ntmps42, List.size_toArray, List.length_cons, List.length_nil, Nat.reduceAdd, Nat.reduceSub, Array.replicate_succ, Array.replicate_zero, List.push_toArray, List.append_toArray, List.nil_append, List.cons_append]
  gi_wp2
  gi_loopw [4] (fun i wr => ∃ k : Nat, k ≤ q ∧ i = .int .i64 (9 * k : Nat) ∧ J (List.range k) wr ∧ KC Bs Bm W wr)
    (fun i _ => 9 * q - (intOf i).toNat)
  case atStart => exact ⟨0, Nat.zero_le _, rfl, h0, KC.refl _ _ _⟩
  case round =>
    obtain ⟨k, hk, rfl, hJs, hnx⟩ := hrel
    have hbs : wr.cell? ⟨Bs, 0, none⟩ = some (.slice (some ⟨b, off, none⟩) ((9 * q : Nat)) cap) := (World.cell?_of_block hnx.s).trans hBs
    have hbm : wr.cell? ⟨Bm, 0, none⟩ = some (.int .i64 9) := (World.cell?_of_block hnx.m).trans hBm
    by_cases hlt : k < q
    · have hk1 : ((9 * k : Nat) : Int) < ((9 * q : Nat) : Int) := by omega
      have hk0 : (0 : Int) ≤ ((9 * k : Nat) : Int) := Int.natCast_nonneg _
      gi_wp2
      subst hF
      have hkc : ¬ (9 * k = cap) := by omega
      have hki : ((9 * k : Nat) : Int) ≤ ((9 * q : Nat) : Int) := by omega
      have hkd : ((9 * k : Nat) : Int) ≤ (cap : Int) := by omega
      refine wpIn_wide.2 ?_
      go_quiet (fail)
      obtain ⟨fn, tmps, assign, body, hy, hR⟩ := hY _ k _ hlt (hJd _ _ nq hJs) (by simp; exact hlt)
      unfold piece9 at hy
      have hbs2 : (wr.drewN nq).cell? ⟨Bs, 0, none⟩ = some (.slice (some ⟨b, off, none⟩) ((9 * q : Nat)) cap) := hbs
      have hbm2 : (wr.drewN nq).cell? ⟨Bm, 0, none⟩ = some (.int .i64 9) := hbm
      have hw9 : IntKind.i64.wrap (((9 * k : Nat) : Int) + 9) = ((9 * k + 9 : Nat) : Int) := by simp [IntKind.wrap, IntKind.signed, IntKind.bits]; omega
      have hk9 : ((9 * k + 9 : Nat) : Int) ≤ (cap : Int) := by omega
      have hk8 : ((9 * k : Nat) : Int) ≤ ((9 * k + 9 : Nat) : Int) := by omega
      have hs9 : 9 * k + 9 - 9 * k = 9 := by omega
      have hnx2 : KC Bs Bm W (wr.drewN nq) := ⟨hnx.s, hnx.m⟩
      generalize hwn : wr.drewN nq = wn at *
      clear hwn
      gi_wp2
      refine hR.mono ?_
      rintro e W3 (⟨rfl, hJ3, hk3⟩ | ⟨rfl, hJx3⟩)
      · have hbm3 : W3.cell? ⟨Bm, 0, none⟩ = some (.int .i64 9) := (World.cell?_of_block hk3.m).trans hbm2
        gi_wp2
        go_roundw
        case rel => exact ⟨k + 1, by omega, by go_num, by rw [List.range_succ]; exact hJ3, hnx2.trans hk3⟩
        case measure => simp [intOf]; omega
      · gi_wp2
        refine bodyPost_ret (results_none rfl _ _ _) rfl ?_
        exact ⟨⟨_, rfl⟩, .inr ⟨k + 1, by omega, by rw [List.range_succ]; exact hJx3⟩⟩
    · obtain rfl : k = q := by omega
      gi_wp2
      go_end0
      exact ⟨⟨_, rfl⟩, .inl hJs⟩
set_option maxRecDepth 100000 in
set_option maxHeartbeats 2000000 in
/-- .. where there is nothing: no round. -/
theorem chunk0_in (F : Fence) (n : Nat) (h7 : F.fn 42) (hro : F.round = none) (l Bs Bm : Nat) (A : Option Addr) (c : Nat) (J : World → Prop) (W : World) (hBs : W.cell? ⟨Bs, 0, none⟩ = some (.slice A 0 c)) (h0 : J W) :
    CallsIn F n Try.prog 42 #[.func (.yield l) #[] #[], .pointer (some ⟨Bs, 0, none⟩), .pointer (some ⟨Bm, 0, none⟩)] W fun e W' => (∃ v, e = .returned v) ∧ J W' := by
  refine callsIn_of_wp Try.func42 rfl h7 ?_ hro
  simp only [Try.ntmps42, List.size_toArray, List.length_cons, List.length_nil, Nat.reduceAdd, Nat.reduceSub, Array.replicate_succ, Array.replicate_zero, List.push_toArray, List.append_toArray, List.nil_append, List.cons_append]
  gi_wp2
  gi_loopw [4] (fun i wr => i = .int .i64 0 ∧ wr = W) (fun _ _ => 0)
  case atStart => exact ⟨rfl, rfl⟩
  case round =>
    obtain ⟨rfl, rfl⟩ := hrel
    gi_wp2
    go_end0
    exact ⟨⟨_, rfl⟩, h0⟩
set_option maxHeartbeats 2000000 in
/-- slices.Chunk: the slice and the size are boxed. -/
theorem chunk_make (A : Option Addr) (n c : Nat) (w : World) :
    Calls Try.prog 34 #[.slice A n c, .int .i64 9] w fun e w' => e = .returned (.func (.func 42) #[] #[.pointer (some ⟨w.heap.size, 0, none⟩), .pointer (some ⟨w.heap.size + 1, 0, none⟩)]) ∧ w' = (w.alloc (.cells #[.slice A n c] 27)).alloc (.cells #[.int .i64 9] 3) := by
  go_enter Try.func34, Try.ntmps34
  go_wp2_with fail
  go_ret
  exact ⟨rfl, rfl⟩
/-- Nine bytes at a time: q pieces, in order. -/
theorem chunk_stops (n : Nat) (hn : 1 ≤ n) (Bs Bm b off q cap : Nat) (hcap : 9 * q ≤ cap) (hcap2 : cap ≤ 9223372036854775807) (w : World) (hBs0 : Bs < w.heap.size) (hBm0 : Bm < w.heap.size)
    (hBs : w.cell? ⟨Bs, 0, none⟩ = some (.slice (some ⟨b, off, none⟩) ((9 * q : Nat)) cap)) (hBm : w.cell? ⟨Bm, 0, none⟩ = some (.int .i64 9)) :
    SeqStopsK Fence.wide n Try.prog 42 #[.pointer (some ⟨Bs, 0, none⟩), .pointer (some ⟨Bm, 0, none⟩)] (fun x : Fin q => #[piece9 b off x.1]) (KC Bs Bm) (fun ys => ys.map (·.1) = List.range q) (fun pre => ∃ k, k ≤ q ∧ pre.map (·.1) = List.range k) q w := fun l J Jx W hW hJ _ hY h0 => by
  have hBs' := (hW.cell (p := ⟨Bs, 0, none⟩) hBs0).trans hBs
  have hBm' := (hW.cell (p := ⟨Bm, 0, none⟩) hBm0).trans hBm
  refine (chunk1_in Fence.wide n trivial rfl hn rfl l Bs Bm b off q cap hcap hcap2 (fun r W => ∃ ys : List (Fin q), ys.map (·.1) = r ∧ J ys W) (fun r W => ∃ ys : List (Fin q), ys.map (·.1) = r ∧ Jx ys W) ?_ ?_ W hBs' hBm' ⟨[], rfl, h0⟩).mono ?_
  · rintro pre W m ⟨ys, e, h⟩
    exact ⟨ys, e, hJ ys W _ none h ⟨rfl, rfl, rfl, Nat.le_refl _, fun _ _ _ => rfl⟩ (fun r e => by cases e)⟩
  · rintro pre x W hx ⟨ys, rfl, h⟩ hl
    refine (hY ys ⟨x, hx⟩ W h (by simpa using hl)).mono ?_
    rintro e W' (⟨he, hj, hk⟩ | ⟨he, hj⟩)
    · exact .inl ⟨he, ⟨ys ++ [⟨x, hx⟩], by simp, hj⟩, hk⟩
    · exact .inr ⟨he, ys ++ [⟨x, hx⟩], by simp, hj⟩
  · rintro e W' ⟨he, ⟨ys, h1, h2⟩ | ⟨k, hk, ys, h1, h2⟩⟩
    · exact ⟨he, .inl ⟨ys, h1, h2⟩⟩
    · exact ⟨he, .inr ⟨ys, ⟨k, hk, h1⟩, h2⟩⟩
end Go.Proofs.Ytlofiinpgkclgaa

/- slices.Equal over bytes. -/
namespace Go.Proofs.Ytlofiinpgkclgaa
open Go.RowKit

theorem below_dNE (w : World) (n : Nat) : Below w.heap.size w (w.drewN n) := ⟨rfl, rfl, rfl, Nat.le_refl _, fun _ _ => rfl⟩
theorem eq_of_at8 {xs ys : List UInt8} (hl : xs.length = ys.length) (h : ∀ j, j < xs.length → at8 xs j = at8 ys j) : xs = ys := by
  apply List.ext_getElem hl
  intro i h1 h2
  have := h i h1
  simpa [at8, List.getD_eq_getElem?_getD, h1, h2] using this
set_option maxRecDepth 20000 in
set_option maxHeartbeats 3200000 in
theorem equal_bytes {w : World} {A B : Option Addr} {n c m d : Nat} {xs ys : List UInt8} (ha : RB w A n c xs) (hb : RB w B m d ys) :
    Calls Try.prog 28 #[.slice A n c, .slice B m d] w fun e w' => e = .returned (.bool (decide (xs = ys))) ∧ Below w.heap.size w w' := by
  have HA := Lib.hid ha; have HB := Lib.hid hb
  have hn9 : (n : Int) ≤ 9223372036854775807 := by have := ha.2.1; have := ha.2.2.1; omega
  clear ha hb
  go_enter Try.func28, Try.ntmps28
  by_cases hnm : n = m
  · subst hnm
    go_wp2_with fail
    go_loopw [13] (fun i wr => ∃ k q : Nat, k ≤ n ∧ i = .int .i64 (k : Nat) ∧ wr = w.drewN q ∧ Hid (∀ j, j < k → at8 xs j = at8 ys j)) (fun i _ => n - (intOf i).toNat)
    case atStart => exact ⟨0, 0, by omega, rfl, rfl, Lib.hid fun j hj => absurd hj (by omega)⟩
    case round =>
      obtain ⟨k, q, hk, rfl, rfl, HE⟩ := hrel
      by_cases hlt : k < n
      · have hk0 : (0 : Int) ≤ (k : Int) := Int.natCast_nonneg _
        have hk1 : (k : Int) < (n : Int) := by omega
        obtain ⟨b1, o1, rfl, h1⟩ := HA.out.2.2.2 (by omega)
        obtain ⟨b2, o2, rfl, h2⟩ := HB.out.2.2.2 (by omega)
        have g1 := h1 k hlt
        have g2 := h2 k hlt
        have HNE := Lib.hid (show at8 xs k ≠ at8 ys k → xs ≠ ys from fun h e => h (by rw [e]))
        have HNX := Lib.hid (show at8 xs k = at8 ys k → ∀ j, j < k + 1 → at8 xs j = at8 ys j from fun h j hj => by
          by_cases e : j = k
          · rw [e]; exact h
          · exact HE.out j (by omega))
        generalize at8 xs k = x at *
        generalize at8 ys k = y at *
        clear h1 h2
        by_cases hxy : x = y
        · have hx : (((x.toNat : Nat) : Int) != ((y.toNat : Nat) : Int)) = false := by rw [hxy]; simp
          have HN := Lib.hid (HNX.out hxy)
          clear hxy
          go_wp2_with fail
          go_quiet (fail)
          go_wp2_with fail
          go_roundw
          case rel => exact ⟨k + 1, _, by omega, by go_num, rfl, HN⟩
          case measure => simp [intOf]; omega
        · have hx : (((x.toNat : Nat) : Int) != ((y.toNat : Nat) : Int)) = true := by
            rw [bne_iff_ne]
            intro h
            exact hxy (UInt8.toNat_inj.1 (by omega))
          have HF := Lib.hid (decide_eq_false (HNE.out hxy))
          clear hxy
          go_wp2_with fail
          go_quiet (fail)
          go_wp2_with fail
          go_ret
          exact ⟨by rw [HF.out]; rfl, ⟨rfl, rfl, rfl, Nat.le_refl _, fun _ _ => rfl⟩⟩
      · obtain rfl : k = n := by omega
        have HT := Lib.hid (decide_eq_true (eq_of_at8 (HA.out.1.trans HB.out.1.symm) (fun j hj => HE.out j (by rw [HA.out.1] at hj; exact hj))))
        go_wp2_with fail
        go_ret
        exact ⟨by rw [HT.out]; rfl, ⟨rfl, rfl, rfl, Nat.le_refl _, fun _ _ => rfl⟩⟩
  · have hne : ((n : Int) != (m : Int)) = true := by rw [bne_iff_ne]; omega
    have HF := Lib.hid (decide_eq_false (show xs ≠ ys from fun e => hnm (by rw [← HA.out.1, ← HB.out.1, e])))
    go_wp2_with fail
    go_ret
    exact ⟨by rw [HF.out]; rfl, Below.refl _ _⟩
end Go.Proofs.Ytlofiinpgkclgaa

/- slices.Equal over categories. -/
namespace Go.Proofs.Ytlofiinpgkclgaa
open Go.RowKit

/-- A category: its number and its level. -/
structure CatD where
  id : Nat
  lev : Int
deriving DecidableEq, Inhabited
/-- Element k (a name that simp leaves alone). -/
def atC (l : List CatD) (k : Nat) : CatD := l.getD k default
/-- The slice's elements are these categories. -/
def RCats (w : World) (A : Option Addr) (n c : Nat) (l : List CatD) : Prop :=
  l.length = n ∧ n ≤ c ∧ c ≤ 9223372036854775807 ∧ (0 < n → ∃ b o, A = some ⟨b, o, none⟩ ∧ ∀ k, k < n → w.cell? ⟨b, o + k * 2, none⟩ = some (.int .u64 ((atC l k).id : Nat)) ∧ w.cell? ⟨b, o + k * 2 + 1, none⟩ = some (.int .i64 (atC l k).lev))
theorem eq_of_atC {xs ys : List CatD} (hl : xs.length = ys.length) (h : ∀ j, j < xs.length → atC xs j = atC ys j) : xs = ys := by
  apply List.ext_getElem hl
  intro i h1 h2
  have := h i h1
  simpa [atC, List.getD_eq_getElem?_getD, h1, h2] using this
set_option maxRecDepth 20000 in
set_option maxHeartbeats 3200000 in
theorem equal_cats {w : World} {A B : Option Addr} {n c m d : Nat} {xs ys : List CatD} (ha : RCats w A n c xs) (hb : RCats w B m d ys) :
    Calls Try.prog 36 #[.slice A n c, .slice B m d] w fun e w' => e = .returned (.bool (decide (xs = ys))) ∧ Below w.heap.size w w' := by
  have HA := Lib.hid ha; have HB := Lib.hid hb
  have hn9 : (n : Int) ≤ 9223372036854775807 := by have := ha.2.1; have := ha.2.2.1; omega
  clear ha hb
  go_enter Try.func36, Try.ntmps36
  by_cases hnm : n = m
  · subst hnm
    go_wp2_with fail
    go_loopw [13] (fun i wr => ∃ k q : Nat, k ≤ n ∧ i = .int .i64 (k : Nat) ∧ wr = w.drewN q ∧ Hid (∀ j, j < k → atC xs j = atC ys j)) (fun i _ => n - (intOf i).toNat)
    case atStart => exact ⟨0, 0, by omega, rfl, rfl, Lib.hid fun j hj => absurd hj (by omega)⟩
    case round =>
      obtain ⟨k, q, hk, rfl, rfl, HE⟩ := hrel
      by_cases hlt : k < n
      · have hk0 : (0 : Int) ≤ (k : Int) := Int.natCast_nonneg _
        have hk1 : (k : Int) < (n : Int) := by omega
        obtain ⟨b1, o1, rfl, h1⟩ := HA.out.2.2.2 (by omega)
        obtain ⟨b2, o2, rfl, h2⟩ := HB.out.2.2.2 (by omega)
        obtain ⟨g1, g1'⟩ := h1 k hlt
        obtain ⟨g2, g2'⟩ := h2 k hlt
        have HNE := Lib.hid (show atC xs k ≠ atC ys k → xs ≠ ys from fun h e => h (by rw [e]))
        have HNX := Lib.hid (show atC xs k = atC ys k → ∀ j, j < k + 1 → atC xs j = atC ys j from fun h j hj => by
          by_cases e : j = k
          · rw [e]; exact h
          · exact HE.out j (by omega))
        generalize atC xs k = x at *
        generalize atC ys k = y at *
        obtain ⟨x1, x2⟩ := x
        obtain ⟨y1, y2⟩ := y
        dsimp only at g1 g1' g2 g2'
        clear h1 h2
        by_cases hx1 : x1 = y1
        · by_cases hx2 : x2 = y2
          · have HN := Lib.hid (HNX.out (by rw [hx1, hx2]))
            subst hx1 hx2
            clear HNE HNX
            go_wp2_with fail
            go_quiet (fail)
            go_wp2_with fail
            go_roundw
            case rel => exact ⟨k + 1, _, by omega, by go_num, rfl, HN⟩
            case measure => simp [intOf]; omega
          · have HF := Lib.hid (decide_eq_false (HNE.out (fun e => hx2 (by injection e))))
            subst hx1
            clear HNE HNX
            go_wp2_with fail
            go_quiet (fail)
            go_wp2_with fail
            go_ret
            exact ⟨by rw [HF.out]; rfl, ⟨rfl, rfl, rfl, Nat.le_refl _, fun _ _ => rfl⟩⟩
        · have HF := Lib.hid (decide_eq_false (HNE.out (fun e => hx1 (by injection e))))
          have hx1' : ¬ ((x1 : Int) = (y1 : Int)) := by omega
          clear HNE HNX
          go_wp2_with fail
          go_quiet (fail)
          go_wp2_with fail
          go_ret
          exact ⟨by rw [HF.out]; rfl, ⟨rfl, rfl, rfl, Nat.le_refl _, fun _ _ => rfl⟩⟩
      · obtain rfl : k = n := by omega
        have HT := Lib.hid (decide_eq_true (eq_of_atC (HA.out.1.trans HB.out.1.symm) (fun j hj => HE.out j (by rw [HA.out.1] at hj; exact hj))))
        go_wp2_with fail
        go_ret
        exact ⟨by rw [HT.out]; rfl, ⟨rfl, rfl, rfl, Nat.le_refl _, fun _ _ => rfl⟩⟩
  · have hne : ((n : Int) != (m : Int)) = true := by rw [bne_iff_ne]; omega
    have HF := Lib.hid (decide_eq_false (show xs ≠ ys from fun e => hnm (by rw [← HA.out.1, ← HB.out.1, e])))
    go_wp2_with fail
    go_ret
    exact ⟨by rw [HF.out]; rfl, Below.refl _ _⟩
end Go.Proofs.Ytlofiinpgkclgaa

/- octet; Exact. -/
namespace Go.Proofs.Ytlofiinpgkclgaa
open Go.RowKit

theorem call_octet (n : Int) (w : World) : Calls Try.prog 18 #[.int .i64 n] w fun e w' => e = .returned (.bool (decide (0 ≤ n ∧ n ≤ 255))) ∧ w' = w := by
  go_enter Try.func18, Try.ntmps18
  by_cases h1 : 0 ≤ n
  · by_cases h2 : n ≤ 255
    · go_wp2_with fail
      go_ret
      exact ⟨by simp [h1, h2], rfl⟩
    · go_wp2_with fail
      go_ret
      exact ⟨by simp [h2], rfl⟩
  · go_wp2_with fail
    go_ret
    exact ⟨by simp; omega, rfl⟩
theorem RCats.below {w w' : World} {A : Option Addr} {n c : Nat} {l : List CatD} (h : RCats w A n c l) (hb : Below w.heap.size w w') : RCats w' A n c l := by
  obtain ⟨h1, h2, h3, h4⟩ := h
  refine ⟨h1, h2, h3, fun hp => ?_⟩
  obtain ⟨b, o, e, hc⟩ := h4 hp
  refine ⟨b, o, e, fun k hk => ?_⟩
  obtain ⟨g1, g2⟩ := hc k hk
  have hlt : b < w.heap.size := by
    rcases Nat.lt_or_ge b w.heap.size with h | h
    · exact h
    · simp [World.cell?, Array.getElem?_eq_none h] at g1
  exact ⟨(hb.cell (p := ⟨b, o + k * 2, none⟩) hlt).trans g1, (hb.cell (p := ⟨b, o + k * 2 + 1, none⟩) hlt).trans g2⟩
end Go.Proofs.Ytlofiinpgkclgaa

/- Exact, sameLabel. -/
namespace Go.Proofs.Ytlofiinpgkclgaa
open Go.RowKit

/-- A label. -/
structure LabD where
  dflt : Int
  cats : List CatD
deriving DecidableEq
set_option maxRecDepth 20000 in
set_option maxHeartbeats 3200000 in
theorem call_sameLabel {w : World} {A B : Option Addr} {n c m d : Nat} {x y : LabD} (ha : RCats w A n c x.cats) (hb : RCats w B m d y.cats) :
    Calls Try.prog 27 #[.agg #[.int .i64 x.dflt, .slice A n c], .agg #[.int .i64 y.dflt, .slice B m d]] w fun e w' => e = .returned (.bool (decide (x = y))) ∧ Below w.heap.size w w' := by
  obtain ⟨dx, xs⟩ := x
  obtain ⟨dy, ys⟩ := y
  have hbl := balloc (below_alloc w (.cells #[.int .i64 dx, .slice A n c] 26)) (.cells #[.int .i64 dy, .slice B m d] 26)
  have HBL := Lib.hid hbl
  have HEQ := Lib.hid (fun (w' : World) (h : Below w.heap.size w w') => equal_cats (ha.below h) (hb.below h))
  clear ha hb hbl
  dsimp only
  go_enter Try.func27, Try.ntmps27
  by_cases hd : dx = dy
  · subst hd
    have hbx := (show decide ((⟨dx, xs⟩ : LabD) = ⟨dx, ys⟩) = decide (xs = ys) by simp)
    have HBX := Lib.hid hbx
    clear hbx
    go_wp2_with fail
    refine (HEQ.out _ HBL.out).mono ?_
    rintro e w3 ⟨rfl, hb3⟩
    have HB3 := Lib.hid (bthen HBL.out hb3)
    clear hb3
    go_wp2_with fail
    go_ret
    exact ⟨by rw [HBX.out]; rfl, HB3.out⟩
  · have HF := Lib.hid (decide_eq_false (show ¬ ((⟨dx, xs⟩ : LabD) = ⟨dy, ys⟩) from fun e => hd (by injection e)))
    go_wp2_with fail
    go_ret
    exact ⟨by first | rfl | (rw [HF.out]; rfl), HBL.out⟩
end Go.Proofs.Ytlofiinpgkclgaa
