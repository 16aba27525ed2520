/- The codec's Pack: pack, with giving up turned into an error. -/
import Derived.Test.YtgakajofggmbjaaMg2
import Derived.Laws.Strings
import Derived.Test.YtgakajofggmbjaaMg1
import Derived.Deep.MidRow
namespace Go.Proofs.Ytgakajofggmbjaa
open Go.RowKit

/-- What Pack answers and leaves. -/
def PackedPost (w : World) (r : Option (List UInt8)) (e : Ending) (w' : World) : Prop :=
  Below w.heap.size w w' ∧ ((∃ v o, r = some o ∧ e = .returned (.tuple #[v, .int .i64 0]) ∧ w'.ownsRow w.heap.size 5 1 v o.length (bv o)) ∨ (r = none ∧ e = .returned (.tuple #[.slice none 0 0, .int .i64 21])))

theorem own_mono {w : World} {base base' n size : Nat} {e : TypeId} {v : Value} {xs : List Value} (h : w.ownsRow base' e size v n xs) (hb : base ≤ base') : w.ownsRow base e size v n xs := by
  refine ⟨h.1, ?_⟩
  rcases h.2 with hn | ⟨g, cap, cur, rfl, hg, rest⟩
  · exact .inl hn
  · exact .inr ⟨g, cap, cur, rfl, Nat.le_trans hb hg, rest⟩
theorem own_set {w : World} {base n size : Nat} {e : TypeId} {v : Value} {xs : List Value} (h : w.ownsRow base e size v n xs) (a : Addr) (u : Value) (hne : v.ownBlock ≠ some a.block) : (w.setCell a u).ownsRow base e size v n xs :=
  h.kept (row := some a.block) ⟨rfl, rfl, rfl, by simp [World.setCell], fun k _ hk => Below.heap_setCell _ _ _ _ (fun e => hk (by rw [e]))⟩ (.inr hne)

set_option maxRecDepth 20000 in
set_option maxHeartbeats 1600000 in
theorem codec_Pack_of (s : ByteArray) (A : Option Addr) (n c : Nat) (r : Option (List UInt8)) (w : World)
    (h : Calls Try.prog 49 #[.string s, .slice A n c] (w.alloc (.cells #[.int .i64 0] 41)) (PackPost (w.alloc (.cells #[.int .i64 0] 41)) r)) :
    Calls Try.prog 29 #[.string s, .slice A n c] w (PackedPost w r) := by
  have hmf : ∀ (fn : Fn) (first cap : Array Value) (w : World), (Instr.makeFunc fn first cap).run Try.prog w = .ok (.func fn first cap) w := fun _ _ _ _ => rfl
  have HP := Lib.hid h
  clear h
  go_enter_defers Try.func29, Try.ntmps29
  go_wp2_with fail
  refine HP.out.mono ?_
  rintro e w1 (⟨v, o, rfl, rfl, hown, hb⟩ | ⟨rfl, rfl, hb⟩)
  · have hw1 : w1.heap[w.heap.size]? = some (.cells #[.int .i64 0] 41 (0, 0)) := (hb.block _ (by simp)).trans (heap_alloc_new w _)
    have c5 : w1.cell? ⟨w.heap.size, 0, none⟩ = some (.int .i64 0) := by rw [cell_of_row w1 w.heap.size 0 _ _ _ hw1]; rfl
    have f5 : w1.frozen? ⟨w.heap.size, 0, none⟩ = false := frozen_of_row w1 w.heap.size 0 _ _ hw1
    have hbf : Below w.heap.size w (w1.setCell ⟨w.heap.size, 0, none⟩ (.int .i64 0)) := ((below_alloc w _).trans (hb.mono (by simp))).setCell (Nat.le_refl _) _
    have c6 : (w1.setCell ⟨w.heap.size, 0, none⟩ (.int .i64 0)).cell? ⟨w.heap.size, 0, none⟩ = some (.int .i64 0) := by
      rw [cell_of_row _ w.heap.size 0 _ _ _ (heap_setCell_same w1 w.heap.size 0 _ _ _ hw1)]
      rfl
    have hrow : (w1.setCell ⟨w.heap.size, 0, none⟩ (.int .i64 0)).ownsRow w.heap.size 5 1 v o.length (bv o) :=
      own_set (own_mono hown (by simp)) _ _ (fun e => by have := (hown.lt _ e).1; simp at this; omega)
    have HBF := Lib.hid hbf; have HO := Lib.hid hrow; have HC6 := Lib.hid c6
    clear hbf hown hb hw1 hrow c6
    go_wp2_with fail
    refine leaves_cons (f := 48) (args := #[.pointer (some ⟨w.heap.size, 0, none⟩)]) (by simp) (by simp [go_sem]) ?_
    refine (caught_idle ⟨w.heap.size, 0, none⟩ _).mono ?_
    rintro e u' w'' ⟨rfl, rfl, rfl⟩
    simp [Leaves, settle, results, Try.results29, go_sem, HC6.out]
    exact ⟨HBF.out, .inl ⟨v, o, rfl, rfl, HO.out⟩⟩
  · have hw1 : w1.heap[w.heap.size]? = some (.cells #[.int .i64 0] 41 (0, 0)) := (hb.block _ (by simp)).trans (heap_alloc_new w _)
    have c5 : w1.cell? ⟨w.heap.size, 0, none⟩ = some (.int .i64 0) := by rw [cell_of_row w1 w.heap.size 0 _ _ _ hw1]; rfl
    have f5 : w1.frozen? ⟨w.heap.size, 0, none⟩ = false := frozen_of_row w1 w.heap.size 0 _ _ hw1
    have c6 : (w1.setCell ⟨w.heap.size, 0, none⟩ (.int .i64 21)).cell? ⟨w.heap.size, 0, none⟩ = some (.int .i64 21) := by
      rw [cell_of_row _ w.heap.size 0 _ _ _ (heap_setCell_same w1 w.heap.size 0 _ _ _ hw1)]
      rfl
    have hbf : Below w.heap.size w (w1.setCell ⟨w.heap.size, 0, none⟩ (.int .i64 21)) := ((below_alloc w _).trans (hb.mono (by simp))).setCell (Nat.le_refl _) _
    refine leaves_cons (f := 48) (args := #[.pointer (some ⟨w.heap.size, 0, none⟩)]) (by simp) (by simp [go_sem]) ?_
    refine (caught_up ⟨w.heap.size, 0, none⟩ 0 _ c5 f5).mono ?_
    rintro e u' w'' ⟨rfl, rfl, rfl⟩
    simp [Leaves, settle, results, Try.results29, go_sem, c6]
    exact ⟨hbf, .inr ⟨rfl, rfl⟩⟩

/-- What pack computes. -/
def packM (sh : List UInt8) (l : List FieldD) : Option (List UInt8) := if 200 < sh.length ∨ sh.length ≠ l.length then none else packTo sh l l.length
set_option maxRecDepth 20000 in
set_option maxHeartbeats 1600000 in
theorem pack_bad (sh : List UInt8) (A : Option Addr) (n c : Nat) (w : World) (h : 200 < sh.length ∨ (sh.length ≤ 200 ∧ sh.length ≠ n)) :
    Calls Try.prog 49 #[.string (strOf sh), .slice A n c] w fun e w' => e = .panicked gaveUp ∧ w = w' := by
  have hsz : (strOf sh).size = sh.length := by simp [strOf, ByteArray.size]
  generalize sh.length = m at *
  rcases h with h | ⟨h, h'⟩
  · have hd : decide ((200 : Int) < (m : Int)) = true := decide_eq_true (by omega)
    go_enter Try.func49, Try.ntmps49
    go_wp2_with fail
    refine (fail_yes _).mono ?_
    rintro e w' ⟨rfl, rfl⟩
    exact ⟨rfl, rfl, rfl⟩
  · have hd : decide ((200 : Int) < (m : Int)) = false := decide_eq_false (by omega)
    have hq : ((m : Int) != (n : Int)) = true := by rw [bne_iff_ne]; omega
    go_enter Try.func49, Try.ntmps49
    go_wp2_with fail
    refine (fail_yes _).mono ?_
    rintro e w' ⟨rfl, rfl⟩
    exact ⟨rfl, rfl, rfl⟩
theorem codec_pack (sh : List UInt8) (A : Option Addr) (n c : Nat) (l : List FieldD) (w : World) (hl : RFields w A n c l) :
    Calls Try.prog 49 #[.string (strOf sh), .slice A n c] w (PackPost w (packM sh l)) := by
  have hn : l.length = n := hl.1
  unfold packM
  by_cases h : 200 < sh.length ∨ sh.length ≠ l.length
  · rw [if_pos h]
    refine (pack_bad sh A n c w (by omega)).mono fun e w' ⟨he, hw⟩ => .inr ⟨rfl, he, hw ▸ Below.refl _ _⟩
  · rw [if_neg h, hn]
    exact pack_main sh A n c l w hl (by omega) (by omega)
/-- Pack. -/
theorem codec_Pack (sh : List UInt8) (A : Option Addr) (n c : Nat) (l : List FieldD) (w : World) (hl : RFields w A n c l) :
    Calls Try.prog 29 #[.string (strOf sh), .slice A n c] w (PackedPost w (packM sh l)) :=
  codec_Pack_of _ A n c _ w (codec_pack sh A n c l _ (hl.below (below_alloc w _)))
end Go.Proofs.Ytgakajofggmbjaa

/- Rows of fields of one's own; no program in sight but for the types' numbers. -/
namespace Go.Proofs.Ytgakajofggmbjaa
open Go.RowKit

/-- What a field says, wherever its bytes lie. -/
def vals (l : List FieldD) : List (Nat × List UInt8) := l.map fun f => (f.num, f.bytes)
/-- The cells of fields in a row. -/
def fcells (l : List FieldD) : List Value := l.flatMap fieldCells
theorem fcells_length (l : List FieldD) : (fcells l).length = l.length * 2 := by
  induction l with
  | nil => rfl
  | cons x l ih =>
    simp only [fcells, List.flatMap_cons, List.length_append, List.length_cons, fieldCells, List.length_nil] at ih ⊢
    omega
theorem fieldAt_get {l : List FieldD} {k : Nat} (h : k < l.length) : fieldAt l k = l[k] := by
  rw [fieldAt, List.getD_eq_getElem?_getD, List.getElem?_eq_getElem h]; rfl
theorem fcells_get (l : List FieldD) (k : Nat) (h : k < l.length) (j : Nat) (u : Value) (hj : (fieldCells (fieldAt l k))[j]? = some u) : (fcells l)[k * 2 + j]? = some u := by
  have e : fcells l = fcells (l.take k) ++ (fieldCells (fieldAt l k) ++ fcells (l.drop (k + 1))) := by
    have e0 : l = l.take k ++ fieldAt l k :: l.drop (k + 1) := by
      rw [fieldAt_get h, List.getElem_cons_drop, List.take_append_drop]
    conv => lhs; rw [e0]
    simp [fcells]
  have hl : (fcells (l.take k)).length = k * 2 := by rw [fcells_length, List.length_take]; congr 1; omega
  rw [e, List.getElem?_append_right (by omega), hl, Nat.add_sub_cancel_left, List.getElem?_append_left (List.getElem?_eq_some_iff.1 hj).1]
  exact hj
/-- Fields in rows of one's own: the row of fields, and each field's bytes. -/
structure OFields (w : World) (base : Nat) (v : Value) (l : List FieldD) : Prop where
  row : w.ownsRow base 78 2 v l.length (fcells l)
  num : ∀ f ∈ l, f.num < 18446744073709551616
  bytes : ∀ f ∈ l, w.ownsRow base 5 1 (.slice f.A f.n f.c) f.n (bv f.bytes)
  len : ∀ f ∈ l, f.n ≤ 140737488351232
/-- They are read as fields. -/
theorem OFields.read {w : World} {base : Nat} {v : Value} {l : List FieldD} (h : OFields w base v l) : ∃ A c, v = .slice A l.length c ∧ RFields w A l.length c l := by
  have ok : ∀ f ∈ l, FieldOk w f := fun f hf => by
    refine ⟨h.num f hf, ?_, h.len f hf⟩
    obtain ⟨A, c, e, hr⟩ := own_rb (h.bytes f hf)
    injection e with e1 _ e3
    subst e1 e3
    exact hr
  rcases h.row.2 with ⟨rfl, h0⟩ | ⟨g, cap, cur, rfl, _, hg, hnc, hcm, _⟩
  · rw [h0]
    exact ⟨none, 0, rfl, h0, Nat.le_refl _, by omega, fun hp => absurd hp (by omega)⟩
  · refine ⟨_, cap, rfl, rfl, hnc, by simpa [maxLen] using hcm, fun _ => ⟨g, 0, rfl, fun k hk => ⟨fun j u hj => ?_, ok _ (by rw [fieldAt_get hk]; exact List.getElem_mem _)⟩⟩⟩
    have := h.row.cells (g := g) rfl (k * 2 + j) u (fcells_get l k hk j u hj)
    rw [add_none] at this
    rw [Nat.zero_add]
    simpa using this

theorem own_apart {w : World} {base base' n n' size size' : Nat} {e e' : TypeId} {v v' : Value} {xs xs' : List Value} (h : w.ownsRow base e size v n xs) (h' : w.ownsRow base' e' size' v' n' xs') (ht : e ≠ e') (g : Nat) (hg : v.ownBlock = some g) : v'.ownBlock ≠ some g := by
  intro hg'
  rcases h.2 with ⟨rfl, _⟩ | ⟨a, cap, cur, rfl, _, ha, _⟩
  · simp [Value.ownBlock] at hg
  · rcases h'.2 with ⟨rfl, _⟩ | ⟨a', cap', cur', rfl, _, ha', _⟩
    · simp [Value.ownBlock] at hg'
    · have e1 : a = g := by simpa [Value.ownBlock] using hg
      have e2 : a' = g := by simpa [Value.ownBlock] using hg'
      subst e1
      subst e2
      rw [ha] at ha'
      injection ha' with ha'
      injection ha' with _ h2
      exact ht h2
section
variable {w w' : World} {base : Nat} {v : Value} {l : List FieldD}
theorem OFields.alloc (h : OFields w base v l) (o : Obj) : OFields (w.alloc o) base v l := ⟨h.row.alloc o, h.num, fun f hf => (h.bytes f hf).alloc o, h.len⟩
theorem OFields.drew (h : OFields w base v l) : OFields w.drew base v l := ⟨h.row.drew, h.num, fun f hf => (h.bytes f hf).drew, h.len⟩
/-- A new block grows: the fields stay. -/
theorem OFields.beside (h : OFields w base v l) {o : Obj} (hg : (w.alloc o).grownBy w' (some w.heap.size)) : OFields w' base v l :=
  ⟨(h.row.alloc o).kept hg (.inr fun e => by have := (h.row.lt _ e).2; omega), h.num, fun f hf => ((h.bytes f hf).alloc o).kept hg (.inr fun e => by have := ((h.bytes f hf).lt _ e).2; omega), h.len⟩
/-- One field more. -/
theorem OFields.push (h : OFields w base v l) (f : FieldD) (hn : f.num < 18446744073709551616) (hl : f.n ≤ 140737488351232) (hb : w.ownsRow base 5 1 (.slice f.A f.n f.c) f.n (bv f.bytes)) {v' : Value} (hg : w.grownBy w' v.ownBlock)
    (hr : w'.ownsRow base 78 2 v' (l.length + 1) (fcells l ++ fieldCells f)) : OFields w' base v' (l ++ [f]) := by
  have keep : ∀ f' : FieldD, w.ownsRow base 5 1 (.slice f'.A f'.n f'.c) f'.n (bv f'.bytes) → w'.ownsRow base 5 1 (.slice f'.A f'.n f'.c) f'.n (bv f'.bytes) := fun f' hf' =>
    hf'.kept hg (by
      cases hv : v.ownBlock with
      | none =>
        cases hv' : (Value.slice f'.A f'.n f'.c).ownBlock with
        | none => exact .inl rfl
        | some g => exact .inr (fun e => by cases e)
      | some g => exact .inr (own_apart h.row hf' (by decide) g hv))
  refine ⟨?_, fun f' hf' => ?_, fun f' hf' => ?_, fun f' hf' => ?_⟩
  · rw [List.length_append, List.length_singleton]
    have e : fcells (l ++ [f]) = fcells l ++ fieldCells f := by simp [fcells]
    rw [e]
    exact hr
  · rcases List.mem_append.1 hf' with hf' | hf'
    · exact h.num _ hf'
    · rw [List.mem_singleton.1 hf']; exact hn
  · rcases List.mem_append.1 hf' with hf' | hf'
    · exact keep _ (h.bytes _ hf')
    · rw [List.mem_singleton.1 hf']; exact keep _ hb
  · rcases List.mem_append.1 hf' with hf' | hf'
    · exact h.len _ hf'
    · rw [List.mem_singleton.1 hf']; exact hl
end
theorem vals_take (l : List FieldD) (k : Nat) (h : k < l.length) : vals (l.take (k + 1)) = vals (l.take k) ++ [((fieldAt l k).num, (fieldAt l k).bytes)] := by
  unfold vals
  rw [List.take_succ_eq_append_getElem h, List.map_append, fieldAt_get h]
  rfl
theorem Try.info87 : (Try.prog.info? 78).map (fun i => (i.zero, i.size, i.bytes)) = some (some (.agg #[.int .u64 0, .slice none 0 0]), 2, 32) := by kernel_rfl
end Go.Proofs.Ytgakajofggmbjaa

/- More on rows of one's own: what leaves them alone; parts of bytes that are read. No program in sight but for the types' numbers. -/
namespace Go.Proofs.Ytgakajofggmbjaa
open Go.RowKit

theorem own_below {B : Nat} {e : TypeId} {k : Nat} {v : Value} {n : Nat} {xs : List Value} {w w' : World} (h : w.ownsRow B e k v n xs) (hb : Below w.heap.size w w') : w'.ownsRow B e k v n xs :=
  h.kept (row := none) ⟨hb.os, hb.tape, hb.output, hb.size, fun j hj _ => hb.block j hj⟩ (by cases hv : v.ownBlock <;> simp)
theorem OFields.below {w w' : World} {base : Nat} {v : Value} {l : List FieldD} (h : OFields w base v l) (hb : Below w.heap.size w w') : OFields w' base v l :=
  ⟨own_below h.row hb, h.num, fun f hf => own_below (h.bytes f hf) hb, h.len⟩
theorem OFields.mono {w : World} {base base' : Nat} {v : Value} {l : List FieldD} (h : OFields w base' v l) (hb : base ≤ base') : OFields w base v l :=
  ⟨own_mono h.row hb, h.num, fun f hf => own_mono (h.bytes f hf) hb, h.len⟩
theorem OFields.set {w : World} {base : Nat} {v : Value} {l : List FieldD} (h : OFields w base v l) (a : Addr) (u : Value) (hne : a.block < base) : OFields (w.setCell a u) base v l :=
  ⟨own_set h.row a u (fun e => by have := (h.row.lt _ e).1; omega), h.num, fun f hf => own_set (h.bytes f hf) a u (fun e => by have := ((h.bytes f hf).lt _ e).1; omega), h.len⟩

/-- Where a part of a slice begins. -/
def cutA (A : Option Addr) (c l : Nat) : Option Addr := if c = l then A else A.map (·.add l)
theorem RB.cut {w : World} {A : Option Addr} {n c : Nat} {xs : List UInt8} (h : RB w A n c xs) (l m : Nat) (hl : l + m ≤ n) : RB w (cutA A c l) m (c - l) ((xs.drop l).take m) := by
  obtain ⟨h1, h2, h3, h4⟩ := h
  refine ⟨by simp; omega, by omega, by omega, fun hp => ?_⟩
  obtain ⟨b, o, rfl, hc⟩ := h4 (by omega)
  refine ⟨b, o + l, ?_, fun k hk => ?_⟩
  · unfold cutA
    rw [if_neg (by omega), Option.map_some, add_none]
  · rw [Nat.add_assoc, hc (l + k) (by omega)]
    simp [at8, List.getD_eq_getElem?_getD, hk]
theorem RB.rest {w : World} {A : Option Addr} {n c : Nat} {xs : List UInt8} (h : RB w A n c xs) (l : Nat) (hl : l ≤ n) : RB w (cutA A c l) (n - l) (c - l) (xs.drop l) := by
  have := h.cut l (n - l) (by omega)
  rwa [List.take_of_length_le (by simp [h.1])] at this

theorem RB.first {w : World} {A : Option Addr} {n c : Nat} {xs : List UInt8} (h : RB w A n c xs) (k : Nat) (hk : k ≤ n) : RB w A k c (xs.take k) := by
  obtain ⟨h1, h2, h3, h4⟩ := h
  refine ⟨by simp; omega, by omega, h3, fun hp => ?_⟩
  obtain ⟨b, o, e, hc⟩ := h4 (by omega)
  refine ⟨b, o, e, fun j hj => ?_⟩
  rw [hc j (by omega)]
  simp [at8, List.getD_eq_getElem?_getD, hj]
theorem OFields.kept {w w1 w' : World} {base b : Nat} {v : Value} {l : List FieldD} (h : OFields w base v l) (h1 : OFields w1 base v l) (hg : w1.grownBy w' (some b)) (hb : w.heap.size ≤ b) : OFields w' base v l :=
  ⟨h1.row.kept hg (.inr fun e => by have := (h.row.lt _ e).2; omega), h.num, fun f hf => (h1.bytes f hf).kept hg (.inr fun e => by have := ((h.bytes f hf).lt _ e).2; omega), h.len⟩
theorem strOf_toList (xs : List UInt8) : (strOf xs).toList = xs := by
  rw [ByteArray.toList_eq]
  simp [strOf]
theorem str_eq (xs : List UInt8) : ((strOf xs).toList == (strOf xs).toList) = true := by simp
theorem str_ne {xs ys : List UInt8} (h : xs ≠ ys) : ((strOf xs).toList == (strOf ys).toList) = false := by
  rw [strOf_toList, strOf_toList, beq_eq_false_iff_ne]
  exact h
/-- The number of bytes. -/
def numOf (xs : List UInt8) : Nat := xs.foldl (fun n x => n * 256 + x.toNat) 0
theorem numOf_push (xs : List UInt8) (x : UInt8) : numOf (xs ++ [x]) = numOf xs * 256 + x.toNat := by simp [numOf]
theorem numOf_take (xs : List UInt8) (k : Nat) (h : k < xs.length) : numOf (xs.take (k + 1)) = numOf (xs.take k) * 256 + (at8 xs k).toNat := by
  rw [List.take_succ_eq_append_getElem h, numOf_push]
  simp [at8, List.getD_eq_getElem?_getD, h]
theorem numOf_lt (xs : List UInt8) (k : Nat) : numOf (xs.take k) < 256 ^ k := by
  induction k with
  | zero => simp [numOf]
  | succ k ih =>
    by_cases h : k < xs.length
    · rw [numOf_take xs k h, Nat.pow_succ]
      have := (at8 xs k).toNat_lt
      omega
    · rw [List.take_of_length_le (by omega)]
      rw [List.take_of_length_le (by omega)] at ih
      rw [Nat.pow_succ]
      omega
theorem numOf_small (xs : List UInt8) (k : Nat) (h : k ≤ 8) : numOf (xs.take k) < 18446744073709551616 := by
  have h1 := numOf_lt xs k
  have h2 : (256 : Nat) ^ k ≤ 256 ^ 8 := Nat.pow_le_pow_right (by decide) h
  omega
/-- A new block of fields. -/
theorem rfields_new {w : World} (l : List FieldD) (T : TypeId) (b : Nat) (hb : b = w.heap.size) (cs : Array Value) (hcs : cs.toList = fcells l) (hl : l.length ≤ 9223372036854775807) (hok : ∀ f ∈ l, FieldOk w f) : RFields (w.alloc (.cells cs T)) (some ⟨b, 0, none⟩) l.length l.length l := by
  subst hb
  refine ⟨rfl, Nat.le_refl _, hl, fun _ => ⟨_, _, rfl, fun k hk => ⟨fun j u hj => ?_, (hok _ (by rw [fieldAt_get hk]; exact List.getElem_mem _)).below (below_alloc _ _)⟩⟩⟩
  rw [World.cell?_alloc_mark, Nat.zero_add]
  have := fcells_get l k hk j u hj
  rw [← hcs] at this
  simpa using this
theorem rfields_nil (w : World) : RFields w none 0 0 [] := ⟨rfl, Nat.le_refl _, by omega, fun h => absurd h (by omega)⟩
end Go.Proofs.Ytgakajofggmbjaa

/- What unpacking computes; no program in sight. -/
namespace Go.Proofs.Ytgakajofggmbjaa

/-- A field out of bytes, after a letter, and how many bytes it took. -/
def decF (c : UInt8) (b : List UInt8) : Option ((Nat × List UInt8) × Nat) :=
  match letterW c with
  | none => none
  | some 0 => if b.length < 2 then none else if 1024 < numOf (b.take 2) then none else if b.length - 2 < numOf (b.take 2) then none else some ((0, (b.drop 2).take (numOf (b.take 2))), 2 + numOf (b.take 2))
  | some (w + 1) => if b.length < w + 1 then none else some ((numOf (b.take (w + 1)), []), w + 1)
/-- The fields of the first k letters, and where the bytes behind them begin. -/
def unTo (sh b : List UInt8) : Nat → Option (List (Nat × List UInt8) × Nat)
  | 0 => some ([], 0)
  | k + 1 => match unTo sh b k with
    | none => none
    | some (l, p) => (decF (at8 sh k) (b.drop p)).map fun r => (l ++ [r.1], p + r.2)
def unpackM (sh b : List UInt8) : Option (List (Nat × List UInt8)) :=
  if 200 < sh.length then none else match unTo sh b sh.length with
    | none => none
    | some (l, p) => if p = b.length then some l else none
theorem unTo_none {sh b : List UInt8} {k : Nat} (h : unTo sh b k = none) (m : Nat) (hm : k ≤ m) : unTo sh b m = none := by
  induction m with
  | zero => obtain rfl : k = 0 := by omega
            exact h
  | succ m ih =>
    by_cases e : k = m + 1
    · rw [← e]; exact h
    · rw [unTo, ih (by omega)]
theorem unTo_step {sh b : List UInt8} {k p : Nat} {l : List (Nat × List UInt8)} (h : unTo sh b k = some (l, p)) : unTo sh b (k + 1) = (decF (at8 sh k) (b.drop p)).map fun r => (l ++ [r.1], p + r.2) := by rw [unTo, h]
theorem unpackM_none {sh b : List UInt8} {k : Nat} (h : unTo sh b k = none) (hk : k ≤ sh.length) : unpackM sh b = none := by
  unfold unpackM
  rw [unTo_none h _ hk]
  simp
theorem unpackM_done {sh b : List UInt8} {l : List (Nat × List UInt8)} {p : Nat} (h : unTo sh b sh.length = some (l, p)) (hs : sh.length ≤ 200) : unpackM sh b = if p = b.length then some l else none := by
  unfold unpackM
  rw [if_neg (by omega), h]
theorem unpackM_long {sh b : List UInt8} (h : 200 < sh.length) : unpackM sh b = none := by
  unfold unpackM
  rw [if_pos h]
end Go.Proofs.Ytgakajofggmbjaa

/- The plain laws of packing and unpacking; no program in sight. -/
namespace Go.Proofs.Ytgakajofggmbjaa

abbrev V := Nat × List UInt8
def encV (c : UInt8) (v : V) : Option (List UInt8) :=
  match letterW c with
  | none => none
  | some 0 => if 1024 < v.2.length then none else some (be v.2.length 2 ++ v.2)
  | some (w + 1) => if v.1 < 256 ^ (w + 1) then some (be v.1 (w + 1)) else none
/-- Packing, letter by letter. -/
def packL : List UInt8 → List V → Option (List UInt8)
  | [], [] => some []
  | c :: sh, v :: vs => match encV c v, packL sh vs with
    | some x, some y => some (x ++ y)
    | _, _ => none
  | _, _ => none
def unL : List UInt8 → List UInt8 → Option (List V × List UInt8)
  | [], b => some ([], b)
  | c :: sh, b => match decF c b with
    | none => none
    | some (v, m) => match unL sh (b.drop m) with
      | none => none
      | some (l, r) => some (v :: l, r)
theorem packL_append (sh1 : List UInt8) : ∀ (vs1 : List V) (sh2 : List UInt8) (vs2 : List V), sh1.length = vs1.length →
    packL (sh1 ++ sh2) (vs1 ++ vs2) = match packL sh1 vs1, packL sh2 vs2 with
      | some x, some y => some (x ++ y)
      | _, _ => none := by
  induction sh1 with
  | nil =>
    intro vs1 sh2 vs2 h
    obtain rfl : vs1 = [] := List.eq_nil_of_length_eq_zero h.symm
    simp only [List.nil_append, packL]
    cases packL sh2 vs2 <;> simp
  | cons c sh1 ih =>
    intro vs1 sh2 vs2 h
    match vs1, h with
    | v :: vs1, h =>
      simp only [List.cons_append, packL]
      rw [ih vs1 sh2 vs2 (by simpa using h)]
      cases encV c v with
      | none => rfl
      | some x => cases packL sh1 vs1 with
        | none => rfl
        | some y => cases packL sh2 vs2 with
          | none => rfl
          | some z => simp
theorem unL_append (sh1 : List UInt8) : ∀ (sh2 b : List UInt8), unL (sh1 ++ sh2) b = match unL sh1 b with
      | none => none
      | some (l, r) => match unL sh2 r with
        | none => none
        | some (l', r') => some (l ++ l', r') := by
  induction sh1 with
  | nil =>
    intro sh2 b
    simp only [List.nil_append, unL]
    cases unL sh2 b with
    | none => rfl
    | some x => rfl
  | cons c sh1 ih =>
    intro sh2 b
    simp only [List.cons_append, unL]
    cases decF c b with
    | none => rfl
    | some x =>
      obtain ⟨v, m⟩ := x
      simp only [ih]
      cases unL sh1 (b.drop m) with
      | none => rfl
      | some y =>
        obtain ⟨l, r⟩ := y
        simp only
        cases unL sh2 r with
        | none => rfl
        | some z => rfl
theorem be_succ (n k : Nat) : be n (k + 1) = be (n / 256) k ++ [UInt8.ofNat n] := by
  unfold be
  rw [List.range_succ, List.map_append]
  congr 1
  · apply List.map_congr_left
    intro j hj
    have hj : j < k := by simpa using hj
    rw [Nat.div_div_eq_div_mul, show k + 1 - 1 - j = (k - 1 - j) + 1 by omega, Nat.pow_succ, Nat.mul_comm]
  · simp
theorem numOf_be (k : Nat) : ∀ n, n < 256 ^ k → numOf (be n k) = n := by
  induction k with
  | zero =>
    intro n h
    have : n = 0 := by simpa using h
    subst this
    rfl
  | succ k ih =>
    intro n h
    rw [be_succ, numOf_push, ih (n / 256) (by rw [Nat.pow_succ] at h; exact Nat.div_lt_of_lt_mul (by rw [Nat.mul_comm]; exact h)), UInt8.toNat_ofNat']
    omega
theorem be_numOf (xs : List UInt8) : ∀ k, xs.length = k → be (numOf xs) k = xs := by
  intro k
  induction k generalizing xs with
  | zero =>
    intro h
    rw [List.eq_nil_of_length_eq_zero h]
    rfl
  | succ k ih =>
    intro h
    have e : xs = xs.take k ++ [at8 xs k] := by
      have e0 := List.take_succ_eq_append_getElem (show k < xs.length by omega)
      rw [List.take_of_length_le (by omega)] at e0
      rw [at8, List.getD_eq_getElem?_getD, List.getElem?_eq_getElem (by omega)]
      exact e0
    have hx := (at8 xs k).toNat_lt
    generalize hx8 : at8 xs k = x at *
    rw [e, be_succ, numOf_push]
    have h1 : (numOf (xs.take k) * 256 + x.toNat) / 256 = numOf (xs.take k) := by omega
    have h2 : UInt8.ofNat (numOf (xs.take k) * 256 + x.toNat) = x := by
      apply UInt8.toNat_inj.1
      rw [UInt8.toNat_ofNat']
      omega
    rw [h1, h2, ih (xs.take k) (by simp <;> omega)]
/-- What unpacking makes of a field: what the letter doesn't need is nothing. -/
def canonV (c : UInt8) (v : V) : V := if c = 98 then (0, v.2) else (v.1, [])
theorem numOf_be_lt {n k : Nat} (h : n < 256 ^ k) : numOf (be n k) = n := numOf_be k n h
theorem enc_dec (c : UInt8) (v : V) (x y : List UInt8) (h : encV c v = some x) : decF c (x ++ y) = some (canonV c v, x.length) := by
  rcases letterW_cases c with hw | ⟨hw, rfl⟩ | ⟨w, hw, hc⟩
  · simp [encV, hw] at h
  · simp only [encV, hw] at h
    split at h
    · cases h
    · rename_i hl
      injection h with h
      subst h
      have h2 : (be v.2.length 2 ++ v.2 ++ y).take 2 = be v.2.length 2 := by
        rw [List.append_assoc, List.take_append_of_le_length (by rw [be_length]; omega), List.take_of_length_le (by rw [be_length]; omega)]
      have h3 : (be v.2.length 2 ++ v.2 ++ y).drop 2 = v.2 ++ y := by
        rw [List.append_assoc, List.drop_append_of_le_length (by rw [be_length]; omega), List.drop_of_length_le (by rw [be_length]; omega)]
        rfl
      simp only [decF, hw]
      rw [h2, h3, numOf_be_lt (by omega), if_neg (by simp [be_length] <;> omega), if_neg hl, if_neg (by simp [be_length] <;> omega)]
      simp [canonV, be_length]
  · simp only [encV, hw] at h
    split at h
    · rename_i hf
      injection h with h
      subst h
      have h2 : (be v.1 (w + 1) ++ y).take (w + 1) = be v.1 (w + 1) := by
        rw [List.take_append_of_le_length (by rw [be_length]; omega), List.take_of_length_le (by rw [be_length]; omega)]
      have hne : c ≠ 98 := by
        rintro rfl
        revert hw
        simp [letterW]
      simp only [decF, hw]
      rw [h2, numOf_be_lt hf, if_neg (by simp [be_length] <;> omega)]
      simp [canonV, be_length, hne]
    · cases h
theorem dec_more (c : UInt8) (b y : List UInt8) (v : V) (m : Nat) (h : decF c b = some (v, m)) : decF c (b ++ y) = some (v, m) ∧ m ≤ b.length := by
  rcases letterW_cases c with hw | ⟨hw, rfl⟩ | ⟨w, hw, hc⟩
  · simp [decF, hw] at h
  · simp only [decF, hw] at h ⊢
    by_cases h1 : b.length < 2
    · rw [if_pos h1] at h; cases h
    rw [if_neg h1] at h
    have e1 : (b ++ y).take 2 = b.take 2 := List.take_append_of_le_length (by omega)
    have e2 : (b ++ y).drop 2 = b.drop 2 ++ y := List.drop_append_of_le_length (by omega)
    by_cases h2 : 1024 < numOf (b.take 2)
    · rw [if_pos h2] at h; cases h
    rw [if_neg h2] at h
    by_cases h3 : b.length - 2 < numOf (b.take 2)
    · rw [if_pos h3] at h; cases h
    rw [if_neg h3] at h
    injection h with h
    injection h with hv hm
    rw [e1, e2, if_neg (by simp <;> omega), if_neg h2, if_neg (by simp <;> omega), List.take_append_of_le_length (by simp <;> omega), hv, hm]
    exact ⟨rfl, by omega⟩
  · simp only [decF, hw] at h ⊢
    by_cases h1 : b.length < w + 1
    · rw [if_pos h1] at h; cases h
    rw [if_neg h1] at h
    injection h with h
    injection h with hv hm
    rw [if_neg (by simp <;> omega), List.take_append_of_le_length (by omega), hv, hm]
    exact ⟨rfl, by omega⟩
theorem dec_enc (c : UInt8) (b : List UInt8) (v : V) (m : Nat) (h : decF c b = some (v, m)) : encV c v = some (b.take m) := by
  rcases letterW_cases c with hw | ⟨hw, rfl⟩ | ⟨w, hw, hc⟩
  · simp [decF, hw] at h
  · simp only [decF, hw] at h
    simp only [encV, hw]
    by_cases h1 : b.length < 2
    · rw [if_pos h1] at h; cases h
    rw [if_neg h1] at h
    by_cases h2 : 1024 < numOf (b.take 2)
    · rw [if_pos h2] at h; cases h
    rw [if_neg h2] at h
    by_cases h3 : b.length - 2 < numOf (b.take 2)
    · rw [if_pos h3] at h; cases h
    rw [if_neg h3] at h
    injection h with h
    injection h with hv hm
    have hl : v.2.length = numOf (b.take 2) := by rw [← hv]; simp; omega
    rw [hl, if_neg h2, ← hm, ← hv, be_numOf _ 2 (by simp <;> omega), List.take_add]
  · simp only [decF, hw] at h
    simp only [encV, hw]
    by_cases h1 : b.length < w + 1
    · rw [if_pos h1] at h; cases h
    rw [if_neg h1] at h
    injection h with h
    injection h with hv hm
    have hlt := numOf_lt b (w + 1)
    rw [← hv, ← hm]
    simp only
    rw [if_pos hlt, be_numOf _ (w + 1) (by simp <;> omega)]
/-- What unpacking makes of fields. -/
def canonL (sh : List UInt8) (vs : List V) : List V := List.zipWith canonV sh vs
theorem pack_un (sh : List UInt8) : ∀ (vs : List V) (x y : List UInt8), packL sh vs = some x → unL sh (x ++ y) = some (canonL sh vs, y) := by
  induction sh with
  | nil =>
    intro vs x y h
    match vs, h with
    | [], h =>
      simp only [packL] at h
      injection h with h
      subst h
      simp [unL, canonL]
  | cons c sh ih =>
    intro vs x y h
    match vs, h with
    | v :: vs, h =>
      simp only [packL] at h
      split at h
      · rename_i a b ha hb
        injection h with h
        subst h
        simp only [unL]
        rw [List.append_assoc, enc_dec c v a (b ++ y) ha]
        simp only [List.drop_left]
        rw [ih vs b y hb]
        simp [canonL]
      · cases h
theorem un_more (sh : List UInt8) : ∀ (b y : List UInt8) (l : List V) (r : List UInt8), unL sh b = some (l, r) → unL sh (b ++ y) = some (l, r ++ y) := by
  induction sh with
  | nil =>
    intro b y l r h
    simp only [unL] at h ⊢
    injection h with h
    injection h with h1 h2
    subst h1 h2
    rfl
  | cons c sh ih =>
    intro b y l r h
    simp only [unL] at h ⊢
    cases hd : decF c b with
    | none => rw [hd] at h; cases h
    | some vm =>
      obtain ⟨v, m⟩ := vm
      rw [hd] at h
      simp only at h
      obtain ⟨hd2, hm⟩ := dec_more c b y v m hd
      rw [hd2]
      simp only
      rw [List.drop_append_of_le_length hm]
      cases hu : unL sh (b.drop m) with
      | none => rw [hu] at h; cases h
      | some lr =>
        obtain ⟨l', r'⟩ := lr
        rw [hu] at h
        simp only at h
        injection h with h
        injection h with h1 h2
        rw [ih _ y _ _ hu, ← h1, ← h2]
theorem un_pack (sh : List UInt8) : ∀ (b : List UInt8) (l : List V) (r : List UInt8), unL sh b = some (l, r) → ∃ x, packL sh l = some x ∧ b = x ++ r := by
  induction sh with
  | nil =>
    intro b l r h
    simp only [unL] at h
    injection h with h
    injection h with h1 h2
    subst h1 h2
    exact ⟨[], rfl, rfl⟩
  | cons c sh ih =>
    intro b l r h
    simp only [unL] at h
    cases hd : decF c b with
    | none => rw [hd] at h; cases h
    | some vm =>
      obtain ⟨v, m⟩ := vm
      rw [hd] at h
      simp only at h
      cases hu : unL sh (b.drop m) with
      | none => rw [hu] at h; cases h
      | some lr =>
        obtain ⟨l', r'⟩ := lr
        rw [hu] at h
        simp only at h
        injection h with h
        injection h with h1 h2
        obtain ⟨x, hx, hb⟩ := ih _ _ _ hu
        refine ⟨b.take m ++ x, ?_, ?_⟩
        · rw [← h1]
          simp only [packL]
          rw [dec_enc c b v m hd, hx]
        · rw [List.append_assoc, ← h2, ← hb, List.take_append_drop]
theorem encF_eq (c : UInt8) (f : FieldD) : encF c f = encV c (f.num, f.bytes) := by
  unfold encF encV
  rfl
theorem take_at8 (sh : List UInt8) (k : Nat) (h : k < sh.length) : sh.take (k + 1) = sh.take k ++ [at8 sh k] := by
  rw [List.take_succ_eq_append_getElem h, at8, List.getD_eq_getElem?_getD, List.getElem?_eq_getElem h]
  rfl
theorem packTo_eq (sh : List UInt8) (l : List FieldD) (h : sh.length = l.length) : ∀ k, k ≤ l.length → packTo sh l k = packL (sh.take k) (vals (l.take k)) := by
  intro k
  induction k with
  | zero => intro _; rfl
  | succ k ih =>
    intro hk
    rw [packTo, ih (by omega), vals_take l k (by omega), take_at8 sh k (by omega), packL_append _ _ _ _ (by simp [vals]; omega), encF_eq]
    cases packL (sh.take k) (vals (l.take k)) with
    | none => rfl
    | some x =>
      simp only [packL]
      cases encV (at8 sh k) ((fieldAt l k).num, (fieldAt l k).bytes) with
      | none => rfl
      | some y => simp
theorem packM_iff (sh : List UInt8) (l : List FieldD) (x : List UInt8) : packM sh l = some x ↔ sh.length ≤ 200 ∧ sh.length = l.length ∧ packL sh (vals l) = some x := by
  unfold packM
  by_cases h : 200 < sh.length ∨ sh.length ≠ l.length
  · rw [if_pos h]
    constructor
    · intro e; cases e
    · rintro ⟨h1, h2, _⟩; omega
  · rw [if_neg h, packTo_eq sh l (by omega) _ (Nat.le_refl _), List.take_of_length_le (by omega), List.take_of_length_le (by omega)]
    constructor
    · intro e; exact ⟨by omega, by omega, e⟩
    · rintro ⟨_, _, e⟩; exact e
theorem packM_vals {l l' : List FieldD} (h : vals l = vals l') (sh : List UInt8) : packM sh l = packM sh l' := by
  have hl : l.length = l'.length := by have := congrArg List.length h; simpa [vals] using this
  apply Option.ext
  intro x
  rw [packM_iff, packM_iff, h, hl]
theorem unTo_eq (sh b : List UInt8) : ∀ k, k ≤ sh.length → match unL (sh.take k) b with
    | none => unTo sh b k = none
    | some (l, r) => ∃ p, unTo sh b k = some (l, p) ∧ r = b.drop p ∧ p ≤ b.length := by
  intro k
  induction k with
  | zero => intro _; exact ⟨0, rfl, rfl, Nat.zero_le _⟩
  | succ k ih =>
    intro hk
    have ih := ih (by omega)
    rw [take_at8 sh k (by omega), unL_append]
    cases hu : unL (sh.take k) b with
    | none =>
      rw [hu] at ih
      exact unTo_none ih _ (by omega)
    | some lr =>
      obtain ⟨l, r⟩ := lr
      rw [hu] at ih
      obtain ⟨p, h1, rfl, hp⟩ := ih
      rw [unTo_step h1]
      simp only [unL]
      cases hd : decF (at8 sh k) (b.drop p) with
      | none => rfl
      | some vm =>
        obtain ⟨v, m⟩ := vm
        have hm := (dec_more _ _ [] v m hd).2
        rw [List.length_drop] at hm
        exact ⟨p + m, rfl, by rw [List.drop_drop], by omega⟩
theorem unpackM_iff (sh b : List UInt8) (vs : List V) : unpackM sh b = some vs ↔ sh.length ≤ 200 ∧ unL sh b = some (vs, []) := by
  unfold unpackM
  by_cases h : 200 < sh.length
  · rw [if_pos h]
    constructor
    · intro e; cases e
    · rintro ⟨h1, _⟩; omega
  · rw [if_neg h]
    have hu := unTo_eq sh b sh.length (Nat.le_refl _)
    rw [List.take_of_length_le (Nat.le_refl _)] at hu
    cases e : unL sh b with
    | none =>
      rw [e] at hu
      rw [hu]
      constructor
      · intro e; cases e
      · rintro ⟨_, e⟩; cases e
    | some lr =>
      obtain ⟨l, r⟩ := lr
      rw [e] at hu
      obtain ⟨p, h1, rfl, hp⟩ := hu
      rw [h1]
      simp only
      by_cases hpe : p = b.length
      · rw [if_pos hpe]
        have hnil : b.drop p = [] := List.drop_of_length_le (by omega)
        rw [hnil]
        constructor
        · intro e; injection e with e; exact ⟨by omega, by rw [e]⟩
        · rintro ⟨_, e⟩; injection e with e; injection e with e; rw [e]
      · rw [if_neg hpe]
        constructor
        · intro e; cases e
        · rintro ⟨_, e⟩
          injection e with e
          injection e with _ e
          have := congrArg List.length e
          simp at this
          omega
theorem enc_len {c : UInt8} {v : V} {x : List UInt8} (h : encV c v = some x) : x.length ≤ 1026 := by
  rcases letterW_cases c with hw | ⟨hw, rfl⟩ | ⟨w, hw, hc⟩
  · simp [encV, hw] at h
  · simp only [encV, hw] at h
    split at h
    · cases h
    · injection h with h
      subst h
      simp [be_length]
      omega
  · simp only [encV, hw] at h
    split at h
    · injection h with h
      subst h
      rw [be_length]
      omega
    · cases h
theorem packL_len (sh : List UInt8) : ∀ (vs : List V) (x : List UInt8), packL sh vs = some x → x.length ≤ sh.length * 1026 := by
  induction sh with
  | nil =>
    intro vs x h
    match vs, h with
    | [], h =>
      simp only [packL] at h
      injection h with h
      subst h
      simp
  | cons c sh ih =>
    intro vs x h
    match vs, h with
    | v :: vs, h =>
      simp only [packL] at h
      split at h
      · rename_i a b ha hb
        injection h with h
        subst h
        have h1 := enc_len ha
        have h2 := ih _ _ hb
        simp
        omega
      · cases h
theorem pack_len {sh : List UInt8} {l : List FieldD} {x : List UInt8} (h : packM sh l = some x) : x.length ≤ 205200 := by
  obtain ⟨h1, _, h3⟩ := (packM_iff _ _ _).1 h
  have := packL_len _ _ _ h3
  omega
theorem canon_at {sh : List UInt8} {l lk : List FieldD} (hl : sh.length = l.length) (h : vals lk = canonL sh (vals l)) (k : Nat) (hk : k < l.length) : lk.length = l.length ∧ (fieldAt lk k).num = (canonV (at8 sh k) ((fieldAt l k).num, (fieldAt l k).bytes)).1 ∧ (fieldAt lk k).bytes = (canonV (at8 sh k) ((fieldAt l k).num, (fieldAt l k).bytes)).2 := by
  have hlen : lk.length = l.length := by
    have := congrArg List.length h
    simp only [vals, canonL, List.length_map, List.length_zipWith] at this
    omega
  have h1 : (vals lk)[k]? = (canonL sh (vals l))[k]? := by rw [h]
  have hs : sh[k]? = some (at8 sh k) := by rw [at8, List.getD_eq_getElem?_getD, List.getElem?_eq_getElem (by omega)]; rfl
  have e1 : (vals lk)[k]? = some ((fieldAt lk k).num, (fieldAt lk k).bytes) := by
    rw [fieldAt_get (by omega)]
    simp [vals, List.getElem?_eq_getElem (show k < lk.length by omega)]
  have e2 : (vals l)[k]? = some ((fieldAt l k).num, (fieldAt l k).bytes) := by
    rw [fieldAt_get hk]
    simp [vals, List.getElem?_eq_getElem hk]
  rw [e1, canonL, List.getElem?_zipWith, hs, e2] at h1
  simp only at h1
  injection h1 with h1
  rw [← h1]
  exact ⟨hlen, rfl, rfl⟩
/-- Packed fields are unpacked. -/
theorem back_of {sh : List UInt8} {l : List FieldD} {x : List UInt8} (h : packM sh l = some x) : unpackM sh x = some (canonL sh (vals l)) := by
  obtain ⟨h1, h2, h3⟩ := (packM_iff _ _ _).1 h
  refine (unpackM_iff _ _ _).2 ⟨h1, ?_⟩
  have := pack_un sh (vals l) x [] h3
  rwa [List.append_nil] at this
/-- Unpacked bytes are packed. -/
theorem forth_of {sh b : List UInt8} {l : List FieldD} (h : unpackM sh b = some (vals l)) : packM sh l = some b := by
  obtain ⟨h1, h2⟩ := (unpackM_iff _ _ _).1 h
  obtain ⟨x, hx, hb⟩ := un_pack sh _ _ _ h2
  have hlen : ∀ (sh : List UInt8) (vs : List V) (x : List UInt8), packL sh vs = some x → sh.length = vs.length := by
    intro sh
    induction sh with
    | nil =>
      intro vs x h
      match vs, h with
      | [], _ => rfl
    | cons c sh ih =>
      intro vs x h
      match vs, h with
      | v :: vs, h =>
        simp only [packL] at h
        split at h
        · rename_i a b ha hb
          simp [ih _ _ hb]
        · cases h
  refine (packM_iff _ _ _).2 ⟨h1, ?_, ?_⟩
  · have := hlen _ _ _ hx
    simpa [vals] using this
  · rw [hb, List.append_nil]
    exact hx
/-- More bytes behind, or too few: refused. -/
theorem more_none {sh : List UInt8} {l : List FieldD} {x : List UInt8} (h : packM sh l = some x) (y : List UInt8) (hy : y ≠ []) : unpackM sh (x ++ y) = none := by
  obtain ⟨h1, h2, h3⟩ := (packM_iff _ _ _).1 h
  cases e : unpackM sh (x ++ y) with
  | none => rfl
  | some vs =>
    obtain ⟨_, h4⟩ := (unpackM_iff _ _ _).1 e
    rw [pack_un sh _ x y h3] at h4
    injection h4 with h4
    injection h4 with _ h4
    exact absurd h4 hy
theorem less_none {sh : List UInt8} {l : List FieldD} {x : List UInt8} (h : packM sh l = some x) (k : Nat) (hk : k < x.length) : unpackM sh (x.take k) = none := by
  obtain ⟨h1, h2, h3⟩ := (packM_iff _ _ _).1 h
  cases e : unpackM sh (x.take k) with
  | none => rfl
  | some vs =>
    obtain ⟨_, h4⟩ := (unpackM_iff _ _ _).1 e
    have h5 := un_more sh _ (x.drop k) _ _ h4
    rw [List.take_append_drop, List.nil_append] at h5
    have h6 := pack_un sh _ x [] h3
    rw [List.append_nil, h5] at h6
    injection h6 with h6
    injection h6 with _ h6
    have := congrArg List.length h6
    simp at this
    omega
/-- Packed in two parts. -/
theorem join_of {sh : List UInt8} {l : List FieldD} {x y : List UInt8} {k : Nat} (hl : sh.length = l.length) (hk : k ≤ l.length) (h1 : packM (sh.take k) (l.take k) = some x) (h2 : packM (sh.drop k) (l.drop k) = some y) (h200 : l.length ≤ 200) : packM sh l = some (x ++ y) := by
  obtain ⟨_, _, h1⟩ := (packM_iff _ _ _).1 h1
  obtain ⟨_, _, h2⟩ := (packM_iff _ _ _).1 h2
  refine (packM_iff _ _ _).2 ⟨by omega, hl, ?_⟩
  have h := packL_append (sh.take k) (vals (l.take k)) (sh.drop k) (vals (l.drop k)) (by simp [vals]; omega)
  rw [h1, h2] at h
  have e : vals (l.take k) ++ vals (l.drop k) = vals l := by
    unfold vals
    rw [← List.map_append, List.take_append_drop]
  rw [List.take_append_drop, e] at h
  exact h
theorem join_none {sh : List UInt8} {l : List FieldD} {k : Nat} (hl : sh.length = l.length) (hk : k ≤ l.length) (h : packM (sh.take k) (l.take k) = none ∨ packM (sh.drop k) (l.drop k) = none ∨ 200 < l.length) : packM sh l = none := by
  cases e : packM sh l with
  | none => rfl
  | some z =>
    obtain ⟨h1, h2, h3⟩ := (packM_iff _ _ _).1 e
    have h4 := packL_append (sh.take k) (vals (l.take k)) (sh.drop k) (vals (l.drop k)) (by simp [vals]; omega)
    have e2 : vals (l.take k) ++ vals (l.drop k) = vals l := by
      unfold vals
      rw [← List.map_append, List.take_append_drop]
    rw [List.take_append_drop, e2, h3] at h4
    rcases h with h | h | h
    · cases e3 : packL (sh.take k) (vals (l.take k)) with
      | none => rw [e3] at h4; cases h4
      | some x =>
        have := (packM_iff (sh.take k) (l.take k) x).2 ⟨by simp; omega, by simp; omega, e3⟩
        rw [this] at h; cases h
    · cases e3 : packL (sh.drop k) (vals (l.drop k)) with
      | none =>
        rw [e3] at h4
        cases e5 : packL (sh.take k) (vals (l.take k)) <;> rw [e5] at h4 <;> cases h4
      | some x =>
        have := (packM_iff (sh.drop k) (l.drop k) x).2 ⟨by simp; omega, by simp; omega, e3⟩
        rw [this] at h; cases h
    · omega
end Go.Proofs.Ytgakajofggmbjaa

/- The zero values of great types, as facts of the walk (a seat that is loaded in one piece lacks them). -/
namespace Go.Proofs.Ytgakajofggmbjaa
open Go.RowKit

end Go.Proofs.Ytgakajofggmbjaa
