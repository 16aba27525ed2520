/- Loads and stores of whole sectors and writes, as laws for the walk. -/
import Derived.Test.YtoghmakbdhepfaaProg
import Derived.Test.YtoghmakbdhepfaaDisk
import Derived.KernelRfl
import Derived.Stop.BytesEq
namespace Go.Proofs.Ytoghmakbdhepfaa
open Go.RowKit

set_option maxRecDepth 20000 in
theorem Try.zero37 : Try.zeroCells28 = (bv zsec).toArray := rfl
theorem Try.size37 : (Try.prog.info? 28).map (·.size) = some 128 := by kernel_rfl
theorem Try.size157 : (Try.prog.info? 68).map (·.size) = some 129 := by kernel_rfl

/-- A write as a value. -/
def penV (x : Nat × List UInt8) : Value := .agg (Value.int .i64 (x.1 : Int) :: bv x.2).toArray

theorem splice_set (L : List Value) (o : Nat) (v : Value) (r : List Value) (h : o + 1 + r.length ≤ L.length) : splice (L.set o v) (o + 1) r = splice L o (v :: r) := by
  unfold splice
  have h1 : (L.set o v).take (o + 1) = L.take o ++ [v] := by
    rw [List.take_succ_eq_append_getElem (by simp; omega), List.take_set_of_le (Nat.le_refl _)]
    simp
  have h2 : (L.set o v).drop (o + 1 + r.length) = L.drop (o + (v :: r).length) := by
    rw [List.drop_set_of_lt (by omega)]
    congr 1
    simp
    omega
  rw [h1, h2]
  simp
theorem setCells_alloc (w : World) (t : TypeId) (fr : Nat × Nat) : ∀ (cs : List Value) (c : Array Value) (o : Nat), (w.alloc (.cells c t fr)).setCells w.heap.size o cs = w.alloc (.cells (splice c.toList o cs).toArray t fr) ∨ c.size < o + cs.length
  | [], c, o => .inl (by simp [World.setCells, splice])
  | v :: r, c, o => by
    by_cases h : c.size < o + (v :: r).length
    · exact .inr h
    · left
      have e : (w.alloc (.cells c t fr)).setCell ⟨w.heap.size, o, none⟩ v = w.alloc (.cells (c.setIfInBounds o v) t fr) := by
        simp only [World.setCell, World.alloc]
        congr 1
        apply Array.ext
        · simp
        · intro i h1 h2
          simp only [Array.getElem_modify, Array.getElem_push]
          by_cases hi : i < w.heap.size
          · rw [dif_pos hi, dif_pos hi, if_neg (by omega)]
          · have : w.heap.size = i := by simp at h2; omega
            rw [dif_neg hi, dif_neg hi, if_pos this]
            simp
      simp only [World.setCells]
      rw [e]
      rcases setCells_alloc w t fr r (c.setIfInBounds o v) (o + 1) with h2 | h2
      · rw [h2]
        congr 2
        simp only [List.length_cons] at h
        rw [Array.toList_setIfInBounds]
        rw [splice_set _ _ _ _ (by simp; omega)]
      · simp only [Array.size_setIfInBounds] at h2
        simp only [List.length_cons] at h
        omega

theorem there_alloc (w : World) (c : Array Value) (t : TypeId) : (w.alloc (.cells c t)).there w.heap.size 0 c.size := by
  intro j hj
  rw [Nat.zero_add]
  constructor
  · rw [World.cell?_alloc_mark, Array.getElem?_eq_getElem hj]; rfl
  · exact frozen_of_row _ _ _ c t (heap_alloc_new w _)
theorem range_alloc (w : World) (cs : List Value) (t : TypeId) (fr : Nat × Nat) : (w.alloc (.cells cs.toArray t fr)).rangeAt w.heap.size 0 cs := by
  intro j v hj
  rw [World.cell?_alloc_mark, Nat.zero_add, List.getElem?_toArray]
  exact hj
theorem range_alloc1 (w : World) (v : Value) (cs : List Value) (t : TypeId) (fr : Nat × Nat) : (w.alloc (.cells (v :: cs).toArray t fr)).rangeAt w.heap.size 1 cs := by
  intro j u hj
  rw [World.cell?_alloc_mark, List.getElem?_toArray, Nat.add_comm, List.getElem?_cons_succ]
  exact hj
theorem range_old {w : World} {b o : Nat} {cs : List Value} (h : w.rangeAt b o cs) (x : Obj) : (w.alloc x).rangeAt b o cs := by
  intro j v hj
  have := h j v hj
  rw [World.cell?_alloc_past _ _ _ (World.block_lt_of_cell? w _ this)]
  exact this

section
variable {ops : Array Oper} {rest : List Oper} {op : Oper} {a : Act} {w : World} {Q : Exit → Act → World → Prop}
/-- A sector is loaded. -/
theorem ld37 (hgd : op.guard = none) (x : Operand) (ho : op.op = .load 28 x) (b o : Nat) (hx : a.eval x = .pointer (some ⟨b, o, none⟩)) (l : List UInt8) (hc : w.rangeAt b o (bv l)) (hl : l.length = 128)
    (h : wpList Try.prog ops Q rest (a.put op.dst (secV l)) w) : wpList Try.prog ops Q (op :: rest) a w :=
  wpList_load_mid hgd _ x ho b o hx (bv l) _ hc Try.underlying28 rfl (Try.size37.trans (by rw [bv_length, hl])) h
/-- A write is loaded. -/
theorem ld157 (hgd : op.guard = none) (x : Operand) (ho : op.op = .load 68 x) (b o : Nat) (hx : a.eval x = .pointer (some ⟨b, o, none⟩)) (y : Nat × List UInt8) (hc : w.rangeAt b o (Value.int .i64 (y.1 : Int) :: bv y.2)) (hl : y.2.length = 128)
    (h : wpList Try.prog ops Q rest (a.put op.dst (penV y)) w) : wpList Try.prog ops Q (op :: rest) a w :=
  wpList_load_mid hgd _ x ho b o hx _ _ hc Try.underlying68 rfl (Try.size157.trans (by rw [List.length_cons, bv_length, hl])) h
/-- A sector is stored into a new variable of its own. -/
theorem st37 (hgd : op.guard = none) (x y : Operand) (ho : op.op = .store 28 x y) (c : Array Value) (b : Nat) (hx : a.eval x = .pointer (some ⟨b, 0, none⟩)) (hb : b = w.heap.size) (l : List UInt8) (hy : a.eval y = secV l) (hl : l.length = 128) (hs : c.size = 128)
    (h : wpList Try.prog ops Q rest (a.put op.dst undef) (w.alloc (.cells (bv l).toArray 28))) : wpList Try.prog ops Q (op :: rest) a (w.alloc (.cells c 28)) := by
  subst hb
  refine wpList_store_mid hgd _ x y ho _ 0 (bv l).toArray hx hy ?_ (Try.size37.trans (by simp [bv_length, hl])) (all_oneCell_toArray (bv_one l)) ?_
  · have := there_alloc w c 28
    simpa [bv_length, hl, hs] using this
  · rcases setCells_alloc w 28 (0, 0) (bv l) c 0 with e | e
    · have e2 : splice c.toList 0 (bv l) = bv l := by
        simp only [splice, List.take_zero, List.nil_append, Nat.zero_add]
        rw [List.drop_eq_nil_of_le (by simp [bv_length, hl, hs]), List.append_nil]
      rw [e2] at e
      simpa only [List.toList_toArray, e] using h
    · simp [bv_length, hl, hs] at e
/-- A write is stored into a new variable of its own. -/
theorem st157 (hgd : op.guard = none) (x y : Operand) (ho : op.op = .store 68 x y) (c : Array Value) (b : Nat) (hx : a.eval x = .pointer (some ⟨b, 0, none⟩)) (hb : b = w.heap.size) (z : Nat × List UInt8) (hy : a.eval y = penV z) (hl : z.2.length = 128) (hs : c.size = 129)
    (h : wpList Try.prog ops Q rest (a.put op.dst undef) (w.alloc (.cells (Value.int .i64 (z.1 : Int) :: bv z.2).toArray 68))) : wpList Try.prog ops Q (op :: rest) a (w.alloc (.cells c 68)) := by
  subst hb
  refine wpList_store_mid hgd _ x y ho _ 0 (Value.int .i64 (z.1 : Int) :: bv z.2).toArray hx hy ?_ (Try.size157.trans (by simp [bv_length, hl])) (all_oneCell_toArray (fun u hu => by
      rcases List.mem_cons.1 hu with rfl | hu
      · rfl
      · exact bv_one _ u hu)) ?_
  · have := there_alloc w c 68
    simpa [bv_length, hl, hs] using this
  · rcases setCells_alloc w 68 (0, 0) (Value.int .i64 (z.1 : Int) :: bv z.2) c 0 with e | e
    · have e2 : splice c.toList 0 (Value.int .i64 (z.1 : Int) :: bv z.2) = Value.int .i64 (z.1 : Int) :: bv z.2 := by
        simp only [splice, List.take_zero, List.nil_append, Nat.zero_add]
        rw [List.drop_eq_nil_of_le (by simp [bv_length, hl, hs]), List.append_nil]
      rw [e2] at e
      simpa only [List.toList_toArray, e] using h
    · simp [bv_length, hl, hs] at e
end
/-! ### For regions that draw their order: a sector's load behind a name, so that the walk doesn't open it -/
def ldSec (p : Value) : Sem Value := Instr.loadAt 28 p
theorem loadAt37 (p : Value) : Instr.loadAt 28 p = ldSec p := rfl
theorem run_ldSec {w : World} {b o : Nat} {l : List UInt8} (hc : w.rangeAt b o (bv l)) (hl : l.length = 128) : (ldSec (.pointer (some ⟨b, o, none⟩))).run Try.prog w = .ok (.agg (bv l).toArray) w :=
  run_loadAt_mid w b o _ (bv l) _ hc Try.underlying28 rfl (Try.size37.trans (by rw [bv_length, hl]))

def stSec (p x : Value) : Sem Unit := Instr.storeAt 28 p x
theorem storeAt37 (p x : Value) : Instr.storeAt 28 p x = stSec p x := rfl
theorem run_stSec {w : World} {b o : Nat} {l : List UInt8} (ht : w.there b o 128) (hl : l.length = 128) : (stSec (.pointer (some ⟨b, o, none⟩)) (.agg (bv l).toArray)).run Try.prog w = .ok () (w.setCells b o (bv l)) := by
  have h := run_storeAt_mid (P := Try.prog) w b o 28 (bv l).toArray (by simpa [bv_length, hl] using ht) (Try.size37.trans (by simp [bv_length, hl])) (all_oneCell_toArray (bv_one l))
  exact h
theorem fold_set (xs : List Value) : ∀ (z : Array Value) (o j : Nat), (xs.zipIdx j).foldl (fun cs x => cs.setIfInBounds (o + x.2) x.1) z = (splice z.toList (o + j) xs).toArray ∨ z.size < o + j + xs.length := by
  induction xs with
  | nil => intro z o j; left; simp [splice]
  | cons x xs ih =>
    intro z o j
    by_cases h : z.size < o + j + (x :: xs).length
    · exact .inr h
    · left
      rw [List.zipIdx_cons, List.foldl_cons]
      rcases ih (z.setIfInBounds (o + j) x) o (j + 1) with e | e
      · rw [e, Array.toList_setIfInBounds]
        have := splice_set z.toList (o + j) x xs (by simp at h; simp; omega)
        rw [← this]
        rfl
      · simp at e h; omega
theorem fold_full (xs : List Value) (z : Array Value) (h : z.size = xs.length) : xs.zipIdx.foldl (fun cs x => cs.setIfInBounds x.2 x.1) z = xs.toArray := by
  have e := fold_set xs z 0 0
  simp only [Nat.zero_add] at e
  rcases e with e | e
  · rw [e]
    simp [splice, h]
  · omega
theorem fold_one (u : Value) (xs : List Value) (z : Array Value) (h : z.size = xs.length + 1) : xs.zipIdx.foldl (fun cs x => cs.setIfInBounds (1 + x.2) x.1) (z.setIfInBounds 0 u) = (u :: xs).toArray := by
  rcases fold_set xs (z.setIfInBounds 0 u) 1 0 with e | e
  · rw [e, Array.toList_setIfInBounds]
    have hz : z.toList.length = xs.length + 1 := by simpa using h
    cases hl : z.toList with
    | nil => rw [hl] at hz; simp at hz
    | cons a r =>
      rw [hl] at hz
      simp only [List.length_cons] at hz
      simp only [List.set_cons_zero, splice, Nat.add_zero, List.take_succ_cons, List.take_zero, List.cons_append, List.nil_append]
      rw [List.drop_eq_nil_of_le (by simp; omega), List.append_nil]
  · simp at e; omega
/-- A write, and a slice of one write, are built: behind names. -/
def bldPen (parts : Array (Nat × Value)) : Sem Value := Instr.build 68 parts
theorem build157 (parts : Array (Nat × Value)) : Instr.build 68 parts = bldPen parts := rfl
def bldPens (n : Nat) (parts : Array (Nat × Value)) : Sem Value := Instr.buildSlice 63 n parts
theorem buildSlice152 (n : Nat) (parts : Array (Nat × Value)) : Instr.buildSlice 63 n parts = bldPens n parts := rfl
set_option maxRecDepth 20000 in
theorem run_bldPen (w : World) (k : Int) (l : List UInt8) (hl : l.length = 128) : (bldPen #[(0, .int .i64 k), (1, .agg (bv l).toArray)]).run Try.prog w = .ok (.agg (Value.int .i64 k :: bv l).toArray) w := by
  have hb : (bv l).length = 128 := by rw [bv_length, hl]
  unfold bldPen
  simp [go_sem, hb]
  exact fold_one _ _ _ (by rw [hb]; rfl)
set_option maxRecDepth 20000 in
theorem run_bldPens (w : World) (cs : List Value) (hl : cs.length = 129) : (bldPens 1 #[(0, .agg cs.toArray)]).run Try.prog w = .ok (.slice (some ⟨w.heap.size, 0, none⟩) 1 1) (w.alloc (.cells cs.toArray 68)) := by
  unfold bldPens
  simp [go_sem, hl]
  rw [fold_full _ _ (by rw [hl]; rfl)]

/-! ### Results that lie in a variable -/
theorem res_row {P : Program} {fn : Func} {p : Tmp} {ty : TypeId} (h : fn.results = #[.cell p ty]) (tmps : Array Value) (w : World) (g o : Nat) (cs : List Value) (d : TypeDesc)
    (hp : tmps.getD p undef = .pointer (some ⟨g, o, none⟩)) (hg : w.rangeAt g o cs)
    (hu : P.underlying ty = some d) (hd : d.isRow = true) (hi : (P.info? ty).map (·.size) = some cs.length) :
    (results fn tmps).run P w = .ok (.agg cs.toArray) w := by
  have hp' : tmps[p]?.getD undef = .pointer (some ⟨g, o, none⟩) := by simpa using hp
  have hl := run_loadVar_mid (P := P) w g o ty cs d hg hu hd hi
  simp [results, h, hp', asAddr, hl]
theorem res_row_tmp {P : Program} {fn : Func} {p q : Tmp} {ty : TypeId} (h : fn.results = #[.cell p ty, .tmp q]) (tmps : Array Value) (w : World) (g o : Nat) (cs : List Value) (d : TypeDesc) (u : Value)
    (hp : tmps.getD p undef = .pointer (some ⟨g, o, none⟩)) (hq : tmps.getD q undef = u) (hg : w.rangeAt g o cs)
    (hu : P.underlying ty = some d) (hd : d.isRow = true) (hi : (P.info? ty).map (·.size) = some cs.length) :
    (results fn tmps).run P w = .ok (.tuple #[.agg cs.toArray, u]) w := by
  have hp' : tmps[p]?.getD undef = .pointer (some ⟨g, o, none⟩) := by simpa using hp
  have hq' : tmps[q]?.getD undef = u := by simpa using hq
  have hl := run_loadVar_mid (P := P) w g o ty cs d hg hu hd hi
  simp [results, h, hp', hq', asAddr, hl]
/-- A sector that is handed back. -/
theorem ret37 {fn : Func} {p : Tmp} (h : fn.results = #[.cell p 28]) (tmps : Array Value) (w : World) (l : List UInt8) (hl : l.length = 128) (g : Nat) (hp : tmps.getD p undef = .pointer (some ⟨g, 0, none⟩)) (hg : g = w.heap.size) :
    (results fn tmps).run Try.prog (w.alloc (.cells (bv l).toArray 28)) = .ok (secV l) (w.alloc (.cells (bv l).toArray 28)) := by
  subst hg
  exact res_row h tmps _ _ _ (bv l) _ hp (range_alloc w (bv l) _ _) Try.underlying28 rfl (Try.size37.trans (by simp [bv_length, hl]))
/-- A sector and something more that are handed back. -/
theorem ret37_tmp {fn : Func} {p q : Tmp} (h : fn.results = #[.cell p 28, .tmp q]) (tmps : Array Value) (w : World) (l : List UInt8) (hl : l.length = 128) (u : Value) (g : Nat) (hp : tmps.getD p undef = .pointer (some ⟨g, 0, none⟩)) (hq : tmps.getD q undef = u) (hg : g = w.heap.size) :
    (results fn tmps).run Try.prog (w.alloc (.cells (bv l).toArray 28)) = .ok (.tuple #[secV l, u]) (w.alloc (.cells (bv l).toArray 28)) := by
  subst hg
  exact res_row_tmp h tmps _ _ _ (bv l) _ u hp hq (range_alloc w (bv l) _ _) Try.underlying28 rfl (Try.size37.trans (by simp [bv_length, hl]))
/-! ### Sectors compared; small sectors built -/
theorem eq37 (w : World) (l l' : List UInt8) (h : l.length = 128) (h' : l'.length = 128) : (Op.equalIn 10000 28 (.agg (bv l).toArray) (.agg (bv l').toArray)).run Try.prog w = .ok (decide (l = l')) w := by
  have e := run_equalIn_bytes (P := Try.prog) w 9998 28 5 128 Try.underlying28 Try.underlying5 (fun w => by simp [sizeOf, go_sem]; rfl) l l' h h'
  have e2 : (l == l') = decide (l = l') := by
    by_cases hl : l = l'
    · subst hl; simp
    · rw [decide_eq_false hl, beq_eq_false_iff_ne]; exact hl
  rw [← e2]
  exact e
/-- A sector whose first byte is x, all others 0. -/
def headSec (x : UInt8) : List UInt8 := x :: List.replicate 127 0
theorem headSec_length (x : UInt8) : (headSec x).length = 128 := by simp [headSec]
def bldSec (parts : Array (Nat × Value)) : Sem Value := Instr.build 28 parts
theorem build37 (parts : Array (Nat × Value)) : Instr.build 28 parts = bldSec parts := rfl
set_option maxRecDepth 20000 in
theorem run_bldSec0 (w : World) : (bldSec #[]).run Try.prog w = .ok (.agg (bv zsec).toArray) w := by
  unfold bldSec
  simp [go_sem]
  rfl
set_option maxRecDepth 20000 in
theorem run_bldSec1 (w : World) (x : UInt8) : (bldSec #[(0, .int .u8 (x.toNat : Int))]).run Try.prog w = .ok (.agg (bv (headSec x)).toArray) w := by
  unfold bldSec
  simp [go_sem]
  rfl
end Go.Proofs.Ytoghmakbdhepfaa
