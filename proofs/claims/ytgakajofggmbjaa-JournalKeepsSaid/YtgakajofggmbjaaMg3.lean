/- Loads and stores of whole sectors and writes, as laws for the walk. -/
import Derived.Test.YtgakajofggmbjaaProg
import Derived.Test.YtgakajofggmbjaaMg2
import Derived.KernelRfl
import Derived.Stop.BytesEq
import Derived.Laws.CopyOwn
import Derived.Test.YtgakajofggmbjaaMg1
import Derived.ProofKit
import Derived.OpenShut
import Derived.ShutString
import Derived.SizedLaws
import Derived.Deep.Matrix
import Derived.Deep.MidRow
namespace Go.Proofs.Ytgakajofggmbjaa
open Go.RowKit

set_option maxRecDepth 20000 in
theorem Try.zero37 : Try.zeroCells55 = (bv zsec).toArray := rfl
theorem Try.size37 : (Try.prog.info? 55).map (·.size) = some 128 := by kernel_rfl
theorem Try.size157 : (Try.prog.info? 94).map (·.size) = some 129 := by kernel_rfl

/-- A write as a value. -/
def penV (x : Nat × List UInt8) : Value := .agg (Value.int .i64 (x.1 : Int) :: bv x.2).toArray

theorem splice_set (L : List Value) (o : Nat) (v : Value) (r : List Value) (h : o + 1 + r.length ≤ L.length) : splice (L.set o v) (o + 1) r = splice L o (v :: r) := by
  unfold splice
  have h1 : (L.set o v).take (o + 1) = L.take o ++ [v] := by
    rw [List.take_succ_eq_append_getElem (by simp; omega), List.take_set_of_le (Nat.le_refl _)]
    simp
  have h2 : (L.set o v).drop (o + 1 + r.length) = L.drop (o + (v :: r).length) := by
    rw [List.drop_set_of_lt (by omega)]
    congr 1
    simp
    omega
  rw [h1, h2]
  simp
theorem setCells_alloc (w : World) (t : TypeId) (fr : Nat × Nat) : ∀ (cs : List Value) (c : Array Value) (o : Nat), (w.alloc (.cells c t fr)).setCells w.heap.size o cs = w.alloc (.cells (splice c.toList o cs).toArray t fr) ∨ c.size < o + cs.length
  | [], c, o => .inl (by simp [World.setCells, splice])
  | v :: r, c, o => by
    by_cases h : c.size < o + (v :: r).length
    · exact .inr h
    · left
      have e : (w.alloc (.cells c t fr)).setCell ⟨w.heap.size, o, none⟩ v = w.alloc (.cells (c.setIfInBounds o v) t fr) := by
        simp only [World.setCell, World.alloc]
        congr 1
        apply Array.ext
        · simp
        · intro i h1 h2
          simp only [Array.getElem_modify, Array.getElem_push]
          by_cases hi : i < w.heap.size
          · rw [dif_pos hi, dif_pos hi, if_neg (by omega)]
          · have : w.heap.size = i := by simp at h2; omega
            rw [dif_neg hi, dif_neg hi, if_pos this]
            simp
      simp only [World.setCells]
      rw [e]
      rcases setCells_alloc w t fr r (c.setIfInBounds o v) (o + 1) with h2 | h2
      · rw [h2]
        congr 2
        simp only [List.length_cons] at h
        rw [Array.toList_setIfInBounds]
        rw [splice_set _ _ _ _ (by simp; omega)]
      · simp only [Array.size_setIfInBounds] at h2
        simp only [List.length_cons] at h
        omega

theorem there_alloc (w : World) (c : Array Value) (t : TypeId) : (w.alloc (.cells c t)).there w.heap.size 0 c.size := by
  intro j hj
  rw [Nat.zero_add]
  constructor
  · rw [World.cell?_alloc_mark, Array.getElem?_eq_getElem hj]; rfl
  · exact frozen_of_row _ _ _ c t (heap_alloc_new w _)
theorem range_alloc (w : World) (cs : List Value) (t : TypeId) (fr : Nat × Nat) : (w.alloc (.cells cs.toArray t fr)).rangeAt w.heap.size 0 cs := by
  intro j v hj
  rw [World.cell?_alloc_mark, Nat.zero_add, List.getElem?_toArray]
  exact hj
theorem range_alloc1 (w : World) (v : Value) (cs : List Value) (t : TypeId) (fr : Nat × Nat) : (w.alloc (.cells (v :: cs).toArray t fr)).rangeAt w.heap.size 1 cs := by
  intro j u hj
  rw [World.cell?_alloc_mark, List.getElem?_toArray, Nat.add_comm, List.getElem?_cons_succ]
  exact hj
theorem range_old {w : World} {b o : Nat} {cs : List Value} (h : w.rangeAt b o cs) (x : Obj) : (w.alloc x).rangeAt b o cs := by
  intro j v hj
  have := h j v hj
  rw [World.cell?_alloc_past _ _ _ (World.block_lt_of_cell? w _ this)]
  exact this

section
variable {ops : Array Oper} {rest : List Oper} {op : Oper} {a : Act} {w : World} {Q : Exit → Act → World → Prop}
/-- A sector is loaded. -/
theorem ld37 (hgd : op.guard = none) (x : Operand) (ho : op.op = .load 55 x) (b o : Nat) (hx : a.eval x = .pointer (some ⟨b, o, none⟩)) (l : List UInt8) (hc : w.rangeAt b o (bv l)) (hl : l.length = 128)
    (h : wpList Try.prog ops Q rest (a.put op.dst (secV l)) w) : wpList Try.prog ops Q (op :: rest) a w :=
  wpList_load_mid hgd _ x ho b o hx (bv l) _ hc Try.underlying55 rfl (Try.size37.trans (by rw [bv_length, hl])) h
/-- A write is loaded. -/
theorem ld157 (hgd : op.guard = none) (x : Operand) (ho : op.op = .load 94 x) (b o : Nat) (hx : a.eval x = .pointer (some ⟨b, o, none⟩)) (y : Nat × List UInt8) (hc : w.rangeAt b o (Value.int .i64 (y.1 : Int) :: bv y.2)) (hl : y.2.length = 128)
    (h : wpList Try.prog ops Q rest (a.put op.dst (penV y)) w) : wpList Try.prog ops Q (op :: rest) a w :=
  wpList_load_mid hgd _ x ho b o hx _ _ hc Try.underlying94 rfl (Try.size157.trans (by rw [List.length_cons, bv_length, hl])) h
/-- A sector is stored into a new variable of its own. -/
theorem st37 (hgd : op.guard = none) (x y : Operand) (ho : op.op = .store 55 x y) (c : Array Value) (b : Nat) (hx : a.eval x = .pointer (some ⟨b, 0, none⟩)) (hb : b = w.heap.size) (l : List UInt8) (hy : a.eval y = secV l) (hl : l.length = 128) (hs : c.size = 128)
    (h : wpList Try.prog ops Q rest (a.put op.dst undef) (w.alloc (.cells (bv l).toArray 55))) : wpList Try.prog ops Q (op :: rest) a (w.alloc (.cells c 55)) := by
  subst hb
  refine wpList_store_mid hgd _ x y ho _ 0 (bv l).toArray hx hy ?_ (Try.size37.trans (by simp [bv_length, hl])) (all_oneCell_toArray (bv_one l)) ?_
  · have := there_alloc w c 55
    simpa [bv_length, hl, hs] using this
  · rcases setCells_alloc w 55 (0, 0) (bv l) c 0 with e | e
    · have e2 : splice c.toList 0 (bv l) = bv l := by
        simp only [splice, List.take_zero, List.nil_append, Nat.zero_add]
        rw [List.drop_eq_nil_of_le (by simp [bv_length, hl, hs]), List.append_nil]
      rw [e2] at e
      simpa only [List.toList_toArray, e] using h
    · simp [bv_length, hl, hs] at e
/-- A write is stored into a new variable of its own. -/
theorem st157 (hgd : op.guard = none) (x y : Operand) (ho : op.op = .store 94 x y) (c : Array Value) (b : Nat) (hx : a.eval x = .pointer (some ⟨b, 0, none⟩)) (hb : b = w.heap.size) (z : Nat × List UInt8) (hy : a.eval y = penV z) (hl : z.2.length = 128) (hs : c.size = 129)
    (h : wpList Try.prog ops Q rest (a.put op.dst undef) (w.alloc (.cells (Value.int .i64 (z.1 : Int) :: bv z.2).toArray 94))) : wpList Try.prog ops Q (op :: rest) a (w.alloc (.cells c 94)) := by
  subst hb
  refine wpList_store_mid hgd _ x y ho _ 0 (Value.int .i64 (z.1 : Int) :: bv z.2).toArray hx hy ?_ (Try.size157.trans (by simp [bv_length, hl])) (all_oneCell_toArray (fun u hu => by
      rcases List.mem_cons.1 hu with rfl | hu
      · rfl
      · exact bv_one _ u hu)) ?_
  · have := there_alloc w c 94
    simpa [bv_length, hl, hs] using this
  · rcases setCells_alloc w 94 (0, 0) (Value.int .i64 (z.1 : Int) :: bv z.2) c 0 with e | e
    · have e2 : splice c.toList 0 (Value.int .i64 (z.1 : Int) :: bv z.2) = Value.int .i64 (z.1 : Int) :: bv z.2 := by
        simp only [splice, List.take_zero, List.nil_append, Nat.zero_add]
        rw [List.drop_eq_nil_of_le (by simp [bv_length, hl, hs]), List.append_nil]
      rw [e2] at e
      simpa only [List.toList_toArray, e] using h
    · simp [bv_length, hl, hs] at e
end
/-! ### For regions that draw their order: a sector's load behind a name, so that the walk doesn't open it -/
def ldSec (p : Value) : Sem Value := Instr.loadAt 55 p
theorem loadAt37 (p : Value) : Instr.loadAt 55 p = ldSec p := rfl
theorem run_ldSec {w : World} {b o : Nat} {l : List UInt8} (hc : w.rangeAt b o (bv l)) (hl : l.length = 128) : (ldSec (.pointer (some ⟨b, o, none⟩))).run Try.prog w = .ok (.agg (bv l).toArray) w :=
  run_loadAt_mid w b o _ (bv l) _ hc Try.underlying55 rfl (Try.size37.trans (by rw [bv_length, hl]))

def stSec (p x : Value) : Sem Unit := Instr.storeAt 55 p x
theorem storeAt37 (p x : Value) : Instr.storeAt 55 p x = stSec p x := rfl
theorem run_stSec {w : World} {b o : Nat} {l : List UInt8} (ht : w.there b o 128) (hl : l.length = 128) : (stSec (.pointer (some ⟨b, o, none⟩)) (.agg (bv l).toArray)).run Try.prog w = .ok () (w.setCells b o (bv l)) := by
  have h := run_storeAt_mid (P := Try.prog) w b o 55 (bv l).toArray (by simpa [bv_length, hl] using ht) (Try.size37.trans (by simp [bv_length, hl])) (all_oneCell_toArray (bv_one l))
  exact h
theorem fold_set (xs : List Value) : ∀ (z : Array Value) (o j : Nat), (xs.zipIdx j).foldl (fun cs x => cs.setIfInBounds (o + x.2) x.1) z = (splice z.toList (o + j) xs).toArray ∨ z.size < o + j + xs.length := by
  induction xs with
  | nil => intro z o j; left; simp [splice]
  | cons x xs ih =>
    intro z o j
    by_cases h : z.size < o + j + (x :: xs).length
    · exact .inr h
    · left
      rw [List.zipIdx_cons, List.foldl_cons]
      rcases ih (z.setIfInBounds (o + j) x) o (j + 1) with e | e
      · rw [e, Array.toList_setIfInBounds]
        have := splice_set z.toList (o + j) x xs (by simp at h; simp; omega)
        rw [← this]
        rfl
      · simp at e h; omega
theorem fold_full (xs : List Value) (z : Array Value) (h : z.size = xs.length) : xs.zipIdx.foldl (fun cs x => cs.setIfInBounds x.2 x.1) z = xs.toArray := by
  have e := fold_set xs z 0 0
  simp only [Nat.zero_add] at e
  rcases e with e | e
  · rw [e]
    simp [splice, h]
  · omega
theorem fold_one (u : Value) (xs : List Value) (z : Array Value) (h : z.size = xs.length + 1) : xs.zipIdx.foldl (fun cs x => cs.setIfInBounds (1 + x.2) x.1) (z.setIfInBounds 0 u) = (u :: xs).toArray := by
  rcases fold_set xs (z.setIfInBounds 0 u) 1 0 with e | e
  · rw [e, Array.toList_setIfInBounds]
    have hz : z.toList.length = xs.length + 1 := by simpa using h
    cases hl : z.toList with
    | nil => rw [hl] at hz; simp at hz
    | cons a r =>
      rw [hl] at hz
      simp only [List.length_cons] at hz
      simp only [List.set_cons_zero, splice, Nat.add_zero, List.take_succ_cons, List.take_zero, List.cons_append, List.nil_append]
      rw [List.drop_eq_nil_of_le (by simp; omega), List.append_nil]
  · simp at e; omega
/-- A write, and a slice of one write, are built: behind names. -/
def bldPen (parts : Array (Nat × Value)) : Sem Value := Instr.build 94 parts
theorem build157 (parts : Array (Nat × Value)) : Instr.build 94 parts = bldPen parts := rfl
def bldPens (n : Nat) (parts : Array (Nat × Value)) : Sem Value := Instr.buildSlice 64 n parts
theorem buildSlice152 (n : Nat) (parts : Array (Nat × Value)) : Instr.buildSlice 64 n parts = bldPens n parts := rfl
set_option maxRecDepth 20000 in
theorem run_bldPen (w : World) (k : Int) (l : List UInt8) (hl : l.length = 128) : (bldPen #[(0, .int .i64 k), (1, .agg (bv l).toArray)]).run Try.prog w = .ok (.agg (Value.int .i64 k :: bv l).toArray) w := by
  have hb : (bv l).length = 128 := by rw [bv_length, hl]
  unfold bldPen
  simp [go_sem, hb]
  exact fold_one _ _ _ (by rw [hb]; rfl)
set_option maxRecDepth 20000 in
theorem run_bldPens (w : World) (cs : List Value) (hl : cs.length = 129) : (bldPens 1 #[(0, .agg cs.toArray)]).run Try.prog w = .ok (.slice (some ⟨w.heap.size, 0, none⟩) 1 1) (w.alloc (.cells cs.toArray 94)) := by
  unfold bldPens
  simp [go_sem, hl]
  rw [fold_full _ _ (by rw [hl]; rfl)]

/-! ### Results that lie in a variable -/
theorem res_row {P : Program} {fn : Func} {p : Tmp} {ty : TypeId} (h : fn.results = #[.cell p ty]) (tmps : Array Value) (w : World) (g o : Nat) (cs : List Value) (d : TypeDesc)
    (hp : tmps.getD p undef = .pointer (some ⟨g, o, none⟩)) (hg : w.rangeAt g o cs)
    (hu : P.underlying ty = some d) (hd : d.isRow = true) (hi : (P.info? ty).map (·.size) = some cs.length) :
    (results fn tmps).run P w = .ok (.agg cs.toArray) w := by
  have hp' : tmps[p]?.getD undef = .pointer (some ⟨g, o, none⟩) := by simpa using hp
  have hl := run_loadVar_mid (P := P) w g o ty cs d hg hu hd hi
  simp [results, h, hp', asAddr, hl]
theorem res_row_tmp {P : Program} {fn : Func} {p q : Tmp} {ty : TypeId} (h : fn.results = #[.cell p ty, .tmp q]) (tmps : Array Value) (w : World) (g o : Nat) (cs : List Value) (d : TypeDesc) (u : Value)
    (hp : tmps.getD p undef = .pointer (some ⟨g, o, none⟩)) (hq : tmps.getD q undef = u) (hg : w.rangeAt g o cs)
    (hu : P.underlying ty = some d) (hd : d.isRow = true) (hi : (P.info? ty).map (·.size) = some cs.length) :
    (results fn tmps).run P w = .ok (.tuple #[.agg cs.toArray, u]) w := by
  have hp' : tmps[p]?.getD undef = .pointer (some ⟨g, o, none⟩) := by simpa using hp
  have hq' : tmps[q]?.getD undef = u := by simpa using hq
  have hl := run_loadVar_mid (P := P) w g o ty cs d hg hu hd hi
  simp [results, h, hp', hq', asAddr, hl]
/-- A sector that is handed back. -/
theorem ret37 {fn : Func} {p : Tmp} (h : fn.results = #[.cell p 55]) (tmps : Array Value) (w : World) (l : List UInt8) (hl : l.length = 128) (g : Nat) (hp : tmps.getD p undef = .pointer (some ⟨g, 0, none⟩)) (hg : g = w.heap.size) :
    (results fn tmps).run Try.prog (w.alloc (.cells (bv l).toArray 55)) = .ok (secV l) (w.alloc (.cells (bv l).toArray 55)) := by
  subst hg
  exact res_row h tmps _ _ _ (bv l) _ hp (range_alloc w (bv l) _ _) Try.underlying55 rfl (Try.size37.trans (by simp [bv_length, hl]))
/-- A sector and something more that are handed back. -/
theorem ret37_tmp {fn : Func} {p q : Tmp} (h : fn.results = #[.cell p 55, .tmp q]) (tmps : Array Value) (w : World) (l : List UInt8) (hl : l.length = 128) (u : Value) (g : Nat) (hp : tmps.getD p undef = .pointer (some ⟨g, 0, none⟩)) (hq : tmps.getD q undef = u) (hg : g = w.heap.size) :
    (results fn tmps).run Try.prog (w.alloc (.cells (bv l).toArray 55)) = .ok (.tuple #[secV l, u]) (w.alloc (.cells (bv l).toArray 55)) := by
  subst hg
  exact res_row_tmp h tmps _ _ _ (bv l) _ u hp hq (range_alloc w (bv l) _ _) Try.underlying55 rfl (Try.size37.trans (by simp [bv_length, hl]))
/-! ### Sectors compared; small sectors built -/
theorem eq37 (w : World) (l l' : List UInt8) (h : l.length = 128) (h' : l'.length = 128) : (Op.equalIn 10000 55 (.agg (bv l).toArray) (.agg (bv l').toArray)).run Try.prog w = .ok (decide (l = l')) w := by
  have e := run_equalIn_bytes (P := Try.prog) w 9998 55 5 128 Try.underlying55 Try.underlying5 (fun w => by simp [sizeOf, go_sem]; rfl) l l' h h'
  have e2 : (l == l') = decide (l = l') := by
    by_cases hl : l = l'
    · subst hl; simp
    · rw [decide_eq_false hl, beq_eq_false_iff_ne]; exact hl
  rw [← e2]
  exact e
/-- A sector whose first byte is x, all others 0. -/
def headSec (x : UInt8) : List UInt8 := x :: List.replicate 127 0
theorem headSec_length (x : UInt8) : (headSec x).length = 128 := by simp [headSec]
def bldSec (parts : Array (Nat × Value)) : Sem Value := Instr.build 55 parts
theorem build37 (parts : Array (Nat × Value)) : Instr.build 55 parts = bldSec parts := rfl
set_option maxRecDepth 20000 in
theorem run_bldSec0 (w : World) : (bldSec #[]).run Try.prog w = .ok (.agg (bv zsec).toArray) w := by
  unfold bldSec
  simp [go_sem]
  rfl
set_option maxRecDepth 20000 in
theorem run_bldSec1 (w : World) (x : UInt8) : (bldSec #[(0, .int .u8 (x.toNat : Int))]).run Try.prog w = .ok (.agg (bv (headSec x)).toArray) w := by
  unfold bldSec
  simp [go_sem]
  rfl
end Go.Proofs.Ytgakajofggmbjaa

/- Sectors in memory, beside disks. -/
namespace Go.Proofs.Ytgakajofggmbjaa
open Go.RowKit

/-- A block that holds a sector. -/
def SecAt (w : World) (g : Nat) (l : List UInt8) : Prop := w.heap[g]? = some (.cells (bv l).toArray 55 (0, 0)) ∧ l.length = 128
theorem SecAt.kp {w w' : World} {g : Nat} {l : List UInt8} {S : Nat → Prop} (h : SecAt w g l) (hk : Kp S w w') (hg : ¬ S g) : SecAt w' g l := ⟨(hk.block g (lt_of_heap h.1) hg).trans h.1, h.2⟩
theorem SecAt.below {w w' : World} {g : Nat} {l : List UInt8} (h : SecAt w g l) (hb : Below w.heap.size w w') : SecAt w' g l := ⟨(hb.block g (lt_of_heap h.1)).trans h.1, h.2⟩
theorem SecAt.new (w : World) (l : List UInt8) (hl : l.length = 128) : SecAt (w.alloc (.cells (bv l).toArray 55)) w.heap.size l := ⟨heap_alloc_new w _, hl⟩
theorem SecAt.cell {w : World} {g : Nat} {l : List UInt8} (h : SecAt w g l) (j : Nat) (hj : j < 128) : w.cell? ⟨g, j, none⟩ = some (.int .u8 ((at8 l j).toNat : Int)) := by
  rw [cell_of_row w g j _ _ _ h.1, List.getElem?_toArray]
  exact bv_get l j (by rw [h.2]; exact hj)
theorem SecAt.range {w : World} {g : Nat} {l : List UInt8} (h : SecAt w g l) : w.rangeAt g 0 (bv l) := by
  intro j v hj
  have hlt : j < l.length := by have := (List.getElem?_eq_some_iff.1 hj).1; rwa [bv_length] at this
  rw [bv_get l j hlt] at hj
  rw [Nat.zero_add, h.cell j (by rw [← h.2]; exact hlt)]
  exact hj
/-- A part of a sector is read. -/
theorem SecAt.rb {w : World} {g : Nat} {l : List UInt8} (h : SecAt w g l) (o n c : Nat) (ho : o + n ≤ 128) (hc : n ≤ c) (hc2 : c ≤ 9223372036854775807) : RB w (some ⟨g, o, none⟩) n c ((l.drop o).take n) := by
  refine ⟨by simp [h.2]; omega, hc, hc2, fun _ => ⟨g, o, rfl, fun k hk => ?_⟩⟩
  rw [h.cell (o + k) (by omega)]
  simp [at8, List.getD_eq_getElem?_getD, hk]
theorem bv_splice (l : List UInt8) (o : Nat) (xs : List UInt8) : splice (bv l) o (bv xs) = bv (splice l o xs) := by simp [splice, bv]
theorem splice_at {α : Type} (a b b' c : List α) (h : b'.length = b.length) : splice (a ++ (b ++ c)) a.length b' = a ++ (b' ++ c) := by
  unfold splice
  rw [List.take_left, ← List.drop_drop, List.drop_left, h, List.drop_left]
theorem setCells_heap (g : Nat) (T : TypeId) : ∀ (cs : List Value) (c : Array Value) (o : Nat) (w : World), w.heap[g]? = some (.cells c T) → o + cs.length ≤ c.size →
    (w.setCells g o cs).heap[g]? = some (.cells (splice c.toList o cs).toArray T) ∧ Kp (· = g) w (w.setCells g o cs)
  | [], c, o, w, h, _ => ⟨by simpa [World.setCells, splice] using h, Kp.refl _ _⟩
  | v :: r, c, o, w, h, hl => by
    have h1 := heap_setCell_same w g o c T v h
    obtain ⟨h2, h3⟩ := setCells_heap g T r (c.setIfInBounds o v) (o + 1) (w.setCell ⟨g, o, none⟩ v) h1 (by simp at hl ⊢; omega)
    refine ⟨?_, ((Kp.refl (· = g) w).setCell ⟨g, o, none⟩ v (fun _ => rfl)).trans h3 (fun i _ e => e)⟩
    simp only [World.setCells]
    rw [h2, Array.toList_setIfInBounds, splice_set _ _ _ _ (by simp at hl ⊢; omega)]
section
variable {ops : Array Oper} {rest : List Oper} {op : Oper} {a : Act} {w : World} {Q : Exit → Act → World → Prop}
/-- A sector is stored over another. -/
theorem st37_at (hgd : op.guard = none) (x y : Operand) (ho : op.op = .store 55 x y) (g : Nat) (l0 : List UInt8) (hx : a.eval x = .pointer (some ⟨g, 0, none⟩)) (hg : SecAt w g l0) (l : List UInt8) (hy : a.eval y = secV l) (hl : l.length = 128)
    (h : ∀ w', SecAt w' g l → Kp (· = g) w w' → wpList Try.prog ops Q rest (a.put op.dst undef) w') : wpList Try.prog ops Q (op :: rest) a w := by
  have hc := setCells_heap g 55 (bv l) (bv l0).toArray 0 w hg.1 (by simp [bv_length, hl, hg.2])
  refine wpList_store_mid hgd _ x y ho _ 0 (bv l).toArray hx hy ?_ (Try.size37.trans (by simp [bv_length, hl])) (all_oneCell_toArray (bv_one l)) ?_
  · intro j hj
    have hj' : j < 128 := by simpa [bv_length, hl] using hj
    rw [Nat.zero_add]
    exact ⟨by rw [hg.cell j hj']; rfl, frozen_of_row _ _ _ _ _ hg.1⟩
  · refine h _ ⟨?_, hl⟩ ?_
    · have h2 := hc.1
      have e2 : splice (bv l0).toArray.toList 0 (bv l) = bv l := by
        simp only [splice, List.take_zero, List.nil_append, Nat.zero_add]
        rw [List.drop_eq_nil_of_le (by simp [bv_length, hl, hg.2]), List.append_nil]
      rw [e2] at h2
      simpa using h2
    · simpa using hc.2
end
end Go.Proofs.Ytgakajofggmbjaa

/- Structs of a few cells: loads and stores as laws for the walk; no program in sight. -/
namespace Go.Proofs.Ytgakajofggmbjaa
open Go.RowKit

/-- A block that holds just the cells cs. -/
def RowAt (w : World) (g : Nat) (t : TypeId) (cs : List Value) : Prop := w.heap[g]? = some (.cells cs.toArray t (0, 0))
theorem RowAt.kp {w w' : World} {g : Nat} {t : TypeId} {cs : List Value} {S : Nat → Prop} (h : RowAt w g t cs) (hk : Kp S w w') (hg : ¬ S g) : RowAt w' g t cs := (hk.block g (lt_of_heap h) hg).trans h
theorem RowAt.below {w w' : World} {g : Nat} {t : TypeId} {cs : List Value} (h : RowAt w g t cs) (hb : Below w.heap.size w w') : RowAt w' g t cs := (hb.block g (lt_of_heap h)).trans h
theorem RowAt.new (w : World) (t : TypeId) (cs : List Value) : RowAt (w.alloc (.cells cs.toArray t)) w.heap.size t cs := heap_alloc_new w _
theorem RowAt.cell {w : World} {g : Nat} {t : TypeId} {cs : List Value} (h : RowAt w g t cs) (j : Nat) (u : Value) (hj : cs[j]? = some u) : w.cell? ⟨g, j, none⟩ = some u := by
  rw [cell_of_row w g j _ _ _ h, List.getElem?_toArray]
  exact hj
theorem RowAt.range {w : World} {g : Nat} {t : TypeId} {cs : List Value} (h : RowAt w g t cs) : w.rangeAt g 0 cs := by
  intro j v hj
  rw [Nat.zero_add]
  exact h.cell j v hj
section
variable {P : Program} {ops : Array Oper} {rest : List Oper} {op : Oper} {a : Act} {w : World} {Q : Exit → Act → World → Prop}
theorem ldN (t : TypeId) (cs : List Value) (hgd : op.guard = none) (x : Operand) (ho : op.op = .load t x) (b o : Nat) (hx : a.eval x = .pointer (some ⟨b, o, none⟩)) (hc : w.rangeAt b o cs) {d : TypeDesc} (hu : P.underlying t = some d) (hd : d.isRow = true) (hi : (P.info? t).map (·.size) = some cs.length)
    (h : wpList P ops Q rest (a.put op.dst (.agg cs.toArray)) w) : wpList P ops Q (op :: rest) a w :=
  wpList_load_mid hgd _ x ho b o hx cs _ hc hu hd hi h
/-- A struct is stored into a new variable of its own. -/
theorem stN (t : TypeId) (cs : List Value) (hgd : op.guard = none) (x y : Operand) (ho : op.op = .store t x y) (c : Array Value) (b : Nat) (hx : a.eval x = .pointer (some ⟨b, 0, none⟩)) (hb : b = w.heap.size) (hy : a.eval y = .agg cs.toArray) (h1 : ∀ u ∈ cs, u.oneCell' = true) (hi : (P.info? t).map (·.size) = some cs.length) (hs : c.size = cs.length)
    (h : wpList P ops Q rest (a.put op.dst undef) (w.alloc (.cells cs.toArray t))) : wpList P ops Q (op :: rest) a (w.alloc (.cells c t)) := by
  subst hb
  refine wpList_store_mid hgd _ x y ho _ 0 cs.toArray hx hy ?_ (hi.trans (by simp)) (all_oneCell_toArray h1) ?_
  · have := there_alloc w c t
    simpa [hs] using this
  · rcases setCells_alloc w t (0, 0) cs c 0 with e | e
    · have e2 : splice c.toList 0 cs = cs := by
        simp only [splice, List.take_zero, List.nil_append, Nat.zero_add]
        rw [List.drop_eq_nil_of_le (by simp [hs]), List.append_nil]
      rw [e2] at e
      simpa only [List.toList_toArray, e] using h
    · simp [hs] at e
/-- A struct is stored over another. -/
theorem stN_at (t : TypeId) (cs cs0 : List Value) (hgd : op.guard = none) (x y : Operand) (ho : op.op = .store t x y) (g : Nat) (hx : a.eval x = .pointer (some ⟨g, 0, none⟩)) (hg : RowAt w g t cs0) (hy : a.eval y = .agg cs.toArray) (h1 : ∀ u ∈ cs, u.oneCell' = true) (hi : (P.info? t).map (·.size) = some cs.length) (hs : cs0.length = cs.length)
    (h : ∀ w', RowAt w' g t cs → Kp (· = g) w w' → wpList P ops Q rest (a.put op.dst undef) w') : wpList P ops Q (op :: rest) a w := by
  have hc := setCells_heap g t cs cs0.toArray 0 w hg (by simp [hs])
  refine wpList_store_mid hgd _ x y ho _ 0 cs.toArray hx hy ?_ (hi.trans (by simp)) (all_oneCell_toArray h1) ?_
  · intro j hj
    have hj' : j < cs0.length := by simpa [hs] using hj
    rw [Nat.zero_add]
    exact ⟨by rw [hg.cell j cs0[j] (List.getElem?_eq_getElem hj')]; rfl, frozen_of_row _ _ _ _ _ hg⟩
  · refine h _ ?_ ?_
    · have h2 := hc.1
      have e2 : splice cs0.toArray.toList 0 cs = cs := by
        simp only [splice, List.take_zero, List.nil_append, Nat.zero_add]
        rw [List.drop_eq_nil_of_le (by simp [hs]), List.append_nil]
      rw [e2] at h2
      simpa [RowAt] using h2
    · simpa using hc.2
end
end Go.Proofs.Ytgakajofggmbjaa

/- What a law's arguments are told to be: whole numbers, strings, slices of bytes, with the bounds of the row's reach. -/
namespace Go.Proofs.Ytgakajofggmbjaa
open Go.ChangeShapes Go.WideShapes Go.ChangeAt Go.RowKit
open Go.ChangeMaps (open_string shut_string)

section
variable {H : Type} {enc : TypeId × Value → H} {P : Program} {W : World} {base : Nat} {t e : TypeId} {v : Value} {d : DataW H} {p : List MemPlace}

theorem u8_of (z : Int) (h : (Lit.int .u8 z).wf = true) : ((UInt8.ofNat z.toNat).toNat : Int) = z := by
  have hb : 0 ≤ z ∧ z ≤ 255 := by simpa [Lit.wf, IntKind.min, IntKind.max, IntKind.signed, IntKind.bits] using h
  rw [UInt8.toNat_ofNat']
  omega

/-- A slice of bytes that came in. -/
theorem open_bytes (hu : P.underlying t = some (.slice e)) (he : P.underlying e = some (.int .u8)) (hc : P.cellsOf e = 1) (hb : P.bytesOf e = 1)
    (o : Value.okWide P W .any base t v) (r : DataW.Trod enc P W 0 (fun _ => true) true t v d p) (z : ∀ n ∈ d.weights P t, n ≤ reachBytes) :
    ∃ A n c xs, v = .slice A n c ∧ RB W A n c xs ∧ n ≤ 140737488351232 := by
  obtain ⟨A, len, cap, rfl⟩ := okWide_slice hu o
  obtain ⟨fuel, hf⟩ := r
  rcases open_ints hu he hc hf with ⟨hcs, _⟩ | ⟨x, l, c, zs, hcs, _, hl, hm, hz, hx, hcell, hwz⟩
  · simp [Value.cells] at hcs
    obtain ⟨rfl, rfl, rfl⟩ := hcs
    exact ⟨none, 0, 0, [], rfl, RB.nil W, by omega⟩
  · simp [Value.cells] at hcs
    obtain ⟨rfl, rfl, rfl⟩ := hcs
    obtain ⟨hx, _⟩ := Prod.mk.inj hx
    subst hx
    have hzl : zs.length = cap := by simpa using hz
    have hlt : len ≤ 140737488351232 := by
      have hw := z (((lits (H := H) .u8 (zs.take len)).length + (lits (H := H) .u8 (zs.drop len)).length) * P.bytesOf e) (by simp [DataW.weights, hu])
      have hn : (lits (H := H) .u8 (zs.take len)).length + (lits (H := H) .u8 (zs.drop len)).length = cap := by simp [lits]; omega
      rw [hn, hb, Nat.mul_one] at hw
      simp only [reachBytes] at hw
      omega
    refine ⟨_, len, cap, (zs.take len).map fun q => UInt8.ofNat q.toNat, rfl, ⟨by simp; omega, hl, by simpa [maxLen] using hm, fun hp => ?_⟩, hlt⟩
    obtain ⟨b, off, spot⟩ := x
    have h0 := hcell 0 (by omega)
    have hs : spot = none := by simpa [Addr.add] using World.cell?_spot h0
    subst hs
    refine ⟨b, off, rfl, fun k hk => ?_⟩
    have hk' := hcell k (by omega)
    rw [add_none] at hk'
    rw [hk', at8]
    have hg : ((zs.take len).map fun q => UInt8.ofNat q.toNat).getD k 0 = UInt8.ofNat (zs.getD k 0).toNat := by
      simp [List.getD_eq_getElem?_getD, hk, List.getElem?_eq_getElem (show k < zs.length by omega)]
    rw [hg, u8_of]
    refine hwz _ ?_
    rw [List.getD_eq_getElem?_getD, List.getElem?_eq_getElem (show k < zs.length by omega)]
    exact List.getElem_mem _

theorem u32_of (x : Int) (h : (Lit.int .u32 x).wf = true) : ∃ s : BitVec 32, (s.toNat : Int) = x := by
  have hb : 0 ≤ x ∧ x ≤ 4294967295 := by simpa [Lit.wf, IntKind.min, IntKind.max, IntKind.signed, IntKind.bits] using h
  refine ⟨BitVec.ofNat 32 x.toNat, ?_⟩
  rw [BitVec.toNat_ofNat]
  omega
/-- A number of 32 bits that came in. -/
theorem open_u32 (hu : P.underlying t = some (.int .u32)) (o : Value.okWide P W .any base t v) (r : DataW.Trod enc P W 0 (fun _ => true) true t v d p) : ∃ s : BitVec 32, v = .int .u32 (s.toNat : Int) := by
  obtain ⟨x, rfl, _, _, wx⟩ := open_int hu o r
  obtain ⟨s, hs⟩ := u32_of x wx
  exact ⟨s, by rw [hs]⟩
theorem weights_all {H : Type} {P : Program} {e : TypeId} : ∀ {ds : List (DataW H)} {d : DataW H}, d ∈ ds → ∀ n ∈ d.weights P e, n ∈ DataW.weightsAll P e ds
  | x :: r, d, h, n, hn => by
    simp only [DataW.weightsAll, List.mem_append]
    rcases List.mem_cons.1 h with rfl | h
    · exact .inl hn
    · exact .inr (weights_all h n hn)
/-- The weights of a slice's element. -/
theorem weights_elem {H : Type} {P : Program} {t e : TypeId} (hu : P.underlying t = some (.slice e)) {es sp : List (DataW H)} {d : DataW H} (h : d ∈ es) : ∀ n ∈ d.weights P e, n ∈ (DataW.slice es sp).weights P t := by
  intro n hn
  simp only [DataW.weights, hu, List.mem_cons, List.mem_append]
  exact .inr (.inl (weights_all h n hn))
/-- A slice of slices of bytes that came in: its rows, and what its datum says of them. -/
theorem open_rows {q : TypeId} (hu : P.underlying t = some (.slice e)) (he : P.underlying e = some (.slice q)) (hq : P.underlying q = some (.int .u8)) (hc : P.cellsOf e = 1) (hcq : P.cellsOf q = 1) (hb : P.bytesOf e = 24) (hbq : P.bytesOf q = 1)
    (o : Value.okWide P W .any base t v) (r : DataW.Trod enc P W 0 (fun _ => true) true t v d p) (z : ∀ n ∈ d.weights P t, n ≤ reachBytes) :
    ∃ A n c xss, v = .slice A n c ∧ RRB W A n c xss ∧ n * 24 ≤ 140737488351232 ∧ (∀ k, k < n → (atL xss k).length ≤ 140737488351232) ∧
      ((d = .nil ∧ n = 0) ∨ ∃ D sp, d = .slice ((List.range n).map D) sp ∧ ∀ k, k < n → (D k = .nil ∧ (atL xss k).length = 0) ∨ ∃ es sp', D k = .slice es sp' ∧ es.length = (atL xss k).length) := by
  obtain ⟨A0, len0, cap0, rfl⟩ := okWide_slice hu o
  obtain ⟨fuel, hf⟩ := r
  rcases Go.Deep.open_int_rows hu he hq hc hcq hf with ⟨hcs, hx⟩ | ⟨x, len, cap, A, L, C, Z, hcs, _, hl, hm, hx, hrow⟩
  · simp [Value.cells] at hcs
    obtain ⟨rfl, rfl, rfl⟩ := hcs
    obtain ⟨rfl, _⟩ := Prod.mk.inj hx
    exact ⟨none, 0, 0, [], rfl, RRB.nil W, by omega, fun k hk => absurd hk (by omega), .inl ⟨rfl, rfl⟩⟩
  · simp [Value.cells] at hcs
    obtain ⟨rfl, rfl, rfl⟩ := hcs
    obtain ⟨rfl, _⟩ := Prod.mk.inj hx
    have hn : cap0 * 24 ≤ 140737488351232 := by
      have hw := z ((((List.range len0).map fun r => Go.Deep.intRow (H := H) .u8 (A r) (L r) (Z r)).length + ((List.range (cap0 - len0)).map fun j => Go.Deep.intRow (H := H) .u8 (A (len0 + j)) (L (len0 + j)) (Z (len0 + j))).length) * P.bytesOf e) (by simp [DataW.weights, hu])
      rw [hb] at hw
      simp only [List.length_map, List.length_range, reachBytes] at hw
      omega
    have hat : ∀ k, k < len0 → atL ((List.range len0).map fun r => ((Z r).take (L r)).map fun q => UInt8.ofNat q.toNat) k = ((Z k).take (L k)).map fun q => UInt8.ofNat q.toNat := by
      intro k hk
      simp [atL, List.getD_eq_getElem?_getD, hk]
    have hlen : ∀ k, k < len0 → (((Z k).take (L k)).map fun q => UInt8.ofNat q.toNat).length = L k := by
      intro k hk
      obtain ⟨_, h2, _, h4, _⟩ := hrow k (by omega)
      simp
      omega
    refine ⟨some x, len0, cap0, (List.range len0).map fun r => ((Z r).take (L r)).map fun q => UInt8.ofNat q.toNat, rfl, ⟨by simp, hl, by simpa [maxLen] using hm, fun hp => ?_⟩, by omega, fun k hk => ?_, .inr ⟨_, _, rfl, fun k hk => ?_⟩⟩
    · obtain ⟨b, off, spot⟩ := x
      have h0 := (hrow 0 (by omega)).1
      have hs : spot = none := by simpa [Addr.add] using World.cell?_spot h0
      subst hs
      refine ⟨b, off, rfl, fun k hk => ?_⟩
      obtain ⟨h1, h2, h3, h4, h5, h6, h7⟩ := hrow k (by omega)
      rw [add_none] at h1
      refine ⟨A k, L k, C k, h1, ?_⟩
      rw [hat k hk]
      refine ⟨hlen k hk, h2, by simpa [maxLen] using h3, fun hp => ?_⟩
      cases hA : A k with
      | none => exact absurd (h6 hA) (by omega)
      | some x' =>
        obtain ⟨b', o', spot'⟩ := x'
        obtain ⟨_, h8⟩ := h7 _ hA
        have h80 := h8 0 (by omega)
        have hs' : spot' = none := by simpa [Addr.add] using World.cell?_spot h80
        subst hs'
        refine ⟨b', o', rfl, fun j hj => ?_⟩
        have hk' := h8 j (by omega)
        rw [add_none] at hk'
        rw [hk', at8]
        have hg : (((Z k).take (L k)).map fun q => UInt8.ofNat q.toNat).getD j 0 = UInt8.ofNat ((Z k).getD j 0).toNat := by
          simp [List.getD_eq_getElem?_getD, hj, List.getElem?_eq_getElem (show j < (Z k).length by omega)]
        rw [hg, u8_of]
        refine h5 _ ?_
        rw [List.getD_eq_getElem?_getD, List.getElem?_eq_getElem (show j < (Z k).length by omega)]
        exact List.getElem_mem _
    · rw [hat k hk, hlen k hk]
      obtain ⟨_, h2, _, h4, _, h6, _⟩ := hrow k (by omega)
      cases hA : A k with
      | none => have := h6 hA; omega
      | some x' =>
        have hmem : Go.Deep.intRow (H := H) .u8 (A k) (L k) (Z k) ∈ (List.range len0).map fun r => Go.Deep.intRow (H := H) .u8 (A r) (L r) (Z r) := List.mem_map.2 ⟨k, by simpa using hk, rfl⟩
        have hw := z (((lits (H := H) .u8 ((Z k).take (L k))).length + (lits (H := H) .u8 ((Z k).drop (L k))).length) * P.bytesOf q) (weights_elem hu hmem _ (by rw [hA]; simp [Go.Deep.intRow, DataW.weights, he]))
        rw [hbq, Nat.mul_one] at hw
        have hn2 : (lits (H := H) .u8 ((Z k).take (L k))).length + (lits (H := H) .u8 ((Z k).drop (L k))).length = (Z k).length := by simp [lits]; omega
        rw [hn2] at hw
        simp only [reachBytes] at hw
        omega
    · rw [hat k hk, hlen k hk]
      obtain ⟨_, h2, _, h4, _, h6, _⟩ := hrow k (by omega)
      cases hA : A k with
      | none => left; exact ⟨by simp [Go.Deep.intRow], by have := h6 hA; omega⟩
      | some x' => right; exact ⟨_, _, by simp only [Go.Deep.intRow]; rfl, by simp [lits]; omega⟩
/-- An int that came in. -/
theorem open_i64 (hu : P.underlying t = some (.int .i64)) (o : Value.okWide P W .any base t v) (r : DataW.Trod enc P W 0 (fun _ => true) true t v d p) : ∃ x : Int, v = .int .i64 x ∧ -9223372036854775808 ≤ x ∧ x ≤ 9223372036854775807 := by
  obtain ⟨x, rfl, _, _, wx⟩ := open_int hu o r
  have hb : -9223372036854775808 ≤ x ∧ x ≤ 9223372036854775807 := by simpa [Lit.wf, IntKind.min, IntKind.max, IntKind.signed, IntKind.bits] using wx
  exact ⟨x, rfl, hb⟩
/-- A byte that came in. -/
theorem open_u8 (hu : P.underlying t = some (.int .u8)) (o : Value.okWide P W .any base t v) (r : DataW.Trod enc P W 0 (fun _ => true) true t v d p) : ∃ x : UInt8, v = .int .u8 (x.toNat : Int) := by
  obtain ⟨x, rfl, _, _, wx⟩ := open_int hu o r
  exact ⟨UInt8.ofNat x.toNat, by rw [u8_of x wx]⟩
end
end Go.Proofs.Ytgakajofggmbjaa

/- Openers for nested data: arrays of bytes, slices of bools, structs in slices; no program in sight. -/
namespace Go.Proofs.Ytgakajofggmbjaa
open Go.ChangeShapes Go.WideShapes Go.ChangeAt Go.RowKit

section
variable {H : Type} {enc : TypeId × Value → H} {P : Program} {w : World} {t e : TypeId} {fuel : Nat} {cs : List Value} {x : DataW H × List MemPlace}

theorem i64_wf {n : Int} (h : (Lit.int .i64 n).wf = true) : -9223372036854775808 ≤ n ∧ n ≤ 9223372036854775807 := by
  simpa [Lit.wf, IntKind.min, IntKind.max, IntKind.signed, IntKind.bits] using h
theorem u64_wf {n : Int} (h : (Lit.int .u64 n).wf = true) : 0 ≤ n ∧ n ≤ 18446744073709551615 := by
  simpa [Lit.wf, IntKind.min, IntKind.max, IntKind.signed, IntKind.bits] using h

/-- Cells whose every one is a byte's. -/
theorem bytes_of_cells : ∀ (cs : List Value), (∀ i, i < cs.length → ∃ z, cs[i]? = some (.int .u8 z) ∧ (Lit.int .u8 z).wf = true) → ∃ l : List UInt8, cs = bv l
  | [], _ => ⟨[], rfl⟩
  | c :: cs, h => by
    obtain ⟨z, hz, hw⟩ := h 0 (by simp)
    obtain ⟨l, hl⟩ := bytes_of_cells cs fun i hi => by
      have := h (i + 1) (by simp; omega)
      simpa using this
    simp at hz
    exact ⟨UInt8.ofNat z.toNat :: l, by rw [hz, hl]; simp only [bv, List.map_cons]; rw [u8_of z hw]⟩
/-- An array of bytes. -/
theorem trod_bytes {base : Nat} {spare : Nat → Bool} {held : Bool} {n : Nat} (ht : P.underlying t = some (.array n e)) (he : P.underlying e = some (.int .u8)) (hc : P.cellsOf e = 1) (hct : P.cellsOf t = n) (h : DataW.trod enc P w base spare held fuel t cs = some x) :
    ∃ l : List UInt8, cs = bv l ∧ l.length = n := by
  obtain ⟨xs, m, _, _, hl, hxl, hf⟩ := DataW.trod_array ht h
  rw [hct] at hl
  obtain ⟨l, rfl⟩ := bytes_of_cells cs fun i hi => by
    have h1 := hf i (by omega)
    rw [hc, Nat.mul_one, List.getElem?_eq_getElem (by omega)] at h1
    obtain ⟨z, hz, _, hw⟩ := DataW.trod_int he h1
    refine ⟨z, ?_, hw⟩
    have h2 := congrArg List.head? hz
    rw [List.head?_take, if_neg (by decide), List.head?_drop] at h2
    exact h2
  exact ⟨l, rfl, by rw [bv_length] at hl; exact hl⟩

theorem cells_range {base : Nat} {a : Addr} {n : Nat} {cs : List Value} (h : w.cells? base a n = some cs) : cs.length = n ∧ ∀ j u, cs[j]? = some u → w.cell? (a.add j) = some u := by
  unfold World.cells? at h
  split at h
  · have hl := mapM_some_length h
    rw [List.length_range] at hl
    refine ⟨hl, fun j u hj => ?_⟩
    have hlt : j < n := by have := (List.getElem?_eq_some_iff.1 hj).1; omega
    have := mapM_some_get h j j (by simp [hlt])
    rw [hj] at this
    exact this
  · cases h
theorem spot_none {a : Addr} {j : Nat} {u : Value} (h : w.cell? (a.add j) = some u) : (a.add j).spot = none := World.cell?_spot h
theorem add_add (a : Addr) (i j : Nat) : (a.add i).add j = a.add (i + j) := by
  unfold Addr.add
  by_cases h1 : i = 0 <;> by_cases h2 : j = 0 <;> simp [h1, h2, Nat.add_assoc]

/-- A slice of bools. -/
theorem trod_bools (hu : P.underlying t = some (.slice e)) (he : P.underlying e = some .bool) (hc : P.cellsOf e = 1) (hb : P.bytesOf e = 1) (h : DataW.trod enc P w 0 (fun _ => true) true fuel t cs = some x) (z : ∀ n ∈ x.1.weights P t, n ≤ reachBytes) :
    ∃ A n c bs, cs = [.slice A n c] ∧ RBl w A n c bs ∧ n ≤ 140737488351232 := by
  rcases Go.Deep.open_slice hu h with ⟨rfl, _⟩ | ⟨a, len, cap, m, n, D, Pl, rfl, _, hl, hm, hmm, hx, hel⟩
  · exact ⟨none, 0, 0, [], rfl, RBl.nil w, by omega⟩
  · simp only [if_true] at hmm
    subst hmm
    have hget : ∀ i, i < m → ∃ b : Bool, w.cell? (a.add i) = some (.bool b) := by
      intro i hi
      obtain ⟨cs', h1, h2⟩ := hel i hi
      rw [hc, Nat.mul_one] at h1
      obtain ⟨b, rfl, _⟩ := DataW.trod_bool he h2
      obtain ⟨_, h3⟩ := cells_range h1
      have := h3 0 _ rfl
      rw [add_add, Nat.add_zero] at this
      exact ⟨b, this⟩
    have hlt : len ≤ 140737488351232 := by
      have hw := z ((((List.range len).map D).length + ((List.range (m - len)).map fun j => D (len + j)).length) * P.bytesOf e) (by rw [hx]; simp [DataW.weights, hu])
      rw [hb] at hw
      simp only [List.length_map, List.length_range, reachBytes] at hw
      omega
    obtain ⟨f, hf⟩ : ∃ f : Nat → Bool, ∀ i, i < m → w.cell? (a.add i) = some (.bool (f i)) :=
      ⟨fun i => if h : i < m then (hget i h).choose else false, fun i hi => by
        show w.cell? (a.add i) = some (.bool (if h : i < m then (hget i h).choose else false))
        rw [dif_pos hi]
        exact (hget i hi).choose_spec⟩
    refine ⟨some a, len, m, (List.range len).map f, rfl, ⟨by simp, hl, by simpa [maxLen] using hm, fun hp => ?_⟩, hlt⟩
    obtain ⟨b, o, spot⟩ := a
    have h0 := hf 0 (by omega)
    have hs : spot = none := by simpa [Addr.add] using World.cell?_spot h0
    subst hs
    refine ⟨b, o, rfl, fun k hk => ?_⟩
    have hc1 := hf k (by omega)
    rw [add_none] at hc1
    rw [hc1, atB]
    simp [List.getD_eq_getElem?_getD, hk]
end
end Go.Proofs.Ytgakajofggmbjaa
