/- Sectors in memory: loads, stores, comparison, results; no disk in sight. -/
import Derived.Test.YtmpeidgmicammaaProg
import Derived.Test.YtmpeidgmicammaaMem
import Derived.Test.YtmpeidgmicammaaZero
import Derived.Deep.MidRow
import Derived.Laws.CopyOwn
import Derived.KernelRfl
import Derived.Stop.BytesEq
namespace Go.Proofs.Ytmpeidgmicammaa
open Go.RowKit

structure Kp (S : Nat → Prop) (w w' : World) : Prop where
  os : w'.os = w.os
  tape : w'.tape = w.tape
  output : w'.output = w.output
  size : w.heap.size ≤ w'.heap.size
  block : ∀ k, k < w.heap.size → ¬ S k → w'.heap[k]? = w.heap[k]?
theorem Kp.refl (S : Nat → Prop) (w : World) : Kp S w w := ⟨rfl, rfl, rfl, Nat.le_refl _, fun _ _ _ => rfl⟩
theorem Kp.trans {S S' : Nat → Prop} {a b c : World} (h : Kp S a b) (k : Kp S' b c) (hs : ∀ i, i < a.heap.size → S' i → S i) : Kp S a c :=
  ⟨k.os.trans h.os, k.tape.trans h.tape, k.output.trans h.output, Nat.le_trans h.size k.size, fun i hi hn =>
    (k.block i (Nat.lt_of_lt_of_le hi h.size) (fun hq => hn (hs i hi hq))).trans (h.block i hi hn)⟩
theorem Kp.imp {S S' : Nat → Prop} {a b : World} (h : Kp S a b) (hs : ∀ i, i < a.heap.size → S i → S' i) : Kp S' a b :=
  ⟨h.os, h.tape, h.output, h.size, fun i hi hn => h.block i hi (fun hq => hn (hs i hi hq))⟩
theorem Kp.below {S : Nat → Prop} {B : Nat} {a b : World} (h : Kp S a b) (hB : B ≤ a.heap.size) (hs : ∀ i, S i → B ≤ i) : Below B a b :=
  ⟨h.os, h.tape, h.output, h.size, fun i hi => h.block i (by omega) (fun hq => by have := hs i hq; omega)⟩
theorem Kp.of_below {S : Nat → Prop} {a b : World} (h : Below a.heap.size a b) : Kp S a b := ⟨h.os, h.tape, h.output, h.size, fun i hi _ => h.block i hi⟩
theorem Kp.of_grown {S : Nat → Prop} {a b : World} {row : Option Nat} (h : a.grownBy b row) (hs : ∀ k, row = some k → S k) : Kp S a b :=
  ⟨h.os, h.tape, h.output, h.size, fun i hi hn => h.block i hi (fun e => hn (hs i e.symm))⟩
theorem Kp.alloc {S : Nat → Prop} {a b : World} (h : Kp S a b) (o : Obj) : Kp S a (b.alloc o) :=
  h.trans (Kp.of_below (S := fun _ => False) (below_alloc b o)) (fun _ _ hf => hf.elim)
theorem Kp.drew {S : Nat → Prop} {a b : World} (h : Kp S a b) : Kp S a b.drew := ⟨h.os, h.tape, h.output, h.size, h.block⟩
theorem Kp.drewN {S : Nat → Prop} {a b : World} (h : Kp S a b) (n : Nat) : Kp S a (b.drewN n) := ⟨h.os, h.tape, h.output, h.size, h.block⟩
theorem Kp.setCell {S : Nat → Prop} {a b : World} (h : Kp S a b) (p : Addr) (u : Value) (hp : p.block < a.heap.size → S p.block) : Kp S a (b.setCell p u) :=
  ⟨h.os, h.tape, h.output, by simp [World.setCell]; exact h.size, fun i hi hn => by
    rw [Below.heap_setCell _ _ _ _ (fun e => hn (by rw [e]; exact hp (by omega)))]
    exact h.block i hi hn⟩

/-- Blocks of other types are other blocks. -/
theorem ne_of_types {w : World} {a b : Nat} {c c' : Array Value} {t t' : TypeId} {f f' : Nat × Nat} (h : w.heap[a]? = some (.cells c t f)) (h' : w.heap[b]? = some (.cells c' t' f')) (ht : t ≠ t') : a ≠ b := by
  rintro rfl
  rw [h] at h'
  injection h' with h'
  injection h' with _ h2
  exact ht h2
theorem own_ne {w : World} {base n size : Nat} {e t : TypeId} {v : Value} {xs : List Value} {b : Nat} {c : Array Value} {f : Nat × Nat} (h : w.ownsRow base e size v n xs) (h' : w.heap[b]? = some (.cells c t f)) (ht : e ≠ t) : v.ownBlock ≠ some b := by
  intro hk
  rcases h.2 with ⟨rfl, _⟩ | ⟨g, cap, cur, rfl, _, hg, _⟩
  · simp [Value.ownBlock] at hk
  · have : g = b := by simpa [Value.ownBlock] using hk
    subst this
    exact ne_of_types hg h' ht rfl
theorem lt_of_heap {w : World} {b : Nat} {o : Obj} (h : w.heap[b]? = some o) : b < w.heap.size := (Array.getElem?_eq_some_iff.1 h).1

/-- A sector of zeros (a name that the walk leaves alone). -/
def zsec : List UInt8 := List.replicate 128 0
theorem zsec_length : zsec.length = 128 := by simp [zsec]
/-- A sector as a value. -/
def secV (x : List UInt8) : Value := .agg (bv x).toArray
theorem range_lt {w : World} {b o : Nat} {cs : List Value} (h : w.rangeAt b o cs) (hp : 0 < cs.length) : b < w.heap.size := by
  have := h 0 _ (List.getElem?_eq_getElem hp)
  exact World.block_lt_of_cell? w _ this
theorem range_kp {w w' : World} {S : Nat → Prop} {b o : Nat} {cs : List Value} (h : w.rangeAt b o cs) (hk : Kp S w w') (hb : ¬ S b) : w'.rangeAt b o cs := by
  intro j u hj
  have h1 := h j u hj
  rw [← h1]
  exact World.cell?_of_block (hk.block b (World.block_lt_of_cell? w _ h1) hb)
theorem range_grown {w w' : World} {row : Option Nat} {b o : Nat} {cs : List Value} (h : w.rangeAt b o cs) (hg : w.grownBy w' row) (hb : row ≠ some b) : w'.rangeAt b o cs :=
  range_kp (S := fun k => row = some k) h (Kp.of_grown hg (fun _ e => e)) hb
theorem range_setCell {w : World} {a : Addr} {u : Value} {b o : Nat} {cs : List Value} (h : w.rangeAt b o cs) (hb : b ≠ a.block) : (w.setCell a u).rangeAt b o cs :=
  range_kp (S := fun k => k = a.block) h ((Kp.refl _ w).setCell a u (fun _ => rfl)) hb

set_option maxRecDepth 20000 in
theorem Try.zero37 : Try.zeroCells27 = (bv zsec).toArray := rfl
theorem Try.size37 : (Try.prog.info? 27).map (·.size) = some 128 := by kernel_rfl
theorem splice_set (L : List Value) (o : Nat) (v : Value) (r : List Value) (h : o + 1 + r.length ≤ L.length) : splice (L.set o v) (o + 1) r = splice L o (v :: r) := by
  unfold splice
  have h1 : (L.set o v).take (o + 1) = L.take o ++ [v] := by
    rw [List.take_succ_eq_append_getElem (by simp; omega), List.take_set_of_le (Nat.le_refl _)]
    simp
  have h2 : (L.set o v).drop (o + 1 + r.length) = L.drop (o + (v :: r).length) := by
    rw [List.drop_set_of_lt (by omega)]
    congr 1
    simp
    omega
  rw [h1, h2]
  simp
theorem setCells_alloc (w : World) (t : TypeId) (fr : Nat × Nat) : ∀ (cs : List Value) (c : Array Value) (o : Nat), (w.alloc (.cells c t fr)).setCells w.heap.size o cs = w.alloc (.cells (splice c.toList o cs).toArray t fr) ∨ c.size < o + cs.length
  | [], c, o => .inl (by simp [World.setCells, splice])
  | v :: r, c, o => by
    by_cases h : c.size < o + (v :: r).length
    · exact .inr h
    · left
      have e : (w.alloc (.cells c t fr)).setCell ⟨w.heap.size, o, none⟩ v = w.alloc (.cells (c.setIfInBounds o v) t fr) := by
        simp only [World.setCell, World.alloc]
        congr 1
        apply Array.ext
        · simp
        · intro i h1 h2
          simp only [Array.getElem_modify, Array.getElem_push]
          by_cases hi : i < w.heap.size
          · rw [dif_pos hi, dif_pos hi, if_neg (by omega)]
          · have : w.heap.size = i := by simp at h2; omega
            rw [dif_neg hi, dif_neg hi, if_pos this]
            simp
      simp only [World.setCells]
      rw [e]
      rcases setCells_alloc w t fr r (c.setIfInBounds o v) (o + 1) with h2 | h2
      · rw [h2]
        congr 2
        simp only [List.length_cons] at h
        rw [Array.toList_setIfInBounds]
        rw [splice_set _ _ _ _ (by simp; omega)]
      · simp only [Array.size_setIfInBounds] at h2
        simp only [List.length_cons] at h
        omega

theorem there_alloc (w : World) (c : Array Value) (t : TypeId) : (w.alloc (.cells c t)).there w.heap.size 0 c.size := by
  intro j hj
  rw [Nat.zero_add]
  constructor
  · rw [World.cell?_alloc_mark, Array.getElem?_eq_getElem hj]; rfl
  · exact frozen_of_row _ _ _ c t (heap_alloc_new w _)
theorem range_alloc (w : World) (cs : List Value) (t : TypeId) (fr : Nat × Nat) : (w.alloc (.cells cs.toArray t fr)).rangeAt w.heap.size 0 cs := by
  intro j v hj
  rw [World.cell?_alloc_mark, Nat.zero_add, List.getElem?_toArray]
  exact hj
theorem range_old {w : World} {b o : Nat} {cs : List Value} (h : w.rangeAt b o cs) (x : Obj) : (w.alloc x).rangeAt b o cs := by
  intro j v hj
  have := h j v hj
  rw [World.cell?_alloc_past _ _ _ (World.block_lt_of_cell? w _ this)]
  exact this

section
variable {ops : Array Oper} {rest : List Oper} {op : Oper} {a : Act} {w : World} {Q : Exit → Act → World → Prop}
/-- A sector is loaded. -/
theorem ld37 (hgd : op.guard = none) (x : Operand) (ho : op.op = .load 27 x) (b o : Nat) (hx : a.eval x = .pointer (some ⟨b, o, none⟩)) (l : List UInt8) (hc : w.rangeAt b o (bv l)) (hl : l.length = 128)
    (h : wpList Try.prog ops Q rest (a.put op.dst (secV l)) w) : wpList Try.prog ops Q (op :: rest) a w :=
  wpList_load_mid hgd _ x ho b o hx (bv l) _ hc Try.underlying27 rfl (Try.size37.trans (by rw [bv_length, hl])) h
/-- A sector is stored into a new variable of its own. -/
theorem st37 (hgd : op.guard = none) (x y : Operand) (ho : op.op = .store 27 x y) (c : Array Value) (b : Nat) (hx : a.eval x = .pointer (some ⟨b, 0, none⟩)) (hb : b = w.heap.size) (l : List UInt8) (hy : a.eval y = secV l) (hl : l.length = 128) (hs : c.size = 128)
    (h : wpList Try.prog ops Q rest (a.put op.dst undef) (w.alloc (.cells (bv l).toArray 27))) : wpList Try.prog ops Q (op :: rest) a (w.alloc (.cells c 27)) := by
  subst hb
  refine wpList_store_mid hgd _ x y ho _ 0 (bv l).toArray hx hy ?_ (Try.size37.trans (by simp [bv_length, hl])) (all_oneCell_toArray (bv_one l)) ?_
  · have := there_alloc w c 27
    simpa [bv_length, hl, hs] using this
  · rcases setCells_alloc w 27 (0, 0) (bv l) c 0 with e | e
    · have e2 : splice c.toList 0 (bv l) = bv l := by
        simp only [splice, List.take_zero, List.nil_append, Nat.zero_add]
        rw [List.drop_eq_nil_of_le (by simp [bv_length, hl, hs]), List.append_nil]
      rw [e2] at e
      simpa only [List.toList_toArray, e] using h
    · simp [bv_length, hl, hs] at e
end
def ldSec (p : Value) : Sem Value := Instr.loadAt 27 p
theorem loadAt37 (p : Value) : Instr.loadAt 27 p = ldSec p := rfl
theorem run_ldSec {w : World} {b o : Nat} {l : List UInt8} (hc : w.rangeAt b o (bv l)) (hl : l.length = 128) : (ldSec (.pointer (some ⟨b, o, none⟩))).run Try.prog w = .ok (.agg (bv l).toArray) w :=
  run_loadAt_mid w b o _ (bv l) _ hc Try.underlying27 rfl (Try.size37.trans (by rw [bv_length, hl]))

theorem res_row {P : Program} {fn : Func} {p : Tmp} {ty : TypeId} (h : fn.results = #[.cell p ty]) (tmps : Array Value) (w : World) (g o : Nat) (cs : List Value) (d : TypeDesc)
    (hp : tmps.getD p undef = .pointer (some ⟨g, o, none⟩)) (hg : w.rangeAt g o cs)
    (hu : P.underlying ty = some d) (hd : d.isRow = true) (hi : (P.info? ty).map (·.size) = some cs.length) :
    (results fn tmps).run P w = .ok (.agg cs.toArray) w := by
  have hp' : tmps[p]?.getD undef = .pointer (some ⟨g, o, none⟩) := by simpa using hp
  have hl := run_loadVar_mid (P := P) w g o ty cs d hg hu hd hi
  simp [results, h, hp', asAddr, hl]
theorem res_row_tmp {P : Program} {fn : Func} {p q : Tmp} {ty : TypeId} (h : fn.results = #[.cell p ty, .tmp q]) (tmps : Array Value) (w : World) (g o : Nat) (cs : List Value) (d : TypeDesc) (u : Value)
    (hp : tmps.getD p undef = .pointer (some ⟨g, o, none⟩)) (hq : tmps.getD q undef = u) (hg : w.rangeAt g o cs)
    (hu : P.underlying ty = some d) (hd : d.isRow = true) (hi : (P.info? ty).map (·.size) = some cs.length) :
    (results fn tmps).run P w = .ok (.tuple #[.agg cs.toArray, u]) w := by
  have hp' : tmps[p]?.getD undef = .pointer (some ⟨g, o, none⟩) := by simpa using hp
  have hq' : tmps[q]?.getD undef = u := by simpa using hq
  have hl := run_loadVar_mid (P := P) w g o ty cs d hg hu hd hi
  simp [results, h, hp', hq', asAddr, hl]
/-- A sector and something more that are handed back. -/
theorem ret37_tmp {fn : Func} {p q : Tmp} (h : fn.results = #[.cell p 27, .tmp q]) (tmps : Array Value) (w : World) (l : List UInt8) (hl : l.length = 128) (u : Value) (g : Nat) (hp : tmps.getD p undef = .pointer (some ⟨g, 0, none⟩)) (hq : tmps.getD q undef = u) (hg : g = w.heap.size) :
    (results fn tmps).run Try.prog (w.alloc (.cells (bv l).toArray 27)) = .ok (.tuple #[secV l, u]) (w.alloc (.cells (bv l).toArray 27)) := by
  subst hg
  exact res_row_tmp h tmps _ _ _ (bv l) _ u hp hq (range_alloc w (bv l) _ _) Try.underlying27 rfl (Try.size37.trans (by simp [bv_length, hl]))
theorem eq37 (w : World) (l l' : List UInt8) (h : l.length = 128) (h' : l'.length = 128) : (Op.equalIn 10000 27 (.agg (bv l).toArray) (.agg (bv l').toArray)).run Try.prog w = .ok (decide (l = l')) w := by
  have e := run_equalIn_bytes (P := Try.prog) w 9998 27 5 128 Try.underlying27 Try.underlying5 (fun w => by simp [sizeOf, go_sem]; rfl) l l' h h'
  have e2 : (l == l') = decide (l = l') := by
    by_cases hl : l = l'
    · subst hl; simp
    · rw [decide_eq_false hl, beq_eq_false_iff_ne]; exact hl
  rw [← e2]
  exact e
def bldSec (parts : Array (Nat × Value)) : Sem Value := Instr.build 27 parts
theorem build37 (parts : Array (Nat × Value)) : Instr.build 27 parts = bldSec parts := rfl
set_option maxRecDepth 20000 in
theorem run_bldSec0 (w : World) : (bldSec #[]).run Try.prog w = .ok (.agg (bv zsec).toArray) w := by
  unfold bldSec
  simp [go_sem]
  rfl

/-- A block that holds a sector. -/
def SecAt (w : World) (g : Nat) (l : List UInt8) : Prop := w.heap[g]? = some (.cells (bv l).toArray 27 (0, 0)) ∧ l.length = 128
theorem SecAt.kp {w w' : World} {g : Nat} {l : List UInt8} {S : Nat → Prop} (h : SecAt w g l) (hk : Kp S w w') (hg : ¬ S g) : SecAt w' g l := ⟨(hk.block g (lt_of_heap h.1) hg).trans h.1, h.2⟩
theorem SecAt.below {w w' : World} {g : Nat} {l : List UInt8} (h : SecAt w g l) (hb : Below w.heap.size w w') : SecAt w' g l := ⟨(hb.block g (lt_of_heap h.1)).trans h.1, h.2⟩
theorem SecAt.new (w : World) (l : List UInt8) (hl : l.length = 128) : SecAt (w.alloc (.cells (bv l).toArray 27)) w.heap.size l := ⟨heap_alloc_new w _, hl⟩
theorem SecAt.cell {w : World} {g : Nat} {l : List UInt8} (h : SecAt w g l) (j : Nat) (hj : j < 128) : w.cell? ⟨g, j, none⟩ = some (.int .u8 ((at8 l j).toNat : Int)) := by
  rw [cell_of_row w g j _ _ _ h.1, List.getElem?_toArray]
  exact bv_get l j (by rw [h.2]; exact hj)
theorem SecAt.range {w : World} {g : Nat} {l : List UInt8} (h : SecAt w g l) : w.rangeAt g 0 (bv l) := by
  intro j v hj
  have hlt : j < l.length := by have := (List.getElem?_eq_some_iff.1 hj).1; rwa [bv_length] at this
  rw [bv_get l j hlt] at hj
  rw [Nat.zero_add, h.cell j (by rw [← h.2]; exact hlt)]
  exact hj
/-- A part of a sector is read. -/
theorem SecAt.rb {w : World} {g : Nat} {l : List UInt8} (h : SecAt w g l) (o n c : Nat) (ho : o + n ≤ 128) (hc : n ≤ c) (hc2 : c ≤ 9223372036854775807) : RB w (some ⟨g, o, none⟩) n c ((l.drop o).take n) := by
  refine ⟨by simp [h.2]; omega, hc, hc2, fun _ => ⟨g, o, rfl, fun k hk => ?_⟩⟩
  rw [h.cell (o + k) (by omega)]
  simp [at8, List.getD_eq_getElem?_getD, hk]
theorem bv_splice (l : List UInt8) (o : Nat) (xs : List UInt8) : splice (bv l) o (bv xs) = bv (splice l o xs) := by simp [splice, bv]
theorem splice_at {α : Type} (a b b' c : List α) (h : b'.length = b.length) : splice (a ++ (b ++ c)) a.length b' = a ++ (b' ++ c) := by
  unfold splice
  rw [List.take_left, ← List.drop_drop, List.drop_left, h, List.drop_left]
theorem setCells_heap (g : Nat) (T : TypeId) : ∀ (cs : List Value) (c : Array Value) (o : Nat) (w : World), w.heap[g]? = some (.cells c T) → o + cs.length ≤ c.size →
    (w.setCells g o cs).heap[g]? = some (.cells (splice c.toList o cs).toArray T) ∧ Kp (· = g) w (w.setCells g o cs)
  | [], c, o, w, h, _ => ⟨by simpa [World.setCells, splice] using h, Kp.refl _ _⟩
  | v :: r, c, o, w, h, hl => by
    have h1 := heap_setCell_same w g o c T v h
    obtain ⟨h2, h3⟩ := setCells_heap g T r (c.setIfInBounds o v) (o + 1) (w.setCell ⟨g, o, none⟩ v) h1 (by simp at hl ⊢; omega)
    refine ⟨?_, ((Kp.refl (· = g) w).setCell ⟨g, o, none⟩ v (fun _ => rfl)).trans h3 (fun i _ e => e)⟩
    simp only [World.setCells]
    rw [h2, Array.toList_setIfInBounds, splice_set _ _ _ _ (by simp at hl ⊢; omega)]
section
variable {ops : Array Oper} {rest : List Oper} {op : Oper} {a : Act} {w : World} {Q : Exit → Act → World → Prop}
/-- A sector is stored over another. -/
theorem st37_at (hgd : op.guard = none) (x y : Operand) (ho : op.op = .store 27 x y) (g : Nat) (l0 : List UInt8) (hx : a.eval x = .pointer (some ⟨g, 0, none⟩)) (hg : SecAt w g l0) (l : List UInt8) (hy : a.eval y = secV l) (hl : l.length = 128)
    (h : ∀ w', SecAt w' g l → Kp (· = g) w w' → wpList Try.prog ops Q rest (a.put op.dst undef) w') : wpList Try.prog ops Q (op :: rest) a w := by
  have hc := setCells_heap g 27 (bv l) (bv l0).toArray 0 w hg.1 (by simp [bv_length, hl, hg.2])
  refine wpList_store_mid hgd _ x y ho _ 0 (bv l).toArray hx hy ?_ (Try.size37.trans (by simp [bv_length, hl])) (all_oneCell_toArray (bv_one l)) ?_
  · intro j hj
    have hj' : j < 128 := by simpa [bv_length, hl] using hj
    rw [Nat.zero_add]
    exact ⟨by rw [hg.cell j hj']; rfl, frozen_of_row _ _ _ _ _ hg.1⟩
  · refine h _ ⟨?_, hl⟩ ?_
    · have h2 := hc.1
      have e2 : splice (bv l0).toArray.toList 0 (bv l) = bv l := by
        simp only [splice, List.take_zero, List.nil_append, Nat.zero_add]
        rw [List.drop_eq_nil_of_le (by simp [bv_length, hl, hg.2]), List.append_nil]
      rw [e2] at h2
      simpa using h2
    · simpa using hc.2
end
end Go.Proofs.Ytmpeidgmicammaa
