/- Sectors in memory, beside disks. -/
import Derived.Test.YtgakajofggmbjaaMg4
import Derived.Laws.CopyOwn
import Derived.Test.YtgakajofggmbjaaMg1
import Derived.Test.YtgakajofggmbjaaMg3
import Derived.Test.YtgakajofggmbjaaProg
import Derived.Test.YtgakajofggmbjaaMg2
import Derived.Laws.Slices
import Derived.RangeFuncNested
import Derived.RangeFuncBound
import Derived.RangeFuncCalls
import Derived.RangeFuncLeaves
import Derived.Shelf.Abstract
import Derived.Shelf.RegionOpen
import Derived.WalkKit
import Derived.OwnWalkIn
import Derived.TacticsInMore
import Derived.LoopNIn
import Derived.LoopIn
namespace Go.Proofs.Ytgakajofggmbjaa
open Go.RowKit

/-- A block that holds a sector. -/
def SecAt (w : World) (g : Nat) (l : List UInt8) : Prop := w.heap[g]? = some (.cells (bv l).toArray 55 (0, 0)) ∧ l.length = 128
theorem SecAt.kp {w w' : World} {g : Nat} {l : List UInt8} {S : Nat → Prop} (h : SecAt w g l) (hk : Kp S w w') (hg : ¬ S g) : SecAt w' g l := ⟨(hk.block g (lt_of_heap h.1) hg).trans h.1, h.2⟩
theorem SecAt.below {w w' : World} {g : Nat} {l : List UInt8} (h : SecAt w g l) (hb : Below w.heap.size w w') : SecAt w' g l := ⟨(hb.block g (lt_of_heap h.1)).trans h.1, h.2⟩
theorem SecAt.new (w : World) (l : List UInt8) (hl : l.length = 128) : SecAt (w.alloc (.cells (bv l).toArray 55)) w.heap.size l := ⟨heap_alloc_new w _, hl⟩
theorem SecAt.cell {w : World} {g : Nat} {l : List UInt8} (h : SecAt w g l) (j : Nat) (hj : j < 128) : w.cell? ⟨g, j, none⟩ = some (.int .u8 ((at8 l j).toNat : Int)) := by
  rw [cell_of_row w g j _ _ _ h.1, List.getElem?_toArray]
  exact bv_get l j (by rw [h.2]; exact hj)
theorem SecAt.range {w : World} {g : Nat} {l : List UInt8} (h : SecAt w g l) : w.rangeAt g 0 (bv l) := by
  intro j v hj
  have hlt : j < l.length := by have := (List.getElem?_eq_some_iff.1 hj).1; rwa [bv_length] at this
  rw [bv_get l j hlt] at hj
  rw [Nat.zero_add, h.cell j (by rw [← h.2]; exact hlt)]
  exact hj
/-- A part of a sector is read. -/
theorem SecAt.rb {w : World} {g : Nat} {l : List UInt8} (h : SecAt w g l) (o n c : Nat) (ho : o + n ≤ 128) (hc : n ≤ c) (hc2 : c ≤ 9223372036854775807) : RB w (some ⟨g, o, none⟩) n c ((l.drop o).take n) := by
  refine ⟨by simp [h.2]; omega, hc, hc2, fun _ => ⟨g, o, rfl, fun k hk => ?_⟩⟩
  rw [h.cell (o + k) (by omega)]
  simp [at8, List.getD_eq_getElem?_getD, hk]
theorem bv_splice (l : List UInt8) (o : Nat) (xs : List UInt8) : splice (bv l) o (bv xs) = bv (splice l o xs) := by simp [splice, bv]
theorem splice_at {α : Type} (a b b' c : List α) (h : b'.length = b.length) : splice (a ++ (b ++ c)) a.length b' = a ++ (b' ++ c) := by
  unfold splice
  rw [List.take_left, ← List.drop_drop, List.drop_left, h, List.drop_left]
theorem setCells_heap (g : Nat) (T : TypeId) : ∀ (cs : List Value) (c : Array Value) (o : Nat) (w : World), w.heap[g]? = some (.cells c T) → o + cs.length ≤ c.size →
    (w.setCells g o cs).heap[g]? = some (.cells (splice c.toList o cs).toArray T) ∧ Kp (· = g) w (w.setCells g o cs)
  | [], c, o, w, h, _ => ⟨by simpa [World.setCells, splice] using h, Kp.refl _ _⟩
  | v :: r, c, o, w, h, hl => by
    have h1 := heap_setCell_same w g o c T v h
    obtain ⟨h2, h3⟩ := setCells_heap g T r (c.setIfInBounds o v) (o + 1) (w.setCell ⟨g, o, none⟩ v) h1 (by simp at hl ⊢; omega)
    refine ⟨?_, ((Kp.refl (· = g) w).setCell ⟨g, o, none⟩ v (fun _ => rfl)).trans h3 (fun i _ e => e)⟩
    simp only [World.setCells]
    rw [h2, Array.toList_setIfInBounds, splice_set _ _ _ _ (by simp at hl ⊢; omega)]
section
variable {ops : Array Oper} {rest : List Oper} {op : Oper} {a : Act} {w : World} {Q : Exit → Act → World → Prop}
/-- A sector is stored over another. -/
theorem st37_at (hgd : op.guard = none) (x y : Operand) (ho : op.op = .store 55 x y) (g : Nat) (l0 : List UInt8) (hx : a.eval x = .pointer (some ⟨g, 0, none⟩)) (hg : SecAt w g l0) (l : List UInt8) (hy : a.eval y = secV l) (hl : l.length = 128)
    (h : ∀ w', SecAt w' g l → Kp (· = g) w w' → wpList Try.prog ops Q rest (a.put op.dst undef) w') : wpList Try.prog ops Q (op :: rest) a w := by
  have hc := setCells_heap g 55 (bv l) (bv l0).toArray 0 w hg.1 (by simp [bv_length, hl, hg.2])
  refine wpList_store_mid hgd _ x y ho _ 0 (bv l).toArray hx hy ?_ (Try.size37.trans (by simp [bv_length, hl])) (all_oneCell_toArray (bv_one l)) ?_
  · intro j hj
    have hj' : j < 128 := by simpa [bv_length, hl] using hj
    rw [Nat.zero_add]
    exact ⟨by rw [hg.cell j hj']; rfl, frozen_of_row _ _ _ _ _ hg.1⟩
  · refine h _ ⟨?_, hl⟩ ?_
    · have h2 := hc.1
      have e2 : splice (bv l0).toArray.toList 0 (bv l) = bv l := by
        simp only [splice, List.take_zero, List.nil_append, Nat.zero_add]
        rw [List.drop_eq_nil_of_le (by simp [bv_length, hl, hg.2]), List.append_nil]
      rw [e2] at h2
      simpa using h2
    · simpa using hc.2
end
end Go.Proofs.Ytgakajofggmbjaa

/- Plain arithmetic of the sum of bytes (CRC): steps, bytes, lists; the model's whole-number operators as bit vectors. -/
namespace Go.Proofs.Ytgakajofggmbjaa
open Go.RowKit

/-! ### The model's operators on 32 bits -/
theorem bits_u32 (op : BinOp) (f : BitVec 32 → BitVec 32 → BitVec 32) (x y : BitVec 32)
    (h : bits op .u32 (x.toNat : Int) (y.toNat : Int) = IntKind.u32.wrap ((f (BitVec.ofInt 32 (x.toNat : Int)) (BitVec.ofInt 32 (y.toNat : Int))).toNat : Int)) :
    bits op .u32 (x.toNat : Int) (y.toNat : Int) = ((f x y).toNat : Int) := by
  have hx : BitVec.ofInt 32 (x.toNat : Int) = x := by
    rw [BitVec.ofInt_natCast]; simp
  have hy : BitVec.ofInt 32 (y.toNat : Int) = y := by
    rw [BitVec.ofInt_natCast]; simp
  rw [h, hx, hy, IntKind.wrap_u32]
  have := (f x y).isLt
  omega
theorem xor_u32 (x y : BitVec 32) : bits .xor .u32 (x.toNat : Int) (y.toNat : Int) = ((x ^^^ y).toNat : Int) := bits_u32 .xor (· ^^^ ·) x y rfl
theorem and_u32 (x y : BitVec 32) : bits .and .u32 (x.toNat : Int) (y.toNat : Int) = ((x &&& y).toNat : Int) := bits_u32 .and (· &&& ·) x y rfl

theorem xor_u8 (x y : UInt8) : bits .xor .u8 (x.toNat : Int) (y.toNat : Int) = ((x ^^^ y).toNat : Int) := by
  have hx : BitVec.ofInt 8 (x.toNat : Int) = x.toBitVec := by
    rw [BitVec.ofInt_natCast]; simp
  have hy : BitVec.ofInt 8 (y.toNat : Int) = y.toBitVec := by
    rw [BitVec.ofInt_natCast]; simp
  have h : bits .xor .u8 (x.toNat : Int) (y.toNat : Int) = IntKind.u8.wrap ((BitVec.ofInt 8 (x.toNat : Int) ^^^ BitVec.ofInt 8 (y.toNat : Int)).toNat : Int) := rfl
  rw [h, hx, hy, IntKind.wrap_u8]
  have h2 : (x ^^^ y).toNat = (x.toBitVec ^^^ y.toBitVec).toNat := rfl
  rw [h2]
  have := (x.toBitVec ^^^ y.toBitVec).isLt
  omega
theorem neg_u32 (x : BitVec 32) : (-(x.toNat : Int)) % 4294967296 = ((-x).toNat : Int) := by
  rw [BitVec.toNat_neg]
  have := x.isLt
  omega
theorem half_u32 (x : BitVec 32) : (x.toNat : Int) / (2 : Int) = ((x >>> 1).toNat : Int) := by
  rw [BitVec.toNat_ushiftRight, Nat.shiftRight_eq_div_pow]; omega

def poly : BitVec 32 := 0xEDB88320#32
/-- One bit further. -/
def crcStep (s : BitVec 32) : BitVec 32 := (s >>> 1) ^^^ (poly &&& -(s &&& 1#32))
def iter (f : BitVec 32 → BitVec 32) : Nat → BitVec 32 → BitVec 32
  | 0, s => s
  | n + 1, s => f (iter f n s)
/-- One byte further. -/
def crcByte (s : BitVec 32) (x : UInt8) : BitVec 32 := iter crcStep 8 (s ^^^ x.toBitVec.setWidth 32)
def crcFold (s : BitVec 32) (xs : List UInt8) : BitVec 32 := xs.foldl crcByte s
/-- The sum behind more bytes. -/
def crcAdd (s : BitVec 32) (xs : List UInt8) : BitVec 32 := ~~~ crcFold (~~~ s) xs

theorem crcStep_int (s : BitVec 32) :
    bits .xor .u32 ((s.toNat : Int) / 2) (bits .and .u32 3988292384 (-bits .and .u32 (s.toNat : Int) 1 % 4294967296)) = ((crcStep s).toNat : Int) := by
  have h1 : (1 : Int) = ((1#32).toNat : Int) := rfl
  have h2 : (3988292384 : Int) = (poly.toNat : Int) := rfl
  rw [h2]
  conv in (bits BinOp.and IntKind.u32 (s.toNat : Int) 1) => rw [h1]
  rw [and_u32, neg_u32, and_u32, half_u32, xor_u32]
  rfl
theorem crcByte_int (s : BitVec 32) (x : UInt8) : bits .xor .u32 (s.toNat : Int) ((x.toNat : Int) % 4294967296) = ((s ^^^ x.toBitVec.setWidth 32).toNat : Int) := by
  have h1 : (x.toNat : Int) % 4294967296 = ((x.toBitVec.setWidth 32).toNat : Int) := by
    have := x.toNat_lt
    rw [BitVec.toNat_setWidth]
    show (x.toBitVec.toNat : Int) % 4294967296 = _
    have : x.toBitVec.toNat < 256 := x.toNat_lt
    omega
  rw [h1, xor_u32]
theorem not_int (s : BitVec 32) : bits .xor .u32 IntKind.u32.max (s.toNat : Int) = ((~~~ s).toNat : Int) := by
  have h : IntKind.u32.max = ((BitVec.allOnes 32).toNat : Int) := rfl
  rw [h, xor_u32]
  rw [BitVec.allOnes_xor]
theorem crcFold_snoc (s : BitVec 32) (xs : List UInt8) (x : UInt8) : crcFold s (xs ++ [x]) = crcByte (crcFold s xs) x := by simp [crcFold]
theorem take_snoc (xs : List UInt8) (k : Nat) (h : k < xs.length) : xs.take (k + 1) = xs.take k ++ [at8 xs k] := by
  rw [List.take_succ_eq_append_getElem h, at8, List.getD_eq_getElem?_getD, List.getElem?_eq_getElem h]; rfl
theorem crcFold_take (s : BitVec 32) (xs : List UInt8) (k : Nat) (h : k < xs.length) :
    crcFold s (xs.take (k + 1)) = iter crcStep 8 (crcFold s (xs.take k) ^^^ (at8 xs k).toBitVec.setWidth 32) := by
  rw [take_snoc xs k h, crcFold_snoc]; rfl
def crcSums (xss : List (List UInt8)) : BitVec 32 := xss.foldl crcAdd 0#32
theorem crcSums_take (xss : List (List UInt8)) (k : Nat) (h : k < xss.length) : crcSums (xss.take (k + 1)) = crcAdd (crcSums (xss.take k)) (atL xss k) := by
  rw [List.take_succ_eq_append_getElem h, crcSums, List.foldl_append, atL, List.getD_eq_getElem?_getD, List.getElem?_eq_getElem h]; rfl

/-! ### The document's step -/
theorem neg_and_one (s : BitVec 32) : -(s &&& 1#32) = if s.toNat % 2 = 1 then BitVec.allOnes 32 else 0#32 := by
  have h : s &&& 1#32 = if s.toNat % 2 = 1 then 1#32 else 0#32 := by
    apply BitVec.eq_of_toNat_eq
    rw [BitVec.toNat_and]
    have h1 : (1#32).toNat = 1 := rfl
    rw [h1, Nat.and_one_is_mod]
    split
    · rename_i h; rw [h]; rfl
    · rename_i h; have : s.toNat % 2 = 0 := by omega
      rw [this]; rfl
  rw [h]
  split <;> rfl
theorem crcStep_ref (s : BitVec 32) : crcStep s = if s.toNat % 2 = 1 then (s >>> 1) ^^^ poly else s >>> 1 := by
  unfold crcStep
  rw [neg_and_one]
  split
  · rw [BitVec.and_allOnes]
  · rw [BitVec.and_zero, BitVec.xor_zero]
theorem crcStep_odd (s : BitVec 32) (h : (s.toNat : Int) % 2 = 1) : bits .xor .u32 ((s.toNat : Int) / (2 : Int)) 3988292384 = ((crcStep s).toNat : Int) := by
  have h2 : (3988292384 : Int) = (poly.toNat : Int) := rfl
  rw [h2, half_u32, xor_u32, crcStep_ref, if_pos (by omega)]
theorem crcStep_even (s : BitVec 32) (h : ¬ (s.toNat : Int) % 2 = 1) : (s.toNat : Int) / (2 : Int) = ((crcStep s).toNat : Int) := by
  rw [half_u32, crcStep_ref, if_neg (by omega)]
theorem not_sub (s : BitVec 32) : 4294967295 - (s.toNat : Int) = ((~~~ s).toNat : Int) := by
  rw [BitVec.toNat_not]
  have := s.isLt
  omega
end Go.Proofs.Ytgakajofggmbjaa

/- What a seal is; no program in sight. -/
namespace Go.Proofs.Ytgakajofggmbjaa
open Go.RowKit

/-- What the sum is of. -/
def preL (mark : Nat) (body : List UInt8) : List UInt8 := be mark 8 ++ (be body.length 2 ++ (body ++ List.replicate (106 - body.length) 0))
def sumL (mark : Nat) (body : List UInt8) : Nat := (crcAdd 0#32 (preL mark body)).toNat
def sealL (mark : Nat) (body : List UInt8) : List UInt8 := preL mark body ++ (be (sumL mark body) 4 ++ be mark 8)
def makeM (mark : Nat) (body : List UInt8) : Option (List UInt8) := if mark = 0 ∨ 106 < body.length then none else some (sealL mark body)
theorem preL_length {mark : Nat} {body : List UInt8} (h : body.length ≤ 106) : (preL mark body).length = 116 := by
  simp [preL, be_length]
  omega
theorem sealL_length {mark : Nat} {body : List UInt8} (h : body.length ≤ 106) : (sealL mark body).length = 128 := by
  simp [sealL, be_length, preL_length h]
theorem sumL_lt (mark : Nat) (body : List UInt8) : sumL mark body < 4294967296 := (crcAdd 0#32 (preL mark body)).isLt
theorem zsec_parts (k : Nat) (h : k ≤ 106) : zsec = List.replicate 8 0 ++ (List.replicate 2 0 ++ (List.replicate k 0 ++ (List.replicate (106 - k) 0 ++ (List.replicate 4 0 ++ List.replicate 8 0)))) := by
  unfold zsec
  simp only [List.replicate_append_replicate]
  congr 1
  omega
/-- The sector, when the head and the body are put. -/
theorem put_pre (mark : Nat) (body : List UInt8) (h : body.length ≤ 106) :
    splice (splice (splice zsec 0 (be mark 8)) 8 (be body.length 2)) 10 body = preL mark body ++ (List.replicate 4 0 ++ List.replicate 8 0) := by
  rw [zsec_parts body.length h]
  have e1 := splice_at ([] : List UInt8) (List.replicate 8 0) (be mark 8) (List.replicate 2 0 ++ (List.replicate body.length 0 ++ (List.replicate (106 - body.length) 0 ++ (List.replicate 4 0 ++ List.replicate 8 0)))) (by simp [be_length])
  simp only [List.nil_append, List.length_nil] at e1
  rw [e1]
  have e2 := splice_at (be mark 8) (List.replicate 2 0) (be body.length 2) (List.replicate body.length 0 ++ (List.replicate (106 - body.length) 0 ++ (List.replicate 4 0 ++ List.replicate 8 0))) (by simp [be_length])
  rw [be_length] at e2
  rw [e2]
  have e3 := splice_at (be mark 8 ++ be body.length 2) (List.replicate body.length 0) body (List.replicate (106 - body.length) 0 ++ (List.replicate 4 0 ++ List.replicate 8 0)) (by simp)
  rw [List.length_append, be_length, be_length, List.append_assoc] at e3
  rw [e3]
  simp [preL]
theorem put_sum (mark : Nat) (body : List UInt8) (h : body.length ≤ 106) :
    splice (splice (preL mark body ++ (List.replicate 4 0 ++ List.replicate 8 0)) 116 (be (sumL mark body) 4)) 120 (be mark 8) = sealL mark body := by
  have e1 := splice_at (preL mark body) (List.replicate 4 0) (be (sumL mark body) 4) (List.replicate 8 0) (by simp [be_length])
  rw [preL_length h] at e1
  rw [e1]
  have e2 := splice_at (preL mark body ++ be (sumL mark body) 4) (List.replicate 8 0) (be mark 8) [] (by simp [be_length])
  rw [List.length_append, preL_length h, be_length, List.append_nil, List.append_nil, List.append_assoc] at e2
  rw [e2]
  simp [sealL]
theorem take_pre (mark : Nat) (body z : List UInt8) (h : body.length ≤ 106) : (preL mark body ++ z).take 116 = preL mark body := by
  rw [← preL_length (mark := mark) h, List.take_left]
theorem sums_one (xs : List UInt8) : crcSums [xs] = crcAdd 0#32 xs := rfl
/-- What a sector opens to. -/
def openM (l : List UInt8) : Option (Nat × List UInt8) :=
  if 106 < numOf ((l.drop 8).take 2) then none
  else if makeM (numOf (l.take 8)) ((l.drop 10).take (numOf ((l.drop 8).take 2))) = some l then some (numOf (l.take 8), (l.drop 10).take (numOf ((l.drop 8).take 2))) else none
end Go.Proofs.Ytgakajofggmbjaa

/- The records on a disk, as data; no program in sight. -/
namespace Go.Proofs.Ytgakajofggmbjaa

theorem unpack24 (b : List UInt8) : unpackM [50, 52] b = if b.length = 6 then some [(numOf (b.take 2), []), (numOf (b.drop 2), [])] else none := by
  have e0 : at8 [50, 52] 0 = 50 := rfl
  have e1 : at8 [50, 52] 1 = 52 := rfl
  have w0 : letterW 50 = some 2 := rfl
  have w1 : letterW 52 = some 4 := rfl
  unfold unpackM
  rw [if_neg (by decide)]
  simp only [List.length_cons, List.length_nil, Nat.zero_add, Nat.reduceAdd, unTo, e0, e1, decF, w0, w1, List.drop_zero]
  by_cases h2 : b.length < 2
  · rw [if_pos h2, if_neg (by omega)]
    rfl
  · rw [if_neg h2]
    simp only [Option.map_some, Nat.zero_add]
    by_cases h6 : (b.drop 2).length < 4
    · rw [if_pos h6, if_neg (by simp at h6; omega)]
      rfl
    · rw [if_neg h6]
      simp only [List.length_drop] at h6
      simp only [Option.map_some, List.nil_append, Nat.reduceAdd]
      by_cases e : b.length = 6
      · rw [if_pos (by omega), if_pos e, show List.take 4 (List.drop 2 b) = List.drop 2 b from List.take_of_length_le (by rw [List.length_drop]; omega)]
        rfl
      · rw [if_neg (by omega), if_neg e]
/-- A field's number. -/
def nmAt (l : List (Nat × List UInt8)) (k : Nat) : Nat := (l.getD k (0, [])).1
/-- The first k of a place's sectors behind the head. -/
def recAll (rd : Nat → List UInt8) (at' : Nat) : Nat → List UInt8
  | 0 => []
  | k + 1 => recAll rd at' k ++ rd (at' + 1 + k)
theorem recAll_length (rd : Nat → List UInt8) (at' : Nat) : ∀ k, (∀ i, i < k → (rd (at' + 1 + i)).length = 128) → (recAll rd at' k).length = 128 * k
  | 0, _ => rfl
  | k + 1, h => by
    rw [recAll, List.length_append, recAll_length rd at' k (fun i hi => h i (by omega)), h k (by omega)]
    omega
/-- The record of a place, if there is one of that mark. -/
def recM (rd : Nat → List UInt8) (at' want : Nat) : Option (List UInt8) :=
  match openM (rd at') with
  | none => none
  | some (m, body) => if m ≠ want then none else
    match unpackM [50, 52] body with
    | none => none
    | some l => if 384 < nmAt l 0 then none
      else if (crcAdd 0#32 ((recAll rd at' 3).take (nmAt l 0))).toNat = nmAt l 1 then some ((recAll rd at' 3).take (nmAt l 0)) else none
/-- The records of a generation from a place on. -/
def scanF (rd : Nat → List UInt8) (first gen : Nat) : Nat → Nat → List (List UInt8)
  | 0, _ => []
  | k + 1, place => match recM rd (first + 4 * place) (gen * 256 + (place + 1)) with
    | none => []
    | some b => b :: scanF rd first gen k (place + 1)
def scanM (rd : Nat → List UInt8) (first gen : Nat) : List (List UInt8) := scanF rd first gen 4 0
theorem recM_len {rd : Nat → List UInt8} {at' want : Nat} {b : List UInt8} (h : recM rd at' want = some b) : b.length ≤ 384 := by
  unfold recM at h
  split at h
  · cases h
  · split at h
    · cases h
    · split at h
      · cases h
      · split at h
        · cases h
        · split at h
          · injection h with h
            rw [← h, List.length_take]
            omega
          · cases h
end Go.Proofs.Ytgakajofggmbjaa

/- What the disk's small methods compute: there, power, Len, Dead, Break, Stable. -/
namespace Go.Proofs.Ytgakajofggmbjaa
open Go.RowKit

theorem ret_bool {a b : Bool} (h : a = b) : Ending.returned (.bool a) = .returned (.bool b) := by rw [h]
theorem ret_i64 {a b : Int} (h : a = b) : Ending.returned (.int .i64 a) = .returned (.int .i64 b) := by rw [h]

section
variable {w : World} {base p s : Nat} {v : Value} {d : Dk}
set_option maxHeartbeats 400000 in
theorem disk_there_no (h : DiskAt w base p s v d) (i : Int) (hi : i < 0 ∨ (d.stable.length : Int) ≤ i) :
    Calls Try.prog 44 #[.pointer (some ⟨p, 0, none⟩), .int .i64 i] w fun e w' => e = .returned (.bool false) ∧ w = w' := by
  have c0 := h.c0
  clear h
  by_cases h0 : i < 0
  · go_enter Try.func44, Try.ntmps44
    go_wp2
    go_ret
    exact ⟨rfl, rfl⟩
  · have h1 : (d.stable.length : Int) ≤ i := by omega
    clear hi
    go_enter Try.func44, Try.ntmps44
    go_wp2
    go_ret
    exact ⟨ret_bool (by simp [h1]), rfl⟩
set_option maxHeartbeats 400000 in
theorem disk_there_yes (h : DiskAt w base p s v d) (k : Nat) (hk : k < d.stable.length) :
    Calls Try.prog 44 #[.pointer (some ⟨p, 0, none⟩), .int .i64 k] w fun e w' => e = .returned (.bool true) ∧ w = w' := by
  have c0 := h.c0
  clear h
  go_enter Try.func44, Try.ntmps44
  go_wp2
  go_ret
  exact ⟨ret_bool (by first | rfl | simp), rfl⟩

/-- Is there power for one more? -/
def Dk.power (d : Dk) : Dk × Bool := if d.dead = true ∨ d.fuel = 0 then ({ d with dead := true }, false) else ({ d with fuel := if 0 < d.fuel then d.fuel - 1 else d.fuel }, true)
set_option maxHeartbeats 400000 in
theorem disk_power (h : DiskAt w base p s v d) :
    Calls Try.prog 47 #[.pointer (some ⟨p, 0, none⟩)] w fun e w' => e = .returned (.bool d.power.2) ∧ DiskAt w' base p s v d.power.1 ∧ Kp (fun k => k = p) w w' := by
  have c2 := h.c2
  have c3 := h.c3
  have f2 := h.fz 2
  have f3 := h.fz 3
  have hf := h.fu
  have hk : ∀ (a : Addr) (u : Value), a.block = p → Kp (fun k => k = p) w (w.setCell a u) := fun a u ha => (Kp.refl _ w).setCell a u (fun _ => ha)
  have H := Lib.hid h
  clear h
  have HK := Lib.hid hk
  clear hk
  unfold Dk.power
  by_cases hd : d.dead = true
  · rw [if_pos (.inl hd)]
    rw [hd] at c3
    have H3 := Lib.hid (H.out.set3 true)
    clear hd
    go_enter Try.func47, Try.ntmps47
    go_wp2
    go_ret
    exact ⟨rfl, H3.out, HK.out _ _ rfl⟩
  · have hd' : d.dead = false := by simpa using hd
    rw [hd'] at c3
    by_cases h0 : d.fuel = 0
    · rw [if_pos (.inr h0)]
      rw [h0] at c2
      have H3 := Lib.hid (H.out.set3 true)
      clear hd hd' h0 hf
      go_enter Try.func47, Try.ntmps47
      go_wp2
      go_ret
      exact ⟨rfl, H3.out, HK.out _ _ rfl⟩
    · rw [if_neg (by rintro (h | h); exact hd h; exact h0 h)]
      have hne : (d.fuel == 0) = false := beq_eq_false_iff_ne.2 h0
      by_cases h1 : 0 < d.fuel
      · rw [if_pos h1]
        have H2 := Lib.hid (H.out.set2 (d.fuel - 1) ⟨by omega, by omega⟩)
        clear hd hd' h0
        go_enter Try.func47, Try.ntmps47
        go_wp2
        go_ret
        exact ⟨rfl, H2.out, HK.out _ _ rfl⟩
      · rw [if_neg h1]
        clear hd hd' h0
        go_enter Try.func47, Try.ntmps47
        go_wp2
        go_ret
        exact ⟨rfl, H.out, Kp.refl _ _⟩
theorem disk_Break (h : DiskAt w base p s v d) (n : Int) (hn : n ≤ 9223372036854775807) :
    Calls Try.prog 15 #[.pointer (some ⟨p, 0, none⟩), .int .i64 n] w fun e w' => e = .returned (.tuple #[]) ∧ DiskAt w' base p s v { d with fuel := max n (-1) } ∧ Kp (fun k => k = p) w w' := by
  have c2 := h.c2
  have f2 := h.fz 2
  have HK : Hid (∀ (a : Addr) (u : Value), a.block = p → Kp (fun k => k = p) w (w.setCell a u)) := Lib.hid fun a u ha => (Kp.refl _ w).setCell a u (fun _ => ha)
  by_cases hlt : -1 < n
  · have H2 := Lib.hid (h.set2 n ⟨by omega, by omega⟩)
    have e1 : max n (-1) = n := by omega
    rw [e1]
    clear h e1
    go_enter Try.func15, Try.ntmps15
    go_wp2
    go_end0
    exact ⟨rfl, H2.out, HK.out _ _ rfl⟩
  · have H2 := Lib.hid (h.set2 (-1) ⟨by omega, by omega⟩)
    have e1 : max n (-1) = -1 := by omega
    rw [e1]
    clear h e1
    go_enter Try.func15, Try.ntmps15
    go_wp2
    · go_end0
      exact ⟨rfl, H2.out, HK.out _ _ rfl⟩
    · obtain rfl : n = -1 := by omega
      go_end0
      exact ⟨rfl, H2.out, HK.out _ _ rfl⟩
end
end Go.Proofs.Ytgakajofggmbjaa

/- Structs of a few cells: loads and stores as laws for the walk; no program in sight. -/
namespace Go.Proofs.Ytgakajofggmbjaa
open Go.RowKit

/-- A block that holds just the cells cs. -/
def RowAt (w : World) (g : Nat) (t : TypeId) (cs : List Value) : Prop := w.heap[g]? = some (.cells cs.toArray t (0, 0))
theorem RowAt.kp {w w' : World} {g : Nat} {t : TypeId} {cs : List Value} {S : Nat → Prop} (h : RowAt w g t cs) (hk : Kp S w w') (hg : ¬ S g) : RowAt w' g t cs := (hk.block g (lt_of_heap h) hg).trans h
theorem RowAt.below {w w' : World} {g : Nat} {t : TypeId} {cs : List Value} (h : RowAt w g t cs) (hb : Below w.heap.size w w') : RowAt w' g t cs := (hb.block g (lt_of_heap h)).trans h
theorem RowAt.new (w : World) (t : TypeId) (cs : List Value) : RowAt (w.alloc (.cells cs.toArray t)) w.heap.size t cs := heap_alloc_new w _
theorem RowAt.cell {w : World} {g : Nat} {t : TypeId} {cs : List Value} (h : RowAt w g t cs) (j : Nat) (u : Value) (hj : cs[j]? = some u) : w.cell? ⟨g, j, none⟩ = some u := by
  rw [cell_of_row w g j _ _ _ h, List.getElem?_toArray]
  exact hj
theorem RowAt.range {w : World} {g : Nat} {t : TypeId} {cs : List Value} (h : RowAt w g t cs) : w.rangeAt g 0 cs := by
  intro j v hj
  rw [Nat.zero_add]
  exact h.cell j v hj
section
variable {P : Program} {ops : Array Oper} {rest : List Oper} {op : Oper} {a : Act} {w : World} {Q : Exit → Act → World → Prop}
theorem ldN (t : TypeId) (cs : List Value) (hgd : op.guard = none) (x : Operand) (ho : op.op = .load t x) (b o : Nat) (hx : a.eval x = .pointer (some ⟨b, o, none⟩)) (hc : w.rangeAt b o cs) {d : TypeDesc} (hu : P.underlying t = some d) (hd : d.isRow = true) (hi : (P.info? t).map (·.size) = some cs.length)
    (h : wpList P ops Q rest (a.put op.dst (.agg cs.toArray)) w) : wpList P ops Q (op :: rest) a w :=
  wpList_load_mid hgd _ x ho b o hx cs _ hc hu hd hi h
/-- A struct is stored into a new variable of its own. -/
theorem stN (t : TypeId) (cs : List Value) (hgd : op.guard = none) (x y : Operand) (ho : op.op = .store t x y) (c : Array Value) (b : Nat) (hx : a.eval x = .pointer (some ⟨b, 0, none⟩)) (hb : b = w.heap.size) (hy : a.eval y = .agg cs.toArray) (h1 : ∀ u ∈ cs, u.oneCell' = true) (hi : (P.info? t).map (·.size) = some cs.length) (hs : c.size = cs.length)
    (h : wpList P ops Q rest (a.put op.dst undef) (w.alloc (.cells cs.toArray t))) : wpList P ops Q (op :: rest) a (w.alloc (.cells c t)) := by
  subst hb
  refine wpList_store_mid hgd _ x y ho _ 0 cs.toArray hx hy ?_ (hi.trans (by simp)) (all_oneCell_toArray h1) ?_
  · have := there_alloc w c t
    simpa [hs] using this
  · rcases setCells_alloc w t (0, 0) cs c 0 with e | e
    · have e2 : splice c.toList 0 cs = cs := by
        simp only [splice, List.take_zero, List.nil_append, Nat.zero_add]
        rw [List.drop_eq_nil_of_le (by simp [hs]), List.append_nil]
      rw [e2] at e
      simpa only [List.toList_toArray, e] using h
    · simp [hs] at e
/-- A struct is stored over another. -/
theorem stN_at (t : TypeId) (cs cs0 : List Value) (hgd : op.guard = none) (x y : Operand) (ho : op.op = .store t x y) (g : Nat) (hx : a.eval x = .pointer (some ⟨g, 0, none⟩)) (hg : RowAt w g t cs0) (hy : a.eval y = .agg cs.toArray) (h1 : ∀ u ∈ cs, u.oneCell' = true) (hi : (P.info? t).map (·.size) = some cs.length) (hs : cs0.length = cs.length)
    (h : ∀ w', RowAt w' g t cs → Kp (· = g) w w' → wpList P ops Q rest (a.put op.dst undef) w') : wpList P ops Q (op :: rest) a w := by
  have hc := setCells_heap g t cs cs0.toArray 0 w hg (by simp [hs])
  refine wpList_store_mid hgd _ x y ho _ 0 cs.toArray hx hy ?_ (hi.trans (by simp)) (all_oneCell_toArray h1) ?_
  · intro j hj
    have hj' : j < cs0.length := by simpa [hs] using hj
    rw [Nat.zero_add]
    exact ⟨by rw [hg.cell j cs0[j] (List.getElem?_eq_getElem hj')]; rfl, frozen_of_row _ _ _ _ _ hg⟩
  · refine h _ ?_ ?_
    · have h2 := hc.1
      have e2 : splice cs0.toArray.toList 0 cs = cs := by
        simp only [splice, List.take_zero, List.nil_append, Nat.zero_add]
        rw [List.drop_eq_nil_of_le (by simp [hs]), List.append_nil]
      rw [e2] at h2
      simpa [RowAt] using h2
    · simpa using hc.2
end
end Go.Proofs.Ytgakajofggmbjaa

/- x[lo:hi] of a slice of bytes, as a step of a walk: where it begins is left as it is called. -/
namespace Go.Proofs.Ytgakajofggmbjaa
open Go.RowKit

section
variable {ops : Array Oper} {rest : List Oper} {o : Oper} {a : Act} {w : World} {Q : Exit → Act → World → Prop}
set_option maxRecDepth 20000 in
theorem run_cut (A : Option Addr) (n c l k : Nat) (hc : l + k ≤ c) (w : World) :
    (Instr.sliceAt 37 (.slice A n c) (some (.int .i64 (l : Int))) (some (.int .i64 ((l : Int) + (k : Int)))) none).run Try.prog w = .ok (.slice (cutA A c l) k (c - l)) w := by
  have ht : Try.prog.underlying 37 = some (.slice (Try.prog.elem 37)) := by kernel_rfl
  have he : Try.prog.elem 37 = 5 := by kernel_rfl
  obtain ⟨i0, hi0, hz0, hz1, hz2⟩ := info_parts Try.infoU8'
  rw [run_sliceAt_slice w _ _ _ _ _ ht, run_slice_lh w _ _ _ _ ht .i64 .i64 l ((l : Int) + (k : Int)) (by omega) (by omega) (by omega), he]
  have e2 : ((l : Int) + (k : Int)).toNat = l + k := by omega
  simp [sizeOf, typeInfo, hi0, hz1, e2, sliced, cutA, Result.andThen, Nat.mul_one]
theorem wpList_cut (hgd : o.guard = none) (x lo hi : Operand) (ho : o.op = .slice 37 x (some lo) (some hi) none) (A : Option Addr) (n c l k : Nat) (hx : a.eval x = .slice A n c) (hlo : a.eval lo = .int .i64 (l : Int)) (H : Int) (hhi : a.eval hi = .int .i64 H) (hH : H = (l : Int) + (k : Int)) (hc : l + k ≤ c)
    (h : wpList Try.prog ops Q rest (a.put o.dst (.slice (cutA A c l) k (c - l))) w) : wpList Try.prog ops Q (o :: rest) a w := by
  subst hH
  refine wpList_plain hgd fun K hK => ?_
  unfold Oper.wp execOp
  simp only [ho, Option.map_some, Option.map_none, hx, hlo, hhi]
  simp only [Sem.run_bind, run_cut A n c l k hc w, Result.andThen_ok, Sem.run_pure]
  exact hK _ _ h
end
end Go.Proofs.Ytgakajofggmbjaa

/- slices.Chunk over bytes, a hundred and twenty-eight at a time, the last piece shorter: its contract as an iterator. -/
namespace Go.Proofs.Ytgakajofggmbjaa
open Go.RowKit Go.Shelf
attribute [local go_sem] Oper.semAt_some

/-- The k-th piece of at most 128 bytes of n that begin at place o of block b. -/
def pieceJ (b o n : Nat) (k : Nat) : Value := .slice (some ⟨b, o + 128 * k, none⟩) (min 128 (n - 128 * k)) (min 128 (n - 128 * k))
/-- The two boxes lie as they lay. -/
structure KC (Bs Bm : Nat) (W W' : World) : Prop where
  s : W'.heap[Bs]? = W.heap[Bs]?
  m : W'.heap[Bm]? = W.heap[Bm]?
theorem KC.refl (Bs Bm : Nat) (W : World) : KC Bs Bm W W := ⟨rfl, rfl⟩
theorem KC.trans {Bs Bm : Nat} {A B C : World} (h : KC Bs Bm A B) (k : KC Bs Bm B C) : KC Bs Bm A C := ⟨k.s.trans h.s, k.m.trans h.m⟩
theorem KC.put {Bs Bm : Nat} {w : World} (h1 : Bs < w.heap.size) (h2 : Bm < w.heap.size) (W : World) (l : Nat) (o o' : Obj) (hl : w.heap.size ≤ l) (_ : W.heap[l]? = some o) (_ : o.isCells = false) (_ : o.isWalk = false) : KC Bs Bm W (W.putObj l o') :=
  ⟨World.putObj_heap_other (by omega), World.putObj_heap_other (by omega)⟩
theorem KC.of_below {Bs Bm n : Nat} {W W' : World} (h : Below n W W') (h1 : Bs < n) (h2 : Bm < n) : KC Bs Bm W W' := ⟨h.block _ h1, h.block _ h2⟩
set_option maxRecDepth 100000 in
set_option maxHeartbeats 2000000 in
theorem chunk1_in (F : Fence) (n : Nat) (h7 : F.fn 46) (hro : F.round = none) (hn : 1 ≤ n) (hF : F = Fence.wide) (l Bs Bm b off N q cap : Nat) (hq : N ≤ 128 * q ∧ 128 * q < N + 128) (hcap : N ≤ cap) (hcap2 : cap ≤ 9223372036854775807) (hN : N ≤ 140737488355328) (J Jx : List Nat → World → Prop)
    (hJd : ∀ pre W m, J pre W → J pre (W.drewN m))
    (hY : ∀ pre x W, x < q → J pre W → pre.length < q → YieldAt F (n - 1) Try.prog l #[pieceJ b off N x] W fun e W' =>
      (e = .returned (.bool true) ∧ J (pre ++ [x]) W' ∧ KC Bs Bm W W') ∨ (e = .returned (.bool false) ∧ Jx (pre ++ [x]) W'))
    (W : World) (hBs : W.cell? ⟨Bs, 0, none⟩ = some (.slice (some ⟨b, off, none⟩) N cap)) (hBm : W.cell? ⟨Bm, 0, none⟩ = some (.int .i64 128)) (h0 : J [] W) :
    CallsIn F n Try.prog 46 #[.func (.yield l) #[] #[], .pointer (some ⟨Bs, 0, none⟩), .pointer (some ⟨Bm, 0, none⟩)] W fun e W' => (∃ v, e = .returned v) ∧
      (J (List.range q) W' ∨ (∃ k, k ≤ q ∧ Jx (List.range k) W')) := by
  refine callsIn_of_wp Try.func46 rfl h7 ?_ hro
  simp only [Try.ntmps46, List.size_toArray, List.length_cons, List.length_nil, Nat.reduceAdd, Nat.reduceSub, Array.replicate_succ, Array.replicate_zero, List.push_toArray, List.append_toArray, List.nil_append, List.cons_append]
  gi_wp2
  gi_loopw [4] (fun i wr => ∃ k : Nat, k ≤ q ∧ i = .int .i64 (128 * k : Nat) ∧ J (List.range k) wr ∧ KC Bs Bm W wr)
    (fun i _ => 128 * q - (intOf i).toNat)
  case atStart => exact ⟨0, Nat.zero_le _, rfl, h0, KC.refl _ _ _⟩
  case round =>
    obtain ⟨k, hk, rfl, hJs, hnx⟩ := hrel
    have hbs : wr.cell? ⟨Bs, 0, none⟩ = some (.slice (some ⟨b, off, none⟩) N cap) := (World.cell?_of_block hnx.s).trans hBs
    have hbm : wr.cell? ⟨Bm, 0, none⟩ = some (.int .i64 128) := (World.cell?_of_block hnx.m).trans hBm
    by_cases hlt : k < q
    · have hk1 : ((128 * k : Nat) : Int) < (N : Int) := by omega
      have hk0 : (0 : Int) ≤ ((128 * k : Nat) : Int) := Int.natCast_nonneg _
      gi_wp2
      subst hF
      have hkc : ¬ (128 * k = cap) := by omega
      have hki : ((128 * k : Nat) : Int) ≤ (N : Int) := by omega
      have hkd : ((128 * k : Nat) : Int) ≤ (cap : Int) := by omega
      refine wpIn_wide.2 ?_
      by_cases hfull : 128 ≤ N - 128 * k
      · have hmin : ¬ ((N - 128 * k : Nat) : Int) < 128 := by omega
        have hpe : pieceJ b off N k = .slice (some ⟨b, off + 128 * k, none⟩) 128 128 := by unfold pieceJ; rw [Nat.min_eq_left hfull]
        go_quiet (fail)
        obtain ⟨fn, tmps, assign, body, hy, hR⟩ := hY _ k _ hlt (hJd _ _ nq hJs) (by simp; exact hlt)
        rw [hpe] at hy
        have hbs2 : (wr.drewN nq).cell? ⟨Bs, 0, none⟩ = some (.slice (some ⟨b, off, none⟩) N cap) := hbs
        have hbm2 : (wr.drewN nq).cell? ⟨Bm, 0, none⟩ = some (.int .i64 128) := hbm
        have hw9 : IntKind.i64.wrap (((128 * k : Nat) : Int) + 128) = ((128 * k + 128 : Nat) : Int) := by simp [IntKind.wrap, IntKind.signed, IntKind.bits]; omega
        have hk9 : ((128 * k + 128 : Nat) : Int) ≤ (cap : Int) := by omega
        have hk8 : ((128 * k : Nat) : Int) ≤ ((128 * k + 128 : Nat) : Int) := by omega
        have hs9 : 128 * k + 128 - 128 * k = 128 := by omega
        have hnx2 : KC Bs Bm W (wr.drewN nq) := ⟨hnx.s, hnx.m⟩
        clear hpe hmin
        generalize hwn : wr.drewN nq = wn at *
        clear hwn
        gi_wp2
        refine hR.mono ?_
        rintro e W3 (⟨rfl, hJ3, hk3⟩ | ⟨rfl, hJx3⟩)
        · have hbm3 : W3.cell? ⟨Bm, 0, none⟩ = some (.int .i64 128) := (World.cell?_of_block hk3.m).trans hbm2
          gi_wp2
          go_roundw
          case rel => exact ⟨k + 1, by omega, by go_num, by rw [List.range_succ]; exact hJ3, hnx2.trans hk3⟩
          case measure => simp [intOf]; omega
        · gi_wp2
          refine bodyPost_ret (results_none rfl _ _ _) rfl ?_
          exact ⟨⟨_, rfl⟩, .inr ⟨k + 1, by omega, by rw [List.range_succ]; exact hJx3⟩⟩
      · have hmin : ((N - 128 * k : Nat) : Int) < 128 := by omega
        have hpe : pieceJ b off N k = .slice (some ⟨b, off + 128 * k, none⟩) (N - 128 * k) (N - 128 * k) := by unfold pieceJ; rw [Nat.min_eq_right (by omega)]
        go_quiet (fail)
        obtain ⟨fn, tmps, assign, body, hy, hR⟩ := hY _ k _ hlt (hJd _ _ nq hJs) (by simp; exact hlt)
        rw [hpe] at hy
        have hbs2 : (wr.drewN nq).cell? ⟨Bs, 0, none⟩ = some (.slice (some ⟨b, off, none⟩) N cap) := hbs
        have hbm2 : (wr.drewN nq).cell? ⟨Bm, 0, none⟩ = some (.int .i64 128) := hbm
        have hw9 : IntKind.i64.wrap (((128 * k : Nat) : Int) + ((N - 128 * k : Nat) : Int)) = ((N : Nat) : Int) := by simp [IntKind.wrap, IntKind.signed, IntKind.bits]; omega
        have hw8 : IntKind.i64.wrap (((128 * k : Nat) : Int) + 128) = ((128 * k + 128 : Nat) : Int) := by simp [IntKind.wrap, IntKind.signed, IntKind.bits]; omega
        have hk9 : ((N : Nat) : Int) ≤ (cap : Int) := by omega
        have hk8 : ((128 * k : Nat) : Int) ≤ ((N : Nat) : Int) := by omega
        have hnx2 : KC Bs Bm W (wr.drewN nq) := ⟨hnx.s, hnx.m⟩
        clear hpe hmin
        generalize hwn : wr.drewN nq = wn at *
        clear hwn
        gi_wp2
        refine hR.mono ?_
        rintro e W3 (⟨rfl, hJ3, hk3⟩ | ⟨rfl, hJx3⟩)
        · have hbm3 : W3.cell? ⟨Bm, 0, none⟩ = some (.int .i64 128) := (World.cell?_of_block hk3.m).trans hbm2
          gi_wp2
          go_roundw
          case rel => exact ⟨k + 1, by omega, by go_num, by rw [List.range_succ]; exact hJ3, hnx2.trans hk3⟩
          case measure => simp [intOf]; omega
        · gi_wp2
          refine bodyPost_ret (results_none rfl _ _ _) rfl ?_
          exact ⟨⟨_, rfl⟩, .inr ⟨k + 1, by omega, by rw [List.range_succ]; exact hJx3⟩⟩
    · have hk1 : ¬ ((128 * k : Nat) : Int) < (N : Int) := by omega
      obtain rfl : k = q := by omega
      gi_wp2
      go_end0
      exact ⟨⟨_, rfl⟩, .inl hJs⟩
set_option maxRecDepth 100000 in
set_option maxHeartbeats 2000000 in
/-- .. where there is nothing: no round. -/
theorem chunk0_in (F : Fence) (n : Nat) (h7 : F.fn 46) (hro : F.round = none) (l Bs Bm : Nat) (A : Option Addr) (c : Nat) (J : World → Prop) (W : World) (hBs : W.cell? ⟨Bs, 0, none⟩ = some (.slice A 0 c)) (h0 : J W) :
    CallsIn F n Try.prog 46 #[.func (.yield l) #[] #[], .pointer (some ⟨Bs, 0, none⟩), .pointer (some ⟨Bm, 0, none⟩)] W fun e W' => (∃ v, e = .returned v) ∧ J W' := by
  refine callsIn_of_wp Try.func46 rfl h7 ?_ hro
  simp only [Try.ntmps46, List.size_toArray, List.length_cons, List.length_nil, Nat.reduceAdd, Nat.reduceSub, Array.replicate_succ, Array.replicate_zero, List.push_toArray, List.append_toArray, List.nil_append, List.cons_append]
  gi_wp2
  gi_loopw [4] (fun i wr => i = .int .i64 0 ∧ wr = W) (fun _ _ => 0)
  case atStart => exact ⟨rfl, rfl⟩
  case round =>
    obtain ⟨rfl, rfl⟩ := hrel
    gi_wp2
    go_end0
    exact ⟨⟨_, rfl⟩, h0⟩
set_option maxHeartbeats 2000000 in
/-- slices.Chunk: the slice and the size are boxed. -/
theorem chunk_make (A : Option Addr) (n c : Nat) (w : World) :
    Calls Try.prog 26 #[.slice A n c, .int .i64 128] w fun e w' => e = .returned (.func (.func 46) #[] #[.pointer (some ⟨w.heap.size, 0, none⟩), .pointer (some ⟨w.heap.size + 1, 0, none⟩)]) ∧ w' = (w.alloc (.cells #[.slice A n c] 37)).alloc (.cells #[.int .i64 128] 3) := by
  go_enter Try.func26, Try.ntmps26
  go_wp2_with fail
  go_ret
  exact ⟨rfl, rfl⟩
/-- A hundred and twenty-eight bytes at a time: q pieces, in order. -/
theorem chunk_stops (n : Nat) (hn : 1 ≤ n) (Bs Bm b off N q cap : Nat) (hq : N ≤ 128 * q ∧ 128 * q < N + 128) (hcap : N ≤ cap) (hcap2 : cap ≤ 9223372036854775807) (hN : N ≤ 140737488355328) (w : World) (hBs0 : Bs < w.heap.size) (hBm0 : Bm < w.heap.size)
    (hBs : w.cell? ⟨Bs, 0, none⟩ = some (.slice (some ⟨b, off, none⟩) N cap)) (hBm : w.cell? ⟨Bm, 0, none⟩ = some (.int .i64 128)) :
    SeqStopsK Fence.wide n Try.prog 46 #[.pointer (some ⟨Bs, 0, none⟩), .pointer (some ⟨Bm, 0, none⟩)] (fun x : Fin q => #[pieceJ b off N x.1]) (KC Bs Bm) (fun ys => ys.map (·.1) = List.range q) (fun pre => ∃ k, k ≤ q ∧ pre.map (·.1) = List.range k) q w := fun l J Jx W hW hJ _ hY h0 => by
  have hBs' := (hW.cell (p := ⟨Bs, 0, none⟩) hBs0).trans hBs
  have hBm' := (hW.cell (p := ⟨Bm, 0, none⟩) hBm0).trans hBm
  refine (chunk1_in Fence.wide n trivial rfl hn rfl l Bs Bm b off N q cap hq hcap hcap2 hN (fun r W => ∃ ys : List (Fin q), ys.map (·.1) = r ∧ J ys W) (fun r W => ∃ ys : List (Fin q), ys.map (·.1) = r ∧ Jx ys W) ?_ ?_ W hBs' hBm' ⟨[], rfl, h0⟩).mono ?_
  · rintro pre W m ⟨ys, e, h⟩
    exact ⟨ys, e, hJ ys W _ none h ⟨rfl, rfl, rfl, Nat.le_refl _, fun _ _ _ => rfl⟩ (fun r e => by cases e)⟩
  · rintro pre x W hx ⟨ys, rfl, h⟩ hl
    refine (hY ys ⟨x, hx⟩ W h (by simpa using hl)).mono ?_
    rintro e W' (⟨he, hj, hk⟩ | ⟨he, hj⟩)
    · exact .inl ⟨he, ⟨ys ++ [⟨x, hx⟩], by simp, hj⟩, hk⟩
    · exact .inr ⟨he, ys ++ [⟨x, hx⟩], by simp, hj⟩
  · rintro e W' ⟨he, ⟨ys, h1, h2⟩ | ⟨k, hk, ys, h1, h2⟩⟩
    · exact ⟨he, .inl ⟨ys, h1, h2⟩⟩
    · exact ⟨he, .inr ⟨ys, ⟨k, hk, h1⟩, h2⟩⟩
end Go.Proofs.Ytgakajofggmbjaa

/- The journal's small functions: Start, Len, mark, head. -/
namespace Go.Proofs.Ytgakajofggmbjaa
open Go.RowKit

/-- The cells of a journal. -/
def jC (p : Nat) (first : Int) (gen count : Nat) : List Value := [.pointer (some ⟨p, 0, none⟩), .int .i64 first, .int .u64 (gen : Int), .int .i64 (count : Int)]
/-- A journal lies in block j. -/
def JAt (w : World) (j p : Nat) (first : Int) (gen count : Nat) : Prop := RowAt w j 68 (jC p first gen count)
theorem JAt.c0 {w : World} {j p gen count : Nat} {first : Int} (h : JAt w j p first gen count) : w.cell? ⟨j, 0, none⟩ = some (.pointer (some ⟨p, 0, none⟩)) := RowAt.cell h 0 _ rfl
theorem JAt.c1 {w : World} {j p gen count : Nat} {first : Int} (h : JAt w j p first gen count) : w.cell? ⟨j, 1, none⟩ = some (.int .i64 first) := RowAt.cell h 1 _ rfl
theorem JAt.c2 {w : World} {j p gen count : Nat} {first : Int} (h : JAt w j p first gen count) : w.cell? ⟨j, 2, none⟩ = some (.int .u64 (gen : Int)) := RowAt.cell h 2 _ rfl
theorem JAt.c3 {w : World} {j p gen count : Nat} {first : Int} (h : JAt w j p first gen count) : w.cell? ⟨j, 3, none⟩ = some (.int .i64 (count : Int)) := RowAt.cell h 3 _ rfl
theorem JAt.fz {w : World} {j p gen count : Nat} {first : Int} (h : JAt w j p first gen count) (i : Nat) : w.frozen? ⟨j, i, none⟩ = false := frozen_of_row w j i _ _ h
theorem JAt.lt {w : World} {j p gen count : Nat} {first : Int} (h : JAt w j p first gen count) : j < w.heap.size := lt_of_heap h
theorem JAt.not_foot {w : World} {base j p q s gen count : Nat} {first : Int} {v : Value} {d : Dk} (h : JAt w j p first gen count) (hd : DiskAt w base q s v d) : ¬ foot q s v j := by
  rintro (rfl | rfl | h1)
  · exact ne_of_types hd.obj h (by decide) rfl
  · exact ne_of_types hd.sta h (by decide) rfl
  · exact own_ne hd.pen h (by decide) h1
/-- The count is written. -/
theorem JAt.set3 {w : World} {j p gen count : Nat} {first : Int} (h : JAt w j p first gen count) (n : Nat) : JAt (w.setCell ⟨j, 3, none⟩ (.int .i64 (n : Int))) j p first gen n := by
  have := heap_setCell_same w j 3 _ _ (.int .i64 (n : Int)) h
  unfold JAt RowAt
  rw [this]
  rfl
set_option maxHeartbeats 400000 in
theorem journal_Start (p : Nat) (first : Int) (gen : Nat) (w : World) :
    Calls Try.prog 12 #[.pointer (some ⟨p, 0, none⟩), .int .i64 first, .int .u64 (gen : Int)] w fun e w' =>
      e = .returned (.pointer (some ⟨w.heap.size, 0, none⟩)) ∧ w' = w.alloc (.cells (jC p first gen 0).toArray 68) := by
  go_enter Try.func12, Try.ntmps12
  go_wp2_with fail
  go_ret
  exact ⟨rfl, rfl⟩
set_option maxHeartbeats 400000 in
theorem journal_Len {j p gen count : Nat} {first : Int} (w : World) (h : JAt w j p first gen count) :
    Calls Try.prog 19 #[.pointer (some ⟨j, 0, none⟩)] w fun e w' => e = .returned (.int .i64 (count : Int)) ∧ w = w' := by
  have c3 := h.c3
  clear h
  go_enter Try.func19, Try.ntmps19
  go_wp2_with fail
  go_ret
  exact ⟨rfl, rfl⟩
set_option maxHeartbeats 400000 in
theorem journal_mark (gen n : Nat) (h : gen * 256 + n < 18446744073709551616) (hn : n < 1000) (w : World) :
    Calls Try.prog 32 #[.int .u64 (gen : Int), .int .i64 (n : Int)] w fun e w' => e = .returned (.int .u64 ((gen * 256 + n : Nat) : Int)) ∧ w = w' := by
  have h1 : IntKind.u64.wrap ((gen : Int) * 256) = ((gen * 256 : Nat) : Int) := by simp [IntKind.wrap, IntKind.signed, IntKind.bits]; omega
  have h2 : IntKind.u64.wrap (n : Int) = (n : Int) := by simp [IntKind.wrap, IntKind.signed, IntKind.bits]; omega
  have h3 : IntKind.u64.wrap (((gen * 256 : Nat) : Int) + (n : Int)) = ((gen * 256 + n : Nat) : Int) := by simp [IntKind.wrap, IntKind.signed, IntKind.bits]; omega
  go_enter Try.func32, Try.ntmps32
  go_wp2_with fail
  go_ret
  exact ⟨rfl, rfl⟩
set_option maxHeartbeats 400000 in
theorem journal_head (first place : Nat) (h : first ≤ 100000) (hn : place < 1000) (w : World) :
    Calls Try.prog 25 #[.int .i64 (first : Int), .int .i64 (place : Int)] w fun e w' => e = .returned (.int .i64 ((first + 4 * place : Nat) : Int)) ∧ w = w' := by
  have h1 : IntKind.i64.wrap (4 * (place : Int)) = ((4 * place : Nat) : Int) := by simp [IntKind.wrap, IntKind.signed, IntKind.bits]; omega
  have h3 : IntKind.i64.wrap ((first : Int) + ((4 * place : Nat) : Int)) = ((first + 4 * place : Nat) : Int) := by simp [IntKind.wrap, IntKind.signed, IntKind.bits]; omega
  go_enter Try.func25, Try.ntmps25
  go_wp2_with fail
  go_ret
  exact ⟨rfl, rfl⟩
end Go.Proofs.Ytgakajofggmbjaa

/- Nothing is lacking here: a seat in parts has the zero values of great types. -/
namespace Go.Proofs.Ytgakajofggmbjaa
end Go.Proofs.Ytgakajofggmbjaa
