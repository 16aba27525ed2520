/- Plain arithmetic of the sum of bytes (CRC): steps, bytes, lists; the model's whole-number operators as bit vectors. -/
import Derived.Test.YtanibabfdpgbbaaMem
namespace Go.Proofs.Ytanibabfdpgbbaa
open Go.RowKit

/-! ### The model's operators on 32 bits -/
theorem bits_u32 (op : BinOp) (f : BitVec 32 → BitVec 32 → BitVec 32) (x y : BitVec 32)
    (h : bits op .u32 (x.toNat : Int) (y.toNat : Int) = IntKind.u32.wrap ((f (BitVec.ofInt 32 (x.toNat : Int)) (BitVec.ofInt 32 (y.toNat : Int))).toNat : Int)) :
    bits op .u32 (x.toNat : Int) (y.toNat : Int) = ((f x y).toNat : Int) := by
  have hx : BitVec.ofInt 32 (x.toNat : Int) = x := by
    rw [BitVec.ofInt_natCast]; simp
  have hy : BitVec.ofInt 32 (y.toNat : Int) = y := by
    rw [BitVec.ofInt_natCast]; simp
  rw [h, hx, hy, IntKind.wrap_u32]
  have := (f x y).isLt
  omega
theorem xor_u32 (x y : BitVec 32) : bits .xor .u32 (x.toNat : Int) (y.toNat : Int) = ((x ^^^ y).toNat : Int) := bits_u32 .xor (· ^^^ ·) x y rfl
theorem and_u32 (x y : BitVec 32) : bits .and .u32 (x.toNat : Int) (y.toNat : Int) = ((x &&& y).toNat : Int) := bits_u32 .and (· &&& ·) x y rfl

theorem xor_u8 (x y : UInt8) : bits .xor .u8 (x.toNat : Int) (y.toNat : Int) = ((x ^^^ y).toNat : Int) := by
  have hx : BitVec.ofInt 8 (x.toNat : Int) = x.toBitVec := by
    rw [BitVec.ofInt_natCast]; simp
  have hy : BitVec.ofInt 8 (y.toNat : Int) = y.toBitVec := by
    rw [BitVec.ofInt_natCast]; simp
  have h : bits .xor .u8 (x.toNat : Int) (y.toNat : Int) = IntKind.u8.wrap ((BitVec.ofInt 8 (x.toNat : Int) ^^^ BitVec.ofInt 8 (y.toNat : Int)).toNat : Int) := rfl
  rw [h, hx, hy, IntKind.wrap_u8]
  have h2 : (x ^^^ y).toNat = (x.toBitVec ^^^ y.toBitVec).toNat := rfl
  rw [h2]
  have := (x.toBitVec ^^^ y.toBitVec).isLt
  omega
theorem neg_u32 (x : BitVec 32) : (-(x.toNat : Int)) % 4294967296 = ((-x).toNat : Int) := by
  rw [BitVec.toNat_neg]
  have := x.isLt
  omega
theorem half_u32 (x : BitVec 32) : (x.toNat : Int) / (2 : Int) = ((x >>> 1).toNat : Int) := by
  rw [BitVec.toNat_ushiftRight, Nat.shiftRight_eq_div_pow]; omega

def poly : BitVec 32 := 0xEDB88320#32
/-- One bit further. -/
def crcStep (s : BitVec 32) : BitVec 32 := (s >>> 1) ^^^ (poly &&& -(s &&& 1#32))
def iter (f : BitVec 32 → BitVec 32) : Nat → BitVec 32 → BitVec 32
  | 0, s => s
  | n + 1, s => f (iter f n s)
/-- One byte further. -/
def crcByte (s : BitVec 32) (x : UInt8) : BitVec 32 := iter crcStep 8 (s ^^^ x.toBitVec.setWidth 32)
def crcFold (s : BitVec 32) (xs : List UInt8) : BitVec 32 := xs.foldl crcByte s
/-- The sum behind more bytes. -/
def crcAdd (s : BitVec 32) (xs : List UInt8) : BitVec 32 := ~~~ crcFold (~~~ s) xs

theorem crcStep_int (s : BitVec 32) :
    bits .xor .u32 ((s.toNat : Int) / 2) (bits .and .u32 3988292384 (-bits .and .u32 (s.toNat : Int) 1 % 4294967296)) = ((crcStep s).toNat : Int) := by
  have h1 : (1 : Int) = ((1#32).toNat : Int) := rfl
  have h2 : (3988292384 : Int) = (poly.toNat : Int) := rfl
  rw [h2]
  conv in (bits BinOp.and IntKind.u32 (s.toNat : Int) 1) => rw [h1]
  rw [and_u32, neg_u32, and_u32, half_u32, xor_u32]
  rfl
theorem crcByte_int (s : BitVec 32) (x : UInt8) : bits .xor .u32 (s.toNat : Int) ((x.toNat : Int) % 4294967296) = ((s ^^^ x.toBitVec.setWidth 32).toNat : Int) := by
  have h1 : (x.toNat : Int) % 4294967296 = ((x.toBitVec.setWidth 32).toNat : Int) := by
    have := x.toNat_lt
    rw [BitVec.toNat_setWidth]
    show (x.toBitVec.toNat : Int) % 4294967296 = _
    have : x.toBitVec.toNat < 256 := x.toNat_lt
    omega
  rw [h1, xor_u32]
theorem not_int (s : BitVec 32) : bits .xor .u32 IntKind.u32.max (s.toNat : Int) = ((~~~ s).toNat : Int) := by
  have h : IntKind.u32.max = ((BitVec.allOnes 32).toNat : Int) := rfl
  rw [h, xor_u32]
  rw [BitVec.allOnes_xor]
theorem crcFold_snoc (s : BitVec 32) (xs : List UInt8) (x : UInt8) : crcFold s (xs ++ [x]) = crcByte (crcFold s xs) x := by simp [crcFold]
theorem take_snoc (xs : List UInt8) (k : Nat) (h : k < xs.length) : xs.take (k + 1) = xs.take k ++ [at8 xs k] := by
  rw [List.take_succ_eq_append_getElem h, at8, List.getD_eq_getElem?_getD, List.getElem?_eq_getElem h]; rfl
theorem crcFold_take (s : BitVec 32) (xs : List UInt8) (k : Nat) (h : k < xs.length) :
    crcFold s (xs.take (k + 1)) = iter crcStep 8 (crcFold s (xs.take k) ^^^ (at8 xs k).toBitVec.setWidth 32) := by
  rw [take_snoc xs k h, crcFold_snoc]; rfl
def crcSums (xss : List (List UInt8)) : BitVec 32 := xss.foldl crcAdd 0#32
theorem crcSums_take (xss : List (List UInt8)) (k : Nat) (h : k < xss.length) : crcSums (xss.take (k + 1)) = crcAdd (crcSums (xss.take k)) (atL xss k) := by
  rw [List.take_succ_eq_append_getElem h, crcSums, List.foldl_append, atL, List.getD_eq_getElem?_getD, List.getElem?_eq_getElem h]; rfl

/-! ### The document's step -/
theorem neg_and_one (s : BitVec 32) : -(s &&& 1#32) = if s.toNat % 2 = 1 then BitVec.allOnes 32 else 0#32 := by
  have h : s &&& 1#32 = if s.toNat % 2 = 1 then 1#32 else 0#32 := by
    apply BitVec.eq_of_toNat_eq
    rw [BitVec.toNat_and]
    have h1 : (1#32).toNat = 1 := rfl
    rw [h1, Nat.and_one_is_mod]
    split
    · rename_i h; rw [h]; rfl
    · rename_i h; have : s.toNat % 2 = 0 := by omega
      rw [this]; rfl
  rw [h]
  split <;> rfl
theorem crcStep_ref (s : BitVec 32) : crcStep s = if s.toNat % 2 = 1 then (s >>> 1) ^^^ poly else s >>> 1 := by
  unfold crcStep
  rw [neg_and_one]
  split
  · rw [BitVec.and_allOnes]
  · rw [BitVec.and_zero, BitVec.xor_zero]
theorem crcStep_odd (s : BitVec 32) (h : (s.toNat : Int) % 2 = 1) : bits .xor .u32 ((s.toNat : Int) / (2 : Int)) 3988292384 = ((crcStep s).toNat : Int) := by
  have h2 : (3988292384 : Int) = (poly.toNat : Int) := rfl
  rw [h2, half_u32, xor_u32, crcStep_ref, if_pos (by omega)]
theorem crcStep_even (s : BitVec 32) (h : ¬ (s.toNat : Int) % 2 = 1) : (s.toNat : Int) / (2 : Int) = ((crcStep s).toNat : Int) := by
  rw [half_u32, crcStep_ref, if_neg (by omega)]
theorem not_sub (s : BitVec 32) : 4294967295 - (s.toNat : Int) = ((~~~ s).toNat : Int) := by
  rw [BitVec.toNat_not]
  have := s.isLt
  omega
end Go.Proofs.Ytanibabfdpgbbaa
