/- What a seal is; no program in sight. -/
import Derived.Test.YtanibabfdpgbbaaSect
import Derived.Test.YtanibabfdpgbbaaCodecM
import Derived.Test.YtanibabfdpgbbaaCrcMath
namespace Go.Proofs.Ytanibabfdpgbbaa
open Go.RowKit

/-- What the sum is of. -/
def preL (mark : Nat) (body : List UInt8) : List UInt8 := be mark 8 ++ (be body.length 2 ++ (body ++ List.replicate (106 - body.length) 0))
def sumL (mark : Nat) (body : List UInt8) : Nat := (crcAdd 0#32 (preL mark body)).toNat
def sealL (mark : Nat) (body : List UInt8) : List UInt8 := preL mark body ++ (be (sumL mark body) 4 ++ be mark 8)
def makeM (mark : Nat) (body : List UInt8) : Option (List UInt8) := if mark = 0 ∨ 106 < body.length then none else some (sealL mark body)
theorem preL_length {mark : Nat} {body : List UInt8} (h : body.length ≤ 106) : (preL mark body).length = 116 := by
  simp [preL, be_length]
  omega
theorem sealL_length {mark : Nat} {body : List UInt8} (h : body.length ≤ 106) : (sealL mark body).length = 128 := by
  simp [sealL, be_length, preL_length h]
theorem sumL_lt (mark : Nat) (body : List UInt8) : sumL mark body < 4294967296 := (crcAdd 0#32 (preL mark body)).isLt
theorem zsec_parts (k : Nat) (h : k ≤ 106) : zsec = List.replicate 8 0 ++ (List.replicate 2 0 ++ (List.replicate k 0 ++ (List.replicate (106 - k) 0 ++ (List.replicate 4 0 ++ List.replicate 8 0)))) := by
  unfold zsec
  simp only [List.replicate_append_replicate]
  congr 1
  omega
/-- The sector, when the head and the body are put. -/
theorem put_pre (mark : Nat) (body : List UInt8) (h : body.length ≤ 106) :
    splice (splice (splice zsec 0 (be mark 8)) 8 (be body.length 2)) 10 body = preL mark body ++ (List.replicate 4 0 ++ List.replicate 8 0) := by
  rw [zsec_parts body.length h]
  have e1 := splice_at ([] : List UInt8) (List.replicate 8 0) (be mark 8) (List.replicate 2 0 ++ (List.replicate body.length 0 ++ (List.replicate (106 - body.length) 0 ++ (List.replicate 4 0 ++ List.replicate 8 0)))) (by simp [be_length])
  simp only [List.nil_append, List.length_nil] at e1
  rw [e1]
  have e2 := splice_at (be mark 8) (List.replicate 2 0) (be body.length 2) (List.replicate body.length 0 ++ (List.replicate (106 - body.length) 0 ++ (List.replicate 4 0 ++ List.replicate 8 0))) (by simp [be_length])
  rw [be_length] at e2
  rw [e2]
  have e3 := splice_at (be mark 8 ++ be body.length 2) (List.replicate body.length 0) body (List.replicate (106 - body.length) 0 ++ (List.replicate 4 0 ++ List.replicate 8 0)) (by simp)
  rw [List.length_append, be_length, be_length, List.append_assoc] at e3
  rw [e3]
  simp [preL]
theorem put_sum (mark : Nat) (body : List UInt8) (h : body.length ≤ 106) :
    splice (splice (preL mark body ++ (List.replicate 4 0 ++ List.replicate 8 0)) 116 (be (sumL mark body) 4)) 120 (be mark 8) = sealL mark body := by
  have e1 := splice_at (preL mark body) (List.replicate 4 0) (be (sumL mark body) 4) (List.replicate 8 0) (by simp [be_length])
  rw [preL_length h] at e1
  rw [e1]
  have e2 := splice_at (preL mark body ++ be (sumL mark body) 4) (List.replicate 8 0) (be mark 8) [] (by simp [be_length])
  rw [List.length_append, preL_length h, be_length, List.append_nil, List.append_nil, List.append_assoc] at e2
  rw [e2]
  simp [sealL]
theorem take_pre (mark : Nat) (body z : List UInt8) (h : body.length ≤ 106) : (preL mark body ++ z).take 116 = preL mark body := by
  rw [← preL_length (mark := mark) h, List.take_left]
theorem sums_one (xs : List UInt8) : crcSums [xs] = crcAdd 0#32 xs := rfl
/-- What a sector opens to. -/
def openM (l : List UInt8) : Option (Nat × List UInt8) :=
  if 106 < numOf ((l.drop 8).take 2) then none
  else if makeM (numOf (l.take 8)) ((l.drop 10).take (numOf ((l.drop 8).take 2))) = some l then some (numOf (l.take 8), (l.drop 10).take (numOf ((l.drop 8).take 2))) else none
end Go.Proofs.Ytanibabfdpgbbaa
