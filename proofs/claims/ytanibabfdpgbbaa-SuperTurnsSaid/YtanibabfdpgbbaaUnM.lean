/- What unpacking computes; no program in sight. -/
import Derived.Test.YtanibabfdpgbbaaOwn
import Derived.Test.YtanibabfdpgbbaaCodecW4
namespace Go.Proofs.Ytanibabfdpgbbaa

/-- A field out of bytes, after a letter, and how many bytes it took. -/
def decF (c : UInt8) (b : List UInt8) : Option ((Nat × List UInt8) × Nat) :=
  match letterW c with
  | none => none
  | some 0 => if b.length < 2 then none else if 1024 < numOf (b.take 2) then none else if b.length - 2 < numOf (b.take 2) then none else some ((0, (b.drop 2).take (numOf (b.take 2))), 2 + numOf (b.take 2))
  | some (w + 1) => if b.length < w + 1 then none else some ((numOf (b.take (w + 1)), []), w + 1)
/-- The fields of the first k letters, and where the bytes behind them begin. -/
def unTo (sh b : List UInt8) : Nat → Option (List (Nat × List UInt8) × Nat)
  | 0 => some ([], 0)
  | k + 1 => match unTo sh b k with
    | none => none
    | some (l, p) => (decF (at8 sh k) (b.drop p)).map fun r => (l ++ [r.1], p + r.2)
def unpackM (sh b : List UInt8) : Option (List (Nat × List UInt8)) :=
  if 200 < sh.length then none else match unTo sh b sh.length with
    | none => none
    | some (l, p) => if p = b.length then some l else none
theorem unTo_none {sh b : List UInt8} {k : Nat} (h : unTo sh b k = none) (m : Nat) (hm : k ≤ m) : unTo sh b m = none := by
  induction m with
  | zero => obtain rfl : k = 0 := by omega
            exact h
  | succ m ih =>
    by_cases e : k = m + 1
    · rw [← e]; exact h
    · rw [unTo, ih (by omega)]
theorem unTo_step {sh b : List UInt8} {k p : Nat} {l : List (Nat × List UInt8)} (h : unTo sh b k = some (l, p)) : unTo sh b (k + 1) = (decF (at8 sh k) (b.drop p)).map fun r => (l ++ [r.1], p + r.2) := by rw [unTo, h]
theorem unpackM_none {sh b : List UInt8} {k : Nat} (h : unTo sh b k = none) (hk : k ≤ sh.length) : unpackM sh b = none := by
  unfold unpackM
  rw [unTo_none h _ hk]
  simp
theorem unpackM_done {sh b : List UInt8} {l : List (Nat × List UInt8)} {p : Nat} (h : unTo sh b sh.length = some (l, p)) (hs : sh.length ≤ 200) : unpackM sh b = if p = b.length then some l else none := by
  unfold unpackM
  rw [if_neg (by omega), h]
theorem unpackM_long {sh b : List UInt8} (h : 200 < sh.length) : unpackM sh b = none := by
  unfold unpackM
  rw [if_pos h]
end Go.Proofs.Ytanibabfdpgbbaa
