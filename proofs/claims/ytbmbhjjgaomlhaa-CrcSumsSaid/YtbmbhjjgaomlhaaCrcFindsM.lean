/- Plain arithmetic: a step of the sum loses nothing, so bytes of which one is another one have another sum; and the sums of three texts add up without carry. -/
import Derived.Test.YtbmbhjjgaomlhaaCrcMath
namespace Go.Proofs.Ytbmbhjjgaomlhaa

theorem ushr_msb (a : BitVec 32) : (a >>> 1).getLsbD 31 = false := by
  rw [BitVec.getLsbD_ushiftRight]
  exact BitVec.getLsbD_of_ge a (1 + 31) (by omega)
theorem poly_msb : poly.getLsbD 31 = true := by decide
theorem crcStep_inj (a b : BitVec 32) (h : crcStep a = crcStep b) : a = b := by
  rw [crcStep_ref, crcStep_ref] at h
  have key : a >>> 1 = b >>> 1 → a.toNat % 2 = b.toNat % 2 → a = b := by
    intro h1 h2
    have h3 := congrArg BitVec.toNat h1
    rw [BitVec.toNat_ushiftRight, BitVec.toNat_ushiftRight, Nat.shiftRight_eq_div_pow, Nat.shiftRight_eq_div_pow] at h3
    apply BitVec.eq_of_toNat_eq
    omega
  by_cases ha : a.toNat % 2 = 1 <;> by_cases hb : b.toNat % 2 = 1
  · rw [if_pos ha, if_pos hb] at h
    have h2 := congrArg (· ^^^ poly) h
    simp only [BitVec.xor_assoc, BitVec.xor_self, BitVec.xor_zero] at h2
    exact key h2 (by omega)
  · rw [if_pos ha, if_neg hb] at h
    have h2 := congrArg (fun x => BitVec.getLsbD x 31) h
    simp only [BitVec.getLsbD_xor, ushr_msb, poly_msb] at h2
    simp at h2
  · rw [if_neg ha, if_pos hb] at h
    have h2 := congrArg (fun x => BitVec.getLsbD x 31) h
    simp only [BitVec.getLsbD_xor, ushr_msb, poly_msb] at h2
    simp at h2
  · rw [if_neg ha, if_neg hb] at h
    exact key h (by omega)
theorem iter_inj (f : BitVec 32 → BitVec 32) (hf : ∀ a b, f a = f b → a = b) : ∀ (n : Nat) (a b : BitVec 32), iter f n a = iter f n b → a = b
  | 0, _, _, h => h
  | n + 1, a, b, h => iter_inj f hf n a b (hf _ _ h)
theorem crcByte_inj (a b : BitVec 32) (x : UInt8) (h : crcByte a x = crcByte b x) : a = b := by
  have h1 := iter_inj crcStep crcStep_inj 8 _ _ h
  have h2 := congrArg (· ^^^ x.toBitVec.setWidth 32) h1
  simpa only [BitVec.xor_assoc, BitVec.xor_self, BitVec.xor_zero] using h2
theorem crcByte_inj2 (a : BitVec 32) (x y : UInt8) (h : crcByte a x = crcByte a y) : x = y := by
  have h1 := iter_inj crcStep crcStep_inj 8 _ _ h
  have h2 := congrArg (a ^^^ ·) h1
  simp only [← BitVec.xor_assoc, BitVec.xor_self, BitVec.zero_xor] at h2
  have h3 := congrArg BitVec.toNat h2
  rw [BitVec.toNat_setWidth, BitVec.toNat_setWidth] at h3
  have hx : x.toBitVec.toNat < 256 := x.toNat_lt
  have hy : y.toBitVec.toNat < 256 := y.toNat_lt
  have h4 : x.toBitVec.toNat = y.toBitVec.toNat := by omega
  exact UInt8.toBitVec_inj.1 (BitVec.eq_of_toNat_eq h4)
theorem crcFold_inj (xs : List UInt8) : ∀ a b : BitVec 32, crcFold a xs = crcFold b xs → a = b := by
  induction xs with
  | nil => intro a b h; exact h
  | cons x xs ih => intro a b h; exact crcByte_inj _ _ _ (ih _ _ h)
/-- Bytes of which the k-th is another one have another sum. -/
theorem crcAdd_ne (s : BitVec 32) (xs : List UInt8) (k : Nat) (hk : k < xs.length) (y : UInt8) (hy : y ≠ at8 xs k) : crcAdd s (xs.set k y) ≠ crcAdd s xs := by
  intro h
  have h1 : crcFold (~~~ s) (xs.set k y) = crcFold (~~~ s) xs := by
    have := congrArg (~~~ ·) h
    simpa [crcAdd] using this
  have e1 : xs = xs.take k ++ at8 xs k :: xs.drop (k + 1) := by
    have hat : at8 xs k = xs[k] := by rw [at8, List.getD_eq_getElem?_getD, List.getElem?_eq_getElem hk]; rfl
    rw [hat, List.getElem_cons_drop, List.take_append_drop]
  have e2 : xs.set k y = xs.take k ++ y :: xs.drop (k + 1) := by
    rw [List.set_eq_take_append_cons_drop, if_pos hk]
  rw [e2] at h1
  conv at h1 => rhs; rw [e1]
  simp only [crcFold, List.foldl_append, List.foldl_cons] at h1
  exact hy (crcByte_inj2 _ _ _ (crcFold_inj _ _ _ h1))
theorem crcSums_one (xs : List UInt8) : crcSums [xs] = crcAdd 0#32 xs := rfl

theorem crcSums_ne (xs : List UInt8) (k : Nat) (hk : k < xs.length) (ch : UInt8) (hc : ch ≠ 0) : ((((crcSums [xs.set k (at8 xs k ^^^ ch)]).toNat : Int) != ((crcSums [xs]).toNat : Int))) = true := by
  rw [bne_iff_ne]
  intro h
  have h1 : (crcSums [xs.set k (at8 xs k ^^^ ch)]).toNat = (crcSums [xs]).toNat := by omega
  refine crcAdd_ne 0#32 xs k hk _ ?_ (BitVec.eq_of_toNat_eq h1)
  intro he
  have h2 : at8 xs k ^^^ (at8 xs k ^^^ ch) = at8 xs k ^^^ at8 xs k := congrArg (at8 xs k ^^^ ·) he
  rw [← UInt8.xor_assoc, UInt8.xor_self, UInt8.zero_xor] at h2
  exact hc h2
/-! ### Three texts -/
theorem and_poly (a b : BitVec 32) : poly &&& -((a ^^^ b) &&& 1#32) = (poly &&& -(a &&& 1#32)) ^^^ (poly &&& -(b &&& 1#32)) := by
  have h : (a ^^^ b).toNat % 2 = (a.toNat % 2 + b.toNat % 2) % 2 := by
    rw [BitVec.toNat_xor]
    have h1 : (a.toNat ^^^ b.toNat) % 2 = (a.toNat % 2 ^^^ b.toNat % 2) := by
      have := @Nat.xor_mod_two_pow a.toNat b.toNat 1
      simpa using this
    rw [h1]
    rcases Nat.mod_two_eq_zero_or_one a.toNat with h | h <;> rcases Nat.mod_two_eq_zero_or_one b.toNat with h' | h' <;> rw [h, h'] <;> rfl
  rw [neg_and_one, neg_and_one, neg_and_one]
  by_cases ha : a.toNat % 2 = 1 <;> by_cases hb : b.toNat % 2 = 1
  · rw [if_neg (by omega), if_pos ha, if_pos hb]; simp
  · rw [if_pos (by omega), if_pos ha, if_neg hb]; simp
  · rw [if_pos (by omega), if_neg ha, if_pos hb]; simp
  · rw [if_neg (by omega), if_neg ha, if_neg hb]; simp
theorem crcStep_xor (a b : BitVec 32) : crcStep (a ^^^ b) = crcStep a ^^^ crcStep b := by
  unfold crcStep
  rw [and_poly, BitVec.ushiftRight_xor_distrib]
  ac_rfl
theorem iter_xor : ∀ (n : Nat) (a b : BitVec 32), iter crcStep n (a ^^^ b) = iter crcStep n a ^^^ iter crcStep n b
  | 0, _, _ => rfl
  | n + 1, a, b => by
    show crcStep (iter crcStep n (a ^^^ b)) = crcStep (iter crcStep n a) ^^^ crcStep (iter crcStep n b)
    rw [iter_xor n a b, crcStep_xor]
theorem crcByte_xor (a b : BitVec 32) (x y : UInt8) : crcByte (a ^^^ b) (x ^^^ y) = crcByte a x ^^^ crcByte b y := by
  unfold crcByte
  have h : (x ^^^ y).toBitVec.setWidth 32 = x.toBitVec.setWidth 32 ^^^ y.toBitVec.setWidth 32 := by
    rw [UInt8.toBitVec_xor, BitVec.setWidth_xor]
  rw [h, ← iter_xor]
  congr 1
  ac_rfl
/-- The texts added up. -/
def xor3 : List UInt8 → List UInt8 → List UInt8 → List UInt8
  | x :: xs, y :: ys, z :: zs => (x ^^^ y ^^^ z) :: xor3 xs ys zs
  | _, _, _ => []
theorem crcFold_xor3 : ∀ (xs ys zs : List UInt8) (a b c : BitVec 32), xs.length = ys.length → ys.length = zs.length → crcFold (a ^^^ b ^^^ c) (xor3 xs ys zs) = crcFold a xs ^^^ crcFold b ys ^^^ crcFold c zs
  | [], [], [], _, _, _, _, _ => rfl
  | x :: xs, y :: ys, z :: zs, a, b, c, h1, h2 => by
    have ih := crcFold_xor3 xs ys zs (crcByte a x) (crcByte b y) (crcByte c z) (by simpa using h1) (by simpa using h2)
    show crcFold (crcByte (a ^^^ b ^^^ c) (x ^^^ y ^^^ z)) (xor3 xs ys zs) = _
    rw [crcByte_xor, crcByte_xor, ih]
    rfl
  | [], _ :: _, _, _, _, _, h, _ => by simp at h
  | _ :: _, [], _, _, _, _, h, _ => by simp at h
  | [], [], _ :: _, _, _, _, _, h => by simp at h
  | _ :: _, _ :: _, [], _, _, _, _, h => by simp at h
theorem crcAdd_xor3 (xs ys zs : List UInt8) (h1 : xs.length = ys.length) (h2 : ys.length = zs.length) : crcAdd 0#32 (xor3 xs ys zs) = crcAdd 0#32 xs ^^^ crcAdd 0#32 ys ^^^ crcAdd 0#32 zs := by
  have h := crcFold_xor3 xs ys zs (~~~ 0#32) (~~~ 0#32) (~~~ 0#32) h1 h2
  have e : (~~~ 0#32 ^^^ ~~~ 0#32 ^^^ ~~~ 0#32 : BitVec 32) = ~~~ 0#32 := by decide
  rw [e] at h
  unfold crcAdd
  rw [h]
  generalize crcFold (~~~ 0#32) xs = p
  generalize crcFold (~~~ 0#32) ys = q
  generalize crcFold (~~~ 0#32) zs = r
  rw [← BitVec.xor_allOnes, ← BitVec.xor_allOnes (x := p), ← BitVec.xor_allOnes (x := q), ← BitVec.xor_allOnes (x := r)]
  generalize BitVec.allOnes 32 = o
  have : p ^^^ o ^^^ (q ^^^ o) ^^^ (r ^^^ o) = p ^^^ q ^^^ r ^^^ o ^^^ (o ^^^ o) := by ac_rfl
  rw [this, BitVec.xor_self, BitVec.xor_zero]
theorem xor3_snoc : ∀ (xs ys zs : List UInt8) (k : Nat), k < xs.length → xs.length = ys.length → ys.length = zs.length → xor3 (xs.take (k + 1)) (ys.take (k + 1)) (zs.take (k + 1)) = xor3 (xs.take k) (ys.take k) (zs.take k) ++ [at8 xs k ^^^ at8 ys k ^^^ at8 zs k]
  | x :: xs, y :: ys, z :: zs, 0, _, _, _ => rfl
  | x :: xs, y :: ys, z :: zs, k + 1, h, h1, h2 => by
    have ih := xor3_snoc xs ys zs k (by simpa using h) (by simpa using h1) (by simpa using h2)
    simp only [List.take_succ_cons, xor3, List.cons_append, List.cons.injEq, true_and]
    simp only [at8, List.getD_cons_succ]
    simpa only [at8] using ih
  | [], _, _, _, h, _, _ => by simp at h
  | _ :: _, [], _, _, _, h, _ => by simp at h
  | _ :: _, _ :: _, [], _, _, _, h => by simp at h
theorem xor3_length : ∀ (xs ys zs : List UInt8), xs.length = ys.length → ys.length = zs.length → (xor3 xs ys zs).length = xs.length
  | [], [], [], _, _ => rfl
  | x :: xs, y :: ys, z :: zs, h1, h2 => by
    simp only [xor3, List.length_cons]
    rw [xor3_length xs ys zs (by simpa using h1) (by simpa using h2)]
  | [], _ :: _, _, h, _ => by simp at h
  | _ :: _, [], _, h, _ => by simp at h
  | [], [], _ :: _, _, h => by simp at h
  | _ :: _, _ :: _, [], _, h => by simp at h
end Go.Proofs.Ytbmbhjjgaomlhaa
