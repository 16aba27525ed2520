/- Exact. -/
import Derived.Test.YtlofiinpgkclgaaMg3
import Derived.RangeFuncNested
namespace Go.Proofs.Ytlofiinpgkclgaa
open Go.RowKit

set_option maxRecDepth 20000 in
set_option maxHeartbeats 6400000 in
theorem ref09_Exact {w : World} {A B : Option Addr} {n c m d : Nat} {x y : LabD} (ha : RCats w A n c x.cats) (hb : RCats w B m d y.cats) :
    Calls Try.prog 22 #[.agg #[.int .i64 x.dflt, .slice A n c], .agg #[.int .i64 y.dflt, .slice B m d]] w fun e w' => e = .returned (.bool (decide (x = y))) ∧ Below w.heap.size w w' := by
  obtain ⟨dx, xs⟩ := x
  obtain ⟨dy, ys⟩ := y
  have hbl := balloc (below_alloc w (.cells #[.int .i64 dx, .slice A n c] 26)) (.cells #[.int .i64 dy, .slice B m d] 26)
  have HBL := Lib.hid hbl
  have HA := Lib.hid (ha.below hbl); have HB := Lib.hid (hb.below hbl)
  have hn9 : (n : Int) ≤ 9223372036854775807 := by have := ha.2.1; have := ha.2.2.1; omega
  clear ha hb hbl
  dsimp only
  go_enter Try.func22, Try.ntmps22
  by_cases hd : dx = dy
  · subst hd
    by_cases hnm : n = m
    · subst hnm
      have HBX := Lib.hid (show decide ((⟨dx, xs⟩ : LabD) = ⟨dx, ys⟩) = decide (xs = ys) by simp)
      go_wp2_with fail
      have c1 : ((w.alloc (.cells #[.int .i64 dx, .slice A n c] 26)).alloc (.cells #[.int .i64 dx, .slice B n d] 26)).cell? ⟨w.heap.size, 1, none⟩ = some (.slice A n c) := by simp [go_sem]
      have c2 : ((w.alloc (.cells #[.int .i64 dx, .slice A n c] 26)).alloc (.cells #[.int .i64 dx, .slice B n d] 26)).cell? ⟨w.heap.size + 1, 1, none⟩ = some (.slice B n d) := by simp [go_sem]
      generalize (w.alloc (.cells #[.int .i64 dx, .slice A n c] 26)).alloc (.cells #[.int .i64 dx, .slice B n d] 26) = w2 at *
      go_loopw [23] (fun i wr => ∃ k q : Nat, k ≤ n ∧ i = .int .i64 (k : Nat) ∧ wr = w2.drewN q ∧ Hid (∀ j, j < k → atC xs j = atC ys j)) (fun i _ => n - (intOf i).toNat)
      case atStart => exact ⟨0, 0, by omega, rfl, rfl, Lib.hid fun j hj => absurd hj (by omega)⟩
      case round =>
        obtain ⟨k, q, hk, rfl, rfl, HE⟩ := hrel
        have HBD : Hid (Below w.heap.size w (w2.drewN q)) := Lib.hid ⟨HBL.out.os, HBL.out.tape, HBL.out.output, HBL.out.size, HBL.out.block⟩
        by_cases hlt : k < n
        · have hk0 : (0 : Int) ≤ (k : Int) := Int.natCast_nonneg _
          have hk1 : (k : Int) < (n : Int) := by omega
          obtain ⟨b1, o1, rfl, h1⟩ := HA.out.2.2.2 (by omega)
          obtain ⟨b2, o2, rfl, h2⟩ := HB.out.2.2.2 (by omega)
          obtain ⟨g1, g1'⟩ := h1 k hlt
          obtain ⟨g2, g2'⟩ := h2 k hlt
          have HNE := Lib.hid (show atC xs k ≠ atC ys k → xs ≠ ys from fun h e => h (by rw [e]))
          have HNX := Lib.hid (show atC xs k = atC ys k → ∀ j, j < k + 1 → atC xs j = atC ys j from fun h j hj => by
            by_cases e : j = k
            · rw [e]; exact h
            · exact HE.out j (by omega))
          generalize atC xs k = x at *
          generalize atC ys k = y at *
          obtain ⟨x1, x2⟩ := x
          obtain ⟨y1, y2⟩ := y
          dsimp only at g1 g1' g2 g2'
          clear h1 h2
          by_cases hx1 : x1 = y1
          · by_cases hx2 : x2 = y2
            · have HN := Lib.hid (HNX.out (by rw [hx1, hx2]))
              subst hx1 hx2
              clear HNE HNX
              go_wp2_with fail
              go_quiet (fail)
              go_wp2_with fail
              go_roundw
              case rel => exact ⟨k + 1, _, by omega, by go_num, rfl, HN⟩
              case measure => simp [intOf]; omega
            · have HF := Lib.hid (decide_eq_false (HNE.out (fun e => hx2 (by injection e))))
              subst hx1
              clear HNE HNX
              go_wp2_with fail
              go_quiet (fail)
              go_wp2_with fail
              go_ret
              exact ⟨by rw [HBX.out, HF.out]; rfl, ⟨HBD.out.os, HBD.out.tape, HBD.out.output, HBD.out.size, HBD.out.block⟩⟩
          · have HF := Lib.hid (decide_eq_false (HNE.out (fun e => hx1 (by injection e))))
            have hx1' : ¬ ((x1 : Int) = (y1 : Int)) := by omega
            clear HNE HNX
            go_wp2_with fail
            go_quiet (fail)
            go_wp2_with fail
            go_ret
            exact ⟨by rw [HBX.out, HF.out]; rfl, ⟨HBD.out.os, HBD.out.tape, HBD.out.output, HBD.out.size, HBD.out.block⟩⟩
        · obtain rfl : k = n := by omega
          have HT := Lib.hid (decide_eq_true (eq_of_atC (HA.out.1.trans HB.out.1.symm) (fun j hj => HE.out j (by rw [HA.out.1] at hj; exact hj))))
          go_wp2_with fail
          go_ret
          exact ⟨by rw [HBX.out, HT.out]; rfl, HBD.out⟩
    · have hne : ((n : Int) != (m : Int)) = true := by rw [bne_iff_ne]; omega
      have HF := Lib.hid (decide_eq_false (show xs ≠ ys from fun e => hnm (by rw [← HA.out.1, ← HB.out.1]; exact congrArg List.length e)))
      go_wp2_with fail
      go_ret
      exact ⟨by first | rfl | (rw [HF.out]; rfl), HBL.out⟩
  · have HF := Lib.hid (decide_eq_false (show ¬ ((⟨dx, xs⟩ : LabD) = ⟨dy, ys⟩) from fun e => hd (by injection e)))
    have hdd : (dx != dy) = true := by rw [bne_iff_ne]; exact hd
    go_wp2_with fail
    go_ret
    exact ⟨by first | rfl | (rw [HF.out]; rfl), HBL.out⟩
end Go.Proofs.Ytlofiinpgkclgaa

/- What unpacking computes; no program in sight. -/
namespace Go.Proofs.Ytlofiinpgkclgaa

/-- A field out of bytes, after a letter, and how many bytes it took. -/
def decF (c : UInt8) (b : List UInt8) : Option ((Nat × List UInt8) × Nat) :=
  match letterW c with
  | none => none
  | some 0 => if b.length < 2 then none else if 1024 < numOf (b.take 2) then none else if b.length - 2 < numOf (b.take 2) then none else some ((0, (b.drop 2).take (numOf (b.take 2))), 2 + numOf (b.take 2))
  | some (w + 1) => if b.length < w + 1 then none else some ((numOf (b.take (w + 1)), []), w + 1)
/-- The fields of the first k letters, and where the bytes behind them begin. -/
def unTo (sh b : List UInt8) : Nat → Option (List (Nat × List UInt8) × Nat)
  | 0 => some ([], 0)
  | k + 1 => match unTo sh b k with
    | none => none
    | some (l, p) => (decF (at8 sh k) (b.drop p)).map fun r => (l ++ [r.1], p + r.2)
def unpackM (sh b : List UInt8) : Option (List (Nat × List UInt8)) :=
  if 200 < sh.length then none else match unTo sh b sh.length with
    | none => none
    | some (l, p) => if p = b.length then some l else none
theorem unTo_none {sh b : List UInt8} {k : Nat} (h : unTo sh b k = none) (m : Nat) (hm : k ≤ m) : unTo sh b m = none := by
  induction m with
  | zero => obtain rfl : k = 0 := by omega
            exact h
  | succ m ih =>
    by_cases e : k = m + 1
    · rw [← e]; exact h
    · rw [unTo, ih (by omega)]
theorem unTo_step {sh b : List UInt8} {k p : Nat} {l : List (Nat × List UInt8)} (h : unTo sh b k = some (l, p)) : unTo sh b (k + 1) = (decF (at8 sh k) (b.drop p)).map fun r => (l ++ [r.1], p + r.2) := by rw [unTo, h]
theorem unpackM_none {sh b : List UInt8} {k : Nat} (h : unTo sh b k = none) (hk : k ≤ sh.length) : unpackM sh b = none := by
  unfold unpackM
  rw [unTo_none h _ hk]
  simp
theorem unpackM_done {sh b : List UInt8} {l : List (Nat × List UInt8)} {p : Nat} (h : unTo sh b sh.length = some (l, p)) (hs : sh.length ≤ 200) : unpackM sh b = if p = b.length then some l else none := by
  unfold unpackM
  rw [if_neg (by omega), h]
theorem unpackM_long {sh b : List UInt8} (h : 200 < sh.length) : unpackM sh b = none := by
  unfold unpackM
  rw [if_pos h]
end Go.Proofs.Ytlofiinpgkclgaa

/- The plain laws of packing and unpacking; no program in sight. -/
namespace Go.Proofs.Ytlofiinpgkclgaa

abbrev V := Nat × List UInt8
def encV (c : UInt8) (v : V) : Option (List UInt8) :=
  match letterW c with
  | none => none
  | some 0 => if 1024 < v.2.length then none else some (be v.2.length 2 ++ v.2)
  | some (w + 1) => if v.1 < 256 ^ (w + 1) then some (be v.1 (w + 1)) else none
/-- Packing, letter by letter. -/
def packL : List UInt8 → List V → Option (List UInt8)
  | [], [] => some []
  | c :: sh, v :: vs => match encV c v, packL sh vs with
    | some x, some y => some (x ++ y)
    | _, _ => none
  | _, _ => none
def unL : List UInt8 → List UInt8 → Option (List V × List UInt8)
  | [], b => some ([], b)
  | c :: sh, b => match decF c b with
    | none => none
    | some (v, m) => match unL sh (b.drop m) with
      | none => none
      | some (l, r) => some (v :: l, r)
theorem packL_append (sh1 : List UInt8) : ∀ (vs1 : List V) (sh2 : List UInt8) (vs2 : List V), sh1.length = vs1.length →
    packL (sh1 ++ sh2) (vs1 ++ vs2) = match packL sh1 vs1, packL sh2 vs2 with
      | some x, some y => some (x ++ y)
      | _, _ => none := by
  induction sh1 with
  | nil =>
    intro vs1 sh2 vs2 h
    obtain rfl : vs1 = [] := List.eq_nil_of_length_eq_zero h.symm
    simp only [List.nil_append, packL]
    cases packL sh2 vs2 <;> simp
  | cons c sh1 ih =>
    intro vs1 sh2 vs2 h
    match vs1, h with
    | v :: vs1, h =>
      simp only [List.cons_append, packL]
      rw [ih vs1 sh2 vs2 (by simpa using h)]
      cases encV c v with
      | none => rfl
      | some x => cases packL sh1 vs1 with
        | none => rfl
        | some y => cases packL sh2 vs2 with
          | none => rfl
          | some z => simp
theorem unL_append (sh1 : List UInt8) : ∀ (sh2 b : List UInt8), unL (sh1 ++ sh2) b = match unL sh1 b with
      | none => none
      | some (l, r) => match unL sh2 r with
        | none => none
        | some (l', r') => some (l ++ l', r') := by
  induction sh1 with
  | nil =>
    intro sh2 b
    simp only [List.nil_append, unL]
    cases unL sh2 b with
    | none => rfl
    | some x => rfl
  | cons c sh1 ih =>
    intro sh2 b
    simp only [List.cons_append, unL]
    cases decF c b with
    | none => rfl
    | some x =>
      obtain ⟨v, m⟩ := x
      simp only [ih]
      cases unL sh1 (b.drop m) with
      | none => rfl
      | some y =>
        obtain ⟨l, r⟩ := y
        simp only
        cases unL sh2 r with
        | none => rfl
        | some z => rfl
theorem be_succ (n k : Nat) : be n (k + 1) = be (n / 256) k ++ [UInt8.ofNat n] := by
  unfold be
  rw [List.range_succ, List.map_append]
  congr 1
  · apply List.map_congr_left
    intro j hj
    have hj : j < k := by simpa using hj
    rw [Nat.div_div_eq_div_mul, show k + 1 - 1 - j = (k - 1 - j) + 1 by omega, Nat.pow_succ, Nat.mul_comm]
  · simp
theorem numOf_be (k : Nat) : ∀ n, n < 256 ^ k → numOf (be n k) = n := by
  induction k with
  | zero =>
    intro n h
    have : n = 0 := by simpa using h
    subst this
    rfl
  | succ k ih =>
    intro n h
    rw [be_succ, numOf_push, ih (n / 256) (by rw [Nat.pow_succ] at h; exact Nat.div_lt_of_lt_mul (by rw [Nat.mul_comm]; exact h)), UInt8.toNat_ofNat']
    omega
theorem be_numOf (xs : List UInt8) : ∀ k, xs.length = k → be (numOf xs) k = xs := by
  intro k
  induction k generalizing xs with
  | zero =>
    intro h
    rw [List.eq_nil_of_length_eq_zero h]
    rfl
  | succ k ih =>
    intro h
    have e : xs = xs.take k ++ [at8 xs k] := by
      have e0 := List.take_succ_eq_append_getElem (show k < xs.length by omega)
      rw [List.take_of_length_le (by omega)] at e0
      rw [at8, List.getD_eq_getElem?_getD, List.getElem?_eq_getElem (by omega)]
      exact e0
    have hx := (at8 xs k).toNat_lt
    generalize hx8 : at8 xs k = x at *
    rw [e, be_succ, numOf_push]
    have h1 : (numOf (xs.take k) * 256 + x.toNat) / 256 = numOf (xs.take k) := by omega
    have h2 : UInt8.ofNat (numOf (xs.take k) * 256 + x.toNat) = x := by
      apply UInt8.toNat_inj.1
      rw [UInt8.toNat_ofNat']
      omega
    rw [h1, h2, ih (xs.take k) (by simp <;> omega)]
/-- What unpacking makes of a field: what the letter doesn't need is nothing. -/
def canonV (c : UInt8) (v : V) : V := if c = 98 then (0, v.2) else (v.1, [])
theorem numOf_be_lt {n k : Nat} (h : n < 256 ^ k) : numOf (be n k) = n := numOf_be k n h
theorem enc_dec (c : UInt8) (v : V) (x y : List UInt8) (h : encV c v = some x) : decF c (x ++ y) = some (canonV c v, x.length) := by
  rcases letterW_cases c with hw | ⟨hw, rfl⟩ | ⟨w, hw, hc⟩
  · simp [encV, hw] at h
  · simp only [encV, hw] at h
    split at h
    · cases h
    · rename_i hl
      injection h with h
      subst h
      have h2 : (be v.2.length 2 ++ v.2 ++ y).take 2 = be v.2.length 2 := by
        rw [List.append_assoc, List.take_append_of_le_length (by rw [be_length]; omega), List.take_of_length_le (by rw [be_length]; omega)]
      have h3 : (be v.2.length 2 ++ v.2 ++ y).drop 2 = v.2 ++ y := by
        rw [List.append_assoc, List.drop_append_of_le_length (by rw [be_length]; omega), List.drop_of_length_le (by rw [be_length]; omega)]
        rfl
      simp only [decF, hw]
      rw [h2, h3, numOf_be_lt (by omega), if_neg (by simp [be_length] <;> omega), if_neg hl, if_neg (by simp [be_length] <;> omega)]
      simp [canonV, be_length]
  · simp only [encV, hw] at h
    split at h
    · rename_i hf
      injection h with h
      subst h
      have h2 : (be v.1 (w + 1) ++ y).take (w + 1) = be v.1 (w + 1) := by
        rw [List.take_append_of_le_length (by rw [be_length]; omega), List.take_of_length_le (by rw [be_length]; omega)]
      have hne : c ≠ 98 := by
        rintro rfl
        revert hw
        simp [letterW]
      simp only [decF, hw]
      rw [h2, numOf_be_lt hf, if_neg (by simp [be_length] <;> omega)]
      simp [canonV, be_length, hne]
    · cases h
theorem dec_more (c : UInt8) (b y : List UInt8) (v : V) (m : Nat) (h : decF c b = some (v, m)) : decF c (b ++ y) = some (v, m) ∧ m ≤ b.length := by
  rcases letterW_cases c with hw | ⟨hw, rfl⟩ | ⟨w, hw, hc⟩
  · simp [decF, hw] at h
  · simp only [decF, hw] at h ⊢
    by_cases h1 : b.length < 2
    · rw [if_pos h1] at h; cases h
    rw [if_neg h1] at h
    have e1 : (b ++ y).take 2 = b.take 2 := List.take_append_of_le_length (by omega)
    have e2 : (b ++ y).drop 2 = b.drop 2 ++ y := List.drop_append_of_le_length (by omega)
    by_cases h2 : 1024 < numOf (b.take 2)
    · rw [if_pos h2] at h; cases h
    rw [if_neg h2] at h
    by_cases h3 : b.length - 2 < numOf (b.take 2)
    · rw [if_pos h3] at h; cases h
    rw [if_neg h3] at h
    injection h with h
    injection h with hv hm
    rw [e1, e2, if_neg (by simp <;> omega), if_neg h2, if_neg (by simp <;> omega), List.take_append_of_le_length (by simp <;> omega), hv, hm]
    exact ⟨rfl, by omega⟩
  · simp only [decF, hw] at h ⊢
    by_cases h1 : b.length < w + 1
    · rw [if_pos h1] at h; cases h
    rw [if_neg h1] at h
    injection h with h
    injection h with hv hm
    rw [if_neg (by simp <;> omega), List.take_append_of_le_length (by omega), hv, hm]
    exact ⟨rfl, by omega⟩
theorem dec_enc (c : UInt8) (b : List UInt8) (v : V) (m : Nat) (h : decF c b = some (v, m)) : encV c v = some (b.take m) := by
  rcases letterW_cases c with hw | ⟨hw, rfl⟩ | ⟨w, hw, hc⟩
  · simp [decF, hw] at h
  · simp only [decF, hw] at h
    simp only [encV, hw]
    by_cases h1 : b.length < 2
    · rw [if_pos h1] at h; cases h
    rw [if_neg h1] at h
    by_cases h2 : 1024 < numOf (b.take 2)
    · rw [if_pos h2] at h; cases h
    rw [if_neg h2] at h
    by_cases h3 : b.length - 2 < numOf (b.take 2)
    · rw [if_pos h3] at h; cases h
    rw [if_neg h3] at h
    injection h with h
    injection h with hv hm
    have hl : v.2.length = numOf (b.take 2) := by rw [← hv]; simp; omega
    rw [hl, if_neg h2, ← hm, ← hv, be_numOf _ 2 (by simp <;> omega), List.take_add]
  · simp only [decF, hw] at h
    simp only [encV, hw]
    by_cases h1 : b.length < w + 1
    · rw [if_pos h1] at h; cases h
    rw [if_neg h1] at h
    injection h with h
    injection h with hv hm
    have hlt := numOf_lt b (w + 1)
    rw [← hv, ← hm]
    simp only
    rw [if_pos hlt, be_numOf _ (w + 1) (by simp <;> omega)]
/-- What unpacking makes of fields. -/
def canonL (sh : List UInt8) (vs : List V) : List V := List.zipWith canonV sh vs
theorem pack_un (sh : List UInt8) : ∀ (vs : List V) (x y : List UInt8), packL sh vs = some x → unL sh (x ++ y) = some (canonL sh vs, y) := by
  induction sh with
  | nil =>
    intro vs x y h
    match vs, h with
    | [], h =>
      simp only [packL] at h
      injection h with h
      subst h
      simp [unL, canonL]
  | cons c sh ih =>
    intro vs x y h
    match vs, h with
    | v :: vs, h =>
      simp only [packL] at h
      split at h
      · rename_i a b ha hb
        injection h with h
        subst h
        simp only [unL]
        rw [List.append_assoc, enc_dec c v a (b ++ y) ha]
        simp only [List.drop_left]
        rw [ih vs b y hb]
        simp [canonL]
      · cases h
theorem un_more (sh : List UInt8) : ∀ (b y : List UInt8) (l : List V) (r : List UInt8), unL sh b = some (l, r) → unL sh (b ++ y) = some (l, r ++ y) := by
  induction sh with
  | nil =>
    intro b y l r h
    simp only [unL] at h ⊢
    injection h with h
    injection h with h1 h2
    subst h1 h2
    rfl
  | cons c sh ih =>
    intro b y l r h
    simp only [unL] at h ⊢
    cases hd : decF c b with
    | none => rw [hd] at h; cases h
    | some vm =>
      obtain ⟨v, m⟩ := vm
      rw [hd] at h
      simp only at h
      obtain ⟨hd2, hm⟩ := dec_more c b y v m hd
      rw [hd2]
      simp only
      rw [List.drop_append_of_le_length hm]
      cases hu : unL sh (b.drop m) with
      | none => rw [hu] at h; cases h
      | some lr =>
        obtain ⟨l', r'⟩ := lr
        rw [hu] at h
        simp only at h
        injection h with h
        injection h with h1 h2
        rw [ih _ y _ _ hu, ← h1, ← h2]
theorem un_pack (sh : List UInt8) : ∀ (b : List UInt8) (l : List V) (r : List UInt8), unL sh b = some (l, r) → ∃ x, packL sh l = some x ∧ b = x ++ r := by
  induction sh with
  | nil =>
    intro b l r h
    simp only [unL] at h
    injection h with h
    injection h with h1 h2
    subst h1 h2
    exact ⟨[], rfl, rfl⟩
  | cons c sh ih =>
    intro b l r h
    simp only [unL] at h
    cases hd : decF c b with
    | none => rw [hd] at h; cases h
    | some vm =>
      obtain ⟨v, m⟩ := vm
      rw [hd] at h
      simp only at h
      cases hu : unL sh (b.drop m) with
      | none => rw [hu] at h; cases h
      | some lr =>
        obtain ⟨l', r'⟩ := lr
        rw [hu] at h
        simp only at h
        injection h with h
        injection h with h1 h2
        obtain ⟨x, hx, hb⟩ := ih _ _ _ hu
        refine ⟨b.take m ++ x, ?_, ?_⟩
        · rw [← h1]
          simp only [packL]
          rw [dec_enc c b v m hd, hx]
        · rw [List.append_assoc, ← h2, ← hb, List.take_append_drop]
theorem encF_eq (c : UInt8) (f : FieldD) : encF c f = encV c (f.num, f.bytes) := by
  unfold encF encV
  rfl
theorem take_at8 (sh : List UInt8) (k : Nat) (h : k < sh.length) : sh.take (k + 1) = sh.take k ++ [at8 sh k] := by
  rw [List.take_succ_eq_append_getElem h, at8, List.getD_eq_getElem?_getD, List.getElem?_eq_getElem h]
  rfl
theorem packTo_eq (sh : List UInt8) (l : List FieldD) (h : sh.length = l.length) : ∀ k, k ≤ l.length → packTo sh l k = packL (sh.take k) (vals (l.take k)) := by
  intro k
  induction k with
  | zero => intro _; rfl
  | succ k ih =>
    intro hk
    rw [packTo, ih (by omega), vals_take l k (by omega), take_at8 sh k (by omega), packL_append _ _ _ _ (by simp [vals]; omega), encF_eq]
    cases packL (sh.take k) (vals (l.take k)) with
    | none => rfl
    | some x =>
      simp only [packL]
      cases encV (at8 sh k) ((fieldAt l k).num, (fieldAt l k).bytes) with
      | none => rfl
      | some y => simp
theorem packM_iff (sh : List UInt8) (l : List FieldD) (x : List UInt8) : packM sh l = some x ↔ sh.length ≤ 200 ∧ sh.length = l.length ∧ packL sh (vals l) = some x := by
  unfold packM
  by_cases h : 200 < sh.length ∨ sh.length ≠ l.length
  · rw [if_pos h]
    constructor
    · intro e; cases e
    · rintro ⟨h1, h2, _⟩; omega
  · rw [if_neg h, packTo_eq sh l (by omega) _ (Nat.le_refl _), List.take_of_length_le (by omega), List.take_of_length_le (by omega)]
    constructor
    · intro e; exact ⟨by omega, by omega, e⟩
    · rintro ⟨_, _, e⟩; exact e
theorem packM_vals {l l' : List FieldD} (h : vals l = vals l') (sh : List UInt8) : packM sh l = packM sh l' := by
  have hl : l.length = l'.length := by have := congrArg List.length h; simpa [vals] using this
  apply Option.ext
  intro x
  rw [packM_iff, packM_iff, h, hl]
theorem unTo_eq (sh b : List UInt8) : ∀ k, k ≤ sh.length → match unL (sh.take k) b with
    | none => unTo sh b k = none
    | some (l, r) => ∃ p, unTo sh b k = some (l, p) ∧ r = b.drop p ∧ p ≤ b.length := by
  intro k
  induction k with
  | zero => intro _; exact ⟨0, rfl, rfl, Nat.zero_le _⟩
  | succ k ih =>
    intro hk
    have ih := ih (by omega)
    rw [take_at8 sh k (by omega), unL_append]
    cases hu : unL (sh.take k) b with
    | none =>
      rw [hu] at ih
      exact unTo_none ih _ (by omega)
    | some lr =>
      obtain ⟨l, r⟩ := lr
      rw [hu] at ih
      obtain ⟨p, h1, rfl, hp⟩ := ih
      rw [unTo_step h1]
      simp only [unL]
      cases hd : decF (at8 sh k) (b.drop p) with
      | none => rfl
      | some vm =>
        obtain ⟨v, m⟩ := vm
        have hm := (dec_more _ _ [] v m hd).2
        rw [List.length_drop] at hm
        exact ⟨p + m, rfl, by rw [List.drop_drop], by omega⟩
theorem unpackM_iff (sh b : List UInt8) (vs : List V) : unpackM sh b = some vs ↔ sh.length ≤ 200 ∧ unL sh b = some (vs, []) := by
  unfold unpackM
  by_cases h : 200 < sh.length
  · rw [if_pos h]
    constructor
    · intro e; cases e
    · rintro ⟨h1, _⟩; omega
  · rw [if_neg h]
    have hu := unTo_eq sh b sh.length (Nat.le_refl _)
    rw [List.take_of_length_le (Nat.le_refl _)] at hu
    cases e : unL sh b with
    | none =>
      rw [e] at hu
      rw [hu]
      constructor
      · intro e; cases e
      · rintro ⟨_, e⟩; cases e
    | some lr =>
      obtain ⟨l, r⟩ := lr
      rw [e] at hu
      obtain ⟨p, h1, rfl, hp⟩ := hu
      rw [h1]
      simp only
      by_cases hpe : p = b.length
      · rw [if_pos hpe]
        have hnil : b.drop p = [] := List.drop_of_length_le (by omega)
        rw [hnil]
        constructor
        · intro e; injection e with e; exact ⟨by omega, by rw [e]⟩
        · rintro ⟨_, e⟩; injection e with e; injection e with e; rw [e]
      · rw [if_neg hpe]
        constructor
        · intro e; cases e
        · rintro ⟨_, e⟩
          injection e with e
          injection e with _ e
          have := congrArg List.length e
          simp at this
          omega
theorem enc_len {c : UInt8} {v : V} {x : List UInt8} (h : encV c v = some x) : x.length ≤ 1026 := by
  rcases letterW_cases c with hw | ⟨hw, rfl⟩ | ⟨w, hw, hc⟩
  · simp [encV, hw] at h
  · simp only [encV, hw] at h
    split at h
    · cases h
    · injection h with h
      subst h
      simp [be_length]
      omega
  · simp only [encV, hw] at h
    split at h
    · injection h with h
      subst h
      rw [be_length]
      omega
    · cases h
theorem packL_len (sh : List UInt8) : ∀ (vs : List V) (x : List UInt8), packL sh vs = some x → x.length ≤ sh.length * 1026 := by
  induction sh with
  | nil =>
    intro vs x h
    match vs, h with
    | [], h =>
      simp only [packL] at h
      injection h with h
      subst h
      simp
  | cons c sh ih =>
    intro vs x h
    match vs, h with
    | v :: vs, h =>
      simp only [packL] at h
      split at h
      · rename_i a b ha hb
        injection h with h
        subst h
        have h1 := enc_len ha
        have h2 := ih _ _ hb
        simp
        omega
      · cases h
theorem pack_len {sh : List UInt8} {l : List FieldD} {x : List UInt8} (h : packM sh l = some x) : x.length ≤ 205200 := by
  obtain ⟨h1, _, h3⟩ := (packM_iff _ _ _).1 h
  have := packL_len _ _ _ h3
  omega
theorem canon_at {sh : List UInt8} {l lk : List FieldD} (hl : sh.length = l.length) (h : vals lk = canonL sh (vals l)) (k : Nat) (hk : k < l.length) : lk.length = l.length ∧ (fieldAt lk k).num = (canonV (at8 sh k) ((fieldAt l k).num, (fieldAt l k).bytes)).1 ∧ (fieldAt lk k).bytes = (canonV (at8 sh k) ((fieldAt l k).num, (fieldAt l k).bytes)).2 := by
  have hlen : lk.length = l.length := by
    have := congrArg List.length h
    simp only [vals, canonL, List.length_map, List.length_zipWith] at this
    omega
  have h1 : (vals lk)[k]? = (canonL sh (vals l))[k]? := by rw [h]
  have hs : sh[k]? = some (at8 sh k) := by rw [at8, List.getD_eq_getElem?_getD, List.getElem?_eq_getElem (by omega)]; rfl
  have e1 : (vals lk)[k]? = some ((fieldAt lk k).num, (fieldAt lk k).bytes) := by
    rw [fieldAt_get (by omega)]
    simp [vals, List.getElem?_eq_getElem (show k < lk.length by omega)]
  have e2 : (vals l)[k]? = some ((fieldAt l k).num, (fieldAt l k).bytes) := by
    rw [fieldAt_get hk]
    simp [vals, List.getElem?_eq_getElem hk]
  rw [e1, canonL, List.getElem?_zipWith, hs, e2] at h1
  simp only at h1
  injection h1 with h1
  rw [← h1]
  exact ⟨hlen, rfl, rfl⟩
/-- Packed fields are unpacked. -/
theorem back_of {sh : List UInt8} {l : List FieldD} {x : List UInt8} (h : packM sh l = some x) : unpackM sh x = some (canonL sh (vals l)) := by
  obtain ⟨h1, h2, h3⟩ := (packM_iff _ _ _).1 h
  refine (unpackM_iff _ _ _).2 ⟨h1, ?_⟩
  have := pack_un sh (vals l) x [] h3
  rwa [List.append_nil] at this
/-- Unpacked bytes are packed. -/
theorem forth_of {sh b : List UInt8} {l : List FieldD} (h : unpackM sh b = some (vals l)) : packM sh l = some b := by
  obtain ⟨h1, h2⟩ := (unpackM_iff _ _ _).1 h
  obtain ⟨x, hx, hb⟩ := un_pack sh _ _ _ h2
  have hlen : ∀ (sh : List UInt8) (vs : List V) (x : List UInt8), packL sh vs = some x → sh.length = vs.length := by
    intro sh
    induction sh with
    | nil =>
      intro vs x h
      match vs, h with
      | [], _ => rfl
    | cons c sh ih =>
      intro vs x h
      match vs, h with
      | v :: vs, h =>
        simp only [packL] at h
        split at h
        · rename_i a b ha hb
          simp [ih _ _ hb]
        · cases h
  refine (packM_iff _ _ _).2 ⟨h1, ?_, ?_⟩
  · have := hlen _ _ _ hx
    simpa [vals] using this
  · rw [hb, List.append_nil]
    exact hx
/-- More bytes behind, or too few: refused. -/
theorem more_none {sh : List UInt8} {l : List FieldD} {x : List UInt8} (h : packM sh l = some x) (y : List UInt8) (hy : y ≠ []) : unpackM sh (x ++ y) = none := by
  obtain ⟨h1, h2, h3⟩ := (packM_iff _ _ _).1 h
  cases e : unpackM sh (x ++ y) with
  | none => rfl
  | some vs =>
    obtain ⟨_, h4⟩ := (unpackM_iff _ _ _).1 e
    rw [pack_un sh _ x y h3] at h4
    injection h4 with h4
    injection h4 with _ h4
    exact absurd h4 hy
theorem less_none {sh : List UInt8} {l : List FieldD} {x : List UInt8} (h : packM sh l = some x) (k : Nat) (hk : k < x.length) : unpackM sh (x.take k) = none := by
  obtain ⟨h1, h2, h3⟩ := (packM_iff _ _ _).1 h
  cases e : unpackM sh (x.take k) with
  | none => rfl
  | some vs =>
    obtain ⟨_, h4⟩ := (unpackM_iff _ _ _).1 e
    have h5 := un_more sh _ (x.drop k) _ _ h4
    rw [List.take_append_drop, List.nil_append] at h5
    have h6 := pack_un sh _ x [] h3
    rw [List.append_nil, h5] at h6
    injection h6 with h6
    injection h6 with _ h6
    have := congrArg List.length h6
    simp at this
    omega
/-- Packed in two parts. -/
theorem join_of {sh : List UInt8} {l : List FieldD} {x y : List UInt8} {k : Nat} (hl : sh.length = l.length) (hk : k ≤ l.length) (h1 : packM (sh.take k) (l.take k) = some x) (h2 : packM (sh.drop k) (l.drop k) = some y) (h200 : l.length ≤ 200) : packM sh l = some (x ++ y) := by
  obtain ⟨_, _, h1⟩ := (packM_iff _ _ _).1 h1
  obtain ⟨_, _, h2⟩ := (packM_iff _ _ _).1 h2
  refine (packM_iff _ _ _).2 ⟨by omega, hl, ?_⟩
  have h := packL_append (sh.take k) (vals (l.take k)) (sh.drop k) (vals (l.drop k)) (by simp [vals]; omega)
  rw [h1, h2] at h
  have e : vals (l.take k) ++ vals (l.drop k) = vals l := by
    unfold vals
    rw [← List.map_append, List.take_append_drop]
  rw [List.take_append_drop, e] at h
  exact h
theorem join_none {sh : List UInt8} {l : List FieldD} {k : Nat} (hl : sh.length = l.length) (hk : k ≤ l.length) (h : packM (sh.take k) (l.take k) = none ∨ packM (sh.drop k) (l.drop k) = none ∨ 200 < l.length) : packM sh l = none := by
  cases e : packM sh l with
  | none => rfl
  | some z =>
    obtain ⟨h1, h2, h3⟩ := (packM_iff _ _ _).1 e
    have h4 := packL_append (sh.take k) (vals (l.take k)) (sh.drop k) (vals (l.drop k)) (by simp [vals]; omega)
    have e2 : vals (l.take k) ++ vals (l.drop k) = vals l := by
      unfold vals
      rw [← List.map_append, List.take_append_drop]
    rw [List.take_append_drop, e2, h3] at h4
    rcases h with h | h | h
    · cases e3 : packL (sh.take k) (vals (l.take k)) with
      | none => rw [e3] at h4; cases h4
      | some x =>
        have := (packM_iff (sh.take k) (l.take k) x).2 ⟨by simp; omega, by simp; omega, e3⟩
        rw [this] at h; cases h
    · cases e3 : packL (sh.drop k) (vals (l.drop k)) with
      | none =>
        rw [e3] at h4
        cases e5 : packL (sh.take k) (vals (l.take k)) <;> rw [e5] at h4 <;> cases h4
      | some x =>
        have := (packM_iff (sh.drop k) (l.drop k) x).2 ⟨by simp; omega, by simp; omega, e3⟩
        rw [this] at h; cases h
    · omega
end Go.Proofs.Ytlofiinpgkclgaa

/- Labels as bytes: what they say; a label's box. -/
namespace Go.Proofs.Ytlofiinpgkclgaa
open Go.RowKit

/-- The k-th category of a label's bytes. -/
def catOf (bs : List UInt8) (k : Nat) : CatD := ⟨numOf ((bs.drop (1 + 9 * k)).take 8), ((at8 bs (9 + 9 * k)).toNat : Int)⟩
/-- The first q categories. -/
def catsOf (bs : List UInt8) (q : Nat) : List CatD := (List.range q).map (catOf bs)
/-- The label of bytes. -/
def labOf (bs : List UInt8) : LabD := ⟨((at8 bs 0).toNat : Int), catsOf bs (bs.length / 9)⟩
theorem catsOf_succ (bs : List UInt8) (q : Nat) : catsOf bs (q + 1) = catsOf bs q ++ [catOf bs q] := by simp [catsOf, List.range_succ]
theorem catsOf_length (bs : List UInt8) (q : Nat) : (catsOf bs q).length = q := by simp [catsOf]
/-- Categories as cells. -/
def ccells (l : List CatD) : List Value := l.flatMap fun c => [.int .u64 c.id, .int .i64 c.lev]
theorem ccells_length (l : List CatD) : (ccells l).length = l.length * 2 := by
  induction l with
  | nil => rfl
  | cons x l ih =>
    simp only [ccells, List.flatMap_cons, List.length_append, List.length_cons, List.length_nil] at ih ⊢
    omega
theorem ccells_push (l : List CatD) (c : CatD) : ccells (l ++ [c]) = ccells l ++ [.int .u64 c.id, .int .i64 c.lev] := by simp [ccells]
theorem ccells_get (l : List CatD) (k : Nat) (h : k < l.length) : (ccells l)[k * 2]? = some (.int .u64 ((atC l k).id : Nat)) ∧ (ccells l)[k * 2 + 1]? = some (.int .i64 (atC l k).lev) := by
  have ea : atC l k = l[k] := by simp [atC, List.getD_eq_getElem?_getD, h]
  have e : ccells l = ccells (l.take k) ++ ([.int .u64 ((atC l k).id : Nat), .int .i64 (atC l k).lev] ++ ccells (l.drop (k + 1))) := by
    have e0 : l = l.take k ++ atC l k :: l.drop (k + 1) := by
      rw [ea, List.getElem_cons_drop, List.take_append_drop]
    conv => lhs; rw [e0]
    simp [ccells]
  have hl : (ccells (l.take k)).length = k * 2 := by rw [ccells_length, List.length_take]; congr 1; omega
  rw [e]
  constructor
  · rw [List.getElem?_append_right (by omega), hl, Nat.sub_self]; rfl
  · rw [List.getElem?_append_right (by omega), hl, Nat.add_sub_cancel_left]; rfl
/-- A row of categories of one's own is read. -/
theorem own_rcats {w : World} {base n : Nat} {v : Value} {l : List CatD} (h : w.ownsRow base 65 2 v n (ccells l)) : ∃ A c, v = .slice A n c ∧ RCats w A n c l := by
  have hl : l.length = n := by have := h.1; rw [ccells_length] at this; omega
  rcases h.2 with ⟨rfl, rfl⟩ | ⟨g, cap, cur, rfl, _, hh, hnc, hcm, _⟩
  · exact ⟨none, 0, rfl, hl, Nat.le_refl _, by omega, fun hp => absurd hp (by omega)⟩
  · refine ⟨_, cap, rfl, hl, hnc, by simpa [maxLen] using hcm, fun _ => ⟨g, 0, rfl, fun k hk => ?_⟩⟩
    obtain ⟨h1, h2⟩ := ccells_get l k (by omega)
    have g1 := h.cells (g := g) rfl _ _ h1
    have g2 := h.cells (g := g) rfl _ _ h2
    rw [add_none] at g1 g2
    exact ⟨g1, g2⟩
/-- A piece's fields. -/
theorem un_81 (p : List UInt8) (hp : p.length = 9) : unpackM [56, 49] p = some [(numOf (p.take 8), []), (((at8 p 8).toNat), [])] := by
  refine (unpackM_iff _ _ _).2 ⟨by decide, ?_⟩
  have h1 : letterW 56 = some 8 := rfl
  have h2 : letterW 49 = some 1 := rfl
  have hd : (p.drop 8) = [at8 p 8] := by
    apply List.ext_getElem
    · simp [hp]
    · intro i h3 h4
      have : i = 0 := by simpa using h4
      subst this
      simp [at8, List.getD_eq_getElem?_getD, hp]
  simp [unL, decF, h1, h2, hp, hd, numOf]
theorem piece_bytes (bs : List UInt8) (k : Nat) (h : 9 * k + 10 ≤ bs.length) : unpackM [56, 49] (((bs.drop 1).drop (9 * k)).take 9) = some [((catOf bs k).id, []), ((at8 bs (9 + 9 * k)).toNat, [])] := by
  rw [un_81 _ (by simp; omega)]
  have e1 : ((((bs.drop 1).drop (9 * k)).take 9).take 8) = (bs.drop (1 + 9 * k)).take 8 := by
    rw [List.take_take, List.drop_drop]; rfl
  have e2 : at8 (((bs.drop 1).drop (9 * k)).take 9) 8 = at8 bs (9 + 9 * k) := by
    simp only [at8, List.getD_eq_getElem?_getD, List.getElem?_take, List.getElem?_drop]
    rw [if_pos (by omega)]
    congr 2
    omega
  rw [e1, e2]
  rfl

/-- Block B is a struct of two cells. -/
def Box2 (W : World) (B : Nat) (t : TypeId) (u v : Value) : Prop := W.heap[B]? = some (.cells #[u, v] t (0, 0))
section
variable {W : World} {B : Nat} {t : TypeId} {u v : Value}
theorem Box2.lt (h : Box2 W B t u v) : B < W.heap.size := (Array.getElem?_eq_some_iff.1 h).1
theorem Box2.cell0 (h : Box2 W B t u v) : W.cell? ⟨B, 0, none⟩ = some u := by simp [World.cell?, show W.heap[B]? = _ from h]
theorem Box2.cell1 (h : Box2 W B t u v) : W.cell? ⟨B, 1, none⟩ = some v := by simp [World.cell?, show W.heap[B]? = _ from h]
theorem Box2.frozen (h : Box2 W B t u v) (j : Nat) : W.frozen? ⟨B, j, none⟩ = false := frozen_of_row W B j _ _ h
theorem Box2.new (W : World) (t : TypeId) (u v : Value) : Box2 (W.alloc (.cells #[u, v] t)) W.heap.size t u v := World.alloc_heap_new W _
theorem Box2.kept {W' : World} {row : Option Nat} (h : Box2 W B t u v) (hg : W.grownBy W' row) (hne : some B ≠ row) : Box2 W' B t u v := (hg.block B h.lt hne).trans h
theorem Box2.below {W' : World} {n : Nat} (h : Box2 W B t u v) (hb : Below n W W') (hn : B < n) : Box2 W' B t u v := (hb.block B hn).trans h
theorem Box2.alloc (h : Box2 W B t u v) (o : Obj) : Box2 (W.alloc o) B t u v := h.kept (World.grownBy_alloc W o none) (by simp)
theorem Box2.set0 (x : Value) (h : Box2 W B t u v) : Box2 (W.setCell ⟨B, 0, none⟩ x) B t x v := by
  obtain ⟨hlt, hk⟩ := Array.getElem?_eq_some_iff.1 h
  show (W.heap.modify B _)[B]? = _
  rw [Array.getElem?_eq_getElem (by rw [Array.size_modify]; exact hlt), Array.getElem_modify_self, hk]
  rfl
theorem Box2.set1 (x : Value) (h : Box2 W B t u v) : Box2 (W.setCell ⟨B, 1, none⟩ x) B t u x := by
  obtain ⟨hlt, hk⟩ := Array.getElem?_eq_some_iff.1 h
  show (W.heap.modify B _)[B]? = _
  rw [Array.getElem?_eq_getElem (by rw [Array.size_modify]; exact hlt), Array.getElem_modify_self, hk]
  rfl
theorem Box2.not_row (h : Box2 W B t u v) {e : TypeId} (hte : t ≠ e) {base size k : Nat} {x : Value} {xs : List Value} (hr : W.ownsRow base e size x k xs) : some B ≠ x.ownBlock := by
  rcases hr.2 with ⟨rfl, _⟩ | ⟨g, cap, cur, rfl, _, hgb, _⟩
  · simp [Value.ownBlock]
  · intro e'
    obtain rfl : B = g := by simpa [Value.ownBlock] using e'
    have := (show W.heap[B]? = _ from h).symm.trans hgb
    simp at this
    exact hte this.2
end
theorem grownBy_set (W : World) (b j : Nat) (v : Value) : W.grownBy (W.setCell ⟨b, j, none⟩ v) (some b) :=
  ⟨rfl, rfl, rfl, (KeepsWalks.setCell W _ v).size, fun k _ hk => Below.heap_setCell _ _ _ k (fun e => hk (by rw [e]))⟩
/-- 'The box holds a slice that owns ..' speaks of cells alone. -/
theorem holds2_own {β : Type} (n₀ B : Nat) (t e : TypeId) (u : Value) (size : Nat) (k : β → Nat) (f : β → List Value) (G : β → Prop) : Own (fun s W => ∃ v, Box2 W B t u v ∧ W.ownsRow n₀ e size v (k s) (f s) ∧ G s) := by
  rintro s X Y row ⟨v, hv, hr, hG⟩ hg hrow
  refine ⟨v, hv.kept hg (fun e' => ?_), hr.kept hg ?_, hG⟩
  · obtain ⟨o, ho, hc⟩ := hrow B e'.symm
    rw [show X.heap[B]? = _ from hv] at ho; cases ho; cases hc
  · rcases hr.2 with ⟨rfl, _⟩ | ⟨g, cap, cur, rfl, _, hgb, _⟩
    · exact .inl rfl
    · refine .inr fun e' => ?_
      obtain ⟨o, ho, hc⟩ := hrow g (by simpa [Value.ownBlock] using e'.symm)
      rw [hgb] at ho; cases ho; cases hc
/-- 'l.Cats = append(l.Cats, ..)': what is owed behind it (the row lies at or beyond n₁, the box at or beyond n₀). -/
theorem Box2.appended' {W w1 : World} {n₀ n₁ B : Nat} {t e : TypeId} {size : Nat} {u v v' : Value} {k m : Nat} {xs ys : List Value} {tmp : Obj}
    (hv : Box2 W B t u v) (hte : t ≠ e) (hrow : W.ownsRow n₁ e size v k xs) (h01 : n₀ ≤ n₁) (hn₀ : n₀ ≤ W.heap.size) (hB : n₀ ≤ B)
    (hown' : w1.ownsRow n₁ e size v' m ys) (hgrow : (W.alloc tmp).grownBy w1 v.ownBlock) :
    Box2 w1 B t u v ∧ Box2 (w1.setCell ⟨B, 1, none⟩ v') B t u v' ∧ (w1.setCell ⟨B, 1, none⟩ v').ownsRow n₁ e size v' m ys ∧ KeepsOthers W (w1.setCell ⟨B, 1, none⟩ v') ∧ Below n₀ W (w1.setCell ⟨B, 1, none⟩ v') := by
  have hv1 : Box2 w1 B t u v := (hv.alloc tmp).kept hgrow (hv.not_row hte hrow)
  refine ⟨hv1, hv1.set1 v', hown'.kept (grownBy_set w1 B 1 v') (.inr (hv1.not_row hte hown').symm), ?_, ?_⟩
  · refine ((KeepsOthers.alloc W tmp).trans (KeepsOthers.of_grownBy hgrow fun j o ej hj => ?_)).trans (KeepsOthers.setCell _ _ _)
    rcases (hrow.alloc tmp).2 with ⟨rfl, _⟩ | ⟨g, cap, cur, rfl, _, hgb, _⟩
    · simp [Value.ownBlock] at ej
    · obtain rfl : g = j := by simpa [Value.ownBlock] using ej
      rw [hgb] at hj; cases hj; rfl
  · refine (((Below.refl n₀ W).alloc hn₀ tmp).grown hgrow (by simp; omega) fun j ej => ?_).setCell (p := ⟨B, 1, none⟩) hB v'
    rcases hrow.2 with ⟨rfl, _⟩ | ⟨g, cap, cur, rfl, hb, _, _⟩
    · simp [Value.ownBlock] at ej
    · obtain rfl : g = j := by simpa [Value.ownBlock] using ej
      omega
/-- What changes nothing that lay changes nothing that is no cells. -/
theorem keeps_of_below {W W' : World} (h : Below W.heap.size W W') : KeepsOthers W W' :=
  ⟨h.size, fun k o hk _ => (h.block k (Array.getElem?_eq_some_iff.1 hk).1).trans hk⟩
/-- slices.Chunk, whatever the slice's start where there is nothing. -/
theorem chunk_any (n : Nat) (hn : 1 ≤ n) (Bs Bm b off q cap : Nat) (A : Option Addr) (hA : 0 < q → A = some ⟨b, off, none⟩ ∧ 9 * q ≤ cap) (hcap2 : cap ≤ 9223372036854775807) (w : World) (hBs0 : Bs < w.heap.size) (hBm0 : Bm < w.heap.size)
    (hBs : w.cell? ⟨Bs, 0, none⟩ = some (.slice A ((9 * q : Nat)) cap)) (hBm : w.cell? ⟨Bm, 0, none⟩ = some (.int .i64 9)) :
    SeqStopsK Fence.wide n Try.prog 42 #[.pointer (some ⟨Bs, 0, none⟩), .pointer (some ⟨Bm, 0, none⟩)] (fun x : Fin q => #[piece9 b off x.1]) (KC Bs Bm) (fun ys => ys.map (·.1) = List.range q) (fun pre => ∃ k, k ≤ q ∧ pre.map (·.1) = List.range k) q w := by
  rcases Nat.eq_zero_or_pos q with rfl | hq
  · intro l J Jx W hW hJ _ hY h0
    have hBs' := (hW.cell (p := ⟨Bs, 0, none⟩) hBs0).trans hBs
    refine (chunk0_in Fence.wide n trivial rfl l Bs Bm A cap (J []) W hBs' h0).mono ?_
    rintro e W' ⟨he, hj⟩
    exact ⟨he, .inl ⟨[], rfl, hj⟩⟩
  · obtain ⟨rfl, hc⟩ := hA hq
    exact chunk_stops n hn Bs Bm b off q cap hc hcap2 w hBs0 hBm0 hBs hBm
end Go.Proofs.Ytlofiinpgkclgaa

/- The reference's Number. -/
namespace Go.Proofs.Ytlofiinpgkclgaa
open Go.RowKit

theorem made_zeros (m : Nat) : (madeCells (Value.int .u8 0).cells (m * 1)).toList = bv (List.replicate m 0) := by
  apply List.ext_getElem
  · simp [madeCells, bv_length]
  · intro i h1 h2
    simp [madeCells, Value.cells, bv, Nat.mod_one]
theorem be_set (n wd j : Nat) (h : j < wd) : (List.replicate (j + 1) 0 ++ (be n wd).drop (j + 1)).set j (UInt8.ofNat (n / 256 ^ (wd - (j + 1)))) = List.replicate j 0 ++ (be n wd).drop j := by
  have e : (be n wd).drop j = UInt8.ofNat (n / 256 ^ (wd - (j + 1))) :: (be n wd).drop (j + 1) := by
    rw [List.drop_eq_getElem_cons (by rw [be_length]; exact h)]
    congr 1
    simp only [be, List.getElem_map, List.getElem_range]
    congr 3
    omega
  rw [e, List.replicate_succ', List.append_assoc, List.set_append_right _ _ (by simp)]
  simp
theorem byte_mod (n : Nat) : (n : Int) % 256 = ((UInt8.ofNat n).toNat : Int) := by
  simp
theorem div_step (n wd j : Nat) (h : j < wd) : (((n / 256 ^ (wd - (j + 1)) : Nat) : Int)) / 256 = ((n / 256 ^ (wd - j) : Nat) : Int) := by
  have e : wd - j = (wd - (j + 1)) + 1 := by omega
  rw [e, Nat.pow_succ, ← Nat.div_div_eq_div_mul]
  simp

set_option maxRecDepth 20000 in
set_option maxHeartbeats 1600000 in
theorem ref02_Number (n wd : Nat) (hn : n < 18446744073709551616) (hw1 : 1 ≤ wd) (hw8 : wd ≤ 8) (w : World) :
    Calls Try.prog 31 #[.int .u64 n, .int .i64 wd] w fun e w' => ∃ v, e = .returned (.tuple #[v, .bool (decide (n < 256 ^ wd))]) ∧ w'.ownsRow w.heap.size 5 1 v wd (bv (be n wd)) ∧ Below w.heap.size w w' := by
  obtain ⟨i0, hi0, hz0, hz1, hz2⟩ := info_parts Try.infoU8'
  have HI := Lib.hid hi0; have HI0 := Lib.hid hz0; have HI1 := Lib.hid hz1; have HI2 := Lib.hid hz2
  have HN := Lib.hid hn
  clear hi0 hz0 hz1 hz2 hn
  go_enter Try.func31, Try.ntmps31
  go_wp2_with (at_make; refine wpList_make_full _ rfl _ _ 27 rfl w.heap.size 5 i0 _ 1 Try.underlying27 HI.out HI0.out HI1.out .i64 .i64 _ _ wd rfl rfl (by omega) (by omega) (by rw [HI2.out]; omega) (by unfold maxLen; omega) (Nat.le_refl _) ?_; intro w1 hown hg)
  rw [made_zeros] at hown
  have hb1 : Below w.heap.size w w1 := (Below.refl _ _).grown hg (Nat.le_refl _) (fun k hk => by cases hk)
  have HO := Lib.hid hown; have HB := Lib.hid hb1
  clear hown hg hb1
  go_loopw [0, 7] (fun u i wr => ∃ r : Nat, r ≤ wd ∧ i = .int .i64 ((r : Int) - 1) ∧ u = .int .u64 ((n / 256 ^ (wd - r) : Nat) : Int) ∧ Hid (wr.ownsRow w.heap.size 5 1 (.slice (some ⟨w.heap.size, 0, none⟩) wd wd) wd (bv (List.replicate r 0 ++ (be n wd).drop r))) ∧ Hid (Below w.heap.size w wr)) (fun _ i _ => (intOf i + 1).toNat)
  case atStart => exact ⟨wd, Nat.le_refl _, rfl, by simp, by simpa [List.drop_of_length_le, be_length] using HO, HB⟩
  case round =>
    obtain ⟨r, hr, rfl, rfl, HV, HBR⟩ := hrel
    cases r with
    | succ j =>
      have e : (((j + 1 : Nat) : Int) - 1) = (j : Int) := by omega
      rw [e]
      clear e
      have hj0 : (0 : Int) ≤ (j : Int) := Int.natCast_nonneg _
      have hj8 : (j : Int) < (wd : Int) := by omega
      obtain ⟨hcell, hfz, hset⟩ := own_at8 HV.out j (by omega)
      have hs := hset (UInt8.ofNat (n / 256 ^ (wd - (j + 1))))
      rw [be_set n wd j (by omega), ← byte_mod] at hs
      have HS := Lib.hid hs
      have hdv := div_step n wd j (by omega)
      have hq0 : (0 : Int) ≤ ((n / 256 ^ (wd - (j + 1)) : Nat) : Int) := Int.natCast_nonneg _
      have hq1 : ((n / 256 ^ (wd - (j + 1)) : Nat) : Int) < 18446744073709551616 := by
        have := Nat.div_le_self n (256 ^ (wd - (j + 1)))
        have := HN.out
        omega
      have HD := Lib.hid hdv
      clear hset hs hdv
      generalize hq : n / 256 ^ (wd - (j + 1)) = q at *
      have HBS : Hid (Below w.heap.size w (wr.setCell ⟨w.heap.size, j, none⟩ (.int .u8 ((q : Int) % 256)))) := Lib.hid (HBR.out.setCell (Nat.le_refl _) _)
      go_wp2_with fail
      go_roundw
      case rel => exact ⟨j, by omega, rfl, by rw [HD.out], HS, HBS⟩
      case measure => simp [intOf]
    | zero =>
      have eq0 : (((n : Int) / 256 ^ wd) == 0) = decide (n < 256 ^ wd) := by
        have e : (n : Int) / 256 ^ wd = ((n / 256 ^ wd : Nat) : Int) := by simp
        rw [e]
        by_cases h : n < 256 ^ wd
        · rw [Nat.div_eq_of_lt h, decide_eq_true h]; rfl
        · rw [decide_eq_false h, beq_eq_false_iff_ne]
          have : 0 < n / 256 ^ wd := Nat.div_pos (by omega) (Nat.pow_pos (by decide))
          omega
      go_wp2_with fail
      go_ret2
      exact ⟨_, rfl, by simpa using HV.out, HBR.out⟩
end Go.Proofs.Ytlofiinpgkclgaa
