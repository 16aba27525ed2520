/- The plain laws of packing and unpacking; no program in sight. -/
import Derived.Test.YtgakajofggmbjaaMg9
import Derived.Test.YtgakajofggmbjaaMg5
import Derived.Test.YtgakajofggmbjaaMg1
import Derived.Test.YtgakajofggmbjaaMg3
namespace Go.Proofs.Ytgakajofggmbjaa

abbrev V := Nat × List UInt8
def encV (c : UInt8) (v : V) : Option (List UInt8) :=
  match letterW c with
  | none => none
  | some 0 => if 1024 < v.2.length then none else some (be v.2.length 2 ++ v.2)
  | some (w + 1) => if v.1 < 256 ^ (w + 1) then some (be v.1 (w + 1)) else none
/-- Packing, letter by letter. -/
def packL : List UInt8 → List V → Option (List UInt8)
  | [], [] => some []
  | c :: sh, v :: vs => match encV c v, packL sh vs with
    | some x, some y => some (x ++ y)
    | _, _ => none
  | _, _ => none
def unL : List UInt8 → List UInt8 → Option (List V × List UInt8)
  | [], b => some ([], b)
  | c :: sh, b => match decF c b with
    | none => none
    | some (v, m) => match unL sh (b.drop m) with
      | none => none
      | some (l, r) => some (v :: l, r)
theorem packL_append (sh1 : List UInt8) : ∀ (vs1 : List V) (sh2 : List UInt8) (vs2 : List V), sh1.length = vs1.length →
    packL (sh1 ++ sh2) (vs1 ++ vs2) = match packL sh1 vs1, packL sh2 vs2 with
      | some x, some y => some (x ++ y)
      | _, _ => none := by
  induction sh1 with
  | nil =>
    intro vs1 sh2 vs2 h
    obtain rfl : vs1 = [] := List.eq_nil_of_length_eq_zero h.symm
    simp only [List.nil_append, packL]
    cases packL sh2 vs2 <;> simp
  | cons c sh1 ih =>
    intro vs1 sh2 vs2 h
    match vs1, h with
    | v :: vs1, h =>
      simp only [List.cons_append, packL]
      rw [ih vs1 sh2 vs2 (by simpa using h)]
      cases encV c v with
      | none => rfl
      | some x => cases packL sh1 vs1 with
        | none => rfl
        | some y => cases packL sh2 vs2 with
          | none => rfl
          | some z => simp
theorem unL_append (sh1 : List UInt8) : ∀ (sh2 b : List UInt8), unL (sh1 ++ sh2) b = match unL sh1 b with
      | none => none
      | some (l, r) => match unL sh2 r with
        | none => none
        | some (l', r') => some (l ++ l', r') := by
  induction sh1 with
  | nil =>
    intro sh2 b
    simp only [List.nil_append, unL]
    cases unL sh2 b with
    | none => rfl
    | some x => rfl
  | cons c sh1 ih =>
    intro sh2 b
    simp only [List.cons_append, unL]
    cases decF c b with
    | none => rfl
    | some x =>
      obtain ⟨v, m⟩ := x
      simp only [ih]
      cases unL sh1 (b.drop m) with
      | none => rfl
      | some y =>
        obtain ⟨l, r⟩ := y
        simp only
        cases unL sh2 r with
        | none => rfl
        | some z => rfl
theorem be_succ (n k : Nat) : be n (k + 1) = be (n / 256) k ++ [UInt8.ofNat n] := by
  unfold be
  rw [List.range_succ, List.map_append]
  congr 1
  · apply List.map_congr_left
    intro j hj
    have hj : j < k := by simpa using hj
    rw [Nat.div_div_eq_div_mul, show k + 1 - 1 - j = (k - 1 - j) + 1 by omega, Nat.pow_succ, Nat.mul_comm]
  · simp
theorem numOf_be (k : Nat) : ∀ n, n < 256 ^ k → numOf (be n k) = n := by
  induction k with
  | zero =>
    intro n h
    have : n = 0 := by simpa using h
    subst this
    rfl
  | succ k ih =>
    intro n h
    rw [be_succ, numOf_push, ih (n / 256) (by rw [Nat.pow_succ] at h; exact Nat.div_lt_of_lt_mul (by rw [Nat.mul_comm]; exact h)), UInt8.toNat_ofNat']
    omega
theorem be_numOf (xs : List UInt8) : ∀ k, xs.length = k → be (numOf xs) k = xs := by
  intro k
  induction k generalizing xs with
  | zero =>
    intro h
    rw [List.eq_nil_of_length_eq_zero h]
    rfl
  | succ k ih =>
    intro h
    have e : xs = xs.take k ++ [at8 xs k] := by
      have e0 := List.take_succ_eq_append_getElem (show k < xs.length by omega)
      rw [List.take_of_length_le (by omega)] at e0
      rw [at8, List.getD_eq_getElem?_getD, List.getElem?_eq_getElem (by omega)]
      exact e0
    have hx := (at8 xs k).toNat_lt
    generalize hx8 : at8 xs k = x at *
    rw [e, be_succ, numOf_push]
    have h1 : (numOf (xs.take k) * 256 + x.toNat) / 256 = numOf (xs.take k) := by omega
    have h2 : UInt8.ofNat (numOf (xs.take k) * 256 + x.toNat) = x := by
      apply UInt8.toNat_inj.1
      rw [UInt8.toNat_ofNat']
      omega
    rw [h1, h2, ih (xs.take k) (by simp <;> omega)]
/-- What unpacking makes of a field: what the letter doesn't need is nothing. -/
def canonV (c : UInt8) (v : V) : V := if c = 98 then (0, v.2) else (v.1, [])
theorem numOf_be_lt {n k : Nat} (h : n < 256 ^ k) : numOf (be n k) = n := numOf_be k n h
theorem enc_dec (c : UInt8) (v : V) (x y : List UInt8) (h : encV c v = some x) : decF c (x ++ y) = some (canonV c v, x.length) := by
  rcases letterW_cases c with hw | ⟨hw, rfl⟩ | ⟨w, hw, hc⟩
  · simp [encV, hw] at h
  · simp only [encV, hw] at h
    split at h
    · cases h
    · rename_i hl
      injection h with h
      subst h
      have h2 : (be v.2.length 2 ++ v.2 ++ y).take 2 = be v.2.length 2 := by
        rw [List.append_assoc, List.take_append_of_le_length (by rw [be_length]; omega), List.take_of_length_le (by rw [be_length]; omega)]
      have h3 : (be v.2.length 2 ++ v.2 ++ y).drop 2 = v.2 ++ y := by
        rw [List.append_assoc, List.drop_append_of_le_length (by rw [be_length]; omega), List.drop_of_length_le (by rw [be_length]; omega)]
        rfl
      simp only [decF, hw]
      rw [h2, h3, numOf_be_lt (by omega), if_neg (by simp [be_length] <;> omega), if_neg hl, if_neg (by simp [be_length] <;> omega)]
      simp [canonV, be_length]
  · simp only [encV, hw] at h
    split at h
    · rename_i hf
      injection h with h
      subst h
      have h2 : (be v.1 (w + 1) ++ y).take (w + 1) = be v.1 (w + 1) := by
        rw [List.take_append_of_le_length (by rw [be_length]; omega), List.take_of_length_le (by rw [be_length]; omega)]
      have hne : c ≠ 98 := by
        rintro rfl
        revert hw
        simp [letterW]
      simp only [decF, hw]
      rw [h2, numOf_be_lt hf, if_neg (by simp [be_length] <;> omega)]
      simp [canonV, be_length, hne]
    · cases h
theorem dec_more (c : UInt8) (b y : List UInt8) (v : V) (m : Nat) (h : decF c b = some (v, m)) : decF c (b ++ y) = some (v, m) ∧ m ≤ b.length := by
  rcases letterW_cases c with hw | ⟨hw, rfl⟩ | ⟨w, hw, hc⟩
  · simp [decF, hw] at h
  · simp only [decF, hw] at h ⊢
    by_cases h1 : b.length < 2
    · rw [if_pos h1] at h; cases h
    rw [if_neg h1] at h
    have e1 : (b ++ y).take 2 = b.take 2 := List.take_append_of_le_length (by omega)
    have e2 : (b ++ y).drop 2 = b.drop 2 ++ y := List.drop_append_of_le_length (by omega)
    by_cases h2 : 1024 < numOf (b.take 2)
    · rw [if_pos h2] at h; cases h
    rw [if_neg h2] at h
    by_cases h3 : b.length - 2 < numOf (b.take 2)
    · rw [if_pos h3] at h; cases h
    rw [if_neg h3] at h
    injection h with h
    injection h with hv hm
    rw [e1, e2, if_neg (by simp <;> omega), if_neg h2, if_neg (by simp <;> omega), List.take_append_of_le_length (by simp <;> omega), hv, hm]
    exact ⟨rfl, by omega⟩
  · simp only [decF, hw] at h ⊢
    by_cases h1 : b.length < w + 1
    · rw [if_pos h1] at h; cases h
    rw [if_neg h1] at h
    injection h with h
    injection h with hv hm
    rw [if_neg (by simp <;> omega), List.take_append_of_le_length (by omega), hv, hm]
    exact ⟨rfl, by omega⟩
theorem dec_enc (c : UInt8) (b : List UInt8) (v : V) (m : Nat) (h : decF c b = some (v, m)) : encV c v = some (b.take m) := by
  rcases letterW_cases c with hw | ⟨hw, rfl⟩ | ⟨w, hw, hc⟩
  · simp [decF, hw] at h
  · simp only [decF, hw] at h
    simp only [encV, hw]
    by_cases h1 : b.length < 2
    · rw [if_pos h1] at h; cases h
    rw [if_neg h1] at h
    by_cases h2 : 1024 < numOf (b.take 2)
    · rw [if_pos h2] at h; cases h
    rw [if_neg h2] at h
    by_cases h3 : b.length - 2 < numOf (b.take 2)
    · rw [if_pos h3] at h; cases h
    rw [if_neg h3] at h
    injection h with h
    injection h with hv hm
    have hl : v.2.length = numOf (b.take 2) := by rw [← hv]; simp; omega
    rw [hl, if_neg h2, ← hm, ← hv, be_numOf _ 2 (by simp <;> omega), List.take_add]
  · simp only [decF, hw] at h
    simp only [encV, hw]
    by_cases h1 : b.length < w + 1
    · rw [if_pos h1] at h; cases h
    rw [if_neg h1] at h
    injection h with h
    injection h with hv hm
    have hlt := numOf_lt b (w + 1)
    rw [← hv, ← hm]
    simp only
    rw [if_pos hlt, be_numOf _ (w + 1) (by simp <;> omega)]
/-- What unpacking makes of fields. -/
def canonL (sh : List UInt8) (vs : List V) : List V := List.zipWith canonV sh vs
theorem pack_un (sh : List UInt8) : ∀ (vs : List V) (x y : List UInt8), packL sh vs = some x → unL sh (x ++ y) = some (canonL sh vs, y) := by
  induction sh with
  | nil =>
    intro vs x y h
    match vs, h with
    | [], h =>
      simp only [packL] at h
      injection h with h
      subst h
      simp [unL, canonL]
  | cons c sh ih =>
    intro vs x y h
    match vs, h with
    | v :: vs, h =>
      simp only [packL] at h
      split at h
      · rename_i a b ha hb
        injection h with h
        subst h
        simp only [unL]
        rw [List.append_assoc, enc_dec c v a (b ++ y) ha]
        simp only [List.drop_left]
        rw [ih vs b y hb]
        simp [canonL]
      · cases h
theorem un_more (sh : List UInt8) : ∀ (b y : List UInt8) (l : List V) (r : List UInt8), unL sh b = some (l, r) → unL sh (b ++ y) = some (l, r ++ y) := by
  induction sh with
  | nil =>
    intro b y l r h
    simp only [unL] at h ⊢
    injection h with h
    injection h with h1 h2
    subst h1 h2
    rfl
  | cons c sh ih =>
    intro b y l r h
    simp only [unL] at h ⊢
    cases hd : decF c b with
    | none => rw [hd] at h; cases h
    | some vm =>
      obtain ⟨v, m⟩ := vm
      rw [hd] at h
      simp only at h
      obtain ⟨hd2, hm⟩ := dec_more c b y v m hd
      rw [hd2]
      simp only
      rw [List.drop_append_of_le_length hm]
      cases hu : unL sh (b.drop m) with
      | none => rw [hu] at h; cases h
      | some lr =>
        obtain ⟨l', r'⟩ := lr
        rw [hu] at h
        simp only at h
        injection h with h
        injection h with h1 h2
        rw [ih _ y _ _ hu, ← h1, ← h2]
theorem un_pack (sh : List UInt8) : ∀ (b : List UInt8) (l : List V) (r : List UInt8), unL sh b = some (l, r) → ∃ x, packL sh l = some x ∧ b = x ++ r := by
  induction sh with
  | nil =>
    intro b l r h
    simp only [unL] at h
    injection h with h
    injection h with h1 h2
    subst h1 h2
    exact ⟨[], rfl, rfl⟩
  | cons c sh ih =>
    intro b l r h
    simp only [unL] at h
    cases hd : decF c b with
    | none => rw [hd] at h; cases h
    | some vm =>
      obtain ⟨v, m⟩ := vm
      rw [hd] at h
      simp only at h
      cases hu : unL sh (b.drop m) with
      | none => rw [hu] at h; cases h
      | some lr =>
        obtain ⟨l', r'⟩ := lr
        rw [hu] at h
        simp only at h
        injection h with h
        injection h with h1 h2
        obtain ⟨x, hx, hb⟩ := ih _ _ _ hu
        refine ⟨b.take m ++ x, ?_, ?_⟩
        · rw [← h1]
          simp only [packL]
          rw [dec_enc c b v m hd, hx]
        · rw [List.append_assoc, ← h2, ← hb, List.take_append_drop]
theorem encF_eq (c : UInt8) (f : FieldD) : encF c f = encV c (f.num, f.bytes) := by
  unfold encF encV
  rfl
theorem take_at8 (sh : List UInt8) (k : Nat) (h : k < sh.length) : sh.take (k + 1) = sh.take k ++ [at8 sh k] := by
  rw [List.take_succ_eq_append_getElem h, at8, List.getD_eq_getElem?_getD, List.getElem?_eq_getElem h]
  rfl
theorem packTo_eq (sh : List UInt8) (l : List FieldD) (h : sh.length = l.length) : ∀ k, k ≤ l.length → packTo sh l k = packL (sh.take k) (vals (l.take k)) := by
  intro k
  induction k with
  | zero => intro _; rfl
  | succ k ih =>
    intro hk
    rw [packTo, ih (by omega), vals_take l k (by omega), take_at8 sh k (by omega), packL_append _ _ _ _ (by simp [vals]; omega), encF_eq]
    cases packL (sh.take k) (vals (l.take k)) with
    | none => rfl
    | some x =>
      simp only [packL]
      cases encV (at8 sh k) ((fieldAt l k).num, (fieldAt l k).bytes) with
      | none => rfl
      | some y => simp
theorem packM_iff (sh : List UInt8) (l : List FieldD) (x : List UInt8) : packM sh l = some x ↔ sh.length ≤ 200 ∧ sh.length = l.length ∧ packL sh (vals l) = some x := by
  unfold packM
  by_cases h : 200 < sh.length ∨ sh.length ≠ l.length
  · rw [if_pos h]
    constructor
    · intro e; cases e
    · rintro ⟨h1, h2, _⟩; omega
  · rw [if_neg h, packTo_eq sh l (by omega) _ (Nat.le_refl _), List.take_of_length_le (by omega), List.take_of_length_le (by omega)]
    constructor
    · intro e; exact ⟨by omega, by omega, e⟩
    · rintro ⟨_, _, e⟩; exact e
theorem packM_vals {l l' : List FieldD} (h : vals l = vals l') (sh : List UInt8) : packM sh l = packM sh l' := by
  have hl : l.length = l'.length := by have := congrArg List.length h; simpa [vals] using this
  apply Option.ext
  intro x
  rw [packM_iff, packM_iff, h, hl]
theorem unTo_eq (sh b : List UInt8) : ∀ k, k ≤ sh.length → match unL (sh.take k) b with
    | none => unTo sh b k = none
    | some (l, r) => ∃ p, unTo sh b k = some (l, p) ∧ r = b.drop p ∧ p ≤ b.length := by
  intro k
  induction k with
  | zero => intro _; exact ⟨0, rfl, rfl, Nat.zero_le _⟩
  | succ k ih =>
    intro hk
    have ih := ih (by omega)
    rw [take_at8 sh k (by omega), unL_append]
    cases hu : unL (sh.take k) b with
    | none =>
      rw [hu] at ih
      exact unTo_none ih _ (by omega)
    | some lr =>
      obtain ⟨l, r⟩ := lr
      rw [hu] at ih
      obtain ⟨p, h1, rfl, hp⟩ := ih
      rw [unTo_step h1]
      simp only [unL]
      cases hd : decF (at8 sh k) (b.drop p) with
      | none => rfl
      | some vm =>
        obtain ⟨v, m⟩ := vm
        have hm := (dec_more _ _ [] v m hd).2
        rw [List.length_drop] at hm
        exact ⟨p + m, rfl, by rw [List.drop_drop], by omega⟩
theorem unpackM_iff (sh b : List UInt8) (vs : List V) : unpackM sh b = some vs ↔ sh.length ≤ 200 ∧ unL sh b = some (vs, []) := by
  unfold unpackM
  by_cases h : 200 < sh.length
  · rw [if_pos h]
    constructor
    · intro e; cases e
    · rintro ⟨h1, _⟩; omega
  · rw [if_neg h]
    have hu := unTo_eq sh b sh.length (Nat.le_refl _)
    rw [List.take_of_length_le (Nat.le_refl _)] at hu
    cases e : unL sh b with
    | none =>
      rw [e] at hu
      rw [hu]
      constructor
      · intro e; cases e
      · rintro ⟨_, e⟩; cases e
    | some lr =>
      obtain ⟨l, r⟩ := lr
      rw [e] at hu
      obtain ⟨p, h1, rfl, hp⟩ := hu
      rw [h1]
      simp only
      by_cases hpe : p = b.length
      · rw [if_pos hpe]
        have hnil : b.drop p = [] := List.drop_of_length_le (by omega)
        rw [hnil]
        constructor
        · intro e; injection e with e; exact ⟨by omega, by rw [e]⟩
        · rintro ⟨_, e⟩; injection e with e; injection e with e; rw [e]
      · rw [if_neg hpe]
        constructor
        · intro e; cases e
        · rintro ⟨_, e⟩
          injection e with e
          injection e with _ e
          have := congrArg List.length e
          simp at this
          omega
theorem enc_len {c : UInt8} {v : V} {x : List UInt8} (h : encV c v = some x) : x.length ≤ 1026 := by
  rcases letterW_cases c with hw | ⟨hw, rfl⟩ | ⟨w, hw, hc⟩
  · simp [encV, hw] at h
  · simp only [encV, hw] at h
    split at h
    · cases h
    · injection h with h
      subst h
      simp [be_length]
      omega
  · simp only [encV, hw] at h
    split at h
    · injection h with h
      subst h
      rw [be_length]
      omega
    · cases h
theorem packL_len (sh : List UInt8) : ∀ (vs : List V) (x : List UInt8), packL sh vs = some x → x.length ≤ sh.length * 1026 := by
  induction sh with
  | nil =>
    intro vs x h
    match vs, h with
    | [], h =>
      simp only [packL] at h
      injection h with h
      subst h
      simp
  | cons c sh ih =>
    intro vs x h
    match vs, h with
    | v :: vs, h =>
      simp only [packL] at h
      split at h
      · rename_i a b ha hb
        injection h with h
        subst h
        have h1 := enc_len ha
        have h2 := ih _ _ hb
        simp
        omega
      · cases h
theorem pack_len {sh : List UInt8} {l : List FieldD} {x : List UInt8} (h : packM sh l = some x) : x.length ≤ 205200 := by
  obtain ⟨h1, _, h3⟩ := (packM_iff _ _ _).1 h
  have := packL_len _ _ _ h3
  omega
theorem canon_at {sh : List UInt8} {l lk : List FieldD} (hl : sh.length = l.length) (h : vals lk = canonL sh (vals l)) (k : Nat) (hk : k < l.length) : lk.length = l.length ∧ (fieldAt lk k).num = (canonV (at8 sh k) ((fieldAt l k).num, (fieldAt l k).bytes)).1 ∧ (fieldAt lk k).bytes = (canonV (at8 sh k) ((fieldAt l k).num, (fieldAt l k).bytes)).2 := by
  have hlen : lk.length = l.length := by
    have := congrArg List.length h
    simp only [vals, canonL, List.length_map, List.length_zipWith] at this
    omega
  have h1 : (vals lk)[k]? = (canonL sh (vals l))[k]? := by rw [h]
  have hs : sh[k]? = some (at8 sh k) := by rw [at8, List.getD_eq_getElem?_getD, List.getElem?_eq_getElem (by omega)]; rfl
  have e1 : (vals lk)[k]? = some ((fieldAt lk k).num, (fieldAt lk k).bytes) := by
    rw [fieldAt_get (by omega)]
    simp [vals, List.getElem?_eq_getElem (show k < lk.length by omega)]
  have e2 : (vals l)[k]? = some ((fieldAt l k).num, (fieldAt l k).bytes) := by
    rw [fieldAt_get hk]
    simp [vals, List.getElem?_eq_getElem hk]
  rw [e1, canonL, List.getElem?_zipWith, hs, e2] at h1
  simp only at h1
  injection h1 with h1
  rw [← h1]
  exact ⟨hlen, rfl, rfl⟩
/-- Packed fields are unpacked. -/
theorem back_of {sh : List UInt8} {l : List FieldD} {x : List UInt8} (h : packM sh l = some x) : unpackM sh x = some (canonL sh (vals l)) := by
  obtain ⟨h1, h2, h3⟩ := (packM_iff _ _ _).1 h
  refine (unpackM_iff _ _ _).2 ⟨h1, ?_⟩
  have := pack_un sh (vals l) x [] h3
  rwa [List.append_nil] at this
/-- Unpacked bytes are packed. -/
theorem forth_of {sh b : List UInt8} {l : List FieldD} (h : unpackM sh b = some (vals l)) : packM sh l = some b := by
  obtain ⟨h1, h2⟩ := (unpackM_iff _ _ _).1 h
  obtain ⟨x, hx, hb⟩ := un_pack sh _ _ _ h2
  have hlen : ∀ (sh : List UInt8) (vs : List V) (x : List UInt8), packL sh vs = some x → sh.length = vs.length := by
    intro sh
    induction sh with
    | nil =>
      intro vs x h
      match vs, h with
      | [], _ => rfl
    | cons c sh ih =>
      intro vs x h
      match vs, h with
      | v :: vs, h =>
        simp only [packL] at h
        split at h
        · rename_i a b ha hb
          simp [ih _ _ hb]
        · cases h
  refine (packM_iff _ _ _).2 ⟨h1, ?_, ?_⟩
  · have := hlen _ _ _ hx
    simpa [vals] using this
  · rw [hb, List.append_nil]
    exact hx
/-- More bytes behind, or too few: refused. -/
theorem more_none {sh : List UInt8} {l : List FieldD} {x : List UInt8} (h : packM sh l = some x) (y : List UInt8) (hy : y ≠ []) : unpackM sh (x ++ y) = none := by
  obtain ⟨h1, h2, h3⟩ := (packM_iff _ _ _).1 h
  cases e : unpackM sh (x ++ y) with
  | none => rfl
  | some vs =>
    obtain ⟨_, h4⟩ := (unpackM_iff _ _ _).1 e
    rw [pack_un sh _ x y h3] at h4
    injection h4 with h4
    injection h4 with _ h4
    exact absurd h4 hy
theorem less_none {sh : List UInt8} {l : List FieldD} {x : List UInt8} (h : packM sh l = some x) (k : Nat) (hk : k < x.length) : unpackM sh (x.take k) = none := by
  obtain ⟨h1, h2, h3⟩ := (packM_iff _ _ _).1 h
  cases e : unpackM sh (x.take k) with
  | none => rfl
  | some vs =>
    obtain ⟨_, h4⟩ := (unpackM_iff _ _ _).1 e
    have h5 := un_more sh _ (x.drop k) _ _ h4
    rw [List.take_append_drop, List.nil_append] at h5
    have h6 := pack_un sh _ x [] h3
    rw [List.append_nil, h5] at h6
    injection h6 with h6
    injection h6 with _ h6
    have := congrArg List.length h6
    simp at this
    omega
/-- Packed in two parts. -/
theorem join_of {sh : List UInt8} {l : List FieldD} {x y : List UInt8} {k : Nat} (hl : sh.length = l.length) (hk : k ≤ l.length) (h1 : packM (sh.take k) (l.take k) = some x) (h2 : packM (sh.drop k) (l.drop k) = some y) (h200 : l.length ≤ 200) : packM sh l = some (x ++ y) := by
  obtain ⟨_, _, h1⟩ := (packM_iff _ _ _).1 h1
  obtain ⟨_, _, h2⟩ := (packM_iff _ _ _).1 h2
  refine (packM_iff _ _ _).2 ⟨by omega, hl, ?_⟩
  have h := packL_append (sh.take k) (vals (l.take k)) (sh.drop k) (vals (l.drop k)) (by simp [vals]; omega)
  rw [h1, h2] at h
  have e : vals (l.take k) ++ vals (l.drop k) = vals l := by
    unfold vals
    rw [← List.map_append, List.take_append_drop]
  rw [List.take_append_drop, e] at h
  exact h
theorem join_none {sh : List UInt8} {l : List FieldD} {k : Nat} (hl : sh.length = l.length) (hk : k ≤ l.length) (h : packM (sh.take k) (l.take k) = none ∨ packM (sh.drop k) (l.drop k) = none ∨ 200 < l.length) : packM sh l = none := by
  cases e : packM sh l with
  | none => rfl
  | some z =>
    obtain ⟨h1, h2, h3⟩ := (packM_iff _ _ _).1 e
    have h4 := packL_append (sh.take k) (vals (l.take k)) (sh.drop k) (vals (l.drop k)) (by simp [vals]; omega)
    have e2 : vals (l.take k) ++ vals (l.drop k) = vals l := by
      unfold vals
      rw [← List.map_append, List.take_append_drop]
    rw [List.take_append_drop, e2, h3] at h4
    rcases h with h | h | h
    · cases e3 : packL (sh.take k) (vals (l.take k)) with
      | none => rw [e3] at h4; cases h4
      | some x =>
        have := (packM_iff (sh.take k) (l.take k) x).2 ⟨by simp; omega, by simp; omega, e3⟩
        rw [this] at h; cases h
    · cases e3 : packL (sh.drop k) (vals (l.drop k)) with
      | none =>
        rw [e3] at h4
        cases e5 : packL (sh.take k) (vals (l.take k)) <;> rw [e5] at h4 <;> cases h4
      | some x =>
        have := (packM_iff (sh.drop k) (l.drop k) x).2 ⟨by simp; omega, by simp; omega, e3⟩
        rw [this] at h; cases h
    · omega
end Go.Proofs.Ytgakajofggmbjaa

/- Plain arithmetic of the sum of bytes (CRC): steps, bytes, lists; the model's whole-number operators as bit vectors. -/
namespace Go.Proofs.Ytgakajofggmbjaa
open Go.RowKit

/-! ### The model's operators on 32 bits -/
theorem bits_u32 (op : BinOp) (f : BitVec 32 → BitVec 32 → BitVec 32) (x y : BitVec 32)
    (h : bits op .u32 (x.toNat : Int) (y.toNat : Int) = IntKind.u32.wrap ((f (BitVec.ofInt 32 (x.toNat : Int)) (BitVec.ofInt 32 (y.toNat : Int))).toNat : Int)) :
    bits op .u32 (x.toNat : Int) (y.toNat : Int) = ((f x y).toNat : Int) := by
  have hx : BitVec.ofInt 32 (x.toNat : Int) = x := by
    rw [BitVec.ofInt_natCast]; simp
  have hy : BitVec.ofInt 32 (y.toNat : Int) = y := by
    rw [BitVec.ofInt_natCast]; simp
  rw [h, hx, hy, IntKind.wrap_u32]
  have := (f x y).isLt
  omega
theorem xor_u32 (x y : BitVec 32) : bits .xor .u32 (x.toNat : Int) (y.toNat : Int) = ((x ^^^ y).toNat : Int) := bits_u32 .xor (· ^^^ ·) x y rfl
theorem and_u32 (x y : BitVec 32) : bits .and .u32 (x.toNat : Int) (y.toNat : Int) = ((x &&& y).toNat : Int) := bits_u32 .and (· &&& ·) x y rfl

theorem xor_u8 (x y : UInt8) : bits .xor .u8 (x.toNat : Int) (y.toNat : Int) = ((x ^^^ y).toNat : Int) := by
  have hx : BitVec.ofInt 8 (x.toNat : Int) = x.toBitVec := by
    rw [BitVec.ofInt_natCast]; simp
  have hy : BitVec.ofInt 8 (y.toNat : Int) = y.toBitVec := by
    rw [BitVec.ofInt_natCast]; simp
  have h : bits .xor .u8 (x.toNat : Int) (y.toNat : Int) = IntKind.u8.wrap ((BitVec.ofInt 8 (x.toNat : Int) ^^^ BitVec.ofInt 8 (y.toNat : Int)).toNat : Int) := rfl
  rw [h, hx, hy, IntKind.wrap_u8]
  have h2 : (x ^^^ y).toNat = (x.toBitVec ^^^ y.toBitVec).toNat := rfl
  rw [h2]
  have := (x.toBitVec ^^^ y.toBitVec).isLt
  omega
theorem neg_u32 (x : BitVec 32) : (-(x.toNat : Int)) % 4294967296 = ((-x).toNat : Int) := by
  rw [BitVec.toNat_neg]
  have := x.isLt
  omega
theorem half_u32 (x : BitVec 32) : (x.toNat : Int) / (2 : Int) = ((x >>> 1).toNat : Int) := by
  rw [BitVec.toNat_ushiftRight, Nat.shiftRight_eq_div_pow]; omega

def poly : BitVec 32 := 0xEDB88320#32
/-- One bit further. -/
def crcStep (s : BitVec 32) : BitVec 32 := (s >>> 1) ^^^ (poly &&& -(s &&& 1#32))
def iter (f : BitVec 32 → BitVec 32) : Nat → BitVec 32 → BitVec 32
  | 0, s => s
  | n + 1, s => f (iter f n s)
/-- One byte further. -/
def crcByte (s : BitVec 32) (x : UInt8) : BitVec 32 := iter crcStep 8 (s ^^^ x.toBitVec.setWidth 32)
def crcFold (s : BitVec 32) (xs : List UInt8) : BitVec 32 := xs.foldl crcByte s
/-- The sum behind more bytes. -/
def crcAdd (s : BitVec 32) (xs : List UInt8) : BitVec 32 := ~~~ crcFold (~~~ s) xs

theorem crcStep_int (s : BitVec 32) :
    bits .xor .u32 ((s.toNat : Int) / 2) (bits .and .u32 3988292384 (-bits .and .u32 (s.toNat : Int) 1 % 4294967296)) = ((crcStep s).toNat : Int) := by
  have h1 : (1 : Int) = ((1#32).toNat : Int) := rfl
  have h2 : (3988292384 : Int) = (poly.toNat : Int) := rfl
  rw [h2]
  conv in (bits BinOp.and IntKind.u32 (s.toNat : Int) 1) => rw [h1]
  rw [and_u32, neg_u32, and_u32, half_u32, xor_u32]
  rfl
theorem crcByte_int (s : BitVec 32) (x : UInt8) : bits .xor .u32 (s.toNat : Int) ((x.toNat : Int) % 4294967296) = ((s ^^^ x.toBitVec.setWidth 32).toNat : Int) := by
  have h1 : (x.toNat : Int) % 4294967296 = ((x.toBitVec.setWidth 32).toNat : Int) := by
    have := x.toNat_lt
    rw [BitVec.toNat_setWidth]
    show (x.toBitVec.toNat : Int) % 4294967296 = _
    have : x.toBitVec.toNat < 256 := x.toNat_lt
    omega
  rw [h1, xor_u32]
theorem not_int (s : BitVec 32) : bits .xor .u32 IntKind.u32.max (s.toNat : Int) = ((~~~ s).toNat : Int) := by
  have h : IntKind.u32.max = ((BitVec.allOnes 32).toNat : Int) := rfl
  rw [h, xor_u32]
  rw [BitVec.allOnes_xor]
theorem crcFold_snoc (s : BitVec 32) (xs : List UInt8) (x : UInt8) : crcFold s (xs ++ [x]) = crcByte (crcFold s xs) x := by simp [crcFold]
theorem take_snoc (xs : List UInt8) (k : Nat) (h : k < xs.length) : xs.take (k + 1) = xs.take k ++ [at8 xs k] := by
  rw [List.take_succ_eq_append_getElem h, at8, List.getD_eq_getElem?_getD, List.getElem?_eq_getElem h]; rfl
theorem crcFold_take (s : BitVec 32) (xs : List UInt8) (k : Nat) (h : k < xs.length) :
    crcFold s (xs.take (k + 1)) = iter crcStep 8 (crcFold s (xs.take k) ^^^ (at8 xs k).toBitVec.setWidth 32) := by
  rw [take_snoc xs k h, crcFold_snoc]; rfl
def crcSums (xss : List (List UInt8)) : BitVec 32 := xss.foldl crcAdd 0#32
theorem crcSums_take (xss : List (List UInt8)) (k : Nat) (h : k < xss.length) : crcSums (xss.take (k + 1)) = crcAdd (crcSums (xss.take k)) (atL xss k) := by
  rw [List.take_succ_eq_append_getElem h, crcSums, List.foldl_append, atL, List.getD_eq_getElem?_getD, List.getElem?_eq_getElem h]; rfl

/-! ### The document's step -/
theorem neg_and_one (s : BitVec 32) : -(s &&& 1#32) = if s.toNat % 2 = 1 then BitVec.allOnes 32 else 0#32 := by
  have h : s &&& 1#32 = if s.toNat % 2 = 1 then 1#32 else 0#32 := by
    apply BitVec.eq_of_toNat_eq
    rw [BitVec.toNat_and]
    have h1 : (1#32).toNat = 1 := rfl
    rw [h1, Nat.and_one_is_mod]
    split
    · rename_i h; rw [h]; rfl
    · rename_i h; have : s.toNat % 2 = 0 := by omega
      rw [this]; rfl
  rw [h]
  split <;> rfl
theorem crcStep_ref (s : BitVec 32) : crcStep s = if s.toNat % 2 = 1 then (s >>> 1) ^^^ poly else s >>> 1 := by
  unfold crcStep
  rw [neg_and_one]
  split
  · rw [BitVec.and_allOnes]
  · rw [BitVec.and_zero, BitVec.xor_zero]
theorem crcStep_odd (s : BitVec 32) (h : (s.toNat : Int) % 2 = 1) : bits .xor .u32 ((s.toNat : Int) / (2 : Int)) 3988292384 = ((crcStep s).toNat : Int) := by
  have h2 : (3988292384 : Int) = (poly.toNat : Int) := rfl
  rw [h2, half_u32, xor_u32, crcStep_ref, if_pos (by omega)]
theorem crcStep_even (s : BitVec 32) (h : ¬ (s.toNat : Int) % 2 = 1) : (s.toNat : Int) / (2 : Int) = ((crcStep s).toNat : Int) := by
  rw [half_u32, crcStep_ref, if_neg (by omega)]
theorem not_sub (s : BitVec 32) : 4294967295 - (s.toNat : Int) = ((~~~ s).toNat : Int) := by
  rw [BitVec.toNat_not]
  have := s.isLt
  omega
end Go.Proofs.Ytgakajofggmbjaa

/- What a seal is; no program in sight. -/
namespace Go.Proofs.Ytgakajofggmbjaa
open Go.RowKit

/-- What the sum is of. -/
def preL (mark : Nat) (body : List UInt8) : List UInt8 := be mark 8 ++ (be body.length 2 ++ (body ++ List.replicate (106 - body.length) 0))
def sumL (mark : Nat) (body : List UInt8) : Nat := (crcAdd 0#32 (preL mark body)).toNat
def sealL (mark : Nat) (body : List UInt8) : List UInt8 := preL mark body ++ (be (sumL mark body) 4 ++ be mark 8)
def makeM (mark : Nat) (body : List UInt8) : Option (List UInt8) := if mark = 0 ∨ 106 < body.length then none else some (sealL mark body)
theorem preL_length {mark : Nat} {body : List UInt8} (h : body.length ≤ 106) : (preL mark body).length = 116 := by
  simp [preL, be_length]
  omega
theorem sealL_length {mark : Nat} {body : List UInt8} (h : body.length ≤ 106) : (sealL mark body).length = 128 := by
  simp [sealL, be_length, preL_length h]
theorem sumL_lt (mark : Nat) (body : List UInt8) : sumL mark body < 4294967296 := (crcAdd 0#32 (preL mark body)).isLt
theorem zsec_parts (k : Nat) (h : k ≤ 106) : zsec = List.replicate 8 0 ++ (List.replicate 2 0 ++ (List.replicate k 0 ++ (List.replicate (106 - k) 0 ++ (List.replicate 4 0 ++ List.replicate 8 0)))) := by
  unfold zsec
  simp only [List.replicate_append_replicate]
  congr 1
  omega
/-- The sector, when the head and the body are put. -/
theorem put_pre (mark : Nat) (body : List UInt8) (h : body.length ≤ 106) :
    splice (splice (splice zsec 0 (be mark 8)) 8 (be body.length 2)) 10 body = preL mark body ++ (List.replicate 4 0 ++ List.replicate 8 0) := by
  rw [zsec_parts body.length h]
  have e1 := splice_at ([] : List UInt8) (List.replicate 8 0) (be mark 8) (List.replicate 2 0 ++ (List.replicate body.length 0 ++ (List.replicate (106 - body.length) 0 ++ (List.replicate 4 0 ++ List.replicate 8 0)))) (by simp [be_length])
  simp only [List.nil_append, List.length_nil] at e1
  rw [e1]
  have e2 := splice_at (be mark 8) (List.replicate 2 0) (be body.length 2) (List.replicate body.length 0 ++ (List.replicate (106 - body.length) 0 ++ (List.replicate 4 0 ++ List.replicate 8 0))) (by simp [be_length])
  rw [be_length] at e2
  rw [e2]
  have e3 := splice_at (be mark 8 ++ be body.length 2) (List.replicate body.length 0) body (List.replicate (106 - body.length) 0 ++ (List.replicate 4 0 ++ List.replicate 8 0)) (by simp)
  rw [List.length_append, be_length, be_length, List.append_assoc] at e3
  rw [e3]
  simp [preL]
theorem put_sum (mark : Nat) (body : List UInt8) (h : body.length ≤ 106) :
    splice (splice (preL mark body ++ (List.replicate 4 0 ++ List.replicate 8 0)) 116 (be (sumL mark body) 4)) 120 (be mark 8) = sealL mark body := by
  have e1 := splice_at (preL mark body) (List.replicate 4 0) (be (sumL mark body) 4) (List.replicate 8 0) (by simp [be_length])
  rw [preL_length h] at e1
  rw [e1]
  have e2 := splice_at (preL mark body ++ be (sumL mark body) 4) (List.replicate 8 0) (be mark 8) [] (by simp [be_length])
  rw [List.length_append, preL_length h, be_length, List.append_nil, List.append_nil, List.append_assoc] at e2
  rw [e2]
  simp [sealL]
theorem take_pre (mark : Nat) (body z : List UInt8) (h : body.length ≤ 106) : (preL mark body ++ z).take 116 = preL mark body := by
  rw [← preL_length (mark := mark) h, List.take_left]
theorem sums_one (xs : List UInt8) : crcSums [xs] = crcAdd 0#32 xs := rfl
/-- What a sector opens to. -/
def openM (l : List UInt8) : Option (Nat × List UInt8) :=
  if 106 < numOf ((l.drop 8).take 2) then none
  else if makeM (numOf (l.take 8)) ((l.drop 10).take (numOf ((l.drop 8).take 2))) = some l then some (numOf (l.take 8), (l.drop 10).take (numOf ((l.drop 8).take 2))) else none
end Go.Proofs.Ytgakajofggmbjaa
