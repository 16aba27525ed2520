/- The document's Same of records. -/
import Derived.Test.YtgakajofggmbjaaMg3
import Derived.BigQuiet
import Derived.Deep.QuietTactic
import Derived.Test.YtgakajofggmbjaaMg5
import Derived.Test.YtgakajofggmbjaaMg10
namespace Go.Proofs.Ytgakajofggmbjaa
open Go.RowKit

theorem take_atL {l : List (List UInt8)} {k : Nat} (h : k < l.length) : l.take (k + 1) = l.take k ++ [atL l k] := by
  rw [List.take_succ_eq_append_getElem h, atL, List.getD_eq_getElem?_getD, List.getElem?_eq_getElem h]; rfl
set_option maxRecDepth 20000 in
set_option maxHeartbeats 3200000 in
theorem ref06_Same (A B : Option Addr) (n c m d : Nat) (la lb : List (List UInt8)) (w : World) (ha : RRB w A n c la) (hb : RRB w B m d lb) :
    Calls Try.prog 20 #[.slice A n c, .slice B m d] w fun e w' => e = .returned (.bool (decide (la = lb))) ∧ Below w.heap.size w w' := by
  have HA := Lib.hid ha; have HB := Lib.hid hb
  by_cases hnm : n = m
  · subst hnm
    have hbn : ((n : Int) != (n : Int)) = false := by simp
    have hnm : (n : Int) ≤ 9223372036854775807 := by have h1 := ha.2.1; have h2 := ha.2.2.1; omega
    clear ha hb
    go_enter Try.func20, Try.ntmps20
    go_wp2_with fail
    go_loopw [5, 13] (fun _ i wr => ∃ k, k ≤ n ∧ i = .int .i64 (k : Nat) ∧ Hid (la.take k = lb.take k) ∧ Hid (Below w.heap.size w wr)) (fun _ i _ => n - (intOf i).toNat)
    case atStart => exact ⟨0, by omega, rfl, Lib.hid rfl, Lib.hid (Below.refl _ _)⟩
    case round =>
      obtain ⟨k, hk, rfl, HV, HW⟩ := hrel
      by_cases hlt : k < n
      · have hk0 : (0 : Int) ≤ (k : Int) := Int.natCast_nonneg _
        have hk1 : (k : Int) < (n : Int) := by omega
        obtain ⟨b1, o1, rfl, hf1⟩ := (HA.out.below HW.out).2.2.2 (by omega)
        obtain ⟨A1, l1, c1, hc1, hr1⟩ := hf1 k hlt
        obtain ⟨b2, o2, rfl, hf2⟩ := (HB.out.below HW.out).2.2.2 (by omega)
        obtain ⟨A2, l2, c2, hc2, hr2⟩ := hf2 k hlt
        have hend : atL la k ≠ atL lb k → decide (la = lb) = false := fun h => decide_eq_false fun e => h (by rw [e])
        have hnext : atL la k = atL lb k → la.take (k + 1) = lb.take (k + 1) := fun h => by
          rw [take_atL (by rw [HA.out.1]; exact hlt), take_atL (by rw [HB.out.1]; exact hlt), HV.out, h]
        generalize atL la k = x1 at *
        generalize atL lb k = x2 at *
        have hs1 := fun q => (hr1.below (below_drewN (Below.refl _ wr) q)).string (P := Try.prog) (src := 37) (dst := 9) Try.underlying37 Try.underlying5 Try.underlying9
        have hs2 := fun q => (hr2.below (below_drewN (Below.refl _ wr) q)).string (P := Try.prog) (src := 37) (dst := 9) Try.underlying37 Try.underlying5 Try.underlying9
        have HE := Lib.hid hend; have HN := Lib.hid hnext
        clear hf1 hf2 hr1 hr2 hend hnext
        try dsimp only at hs1 hs2
        by_cases hx : x1 = x2
        · subst hx
          have hq2 := str_eq x1
          have HV1 := Lib.hid (HN.out rfl)
          clear HE HN
          go_wp2
          go_quiet (fail)
          go_wp2
          go_roundw
          case rel => exact ⟨k + 1, by omega, by go_num, HV1, Lib.hid (below_drewN HW.out _)⟩
          case measure => simp [intOf]; omega
        · have hq2 := str_ne hx
          have HE2 := Lib.hid (HE.out hx)
          clear HE HN hx
          go_wp2
          go_quiet (fail)
          go_wp2
          go_ret
          exact ⟨by rw [HE2.out]; rfl, below_drewN HW.out _⟩
      · obtain rfl : k = n := by omega
        have hfin : decide (la = lb) = true := decide_eq_true (by
          have := HV.out
          rwa [List.take_of_length_le (by rw [HA.out.1]; exact Nat.le_refl _), List.take_of_length_le (by rw [HB.out.1]; exact Nat.le_refl _)] at this)
        have HF := Lib.hid hfin
        clear hfin
        go_wp2_with fail
        go_ret
        exact ⟨by rw [HF.out]; rfl, HW.out⟩
  · have hbn : ((n : Int) != (m : Int)) = true := by rw [bne_iff_ne]; omega
    have hfin : decide (la = lb) = false := decide_eq_false fun e => hnm (by
      have := congrArg List.length e
      rw [HA.out.1, HB.out.1] at this
      exact this)
    rw [hfin]
    clear ha hb hfin hnm
    go_enter Try.func20, Try.ntmps20
    go_wp2_with fail
    go_ret
    exact ⟨rfl, Below.refl _ _⟩
end Go.Proofs.Ytgakajofggmbjaa

/- What is sealed is opened; no program in sight. -/
namespace Go.Proofs.Ytgakajofggmbjaa
open Go.RowKit

/-- What is sealed is opened. -/
theorem open_seal (mark : Nat) (body : List UInt8) (hm : mark < 18446744073709551616) (h0 : mark ≠ 0) (hb : body.length ≤ 106) : openM (sealL mark body) = some (mark, body) := by
  have e : sealL mark body = be mark 8 ++ (be body.length 2 ++ (body ++ (List.replicate (106 - body.length) 0 ++ (be (sumL mark body) 4 ++ be mark 8)))) := by simp [sealL, preL]
  have t8 : (sealL mark body).take 8 = be mark 8 := by rw [e, List.take_append_of_le_length (by rw [be_length]; omega), List.take_of_length_le (by rw [be_length]; omega)]
  have d8 : (sealL mark body).drop 8 = be body.length 2 ++ (body ++ (List.replicate (106 - body.length) 0 ++ (be (sumL mark body) 4 ++ be mark 8))) := by
    rw [e, List.drop_append_of_le_length (by rw [be_length]; omega), List.drop_of_length_le (by rw [be_length]; omega), List.nil_append]
  have t2 : ((sealL mark body).drop 8).take 2 = be body.length 2 := by rw [d8, List.take_append_of_le_length (by rw [be_length]; omega), List.take_of_length_le (by rw [be_length]; omega)]
  have d10 : (sealL mark body).drop 10 = body ++ (List.replicate (106 - body.length) 0 ++ (be (sumL mark body) 4 ++ be mark 8)) := by
    rw [show (10 : Nat) = 8 + 2 from rfl, ← List.drop_drop, d8, List.drop_append_of_le_length (by rw [be_length]; omega), List.drop_of_length_le (by rw [be_length]; omega), List.nil_append]
  have n8 : numOf (be mark 8) = mark := numOf_be 8 mark (by omega)
  have n2 : numOf (be body.length 2) = body.length := numOf_be 2 _ (by omega)
  unfold openM
  rw [t2, n2, if_neg (by omega), t8, n8, d10, List.take_left]
  have hm2 : makeM mark body = some (sealL mark body) := by unfold makeM; rw [if_neg (by omega)]
  rw [hm2, if_pos rfl]
/-- What opens is its own seal. -/
theorem seal_open {l : List UInt8} {mark : Nat} {body : List UInt8} (h : openM l = some (mark, body)) : makeM mark body = some l ∧ mark ≠ 0 ∧ body.length ≤ 106 := by
  unfold openM at h
  split at h
  · cases h
  · split at h
    · rename_i h1 h2
      injection h with h
      injection h with hm hb
      rw [hm, hb] at h2
      refine ⟨h2, ?_⟩
      unfold makeM at h2
      split at h2
      · cases h2
      · omega
    · cases h
theorem open_zeros : openM zsec = none := by
  cases h : openM zsec with
  | none => rfl
  | some mb =>
    exfalso
    obtain ⟨mark, body⟩ := mb
    obtain ⟨_, h0, _⟩ := seal_open h
    unfold openM at h
    split at h
    · cases h
    · split at h
      · injection h with h
        injection h with hm _
        exact h0 (hm.symm.trans (by decide))
      · cases h
end Go.Proofs.Ytgakajofggmbjaa

/- Whole or not at all: the plain law. -/
namespace Go.Proofs.Ytgakajofggmbjaa
open Go.RowKit

theorem be_inj {m m' : Nat} (h : m < 256 ^ 8) (h' : m' < 256 ^ 8) (e : be m 8 = be m' 8) : m = m' := by
  rw [← numOf_be 8 m h, ← numOf_be 8 m' h', e]
/-- A sector that begins and ends with the same mark. -/
def Ends (l : List UInt8) (m : Nat) : Prop := l.length = 128 ∧ m < 256 ^ 8 ∧ l.take 8 = be m 8 ∧ l.drop 120 = be m 8
theorem ends_seal (m : Nat) (b : List UInt8) (hm : m < 256 ^ 8) (hb : b.length ≤ 106) : Ends (sealL m b) m := by
  refine ⟨sealL_length hb, hm, ?_, ?_⟩
  · have e : sealL m b = be m 8 ++ (be b.length 2 ++ (b ++ (List.replicate (106 - b.length) 0 ++ (be (sumL m b) 4 ++ be m 8)))) := by simp [sealL, preL]
    rw [e, List.take_append_of_le_length (by rw [be_length]; omega), List.take_of_length_le (by rw [be_length]; omega)]
  · have e : sealL m b = (preL m b ++ be (sumL m b) 4) ++ be m 8 := by simp [sealL]
    have hl : (preL m b ++ be (sumL m b) 4).length = 120 := by rw [List.length_append, preL_length hb, be_length]
    rw [e, ← hl, List.drop_left]
theorem ends_zero : Ends zsec 0 := ⟨zsec_length, by decide, by decide, by decide⟩
theorem split_eq {a b : List UInt8} (k : Nat) (h1 : a.take k = b.take k) (h2 : a.drop k = b.drop k) : a = b := by
  rw [← List.take_append_drop k a, h1, h2, List.take_append_drop]
/-- A torn sector that opens is the old one or the new one. -/
theorem torn_whole {old now : List UInt8} {mo mn : Nat} (ho : Ends old mo) (hn : Ends now mn) (hne : mo ≠ mn) (k : Nat) (hk : k ≤ 128) {mk : Nat} {body : List UInt8} (h : openM (now.take k ++ old.drop k) = some (mk, body)) :
    now.take k ++ old.drop k = old ∨ now.take k ++ old.drop k = now := by
  obtain ⟨hmake, hm0, hb⟩ := seal_open h
  obtain ⟨lo, bo, tko, dro⟩ := ho
  obtain ⟨ln, bn, tn, drn⟩ := hn
  have hmk : mk < 256 ^ 8 := by
    unfold openM at h
    split at h
    · cases h
    · split at h
      · injection h with h
        injection h with h _
        rw [← h]
        exact numOf_lt _ 8
      · cases h
  have ht : now.take k ++ old.drop k = sealL mk body := by
    unfold makeM at hmake
    split at hmake
    · cases hmake
    · injection hmake with hmake
      exact hmake.symm
  obtain ⟨_, _, te, de⟩ := ends_seal mk body hmk hb
  rw [← ht] at te de
  by_cases h8 : k ≤ 8
  · left
    have d8 : (now.take k ++ old.drop k).drop 8 = old.drop 8 := by
      rw [List.drop_append, List.drop_of_length_le (by simp; omega), List.nil_append, List.drop_drop]
      congr 1
      simp
      omega
    have d120 : (now.take k ++ old.drop k).drop 120 = old.drop 120 := by
      rw [show (120 : Nat) = 8 + 112 from rfl, ← List.drop_drop, d8, List.drop_drop]
    rw [d120, dro] at de
    rw [← de, ← tko] at te
    exact split_eq 8 te d8
  · by_cases h120 : k ≤ 120
    · exfalso
      have t8 : (now.take k ++ old.drop k).take 8 = now.take 8 := by
        rw [List.take_append_of_le_length (by simp; omega), List.take_take]
        congr 1
        omega
      have d120 : (now.take k ++ old.drop k).drop 120 = old.drop 120 := by
        rw [List.drop_append, List.drop_of_length_le (by simp; omega), List.nil_append, List.drop_drop]
        congr 1
        simp
        omega
      rw [t8, tn] at te
      rw [d120, dro] at de
      exact hne (be_inj bo bn (de.trans te.symm))
    · right
      have t8 : (now.take k ++ old.drop k).take 8 = now.take 8 := by
        rw [List.take_append_of_le_length (by simp; omega), List.take_take]
        congr 1
        omega
      have t120 : (now.take k ++ old.drop k).take 120 = now.take 120 := by
        rw [List.take_append_of_le_length (by simp; omega), List.take_take]
        congr 1
        omega
      rw [t8, tn] at te
      rw [← te, ← drn] at de
      exact split_eq 120 t120 de
theorem made_some {mark : Nat} {body l : List UInt8} (h : makeM mark body = some l) : mark ≠ 0 ∧ body.length ≤ 106 ∧ l = sealL mark body := by
  unfold makeM at h
  split at h
  · cases h
  · injection h with h
    exact ⟨by omega, by omega, h.symm⟩
end Go.Proofs.Ytgakajofggmbjaa

/- What Add does to a disk, and what a scan then finds; no program in sight. -/
namespace Go.Proofs.Ytgakajofggmbjaa
open Go.RowKit

/-- The writes of a record's first m pieces. -/
def pieceW (a0 : Nat) (b : List UInt8) (m : Nat) : List (Nat × List UInt8) := (List.range m).map fun i => (a0 + i, pieceS b i)
theorem pieceW_succ (a0 : Nat) (b : List UInt8) (m : Nat) : pieceW a0 b (m + 1) = pieceW a0 b m ++ [(a0 + m, pieceS b m)] := by simp [pieceW, List.range_succ]
theorem pieceW_mem {a0 : Nat} {b : List UInt8} {m : Nat} {x : Nat × List UInt8} (h : x ∈ pieceW a0 b m) : a0 ≤ x.1 ∧ x.1 < a0 + m := by
  simp only [pieceW, List.mem_map, List.mem_range] at h
  obtain ⟨i, hi, rfl⟩ := h
  exact ⟨Nat.le_add_right _ _, Nat.add_lt_add_left hi _⟩
theorem lastW_pieces (a0 : Nat) (b : List UInt8) (k : Nat) (z : List UInt8) : ∀ m, lastW (pieceW a0 b m) k z = if a0 ≤ k ∧ k < a0 + m then pieceS b (k - a0) else z
  | 0 => by rw [if_neg (by omega)]; rfl
  | m + 1 => by
    rw [pieceW_succ, lastW_append, lastW_pieces a0 b k z m]
    show (if a0 + m = k then pieceS b m else _) = _
    by_cases h : a0 + m = k
    · rw [if_pos h, if_pos (by omega)]
      congr 1
      omega
    · rw [if_neg h]
      by_cases h2 : a0 ≤ k ∧ k < a0 + m
      · rw [if_pos h2, if_pos (by omega)]
      · rw [if_neg h2, if_neg (by omega)]
/-- The pieces that are pending, with power or without. -/
theorem putsL_form (d : Dk) (a0 : Nat) (b : List UInt8) : ∀ q, ∃ m, m ≤ q ∧ (putsL d a0 b (List.range q)).1.stable = d.stable ∧ (putsL d a0 b (List.range q)).1.pend = d.pend ++ pieceW a0 b m ∧ (putsL d a0 b (List.range q)).2.1 = a0 + m ∧ ((putsL d a0 b (List.range q)).2.2 = true → m = q) ∧ (d.live → (putsL d a0 b (List.range q)).1.live ∧ (putsL d a0 b (List.range q)).2.2 = true)
  | 0 => ⟨0, Nat.le_refl _, rfl, by simp [putsL, pieceW], rfl, fun _ => rfl, fun h => ⟨h, rfl⟩⟩
  | q + 1 => by
    obtain ⟨m, hm, h1, h2, h3, h4, h5⟩ := putsL_form d a0 b q
    rw [List.range_succ, putsL_snoc]
    generalize putsL d a0 b (List.range q) = st at *
    obtain ⟨d1, a1, ok⟩ := st
    simp only at h1 h2 h3 h4 h5
    cases ok with
    | false => exact ⟨m, by omega, h1, h2, h3, (fun h => by cases h), (fun h => by obtain ⟨_, h6⟩ := h5 h; cases h6)⟩
    | true =>
      obtain rfl := h4 rfl
      by_cases hp : d1.power.2 = true
      · have e : putStep b (d1, a1, true) m = (d1.power.1.push a1 (pieceS b m), a1 + 1, true) := by simp [putStep, hp]
        rw [e]
        refine ⟨m + 1, by omega, (power_stable d1).trans h1, ?_, by show a1 + 1 = _; omega, fun _ => rfl, fun h => ⟨?_, rfl⟩⟩
        · show d1.power.1.pend ++ [(a1, pieceS b m)] = _
          rw [power_pend, h2, pieceW_succ, h3, List.append_assoc]
        · have hl := (h5 h).1
          show (d1.power.1.push a1 (pieceS b m)).live
          rw [hl.power]
          exact hl
      · have e : putStep b (d1, a1, true) m = (d1.power.1, a1, false) := by simp [putStep, hp]
        rw [e]
        exact ⟨m, by omega, (power_stable d1).trans h1, (power_pend d1).trans h2, h3, (fun h => by cases h), fun h => absurd (by rw [(h5 h).1.power]) hp⟩
/-- What is read behind an Add that was done. -/
def addRead (rd : Nat → List UInt8) (first gen count : Nat) (b : List UInt8) (k : Nat) : List UInt8 :=
  if k = first + 4 * count then sealL (gen * 256 + (count + 1)) (hdBody b)
  else if first + 4 * count + 1 ≤ k ∧ k < first + 4 * count + 1 + (b.length + 127) / 128 then pieceS b (k - (first + 4 * count + 1)) else rd k
/-- What a crash leaves of an Add that the power was gone under: nothing but some pieces, or all of it. -/
def CutOff (d d' : Dk) (first gen count : Nat) (b : List UInt8) : Prop :=
  ∀ (keep : List Bool) (t cut : Int), (t = 0 → cut = 0) → (∀ k, ¬ (first + 4 * count + 1 ≤ k ∧ k < first + 4 * count + 4) → (d'.crashed keep t cut).read k = d.read k) ∨ ∀ k, (d'.crashed keep t cut).read k = addRead d.read first gen count b k
theorem crashStep_far (keep : List Bool) (torn : Int) (m : Nat) (st : List (List UInt8)) (k : Nat) (x : Nat × List UInt8) (i : Nat) (h : x.1 ≠ i) : secAt (crashStep keep torn m st k x) i = secAt st i := by
  unfold crashStep
  have hs : ∀ y, secAt (st.set x.1 y) i = secAt st i := fun y => by rw [secAt, secAt, List.getD_eq_getElem?_getD, List.getD_eq_getElem?_getD, List.getElem?_set_ne h]
  split
  · exact hs _
  · split
    · exact hs _
    · rfl
theorem crashTo_far (keep : List Bool) (torn : Int) (m : Nat) (st : List (List UInt8)) (l : List (Nat × List UInt8)) (i : Nat) (h : ∀ x ∈ l, x.1 ≠ i) : ∀ n, n ≤ l.length → secAt (crashTo keep torn m st l n) i = secAt st i
  | 0, _ => rfl
  | n + 1, hn => by
    rw [crashTo, crashStep_far keep torn m _ n _ i (h _ (penAt_mem (by omega)))]
    exact crashTo_far keep torn m st l i h n (by omega)
theorem crashed_far (d : Dk) (keep : List Bool) (torn cut : Int) (i : Nat) (h : ∀ x ∈ d.pend, x.1 ≠ i) : (d.crashed keep torn cut).read i = d.read i := by
  show lastW [] i (secAt (crashTo _ _ _ _ _ _) i) = lastW d.pend i (secAt d.stable i)
  rw [crashTo_far _ _ _ _ _ _ h _ (Nat.le_refl _), lastW_none _ _ _ h]
  rfl
theorem read_clean {d : Dk} (h : d.pend = []) (k : Nat) : d.read k = secAt d.stable k := by unfold Dk.read; rw [h]; rfl
theorem secAt_set_self (st : List (List UInt8)) (k : Nat) : secAt (st.set k (secAt st k)) k = secAt st k := by
  by_cases h : k < st.length
  · rw [secAt, List.getD_eq_getElem?_getD, List.getElem?_set_self h]; rfl
  · rw [List.set_eq_of_length_le (by omega)]
theorem secAt_set {st : List (List UInt8)} {k : Nat} (h : k < st.length) (x : List UInt8) (i : Nat) : secAt (st.set k x) i = if i = k then x else secAt st i := by
  by_cases e : i = k
  · subst e
    rw [if_pos rfl, secAt, List.getD_eq_getElem?_getD, List.getElem?_set_self h]; rfl
  · rw [if_neg e, secAt, secAt, List.getD_eq_getElem?_getD, List.getD_eq_getElem?_getD, List.getElem?_set_ne (fun h => e h.symm)]
/-- Add: done, or left without power. -/
theorem addM_forms (d : Dk) (hp : d.pend = []) (first gen count : Nat) (b : List UInt8) (hb : b.length ≤ 384) (hc : count < 4) (hfit : first + 4 * count + 4 ≤ d.stable.length) :
    (∃ d', addM d first gen count b = (d', count + 1, 0) ∧ d'.pend = [] ∧ d'.stable.length = d.stable.length ∧ (d.live → d'.live) ∧ ∀ k, d'.read k = addRead d.read first gen count b k) ∨
    (∃ d', addM d first gen count b = (d', count, 42) ∧ d'.stable.length = d.stable.length ∧ ¬ d.live ∧ d'.pend.length ≤ 4 ∧ CutOff d d' first gen count b) := by
  obtain ⟨m, hm, h1, h2, h3, h4, h5⟩ := putsL_form d (first + 4 * count + 1) b ((b.length + 127) / 128)
  rw [hp, List.nil_append] at h2
  have hq : (b.length + 127) / 128 ≤ 3 := by omega
  have hdef : addM d first gen count b = (if (putsL d (first + 4 * count + 1) b (List.range ((b.length + 127) / 128))).2.2 = false then ((putsL d (first + 4 * count + 1) b (List.range ((b.length + 127) / 128))).1, count, 42)
      else if (putsL d (first + 4 * count + 1) b (List.range ((b.length + 127) / 128))).1.flush.2 = false then ((putsL d (first + 4 * count + 1) b (List.range ((b.length + 127) / 128))).1.flush.1, count, 42)
      else if (putsL d (first + 4 * count + 1) b (List.range ((b.length + 127) / 128))).1.flush.1.power.2 = false then ((putsL d (first + 4 * count + 1) b (List.range ((b.length + 127) / 128))).1.flush.1.power.1, count, 42)
      else if ((putsL d (first + 4 * count + 1) b (List.range ((b.length + 127) / 128))).1.flush.1.power.1.push (first + 4 * count) (sealL (gen * 256 + (count + 1)) (hdBody b))).flush.2 = false then (((putsL d (first + 4 * count + 1) b (List.range ((b.length + 127) / 128))).1.flush.1.power.1.push (first + 4 * count) (sealL (gen * 256 + (count + 1)) (hdBody b))).flush.1, count, 42) else (((putsL d (first + 4 * count + 1) b (List.range ((b.length + 127) / 128))).1.flush.1.power.1.push (first + 4 * count) (sealL (gen * 256 + (count + 1)) (hdBody b))).flush.1, count + 1, 0)) := by
    unfold addM
    rw [if_neg (by omega), if_neg (by omega)]
  rw [hdef]
  clear hdef h3
  generalize putsL d (first + 4 * count + 1) b (List.range ((b.length + 127) / 128)) = st at *
  obtain ⟨D1, a1, ok⟩ := st
  simp only at h1 h2 h4 h5 ⊢
  -- pieces alone are pending: a crash leaves the rest
  have hfar : ∀ D : Dk, D.stable = d.stable → D.pend = pieceW (first + 4 * count + 1) b m → CutOff d D first gen count b := fun D e1 e2 keep t cut _ => .inl fun k hk => by
    rw [crashed_far D keep t cut k (by rw [e2]; intro x hx e; have := pieceW_mem hx; omega), read_clean hp]
    show lastW D.pend k (secAt D.stable k) = _
    rw [e1, e2, lastW_none _ _ _ (by intro x hx e; have := pieceW_mem hx; omega)]
  have hlen : ∀ D : Dk, D.pend = pieceW (first + 4 * count + 1) b m → D.pend.length ≤ 4 := fun D e => by rw [e]; simp [pieceW]; omega
  by_cases hok : ok = false
  · right
    rw [if_pos hok]
    refine ⟨D1, rfl, by rw [h1], (fun hl => by have := (h5 hl).2; rw [hok] at this; cases this), hlen D1 h2, hfar D1 h1 h2⟩
  rw [if_neg hok]
  obtain rfl := h4 (by simpa using hok)
  by_cases hf : D1.power.2 = true
  · have e1 : D1.flush = (D1.power.1.flushed, true) := by unfold Dk.flush; rw [if_pos hf]
    rw [e1]
    rw [if_neg (show ¬ ((true : Bool) = false) by decide)]
    have e2 : D1.power.1.flushed.stable = applyW d.stable (pieceW (first + 4 * count + 1) b ((b.length + 127) / 128)) := by
      show applyW D1.power.1.stable D1.power.1.pend = _
      rw [power_stable, power_pend, h1, h2]
    have e3 : D1.power.1.flushed.pend = [] := rfl
    have e4 : D1.power.1.flushed.stable.length = d.stable.length := by rw [e2, applyW_length]
    have hl2 : d.live → D1.power.1.flushed.live := fun hl => by
      have := (h5 hl).1
      rw [this.power]
      exact this
    have er : ∀ k, secAt D1.power.1.flushed.stable k = if first + 4 * count + 1 ≤ k ∧ k < first + 4 * count + 1 + (b.length + 127) / 128 then pieceS b (k - (first + 4 * count + 1)) else d.read k := fun k => by
      rw [e2, secAt_applyW _ _ _ (fun x hx => by have := pieceW_mem hx; omega), lastW_pieces, read_clean hp]
    generalize D1.power.1.flushed = D2 at *
    simp only
    -- the head
    by_cases hp2 : D2.power.2 = true
    · rw [if_neg (by rw [hp2]; decide)]
      have e5 : (D2.power.1.push (first + 4 * count) (sealL (gen * 256 + (count + 1)) (hdBody b))).pend = [(first + 4 * count, sealL (gen * 256 + (count + 1)) (hdBody b))] := by
        show D2.power.1.pend ++ _ = _
        rw [power_pend, e3]
        rfl
      have e6 : (D2.power.1.push (first + 4 * count) (sealL (gen * 256 + (count + 1)) (hdBody b))).stable = D2.stable := power_stable D2
      have hl3 : d.live → (D2.power.1.push (first + 4 * count) (sealL (gen * 256 + (count + 1)) (hdBody b))).live := fun hl => by
        have := hl2 hl
        show (D2.power.1.push _ _).live
        rw [this.power]
        exact this
      generalize D2.power.1.push (first + 4 * count) (sealL (gen * 256 + (count + 1)) (hdBody b)) = D3 at *
      have whole : ∀ k, secAt (D2.stable.set (first + 4 * count) (sealL (gen * 256 + (count + 1)) (hdBody b))) k = addRead d.read first gen count b k := fun k => by
        rw [secAt_set (by rw [e4]; omega), er]
        unfold addRead
        rfl
      by_cases hp3 : D3.power.2 = true
      · left
        have e7 : D3.flush = (D3.power.1.flushed, true) := by unfold Dk.flush; rw [if_pos hp3]
        rw [e7]
        rw [if_neg (show ¬ ((true : Bool) = false) by decide)]
        have e8 : D3.power.1.flushed.stable = D2.stable.set (first + 4 * count) (sealL (gen * 256 + (count + 1)) (hdBody b)) := by
          show applyW D3.power.1.stable D3.power.1.pend = _
          rw [power_stable, power_pend, e5, e6]
          rfl
        refine ⟨_, rfl, rfl, by rw [e8, List.length_set, e4], (fun hl => ?_), fun k => ?_⟩
        · have := hl3 hl
          rw [this.power]
          exact this
        · show secAt D3.power.1.flushed.stable k = _
          rw [e8]
          exact whole k
      · right
        have e7 : D3.flush = (D3.power.1, false) := by unfold Dk.flush; rw [if_neg hp3]
        rw [e7]
        rw [if_pos rfl]
        refine ⟨_, rfl, by rw [power_stable, e6, e4], (fun hl => hp3 (by rw [(hl3 hl).power])), by rw [power_pend, e5]; simp, fun keep t cut hcut => ?_⟩
        have ec : (D3.power.1.crashed keep t cut).stable = crashStep keep t (max 0 (min cut 128)).toNat D2.stable 0 (first + 4 * count, sealL (gen * 256 + (count + 1)) (hdBody b)) := by
          show crashTo keep t _ D3.power.1.stable D3.power.1.pend D3.power.1.pend.length = _
          rw [power_stable, power_pend, e5, e6]
          rfl
        have erd : ∀ k, (D3.power.1.crashed keep t cut).read k = secAt (D3.power.1.crashed keep t cut).stable k := fun k => rfl
        have old : ∀ k, ¬ (first + 4 * count + 1 ≤ k ∧ k < first + 4 * count + 4) → secAt D2.stable k = d.read k := fun k hk => by
          rw [er, if_neg (by omega)]
        simp only [erd, ec, crashStep]
        by_cases h0 : ((0 : Nat) : Int) = t
        · left
          intro k hk
          rw [if_pos h0, hcut h0.symm]
          have e9 : tornSec (secAt D2.stable (first + 4 * count)) (sealL (gen * 256 + (count + 1)) (hdBody b)) (max (0 : Int) (min (0 : Int) 128)).toNat = secAt D2.stable (first + 4 * count) := by
            show tornSec _ _ 0 = _
            simp [tornSec]
          rw [e9, secAt_set (by rw [e4]; omega)]
          by_cases ek : k = first + 4 * count
          · rw [if_pos ek, ← ek]; exact old k hk
          · rw [if_neg ek]; exact old k hk
        · by_cases hkp : atB keep 0 = true
          · right
            intro k
            rw [if_neg h0, if_pos hkp]
            exact whole k
          · left
            intro k hk
            rw [if_neg h0, if_neg hkp]
            exact old k hk
    · right
      rw [if_pos (by simpa using hp2)]
      refine ⟨_, rfl, by rw [power_stable, e4], (fun hl => hp2 (by rw [(hl2 hl).power])), by rw [power_pend, e3]; simp, fun keep t cut _ => .inl fun k hk => ?_⟩
      rw [crashed_far _ keep t cut k (by rw [power_pend, e3]; intro x hx; cases hx), read_clean (by rw [power_pend, e3]), power_stable, er, if_neg (by omega)]
  · right
    have e1 : D1.flush = (D1.power.1, false) := by unfold Dk.flush; rw [if_neg hf]
    rw [e1]
    rw [if_pos rfl]
    refine ⟨_, rfl, by rw [power_stable, h1], (fun hl => hf (by rw [(h5 hl).1.power])), hlen _ (by rw [power_pend, h2]), hfar _ (by rw [power_stable, h1]) (by rw [power_pend, h2])⟩
end Go.Proofs.Ytgakajofggmbjaa

/- What a scan finds behind an Add; no program in sight. -/
namespace Go.Proofs.Ytgakajofggmbjaa
open Go.RowKit

theorem pieceS_eq (b : List UInt8) (k : Nat) : pieceS b k = (b.drop (128 * k)).take 128 ++ zsec.drop ((b.drop (128 * k)).take 128).length := by
  simp [pieceS, splice]
/-- The pieces make up the record. -/
theorem recAll_pieces (rd : Nat → List UInt8) (at' : Nat) (b : List UInt8) (hp : ∀ k, k < (b.length + 127) / 128 → rd (at' + 1 + k) = pieceS b k) (hl : ∀ k, k < 3 → (rd (at' + 1 + k)).length = 128) : ∀ k, k ≤ 3 → (recAll rd at' k).take b.length = b.take (128 * k)
  | 0, _ => by simp [recAll]
  | k + 1, hk => by
    have ih := recAll_pieces rd at' b hp hl k (by omega)
    have hlen := recAll_length rd at' k (fun i hi => hl i (by omega))
    rw [recAll, List.take_append, ih, hlen, show 128 * (k + 1) = 128 * k + 128 by omega, List.take_add]
    congr 1
    by_cases h : b.length ≤ 128 * k
    · rw [show b.length - 128 * k = 0 by omega, List.drop_of_length_le h]
      simp
    · rw [hp k (by omega), pieceS_eq]
      have hc : ((b.drop (128 * k)).take 128).length = min 128 (b.length - 128 * k) := by simp
      rw [List.take_append]
      by_cases h2 : b.length - 128 * k ≤ 128
      · rw [List.take_of_length_le (by rw [hc]; omega), show b.length - 128 * k - ((b.drop (128 * k)).take 128).length = 0 by rw [hc]; omega]
        simp
      · rw [List.take_of_length_le (by rw [hc]; omega)]
        have : zsec.drop ((b.drop (128 * k)).take 128).length = [] := List.drop_of_length_le (by rw [hc, zsec_length]; omega)
        rw [this]
        simp
theorem hdBody_len (b : List UInt8) : (hdBody b).length = 6 := by simp [hdBody, be_length]
theorem rec_found {rd : Nat → List UInt8} {at' mark : Nat} {b : List UInt8} (hb : b.length ≤ 384) (h0 : mark ≠ 0) (hm : mark < 18446744073709551616) (hh : rd at' = sealL mark (hdBody b))
    (hp : ∀ k, k < (b.length + 127) / 128 → rd (at' + 1 + k) = pieceS b k) (hl : ∀ k, k < 3 → (rd (at' + 1 + k)).length = 128) : recM rd at' mark = some b := by
  have ha := recAll_pieces rd at' b hp hl 3 (Nat.le_refl _)
  rw [List.take_of_length_le (show b.length ≤ 128 * 3 by omega)] at ha
  have e2 : (hdBody b).take 2 = be b.length 2 := by
    unfold hdBody
    rw [List.take_append_of_le_length (by rw [be_length]; omega), List.take_of_length_le (by rw [be_length]; omega)]
  have e4 : (hdBody b).drop 2 = be (crcAdd 0#32 b).toNat 4 := by
    unfold hdBody
    rw [List.drop_append_of_le_length (by rw [be_length]; omega), List.drop_of_length_le (by rw [be_length]; omega), List.nil_append]
  have hc : (crcAdd 0#32 b).toNat < 4294967296 := (crcAdd 0#32 b).isLt
  have n2 : numOf ((hdBody b).take 2) = b.length := by rw [e2]; exact numOf_be 2 _ (by omega)
  have n4 : numOf ((hdBody b).drop 2) = (crcAdd 0#32 b).toNat := by rw [e4]; exact numOf_be 4 _ (by omega)
  unfold recM
  rw [hh, open_seal mark _ hm h0 (by rw [hdBody_len]; omega)]
  simp only [unpack24, hdBody_len, if_true, ne_eq, not_true, if_false]
  have f0 : nmAt [(numOf ((hdBody b).take 2), ([] : List UInt8)), (numOf ((hdBody b).drop 2), [])] 0 = b.length := n2
  have f1 : nmAt [(numOf ((hdBody b).take 2), ([] : List UInt8)), (numOf ((hdBody b).drop 2), [])] 1 = (crcAdd 0#32 b).toNat := n4
  rw [f0, f1, if_neg (by omega), ha, if_pos rfl]
/-- No head of that mark. -/
def Old (x : List UInt8) (want : Nat) : Prop := ∀ m body, openM x = some (m, body) → m ≠ want
theorem Old.none {rd : Nat → List UInt8} {at' want : Nat} (h : Old (rd at') want) : recM rd at' want = none := by
  unfold recM
  cases ho : openM (rd at') with
  | none => rfl
  | some mb =>
    obtain ⟨m, body⟩ := mb
    simp only
    rw [if_pos (h m body ho)]
theorem old_zero (want : Nat) : Old zsec want := fun m body h => by rw [open_zeros] at h; cases h
theorem old_seal {m want : Nat} {b : List UInt8} (hm : m < 18446744073709551616) (h0 : m ≠ 0) (hne : m ≠ want) : Old (sealL m (hdBody b)) want := fun m' body h => by
  rw [open_seal m _ hm h0 (by rw [hdBody_len]; omega)] at h
  injection h with h
  injection h with h _
  rw [← h]
  exact hne
theorem recM_congr {rd rd' : Nat → List UInt8} {at' want : Nat} (h : ∀ i, i < 4 → rd (at' + i) = rd' (at' + i)) : recM rd at' want = recM rd' at' want := by
  have h0 : rd at' = rd' at' := h 0 (by omega)
  have h1 : recAll rd at' 3 = recAll rd' at' 3 := by
    simp only [recAll]
    rw [show at' + 1 + 0 = at' + 1 by omega, show at' + 1 + 1 = at' + 2 by omega, show at' + 1 + 2 = at' + 3 by omega, h 1 (by omega), h 2 (by omega), h 3 (by omega)]
  unfold recM
  rw [h0, h1]
theorem scanF_of (rd : Nat → List UInt8) (first gen : Nat) (l : List (List UInt8)) (hl : l.length ≤ 4) (hf : ∀ i, i < l.length → recM rd (first + 4 * i) (gen * 256 + (i + 1)) = some (atL l i))
    (he : l.length < 4 → recM rd (first + 4 * l.length) (gen * 256 + (l.length + 1)) = none) : ∀ n place, place + n = 4 → place ≤ l.length → scanF rd first gen n place = l.drop place
  | 0, place, h, hp => by rw [List.drop_of_length_le (by omega)]; rfl
  | n + 1, place, h, hp => by
    by_cases e : place < l.length
    · rw [scanF, hf place e]
      simp only
      rw [scanF_of rd first gen l hl hf he n (place + 1) (by omega) (by omega), List.drop_eq_getElem_cons e, atL, List.getD_eq_getElem?_getD, List.getElem?_eq_getElem e]
      rfl
    · obtain rfl : place = l.length := by omega
      rw [scanF, he (by omega), List.drop_of_length_le (Nat.le_refl _)]
/-- The generation's records are l; no more. -/
structure Has (rd : Nat → List UInt8) (first gen : Nat) (l : List (List UInt8)) : Prop where
  len : l.length ≤ 4
  found : ∀ i, i < l.length → recM rd (first + 4 * i) (gen * 256 + (i + 1)) = some (atL l i)
  rest : ∀ i, l.length ≤ i → i < 4 → Old (rd (first + 4 * i)) (gen * 256 + (i + 1))
theorem Has.scan {rd : Nat → List UInt8} {first gen : Nat} {l : List (List UInt8)} (h : Has rd first gen l) : scanM rd first gen = l := by
  have := scanF_of rd first gen l h.len h.found (fun hl => (h.rest _ (Nat.le_refl _) hl).none) 4 0 rfl (Nat.zero_le _)
  exact this
theorem Has.congr {rd rd' : Nat → List UInt8} {first gen : Nat} {l : List (List UInt8)} (h : Has rd first gen l) (he : ∀ k, ¬ (first + 4 * l.length + 1 ≤ k ∧ k < first + 4 * l.length + 4) → rd' k = rd k) : Has rd' first gen l :=
  ⟨h.len, fun i hi => by rw [recM_congr (rd' := rd) (fun j hj => he _ (by omega))]; exact h.found i hi, fun i h1 h2 => by rw [he _ (by omega)]; exact h.rest i h1 h2⟩
theorem atL_snoc (l : List (List UInt8)) (b : List UInt8) (i : Nat) : atL (l ++ [b]) i = if i < l.length then atL l i else if i = l.length then b else [] := by
  unfold atL
  rw [List.getD_eq_getElem?_getD, List.getD_eq_getElem?_getD]
  by_cases h : i < l.length
  · rw [if_pos h, List.getElem?_append_left h]
  · rw [if_neg h, List.getElem?_append_right (by omega)]
    by_cases e : i = l.length
    · rw [if_pos e, e]; simp
    · rw [if_neg e]
      have : i - l.length ≠ 0 := by omega
      obtain ⟨n, hn⟩ := Nat.exists_eq_succ_of_ne_zero this
      rw [hn]
      simp
theorem addRead_far {rd : Nat → List UInt8} {first gen count : Nat} {b : List UInt8} {k : Nat} (hb : b.length ≤ 384) (hk : k < first + 4 * count ∨ first + 4 * count + 4 ≤ k) : addRead rd first gen count b k = rd k := by
  unfold addRead
  rw [if_neg (by omega), if_neg (by omega)]
theorem Has.add {rd : Nat → List UInt8} {first gen : Nat} {l : List (List UInt8)} (h : Has rd first gen l) (hc : l.length < 4) (b : List UInt8) (hb : b.length ≤ 384) (hg : gen < 562949953421312) (hl : ∀ k, k < 3 → (rd (first + 4 * l.length + 1 + k)).length = 128) :
    Has (addRead rd first gen l.length b) first gen (l ++ [b]) := by
  have hln : (l ++ [b]).length = l.length + 1 := by simp
  refine ⟨by omega, fun i hi => ?_, fun i h1 h2 => ?_⟩
  · rw [hln] at hi
    rw [atL_snoc]
    by_cases e : i < l.length
    · rw [if_pos e, recM_congr (rd' := rd) (fun j hj => addRead_far hb (by omega))]
      exact h.found i e
    · obtain rfl : i = l.length := by omega
      rw [if_neg e, if_pos rfl]
      refine rec_found hb (by omega) (by omega) (by unfold addRead; rw [if_pos rfl]) (fun k hk => ?_) (fun k hk => ?_)
      · unfold addRead
        rw [if_neg (by omega), if_pos (by omega)]
        congr 1
        omega
      · unfold addRead
        rw [if_neg (by omega)]
        split
        · exact pieceS_length _ _
        · exact hl k hk
  · rw [hln] at h1
    rw [addRead_far hb (by omega)]
    exact h.rest i (by omega) h2
/-- No head is of a generation from g on. -/
def Heads (rd : Nat → List UInt8) (first g : Nat) : Prop := ∀ i, i < 4 → ∀ g', g ≤ g' → Old (rd (first + 4 * i)) (g' * 256 + (i + 1))
theorem Heads.has {rd : Nat → List UInt8} {first g : Nat} (h : Heads rd first g) : Has rd first g [] := ⟨by simp, fun i hi => by simp at hi, fun i _ h2 => h i h2 g (Nat.le_refl _)⟩
theorem Heads.mono {rd : Nat → List UInt8} {first g g' : Nat} (h : Heads rd first g) (hg : g ≤ g') : Heads rd first g' := fun i hi g2 h2 => h i hi g2 (Nat.le_trans hg h2)
theorem Heads.congr {rd rd' : Nat → List UInt8} {first g count : Nat} (h : Heads rd first g) (he : ∀ k, ¬ (first + 4 * count + 1 ≤ k ∧ k < first + 4 * count + 4) → rd' k = rd k) : Heads rd' first g := fun i hi g2 h2 => by
  rw [he _ (by omega)]; exact h i hi g2 h2
theorem Heads.add {rd : Nat → List UInt8} {first gen count : Nat} (h : Heads rd first (gen + 1)) (hc : count < 4) (b : List UInt8) (hb : b.length ≤ 384) (hg : gen < 562949953421312) : Heads (addRead rd first gen count b) first (gen + 1) := fun i hi g2 h2 => by
  by_cases e : i = count
  · subst e
    have : addRead rd first gen i b (first + 4 * i) = sealL (gen * 256 + (i + 1)) (hdBody b) := by unfold addRead; rw [if_pos rfl]
    rw [this]
    exact old_seal (by omega) (by omega) (by omega)
  · rw [addRead_far hb (by omega)]
    exact h i hi g2 h2
theorem heads_zero (first g : Nat) (rd : Nat → List UInt8) (h : ∀ k, rd k = zsec) : Heads rd first g := fun i hi g2 h2 => by rw [h]; exact old_zero _
/-- A head of another generation ends a scan at once. -/
theorem scan_none {rd : Nat → List UInt8} {first gen : Nat} (h : Old (rd first) (gen * 256 + 1)) : scanM rd first gen = [] := by
  unfold scanM
  rw [scanF]
  have : recM rd (first + 4 * 0) (gen * 256 + (0 + 1)) = none := by
    rw [Nat.mul_zero, Nat.add_zero, Nat.zero_add]
    exact h.none
  rw [this]
theorem newDk_zero (n : Int) (k : Nat) : (newDk n).read k = zsec := by
  show secAt (List.replicate _ zsec) k = zsec
  unfold secAt
  rw [List.getD_eq_getElem?_getD, List.getElem?_replicate]
  split <;> rfl
theorem crashed_clean {d : Dk} (h : d.pend = []) (keep : List Bool) (torn cut : Int) (k : Nat) : (d.crashed keep torn cut).read k = d.read k := crashed_far d keep torn cut k (by rw [h]; intro x hx; cases hx)
/-- What isn't added leaves all as it is. -/
theorem addM_not (d : Dk) (first gen count : Nat) (b : List UInt8) (h : 384 < b.length ∨ 4 ≤ count) : addM d first gen count b = (d, count, if 384 < b.length then 63 else 62) := by
  unfold addM
  by_cases h1 : 384 < b.length
  · rw [if_pos h1, if_pos h1]
  · rw [if_neg h1, if_neg h1, if_pos (by omega)]
end Go.Proofs.Ytgakajofggmbjaa
