/- The codec's reader: take and num; the reference's number. -/
import Derived.Test.YtanibabfdpgbbaaMg4
import Derived.Test.YtanibabfdpgbbaaMg3
import Derived.Laws.Bits64b
namespace Go.Proofs.Ytanibabfdpgbbaa
open Go.RowKit

/-- What is left of a slice value behind k. -/
def restV (A : Option Addr) (n c k : Nat) : Value := .slice (cutA A c k) (n - k) (c - k)
set_option maxRecDepth 20000 in
set_option maxHeartbeats 1600000 in
theorem take_fit (g : Nat) (A : Option Addr) (n c k : Nat) (w : World) (hc : w.cell? ⟨g, 0, none⟩ = some (.slice A n c)) (hf : w.frozen? ⟨g, 0, none⟩ = false) (hk : k ≤ n) (hnc : n ≤ c) (_hcm : c ≤ 9223372036854775807) :
    Calls Try.prog 62 #[.pointer (some ⟨g, 0, none⟩), .int .i64 k] w fun e w' => e = .returned (.slice A k c) ∧ w' = w.setCell ⟨g, 0, none⟩ (restV A n c k) := by
  have hd : decide (n < k) = false := decide_eq_false (by omega)
  have hk0 : (0 : Int) ≤ (k : Int) := Int.natCast_nonneg _
  have hk1 : (k : Int) ≤ (c : Int) := by omega
  have hk2 : (k : Int) ≤ (n : Int) := by omega
  go_enter Try.func62, Try.ntmps62
  go_wp2_with fail
  refine (fail_no _).mono ?_
  rintro e w' ⟨rfl, rfl⟩
  go_wp2_with fail
  all_goals
    go_ret
    refine ⟨rfl, ?_⟩
    simp [restV, cutA, *]
theorem take_unfit (g : Nat) (A : Option Addr) (n c k : Nat) (w : World) (hc : w.cell? ⟨g, 0, none⟩ = some (.slice A n c)) (hk : n < k) :
    Calls Try.prog 62 #[.pointer (some ⟨g, 0, none⟩), .int .i64 k] w fun e w' => e = .panicked gaveUp ∧ w = w' := by
  have hd : decide (n < k) = true := decide_eq_true (by omega)
  go_enter Try.func62, Try.ntmps62
  go_wp2_with fail
  refine (fail_yes _).mono ?_
  rintro e w' ⟨rfl, rfl⟩
  exact ⟨rfl, rfl, rfl⟩

set_option maxRecDepth 20000 in
set_option maxHeartbeats 1600000 in
theorem num_unfit (g : Nat) (A : Option Addr) (n c k : Nat) (w : World) (hc : w.cell? ⟨g, 0, none⟩ = some (.slice A n c)) (hk : n < k) :
    Calls Try.prog 61 #[.pointer (some ⟨g, 0, none⟩), .int .i64 k] w fun e w' => e = .panicked gaveUp ∧ w = w' := by
  go_enter Try.func61, Try.ntmps61
  go_wp2_with fail
  refine (take_unfit g A n c k w hc hk).mono ?_
  rintro e w' ⟨rfl, rfl⟩
  exact ⟨rfl, rfl, rfl⟩
set_option maxRecDepth 20000 in
theorem or_byte (m : Nat) (x : UInt8) (h : m * 256 + x.toNat < 18446744073709551616) : bits .or .u64 ((m : Int) * 256) (x.toNat : Int) = ((m * 256 + x.toNat : Nat) : Int) := by
  have hx := x.toNat_lt
  have h2 := Nat.two_pow_add_eq_or_of_lt (i := 8) (b := x.toNat) hx m
  rw [show (2 : Nat) ^ 8 = 256 from rfl, Nat.mul_comm 256 m] at h2
  have h3 := bits_or_u64_nat (m * 256) x.toNat (by omega) (by omega)
  rw [Int.natCast_mul] at h3
  rw [h2]
  exact h3
set_option maxRecDepth 20000 in
set_option maxHeartbeats 1600000 in
theorem num_fit (g : Nat) (A : Option Addr) (n c k : Nat) (xs : List UInt8) (w : World) (hc : w.cell? ⟨g, 0, none⟩ = some (.slice A n c)) (hf : w.frozen? ⟨g, 0, none⟩ = false) (hk : k ≤ n) (hk8 : k ≤ 8)
    (hr : RB (w.setCell ⟨g, 0, none⟩ (restV A n c k)) A n c xs) :
    Calls Try.prog 61 #[.pointer (some ⟨g, 0, none⟩), .int .i64 k] w fun e w' => e = .returned (.int .u64 (numOf (xs.take k))) ∧ w' = w.setCell ⟨g, 0, none⟩ (restV A n c k) := by
  have hnc := hr.2.1
  have hcm := hr.2.2.1
  have HR := Lib.hid hr
  clear hr
  go_enter Try.func61, Try.ntmps61
  go_wp2_with fail
  refine (take_fit g A n c k w hc hf hk hnc hcm).mono ?_
  rintro e w' ⟨rfl, rfl⟩
  generalize hw1 : w.setCell ⟨g, 0, none⟩ (restV A n c k) = w1 at *
  have HW1 := Lib.hid hw1
  clear hc hf hw1
  go_wp2_with fail
  go_loopw [5, 12] (fun u i wr => ∃ j, j ≤ k ∧ i = .int .i64 (j : Nat) ∧ u = .int .u64 (numOf (xs.take j)) ∧ wr = w1) (fun _ i _ => k - (intOf i).toNat)
  case atStart => exact ⟨0, by omega, rfl, rfl, rfl⟩
  case round =>
    obtain ⟨j, hj, rfl, rfl, rfl⟩ := hrel
    by_cases hlt : j < k
    · have hj0 : (0 : Int) ≤ (j : Int) := Int.natCast_nonneg _
      have hj1 : (j : Int) < (k : Int) := by omega
      obtain ⟨b, o, rfl, hcells⟩ := HR.out.2.2.2 (by omega)
      have hcell := hcells j (by omega)
      have hnt := numOf_take xs j (by rw [HR.out.1]; omega)
      have hsm := numOf_small xs (j + 1) (by omega)
      rw [hnt] at hsm
      have hx := (at8 xs j).toNat_lt
      have HT := Lib.hid hnt
      clear hcells hnt
      generalize numOf (xs.take j) = m at *
      generalize at8 xs j = x at *
      go_wp2_with fail
      go_roundw
      case rel => exact ⟨j + 1, by omega, by go_num, by rw [HT.out, or_byte m x (by omega)], trivial⟩
      case measure => simp [intOf]; omega
    · obtain rfl : j = k := by omega
      go_wp2_with fail
      go_ret
      exact ⟨rfl, HW1.out.symm⟩
end Go.Proofs.Ytanibabfdpgbbaa

/- The codec's unpack. -/
namespace Go.Proofs.Ytanibabfdpgbbaa
open Go.RowKit

/-- What unpack does with memory. -/
def UnPost (w : World) (r : Option (List (Nat × List UInt8))) (e : Ending) (w' : World) : Prop :=
  (∃ v lk, r = some (vals lk) ∧ e = .returned v ∧ OFields w' w.heap.size v lk ∧ Below w.heap.size w w') ∨ (r = none ∧ e = .panicked gaveUp ∧ Below w.heap.size w w')
/-- The reader: its cell, in a block of its own. -/
structure Reads (w0 w : World) (A : Option Addr) (n c : Nat) (xs : List UInt8) : Prop where
  cell : w.cell? ⟨w0.heap.size, 0, none⟩ = some (.slice A n c)
  fz : w.frozen? ⟨w0.heap.size, 0, none⟩ = false
  rb : RB w0 A n c xs
  below : Below w0.heap.size w0 w
  size : w0.heap.size + 1 ≤ w.heap.size
section
variable {w0 w w' : World} {A : Option Addr} {n c : Nat} {xs : List UInt8}
theorem Reads.alloc (h : Reads w0 w A n c xs) (o : Obj) : Reads w0 (w.alloc o) A n c xs :=
  ⟨(World.cell?_alloc_past _ _ _ h.size).trans h.cell, by rw [World.frozen?_of_block (a := ⟨w0.heap.size, 0, none⟩) (Go.heap_alloc_old w o (by have := h.size; show w0.heap.size < w.heap.size; omega))]; exact h.fz, h.rb, h.below.alloc h.below.size o, by simp; have := h.size; omega⟩
theorem Reads.on (h : Reads w0 w A n c xs) (hb : Below (w0.heap.size + 1) w w') : Reads w0 w' A n c xs :=
  ⟨(World.cell?_of_block (hb.block _ (by simp))).trans h.cell, by rw [World.frozen?_of_block (hb.block _ (by simp))]; exact h.fz, h.rb, h.below.trans (hb.mono (by omega)), Nat.le_trans h.size hb.size⟩
theorem Reads.took (h : Reads w0 w A n c xs) (k : Nat) (hk : k ≤ n) : Reads w0 (w.setCell ⟨w0.heap.size, 0, none⟩ (restV A n c k)) (cutA A c k) (n - k) (c - k) (xs.drop k) :=
  ⟨World.cell?_setCell_same _ _ _ h.cell, by rw [World.frozen?_setCell]; exact h.fz, h.rb.rest k hk, h.below.setCell (Nat.le_refl _) _, by simp [World.setCell]; exact h.size⟩
theorem Reads.tookRB (h : Reads w0 w A n c xs) (k : Nat) : RB (w.setCell ⟨w0.heap.size, 0, none⟩ (restV A n c k)) A n c xs := h.rb.below (h.below.setCell (Nat.le_refl _) _)
end
set_option maxRecDepth 20000 in
set_option maxHeartbeats 3200000 in
theorem codec_unpack_main (sh : List UInt8) (A : Option Addr) (n c : Nat) (bs : List UInt8) (w : World) (hr : RB w A n c bs) (hs : sh.length ≤ 200) :
    Calls Try.prog 56 #[.string (strOf sh), .slice A n c] w (UnPost w (unpackM sh bs)) := by
  have HR := Lib.hid hr
  generalize hm : sh.length = m at *
  have hsz : (strOf sh).size = m := by simp [strOf, hm, ByteArray.size]
  have hd : decide ((200 : Int) < (m : Int)) = false := decide_eq_false (by omega)
  have HM := Lib.hid hm
  clear hr hm
  go_enter Try.func56, Try.ntmps56
  go_wp2_with fail
  refine (fail_no _).mono ?_
  rintro e w' ⟨rfl, rfl⟩
  go_wp2_with fail
  have h0 : Reads w (w.alloc (.cells #[.slice A n c] 117)) A n c bs :=
    ⟨by simp [go_sem], by simp [go_sem], HR.out, below_alloc _ _, by simp⟩
  have H0 := Lib.hid h0
  clear h0
  go_loopw [6, 19] (fun u i wr => ∃ k p lk A' n' c', k ≤ m ∧ i = .int .i64 (k : Nat) ∧ Hid (unTo sh bs k = some (vals lk, p)) ∧ Hid (OFields wr (w.heap.size + 1) u lk) ∧ Hid (lk.length = k) ∧ Hid (Reads w wr A' n' c' (bs.drop p)) ∧ Hid (p ≤ bs.length)) (fun _ i _ => m - (intOf i).toNat)
  case atStart => exact ⟨0, 0, [], A, n, c, by omega, rfl, Lib.hid rfl, Lib.hid ⟨World.ownsRow_nil _ _ _ _, by simp, by simp, by simp⟩, Lib.hid rfl, H0, Lib.hid (Nat.zero_le _)⟩
  case round =>
    obtain ⟨k, p, lk, A', n', c', hk, rfl, HP, HO, HK, HRD, HPB⟩ := hrel
    by_cases hlt : k < m
    · have hk0 : (0 : Int) ≤ (k : Int) := Int.natCast_nonneg _
      have hk1 : (k : Int) < (m : Int) := by omega
      have hst := unTo_step HP.out
      have hg := strOf_get sh k
      have HNO : Hid (unTo sh bs (k + 1) = none → unpackM sh bs = none) := Lib.hid fun h => unpackM_none h (by rw [HM.out]; omega)
      have hbl : (bs.drop p).length = n' := HRD.out.rb.1
      generalize hys : bs.drop p = ys at *
      generalize at8 sh k = ch at hst hg
      have hcl := HRD.out.cell
      rcases letterW_cases ch with hlw | ⟨hlw, rfl⟩ | ⟨wd, hlw, hcw⟩
      · have HST : Hid (unTo sh bs (k + 1) = none) := Lib.hid (by rw [hst, decF, hlw]; rfl)
        have HW := Lib.hid (width_none ch hlw)
        clear hst hlw
        go_wp2_with fail
        refine (HW.out _).mono ?_
        rintro e w' ⟨rfl, rfl⟩
        exact ⟨rfl, .inr ⟨HNO.out HST.out, rfl, HRD.out.below⟩⟩
      · by_cases h2 : n' < 2
        · have HST : Hid (unTo sh bs (k + 1) = none) := Lib.hid (by rw [hst, decF, hlw]; simp only []; rw [if_pos (by rw [hbl]; exact h2)]; rfl)
          clear hst hlw
          go_wp2_with fail
          refine (width_b _).mono ?_
          rintro e w' ⟨rfl, rfl⟩
          go_wp2_with fail
          refine (num_unfit w.heap.size A' n' c' 2 wr hcl h2).mono ?_
          rintro e w' ⟨rfl, rfl⟩
          exact ⟨rfl, .inr ⟨HNO.out HST.out, rfl, HRD.out.below⟩⟩
        · have HNF := Lib.hid (num_fit w.heap.size A' n' c' 2 ys wr hcl HRD.out.fz (by omega) (by omega) (HRD.out.tookRB 2))
          have HT := Lib.hid (HRD.out.took 2 (by omega))
          have hsm := numOf_lt ys 2
          have HO2 := Lib.hid (HO.out.set ⟨w.heap.size, 0, none⟩ (restV A' n' c' 2) (by simp))
          by_cases h1024 : 1024 < numOf (ys.take 2)
          · have HST : Hid (unTo sh bs (k + 1) = none) := Lib.hid (by rw [hst, decF, hlw]; simp only []; rw [if_neg (by rw [hbl]; exact h2), if_pos h1024]; rfl)
            generalize numOf (ys.take 2) = v at *
            have hv0 : (0 : Int) ≤ (v : Int) := Int.natCast_nonneg _
            have hv1 : (v : Int) < 65536 := by omega
            have hd1 : decide ((1024 : Int) < (v : Int)) = true := decide_eq_true (by omega)
            clear hst hlw
            go_wp2_with fail
            refine (width_b _).mono ?_
            rintro e w' ⟨rfl, rfl⟩
            go_wp2_with fail
            refine HNF.out.mono ?_
            rintro e w' ⟨rfl, rfl⟩
            go_wp2_with fail
            refine (fail_yes _).mono ?_
            rintro e w' ⟨rfl, rfl⟩
            exact ⟨rfl, .inr ⟨HNO.out HST.out, rfl, HT.out.below⟩⟩
          · have hdec : decF 98 ys = if ys.length - 2 < numOf (ys.take 2) then none else some ((0, (ys.drop 2).take (numOf (ys.take 2))), 2 + numOf (ys.take 2)) := by
              rw [decF, hlw]; simp only []; rw [if_neg (by rw [hbl]; exact h2), if_neg h1024]
            generalize numOf (ys.take 2) = v at *
            have hv0 : (0 : Int) ≤ (v : Int) := Int.natCast_nonneg _
            have hv1 : (v : Int) ≤ 1024 := by omega
            have hd1 : decide ((1024 : Int) < (v : Int)) = false := decide_eq_false (by omega)
            have hwrap : IntKind.i64.wrap (v : Int) = (v : Int) := by simp [IntKind.wrap, IntKind.signed, IntKind.bits]; omega
            by_cases hfit : n' - 2 < v
            · have HST : Hid (unTo sh bs (k + 1) = none) := Lib.hid (by rw [hst, hdec, if_pos (by rw [hbl]; exact hfit)]; rfl)
              clear hst hlw hdec
              go_wp2_with fail
              refine (width_b _).mono ?_
              rintro e w' ⟨rfl, rfl⟩
              go_wp2_with fail
              refine HNF.out.mono ?_
              rintro e w' ⟨rfl, rfl⟩
              generalize wr.setCell ⟨w.heap.size, 0, none⟩ (restV A' n' c' 2) = w2 at *
              clear HNF
              go_wp2_with fail
              refine (fail_no _).mono ?_
              rintro e w' ⟨rfl, rfl⟩
              go_wp2_with fail
              refine (take_unfit w.heap.size (cutA A' c' 2) (n' - 2) (c' - 2) v _ (HT.out.alloc _).cell hfit).mono ?_
              rintro e w' ⟨rfl, rfl⟩
              exact ⟨rfl, .inr ⟨HNO.out HST.out, rfl, (HT.out.alloc _).below⟩⟩
            · have HST : Hid (unTo sh bs (k + 1) = some (vals lk ++ [(0, (ys.drop 2).take v)], p + (2 + v))) := Lib.hid (by rw [hst, hdec, if_neg (by rw [hbl]; exact hfit)]; rfl)
              clear hst hlw hdec
              go_wp2_with fail
              refine (width_b _).mono ?_
              rintro e w' ⟨rfl, rfl⟩
              go_wp2_with fail
              refine HNF.out.mono ?_
              rintro e w' ⟨rfl, rfl⟩
              generalize wr.setCell ⟨w.heap.size, 0, none⟩ (restV A' n' c' 2) = w2 at *
              clear HNF
              go_wp2_with fail
              refine (fail_no _).mono ?_
              rintro e w' ⟨rfl, rfl⟩
              go_wp2_with fail
              have ha := HT.out.alloc (.cells #[] 5)
              refine (take_fit w.heap.size (cutA A' c' 2) (n' - 2) (c' - 2) v _ ha.cell ha.fz (by omega) ha.rb.2.1 ha.rb.2.2.1).mono ?_
              rintro e w' ⟨rfl, rfl⟩
              have h3 := Lib.hid (ha.took v (by omega))
              have he3 := Lib.hid (own_set (own_empty w2 (w.heap.size + 1) 5 1 HT.out.size) ⟨w.heap.size, 0, none⟩ (restV (cutA A' c' 2) (n' - 2) (c' - 2) v) (fun e => by
                have := HT.out.size
                simp [Value.ownBlock] at e
                omega))
              have ho3 := Lib.hid ((HO2.out.alloc (.cells #[] 5)).set ⟨w.heap.size, 0, none⟩ (restV (cutA A' c' 2) (n' - 2) (c' - 2) v) (by simp))
              have hz3 : Hid (w2.heap.size < ((w2.alloc (.cells #[] 5)).setCell ⟨w.heap.size, 0, none⟩ (restV (cutA A' c' 2) (n' - 2) (c' - 2) v)).heap.size) := Lib.hid (by simp [World.setCell])
              have hrf := Lib.hid (ha.rb.first v (by omega))
              generalize (w2.alloc (.cells #[] 5)).setCell ⟨w.heap.size, 0, none⟩ (restV (cutA A' c' 2) (n' - 2) (c' - 2) v) = w3 at *
              have hlen3 : Hid (((ys.drop 2).take v).length = v) := Lib.hid hrf.out.1
              generalize hzs : (ys.drop 2).take v = zs at *
              clear ha hwrap
              go_wp2_with (at_builtin; first
                | (refine wpList_append_any (w0 := w3) (w.heap.size + 1) rfl _ _ 76 5 (.int .u8 0) 1 1 rfl Try.underlying76 Try.infoU8' rfl (by decide) (by decide) (.slice (some ⟨w2.heap.size, 0, none⟩) 0 0) 0 [] (cutA A' c' 2) v (c' - 2) (bv zs) rfl rfl he3.out ((hrf.out.below h3.out.below).rd) (bv_one _) (by omega) (Below.refl _ _) h3.out.size ?_
                   intro v4 w4 hown4 hb4 hg4 ha4
                   rw [Nat.zero_add, List.nil_append] at hown4
                   obtain ⟨A1, c1, rfl, -⟩ := own_rb hown4
                   have h4 := Lib.hid (h3.out.on hb4)
                   have ho4 := Lib.hid (HO2.out.kept ho3.out hg4 (Nat.le_refl _))
                   have HO4 := Lib.hid hown4
                   clear hown4 hb4 hg4 ha4)
                | (refine wpList_append_any (w0 := w4.alloc (.cells #[.int .u64 0, .slice A1 v c1] 83)) (w.heap.size + 1) rfl _ _ 79 83 (.agg #[.int .u64 0, .slice none 0 0]) 2 32 rfl Try.underlying79 Try.info87 rfl (by decide) (by decide) u6 lk.length (fcells lk) (some ⟨w4.heap.size, 0, none⟩) 1 1 [.int .u64 0, .slice A1 v c1] rfl rfl (ho4.out.alloc _).row ⟨rfl, fun _ => ⟨_, _, rfl, fun j v hj => by rw [World.cell?_alloc_mark, Nat.zero_add]; simpa using hj⟩⟩ (by simp [Value.oneCell']) (by rw [HK.out]; omega) (Below.refl _ _) (h4.out.alloc _).size ?_
                   intro v5 w5 hown5 hb5 hg5 ha5
                   have h5 := Lib.hid ((h4.out.alloc _).on hb5)
                   have ho5 : Hid (OFields w5 (w.heap.size + 1) v5 (lk ++ [⟨0, A1, v, c1, zs⟩])) := Lib.hid ((ho4.out.alloc _).push ⟨0, A1, v, c1, zs⟩ (by simp) (by simp; omega) (HO4.out.alloc _) hg5 hown5)
                   clear hown5 hb5 hg5 ha5))
              go_roundw
              case rel => exact ⟨k + 1, p + (2 + v), lk ++ [⟨0, A1, v, c1, zs⟩], _, _, _, by omega, by go_num, Lib.hid (by rw [HST.out]; simp [vals]), ho5, Lib.hid (by rw [List.length_append, HK.out]; rfl), by
                have := h5.out
                rw [← hys, List.drop_drop, List.drop_drop] at this
                exact Lib.hid this, Lib.hid (by
                have h1 := hbl
                rw [← hys, List.length_drop] at h1
                omega)⟩
              case measure => simp [intOf]; omega
      · have HW := Lib.hid (width_digit ch (wd + 1) hcw)
        have hw8 : wd + 1 ≤ 8 := by omega
        have hw0 : (0 : Int) < ((wd + 1 : Nat) : Int) := by omega
        by_cases h2 : n' < wd + 1
        · have HST : Hid (unTo sh bs (k + 1) = none) := Lib.hid (by rw [hst, decF, hlw]; simp only []; rw [if_pos (by rw [hbl]; exact h2)]; rfl)
          clear hst hlw hcw
          go_wp2_with fail
          refine (HW.out _).mono ?_
          rintro e w' ⟨rfl, rfl⟩
          generalize hwi : wd + 1 = wi at *
          clear HW
          go_wp2_with fail
          refine (num_unfit w.heap.size A' n' c' wi wr hcl h2).mono ?_
          rintro e w' ⟨rfl, rfl⟩
          exact ⟨rfl, .inr ⟨HNO.out HST.out, rfl, HRD.out.below⟩⟩
        · have HST : Hid (unTo sh bs (k + 1) = some (vals lk ++ [(numOf (ys.take (wd + 1)), [])], p + (wd + 1))) := Lib.hid (by rw [hst, decF, hlw]; simp only []; rw [if_neg (by rw [hbl]; exact h2)]; rfl)
          clear hst hlw hcw
          go_wp2_with fail
          refine (HW.out _).mono ?_
          rintro e w' ⟨rfl, rfl⟩
          generalize hwi : wd + 1 = wi at *
          have HNF := Lib.hid (num_fit w.heap.size A' n' c' wi ys wr hcl HRD.out.fz (by omega) (by omega) (HRD.out.tookRB wi))
          have h4 := Lib.hid (HRD.out.took wi (by omega))
          have hsm := numOf_small ys wi (by omega)
          have ho4 := Lib.hid (HO.out.set ⟨w.heap.size, 0, none⟩ (restV A' n' c' wi) (by simp))
          clear HW
          go_wp2_with fail
          refine HNF.out.mono ?_
          rintro e w' ⟨rfl, rfl⟩
          generalize wr.setCell ⟨w.heap.size, 0, none⟩ (restV A' n' c' wi) = w4 at *
          generalize hv : numOf (ys.take wi) = v at *
          clear HNF
          go_wp2_with (at_builtin; go_must (refine wpList_append_any (w0 := w4.alloc (.cells #[.int .u64 v, .slice none 0 0] 83)) (w.heap.size + 1) rfl _ _ 79 83 (.agg #[.int .u64 0, .slice none 0 0]) 2 32 rfl Try.underlying79 Try.info87 rfl (by decide) (by decide) u6 lk.length (fcells lk) (some ⟨w4.heap.size, 0, none⟩) 1 1 [.int .u64 v, .slice none 0 0] rfl rfl (ho4.out.alloc _).row ⟨rfl, fun _ => ⟨_, _, rfl, fun j v hj => by rw [World.cell?_alloc_mark, Nat.zero_add]; simpa using hj⟩⟩ (by simp [Value.oneCell']) (by rw [HK.out]; omega) (Below.refl _ _) (h4.out.alloc _).size ?_; intro v5 w5 hown5 hb5 hg5 ha5; have h5 := Lib.hid ((h4.out.alloc _).on hb5); have ho5 : Hid (OFields w5 (w.heap.size + 1) v5 (lk ++ [⟨v, none, 0, 0, []⟩])) := Lib.hid ((ho4.out.alloc _).push ⟨v, none, 0, 0, []⟩ hsm (by simp) (World.ownsRow_nil _ _ _ _) hg5 hown5); clear hown5 hb5 hg5 ha5))
          go_roundw
          case rel => exact ⟨k + 1, p + wi, lk ++ [⟨v, none, 0, 0, []⟩], _, _, _, by omega, by go_num, Lib.hid (by rw [HST.out]; simp [vals]), ho5, Lib.hid (by rw [List.length_append, HK.out]; rfl), by
            have := h5.out
            rw [← hys, List.drop_drop] at this
            exact Lib.hid this, Lib.hid (by
            have h1 := hbl
            rw [← hys, List.length_drop] at h1
            omega)⟩
          case measure => simp [intOf]; omega
    · obtain rfl : k = m := by omega
      have hcl := HRD.out.cell
      have hbl : (bs.drop p).length = n' := HRD.out.rb.1
      have hun : unpackM sh bs = if p = bs.length then some (vals lk) else none := unpackM_done (by rw [HM.out]; exact HP.out) (by rw [HM.out]; exact hs)
      rw [List.length_drop] at hbl
      by_cases h0 : 0 < n'
      · have HN : Hid (unpackM sh bs = none) := Lib.hid (by rw [hun, if_neg (by omega)])
        have hd0 : (0 : Int) < (n' : Int) := by omega
        clear hun hbl
        go_wp2_with fail
        refine (fail_yes _).mono ?_
        rintro e w' ⟨rfl, rfl⟩
        exact ⟨rfl, .inr ⟨HN.out, rfl, HRD.out.below⟩⟩
      · obtain rfl : n' = 0 := by omega
        have HN : Hid (unpackM sh bs = some (vals lk)) := Lib.hid (by rw [hun, if_pos (by have := HPB.out; omega)])
        clear hun hbl
        go_wp2_with fail
        refine (fail_no _).mono ?_
        rintro e w' ⟨rfl, rfl⟩
        go_wp2_with fail
        go_ret
        exact .inl ⟨u6, lk, HN.out, rfl, HO.out.mono (by omega), HRD.out.below⟩
set_option maxRecDepth 20000 in
theorem codec_unpack (sh : List UInt8) (A : Option Addr) (n c : Nat) (bs : List UInt8) (w : World) (hr : RB w A n c bs) :
    Calls Try.prog 56 #[.string (strOf sh), .slice A n c] w (UnPost w (unpackM sh bs)) := by
  by_cases hs : sh.length ≤ 200
  · exact codec_unpack_main sh A n c bs w hr hs
  · rw [unpackM_long (by omega)]
    have hsz : (strOf sh).size = sh.length := by simp [strOf, ByteArray.size]
    generalize sh.length = m at *
    have hd : decide ((200 : Int) < (m : Int)) = true := decide_eq_true (by omega)
    go_enter Try.func56, Try.ntmps56
    go_wp2_with fail
    refine (fail_yes _).mono ?_
    rintro e w' ⟨rfl, rfl⟩
    exact ⟨rfl, .inr ⟨rfl, rfl, Below.refl _ _⟩⟩
end Go.Proofs.Ytanibabfdpgbbaa

/- The codec's Unpack: unpack, with giving up turned into an error. -/
namespace Go.Proofs.Ytanibabfdpgbbaa
open Go.RowKit

/-- What Unpack answers and leaves (the reference's as well). -/
def UnpackedPost (w : World) (r : Option (List (Nat × List UInt8))) (e : Ending) (w' : World) : Prop :=
  Below w.heap.size w w' ∧ ((∃ v lk, r = some (vals lk) ∧ e = .returned (.tuple #[v, .int .i64 0]) ∧ OFields w' w.heap.size v lk) ∨ (r = none ∧ e = .returned (.tuple #[.slice none 0 0, .int .i64 21])))

set_option maxRecDepth 20000 in
set_option maxHeartbeats 1600000 in
theorem codec_Unpack_of (s : ByteArray) (A : Option Addr) (n c : Nat) (r : Option (List (Nat × List UInt8))) (w : World)
    (h : Calls Try.prog 56 #[.string s, .slice A n c] (w.alloc (.cells #[.int .i64 0] 39)) (UnPost (w.alloc (.cells #[.int .i64 0] 39)) r)) :
    Calls Try.prog 45 #[.string s, .slice A n c] w (UnpackedPost w r) := by
  have hmf : ∀ (fn : Fn) (first cap : Array Value) (w : World), (Instr.makeFunc fn first cap).run Try.prog w = .ok (.func fn first cap) w := fun _ _ _ _ => rfl
  have HP := Lib.hid h
  clear h
  go_enter_defers Try.func45, Try.ntmps45
  go_wp2_with fail
  refine HP.out.mono ?_
  rintro e w1 (⟨v, o, rfl, rfl, hown, hb⟩ | ⟨rfl, rfl, hb⟩)
  · have hw1 : w1.heap[w.heap.size]? = some (.cells #[.int .i64 0] 39 (0, 0)) := (hb.block _ (by simp)).trans (heap_alloc_new w _)
    have c5 : w1.cell? ⟨w.heap.size, 0, none⟩ = some (.int .i64 0) := by rw [cell_of_row w1 w.heap.size 0 _ _ _ hw1]; rfl
    have f5 : w1.frozen? ⟨w.heap.size, 0, none⟩ = false := frozen_of_row w1 w.heap.size 0 _ _ hw1
    have hbf : Below w.heap.size w (w1.setCell ⟨w.heap.size, 0, none⟩ (.int .i64 0)) := ((below_alloc w _).trans (hb.mono (by simp))).setCell (Nat.le_refl _) _
    have c6 : (w1.setCell ⟨w.heap.size, 0, none⟩ (.int .i64 0)).cell? ⟨w.heap.size, 0, none⟩ = some (.int .i64 0) := by
      rw [cell_of_row _ w.heap.size 0 _ _ _ (heap_setCell_same w1 w.heap.size 0 _ _ _ hw1)]
      rfl
    have hrow : OFields (w1.setCell ⟨w.heap.size, 0, none⟩ (.int .i64 0)) w.heap.size v o :=
      (hown.set ⟨w.heap.size, 0, none⟩ _ (by simp)).mono (by simp)
    have HBF := Lib.hid hbf; have HO := Lib.hid hrow; have HC6 := Lib.hid c6
    clear hbf hown hb hw1 hrow c6
    go_wp2_with fail
    refine leaves_cons (f := 49) (args := #[.pointer (some ⟨w.heap.size, 0, none⟩)]) (by simp) (by simp [go_sem]) ?_
    refine (caught_idle ⟨w.heap.size, 0, none⟩ _).mono ?_
    rintro e u' w'' ⟨rfl, rfl, rfl⟩
    simp [Leaves, settle, results, Try.results45, go_sem, HC6.out]
    exact ⟨HBF.out, .inl ⟨v, o, rfl, rfl, HO.out⟩⟩
  · have hw1 : w1.heap[w.heap.size]? = some (.cells #[.int .i64 0] 39 (0, 0)) := (hb.block _ (by simp)).trans (heap_alloc_new w _)
    have c5 : w1.cell? ⟨w.heap.size, 0, none⟩ = some (.int .i64 0) := by rw [cell_of_row w1 w.heap.size 0 _ _ _ hw1]; rfl
    have f5 : w1.frozen? ⟨w.heap.size, 0, none⟩ = false := frozen_of_row w1 w.heap.size 0 _ _ hw1
    have c6 : (w1.setCell ⟨w.heap.size, 0, none⟩ (.int .i64 21)).cell? ⟨w.heap.size, 0, none⟩ = some (.int .i64 21) := by
      rw [cell_of_row _ w.heap.size 0 _ _ _ (heap_setCell_same w1 w.heap.size 0 _ _ _ hw1)]
      rfl
    have hbf : Below w.heap.size w (w1.setCell ⟨w.heap.size, 0, none⟩ (.int .i64 21)) := ((below_alloc w _).trans (hb.mono (by simp))).setCell (Nat.le_refl _) _
    refine leaves_cons (f := 49) (args := #[.pointer (some ⟨w.heap.size, 0, none⟩)]) (by simp) (by simp [go_sem]) ?_
    refine (caught_up ⟨w.heap.size, 0, none⟩ 0 _ c5 f5).mono ?_
    rintro e u' w'' ⟨rfl, rfl, rfl⟩
    simp [Leaves, settle, results, Try.results45, go_sem, c6]
    exact ⟨hbf, .inr ⟨rfl, rfl⟩⟩

/-- Unpack. -/
theorem codec_Unpack (sh : List UInt8) (A : Option Addr) (n c : Nat) (bs : List UInt8) (w : World) (hr : RB w A n c bs) :
    Calls Try.prog 45 #[.string (strOf sh), .slice A n c] w (UnpackedPost w (unpackM sh bs)) :=
  codec_Unpack_of _ A n c _ w (codec_unpack sh A n c bs _ (hr.below (below_alloc w _)))
end Go.Proofs.Ytanibabfdpgbbaa
