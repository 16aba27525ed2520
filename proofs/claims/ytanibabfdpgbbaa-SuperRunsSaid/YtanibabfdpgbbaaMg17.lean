/- What Crash of a disk computes. -/
import Derived.Test.YtanibabfdpgbbaaMg8
import Derived.Test.YtanibabfdpgbbaaMg10
import Derived.Test.YtanibabfdpgbbaaMg15
import Derived.Test.YtanibabfdpgbbaaMg16
import Derived.Test.YtanibabfdpgbbaaMg9
import Derived.Deep.Cut
namespace Go.Proofs.Ytanibabfdpgbbaa
open Go.RowKit
attribute [local go_sem ↓] loadAt37 storeAt37

/-- copy as one step of a region that draws its order. -/
theorem step_copy {P : Program} {ops : Array Oper} {o : Oper} {a : Act} {w : World} {K : Act → World → Prop} {Q : Exit → Act → World → Prop} {E : Prop} (hgd : o.guard = none) (d s : Operand) (dT sT : TypeId)
    (ho : o.op = .call { callee := .builtin .copy, args := #[d, s], argTypes := #[dT, sT] }) (elem : TypeId) (hu : P.underlying dT = some (.slice elem)) (hsz : (P.info? elem).map (·.size) = some 1)
    (b off dLen dCap : Nat) (ad : Addr) (sLen sCap : Nat) (hd : a.eval d = .slice (some ⟨b, off, none⟩) dLen dCap) (hs : a.eval s = .slice (some ad) sLen sCap)
    (cs : List Value) (hn : cs.length = Nat.min sLen dLen) (hsrc : ∀ j v, cs[j]? = some v → w.cell? (ad.add j) = some v) (ht : w.there b off cs.length) (h1 : ∀ v ∈ cs, v.oneCell' = true)
    (h : K (a.put o.dst (goInt cs.length)) (w.setCells b off cs)) :
    if Region.wanted o (yielded ops a.tmps) = true then Oper.wp P o a w K Q else E := by
  have hw : Region.wanted o (yielded ops a.tmps) = true := by simp [Region.wanted, hgd]
  rw [if_pos hw]
  have hrun := run_copy_cells (P := P) w dT sT o.type elem b off dLen dCap ad sLen sCap cs hu hsz hn hsrc (fun j hj => (ht j hj).1) (fun j hj => (ht j hj).2) h1
  unfold Oper.wp
  simp [execOp, ho, resolve, invoke, builtin, hd, hs, hrun, Result.andThen]
  exact h

section
variable {w : World} {base p s : Nat} {v : Value} {d : Dk}
/-- Where the loop of Crash stands. -/
def CrashAt (w1 : World) (base p s : Nat) (v : Value) (d : Dk) (keep : List Bool) (torn : Int) (m k : Nat) (wr : World) : Prop :=
  DiskAt wr base p s v { d with stable := crashTo keep torn m d.stable d.pend k } ∧ Kp (foot p s v) w1 wr

set_option maxRecDepth 20000 in
set_option maxHeartbeats 1600000 in
theorem disk_Crash (h : DiskAt w base p s v d) (hpl : d.pend.length ≤ 1000000) (B : Option Addr) (n c : Nat) (keep : List Bool) (hk : RBl w B n c keep) (hkb : ∀ b o, B = some ⟨b, o, none⟩ → 0 < n → ¬ foot p s v b) (torn cut : Int) :
    Calls Try.prog 20 #[.pointer (some ⟨p, 0, none⟩), .slice B n c, .int .i64 torn, .int .i64 cut] w fun e w' => e = .returned (.tuple #[]) ∧ DiskAt w' base p s (.slice none 0 0) (d.crashed keep torn cut) ∧ Kp (foot p s v) w w' := by
  obtain ⟨A, cp, rfl⟩ := own_form h.pen
  have HC : Hid (CrashAt w base p s (.slice A d.pend.length cp) d keep torn (max 0 (min cut 128)).toNat 0 w) := Lib.hid ⟨h, Kp.refl _ _⟩
  have HKE := Lib.hid hk
  have HKB := Lib.hid hkb
  have c1 := h.c1
  have hnc := hk.2.1
  have hcm := hk.2.2.1
  clear h hk hkb
  go_enter Try.func20, Try.ntmps20
  go_wp2_with fail
  go_loopw [15] (fun i wr => ∃ k : Nat, k ≤ d.pend.length ∧ i = .int .i64 k ∧ Hid (CrashAt w base p s (.slice A d.pend.length cp) d keep torn (max 0 (min cut 128)).toNat k wr)) (fun i _ => d.pend.length - (intOf i).toNat)
  case atStart => exact ⟨0, by omega, rfl, HC⟩
  case round =>
    obtain ⟨k, hk, rfl, HW⟩ := hrel
    by_cases hlt : k < d.pend.length
    · obtain ⟨g, rfl, hg, -, hr⟩ := HW.out.1.pcell k (show k < d.pend.length from hlt)
      obtain ⟨hpin, hln⟩ := HW.out.1.pin' k (show k < d.pend.length from hlt)
      have hpin' : (penAt d.pend k).1 < (crashTo keep torn (max 0 (min cut 128)).toNat d.stable d.pend k).length := hpin
      have hr' : wr.rangeAt g (k * 129) (Value.int .i64 ((penAt d.pend k).1 : Int) :: bv (penAt d.pend k).2) := hr
      have hln' : (penAt d.pend k).2.length = 128 := hln
      have hnx : crashTo keep torn (max 0 (min cut 128)).toNat d.stable d.pend (k + 1) = crashStep keep torn (max 0 (min cut 128)).toNat (crashTo keep torn (max 0 (min cut 128)).toNat d.stable d.pend k) k (penAt d.pend k) := rfl
      clear hpin hr hln
      generalize penAt d.pend k = x at *
      obtain ⟨x1, x2⟩ := x
      simp only at hpin' hr' hln' hnx
      have HR := Lib.hid hr'; have HL := Lib.hid hln'; have HN := Lib.hid hnx
      have hlen : (crashTo keep torn (max 0 (min cut 128)).toNat d.stable d.pend k).length = d.stable.length := crashTo_length _ _ _ _ _ _
      have hx0 : (0 : Int) ≤ (x1 : Int) := Int.natCast_nonneg _
      have hx1 : (x1 : Int) < ((crashTo keep torn (max 0 (min cut 128)).toNat d.stable d.pend k).length : Int) := by omega
      have hk0 : (0 : Int) ≤ (k : Int) := Int.natCast_nonneg _
      have hk1 : (k : Int) < (d.pend.length : Int) := by omega
      have H2 := Lib.hid (HW.out.1.below (below_alloc wr (.cells (Value.int .i64 (x1 : Int) :: bv x2).toArray 68)))
      have hpz : p < wr.heap.size := HW.out.1.plt
      have HB : Hid (Kp (foot p s (.slice (some ⟨g, 0, none⟩) d.pend.length cp)) w (wr.alloc (.cells (Value.int .i64 (x1 : Int) :: bv x2).toArray 68))) := Lib.hid (HW.out.2.alloc _)
      have hkeep : ∀ j, j < n → ∃ b o, B = some ⟨b, o, none⟩ ∧ (wr.alloc (.cells (Value.int .i64 (x1 : Int) :: bv x2).toArray 68)).cell? ⟨b, o + j, none⟩ = some (.bool (atB keep j)) := fun j hj => by
        obtain ⟨b, o, e, hc⟩ := HKE.out.2.2.2 (by omega)
        refine ⟨b, o, e, ?_⟩
        have h1 := hc j hj
        rw [← h1]
        exact World.cell?_of_block (HB.out.block b (World.block_lt_of_cell? w _ h1) (HKB.out b o e (by omega)))
      have HKP := Lib.hid hkeep
      clear hr' hln' hnx hlen hpin' hkeep
      by_cases ht : (k : Int) = torn
      · have htb : ((k : Int) == torn) = true := beq_iff_eq.2 ht
        have HT := Lib.hid ht
        clear ht
        have c0 := H2.out.c0
        have hfin : ∀ m : Nat, (max 0 (min cut 128)).toNat = m → m ≤ 128 → CrashAt w base p s (.slice (some ⟨g, 0, none⟩) d.pend.length cp) d keep torn (max 0 (min cut 128)).toNat (k + 1) ((wr.alloc (.cells (Value.int .i64 (x1 : Int) :: bv x2).toArray 68)).drew.setCells s (x1 * 128) (bv (x2.take m))) := by
          intro m hm hm2
          refine ⟨?_, kp_setCells s _ _ _ HB.out.drew (fun _ => .inr (.inl rfl))⟩
          rw [HN.out]
          unfold crashStep
          rw [if_pos HT.out, hm]
          have := H2.out.drew.setTorn x1 x2 m (by simpa using hx1) HL.out hm2
          rw [hm] at this
          exact this
        have HF := Lib.hid hfin
        have HTH : Hid ((wr.alloc (.cells (Value.int .i64 (x1 : Int) :: bv x2).toArray 68)).drew.there s (x1 * 128) 128) := Lib.hid (H2.out.drew.sthere x1 (by simpa using hx1))
        have HRA : Hid ((wr.alloc (.cells (Value.int .i64 (x1 : Int) :: bv x2).toArray 68)).drew.rangeAt wr.heap.size 1 (bv x2)) := Lib.hid (range_alloc1 wr (Value.int .i64 (x1 : Int)) (bv x2) 68 (0, 0))
        have hsrc : ∀ m : Nat, ∀ j v, (bv (x2.take m))[j]? = some v → (wr.alloc (.cells (Value.int .i64 (x1 : Int) :: bv x2).toArray 68)).drew.cell? ((⟨wr.heap.size, 1, none⟩ : Addr).add j) = some v := by
          intro m j v hj
          rw [add_none]
          refine HRA.out j v ?_
          have e : bv (x2.take m) = (bv x2).take m := by simp [bv, List.map_take]
          rw [e, List.getElem?_take] at hj
          split at hj
          · exact hj
          · cases hj
        have HSRC := Lib.hid hsrc
        have HLM : Hid (∀ m, m ≤ 128 → (bv (x2.take m)).length = m) := Lib.hid fun m hm => by rw [bv_length, List.length_take, HL.out]; omega
        have HTM : Hid (∀ m, m ≤ 128 → (wr.alloc (.cells (Value.int .i64 (x1 : Int) :: bv x2).toArray 68)).drew.there s (x1 * 128) (bv (x2.take m)).length) := Lib.hid fun m hm j hj => HTH.out j (by rw [HLM.out m hm] at hj; omega)
        clear hfin hsrc
        by_cases hc1 : 0 < cut
        · by_cases hc2 : 128 < cut
          · have HMX := Lib.hid (HF.out 128 (by omega) (by omega))
            have HLN : Hid ((bv (x2.take 128)).length = Nat.min 128 128) := Lib.hid (by rw [HLM.out 128 (by omega)]; exact (Nat.min_eq_right (by omega)).symm)
            go_wp2_with (first | (refine ld157 rfl _ rfl g (k * 129) rfl (x1, x2) HR.out HL.out ?_) | (refine st157 rfl _ _ rfl _ _ rfl rfl (x1, x2) rfl HL.out rfl ?_))
            go_region_law ((refine step_copy (by rfl) _ _ _ _ (by rfl) 5 Try.underlying76 (by kernel_rfl) s (x1 * 128) 128 128 ⟨wr.heap.size, 1, none⟩ 128 128 (by rfl) (by rfl) (bv (x2.take 128)) (HLN.out) (HSRC.out 128) (HTM.out 128 (by omega)) (bv_one _) ?_))
            all_goals
              go_wp2
              go_roundw
              case rel => exact ⟨k + 1, by omega, by go_num, HMX⟩
              case measure => simp [intOf]; omega
          · obtain ⟨cn, rfl⟩ := Int.eq_ofNat_of_zero_le (show 0 ≤ cut by omega)
            have q1 : ((128 : Int) < (cn : Int)) = False := eq_false hc2
            have q0 : ((0 : Int) < (cn : Int)) = True := eq_true hc1
            have q2 : (cn : Int) ≤ 128 := by omega
            have q3 : (0 < cn) = True := eq_true (by omega)
            have HMX := Lib.hid (HF.out cn (by omega) (by omega))
            have HLN : Hid ((bv (x2.take cn)).length = Nat.min 128 cn) := Lib.hid (by rw [HLM.out cn (by omega)]; exact (Nat.min_eq_right (by omega)).symm)
            go_wp2_with (first | (refine ld157 rfl _ rfl g (k * 129) rfl (x1, x2) HR.out HL.out ?_) | (refine st157 rfl _ _ rfl _ _ rfl rfl (x1, x2) rfl HL.out rfl ?_))
            go_region_law ((refine step_copy (by rfl) _ _ _ _ (by rfl) 5 Try.underlying76 (by kernel_rfl) s (x1 * 128) cn 128 ⟨wr.heap.size, 1, none⟩ 128 128 (by rfl) (by rfl) (bv (x2.take cn)) (HLN.out) (HSRC.out cn) (HTM.out cn (by omega)) (bv_one _) ?_))
            all_goals
              go_wp2
              go_roundw
              case rel => exact ⟨k + 1, by omega, by go_num, HMX⟩
              case measure => simp [intOf]; omega
        · have q1 : ((128 : Int) < cut) = False := eq_false (by omega)
          have q0 : ((0 : Int) < cut) = False := eq_false hc1
          have HMX := Lib.hid (HF.out 0 (by omega) (by omega))
          have HLN : Hid ((bv (x2.take 0)).length = Nat.min 128 0) := Lib.hid (by rw [HLM.out 0 (by omega)]; exact (Nat.min_eq_right (by omega)).symm)
          go_wp2_with (first | (refine ld157 rfl _ rfl g (k * 129) rfl (x1, x2) HR.out HL.out ?_) | (refine st157 rfl _ _ rfl _ _ rfl rfl (x1, x2) rfl HL.out rfl ?_))
          go_region_law ((refine step_copy (by rfl) _ _ _ _ (by rfl) 5 Try.underlying76 (by kernel_rfl) s (x1 * 128) 0 128 ⟨wr.heap.size, 1, none⟩ 128 128 (by rfl) (by rfl) (bv (x2.take 0)) (HLN.out) (HSRC.out 0) (HTM.out 0 (by omega)) (bv_one _) ?_))
          all_goals
            go_wp2
            go_roundw
            case rel => exact ⟨k + 1, by omega, by go_num, HMX⟩
            case measure => simp [intOf]; omega
      · have htb : ((k : Int) == torn) = false := beq_eq_false_iff_ne.2 ht
        have HT := Lib.hid ht
        clear ht
        by_cases hkl : k < n
        · obtain ⟨b, o, rfl, hbc⟩ := HKP.out k hkl
          have hkl' : (k : Int) < (n : Int) := by omega
          by_cases hb : atB keep k = true
          · rw [hb] at hbc
            have c0 := H2.out.c0
            have hld := run_ldSec (w := (wr.alloc (.cells (Value.int .i64 (x1 : Int) :: bv x2).toArray 68)).drew) (range_alloc1 wr (Value.int .i64 (x1 : Int)) (bv x2) 68 (0, 0)) HL.out
            have hst := run_stSec (w := (wr.alloc (.cells (Value.int .i64 (x1 : Int) :: bv x2).toArray 68)).drew) (H2.out.sthere x1 (by simpa using hx1)) HL.out
            have hfin : CrashAt w base p s (.slice (some ⟨g, 0, none⟩) d.pend.length cp) d keep torn (max 0 (min cut 128)).toNat (k + 1) ((wr.alloc (.cells (Value.int .i64 (x1 : Int) :: bv x2).toArray 68)).drew.setCells s (x1 * 128) (bv x2)) := by
              refine ⟨?_, kp_setCells s _ _ _ HB.out.drew (fun _ => .inr (.inl rfl))⟩
              rw [HN.out]
              unfold crashStep
              rw [if_neg HT.out, if_pos hb]
              exact H2.out.drew.setSec x1 x2 (by simpa using hx1) HL.out
            have HF := Lib.hid hfin
            have HBB := Lib.hid hb
            clear hfin hb
            go_wp2_with (first | (refine ld157 rfl _ rfl g (k * 129) rfl (x1, x2) HR.out HL.out ?_) | (refine st157 rfl _ _ rfl _ _ rfl rfl (x1, x2) rfl HL.out rfl ?_))
            go_region_law (fail)
            all_goals
              go_wp2
              go_roundw
              case rel => exact ⟨k + 1, by omega, by go_num, HF⟩
              case measure => simp [intOf]; omega
          · have hb' : atB keep k = false := by simpa using hb
            rw [hb'] at hbc
            have hfin : CrashAt w base p s (.slice (some ⟨g, 0, none⟩) d.pend.length cp) d keep torn (max 0 (min cut 128)).toNat (k + 1) (wr.alloc (.cells (Value.int .i64 (x1 : Int) :: bv x2).toArray 68)) := by
              refine ⟨?_, HB.out⟩
              rw [HN.out]
              unfold crashStep
              rw [if_neg HT.out, if_neg hb]
              exact H2.out
            have HF := Lib.hid hfin
            clear hfin hb hb'
            go_wp2_with (first | (refine ld157 rfl _ rfl g (k * 129) rfl (x1, x2) HR.out HL.out ?_) | (refine st157 rfl _ _ rfl _ _ rfl rfl (x1, x2) rfl HL.out rfl ?_))
            go_roundw
            case rel => exact ⟨k + 1, by omega, by go_num, HF⟩
            case measure => simp [intOf]; omega
        · have hb' : atB keep k = false := by
            rw [atB, List.getD_eq_getElem?_getD, List.getElem?_eq_none (by rw [HKE.out.1]; omega)]; rfl
          have hfin : CrashAt w base p s (.slice (some ⟨g, 0, none⟩) d.pend.length cp) d keep torn (max 0 (min cut 128)).toNat (k + 1) (wr.alloc (.cells (Value.int .i64 (x1 : Int) :: bv x2).toArray 68)) := by
            refine ⟨?_, HB.out⟩
            rw [HN.out]
            unfold crashStep
            rw [if_neg HT.out, if_neg (by rw [hb']; decide)]
            exact H2.out
          have HF := Lib.hid hfin
          clear hfin hb'
          go_wp2_with (first | (refine ld157 rfl _ rfl g (k * 129) rfl (x1, x2) HR.out HL.out ?_) | (refine st157 rfl _ _ rfl _ _ rfl rfl (x1, x2) rfl HL.out rfl ?_))
          go_roundw
          case rel => exact ⟨k + 1, by omega, by go_num, HF⟩
          case measure => simp [intOf]; omega
    · obtain rfl : k = d.pend.length := by omega
      have h1 := HW.out.1
      have hfin := ((h1.set1 (.slice none 0 0) [] (World.ownsRow_nil _ _ _ _) (fun x hx => by cases hx)).set2 (-1) (by omega)).set3 false
      have hkp : Kp (foot p s (.slice A d.pend.length cp)) w (((wr.setCell ⟨p, 1, none⟩ (.slice none 0 0)).setCell ⟨p, 2, none⟩ (.int .i64 (-1))).setCell ⟨p, 3, none⟩ (.bool false)) :=
        ((HW.out.2.setCell _ _ (fun _ => .inl rfl)).setCell _ _ (fun _ => .inl rfl)).setCell _ _ (fun _ => .inl rfl)
      have c1' := h1.c1
      have f1' := h1.fz 1
      have c2' := h1.c2
      have f2' := h1.fz 2
      have c3' := h1.c3
      have f3' := h1.fz 3
      have HF := Lib.hid hfin; have HK2 := Lib.hid hkp
      clear hfin hkp h1
      go_wp2_with fail
      go_end0
      exact ⟨rfl, HF.out, HK2.out⟩
end
end Go.Proofs.Ytanibabfdpgbbaa

/- The walk of SuperRuns. -/
namespace Go.Proofs.Ytanibabfdpgbbaa
open Go.RowKit

/-- A disk of the document's, loaded and stored behind names. -/
def ldRDn (p : Value) : Sem Value := Instr.loadAt 36 p
theorem loadAtRD (p : Value) : Instr.loadAt 36 p = ldRDn p := rfl
def stRDn (p x : Value) : Sem Unit := Instr.storeAt 36 p x
theorem storeAtRD (p x : Value) : Instr.storeAt 36 p x = stRDn p x := rfl
theorem run_ldRDn {w : World} {g : Nat} {A : Option Addr} {c : Nat} {B : Option Addr} {k : Nat} {d : Dk} (h : RowAt w g 36 (rdC A c B k d)) : (ldRDn (.pointer (some ⟨g, 0, none⟩))).run Try.prog w = .ok (.agg (rdC A c B k d).toArray) w :=
  run_loadAt_mid w g 0 _ _ _ h.range Try.underlying36 rfl Try.sizeRD
theorem run_stRDn {w : World} {g : Nat} {cs0 : List Value} (h : RowAt w g 36 cs0) (hl0 : cs0.length = 4) (A : Option Addr) (c : Nat) (B : Option Addr) (k : Nat) (d : Dk) : (stRDn (.pointer (some ⟨g, 0, none⟩)) (.agg (rdC A c B k d).toArray)).run Try.prog w = .ok () (w.setCells g 0 (rdC A c B k d)) := by
  have hth : w.there g 0 4 := by
    intro j hj
    rw [Nat.zero_add]
    exact ⟨by rw [h.cell j (cs0[j]'(by omega)) (List.getElem?_eq_getElem (by omega))]; rfl, frozen_of_row _ _ _ _ _ h⟩
  have := run_storeAt_mid (P := Try.prog) w g 0 36 (rdC A c B k d).toArray (by simpa [rdC] using hth) (Try.sizeRD.trans (by simp [rdC])) (all_oneCell_toArray (rdC_one A c B k d))
  unfold stRDn
  simpa using this
theorem row_setCells {w : World} {g : Nat} {t : TypeId} {cs0 cs : List Value} (h : RowAt w g t cs0) (hl : cs.length = cs0.length) : RowAt (w.setCells g 0 cs) g t cs ∧ Kp (· = g) w (w.setCells g 0 cs) := by
  obtain ⟨h1, h2⟩ := setCells_heap g t cs cs0.toArray 0 w h (by simp [hl])
  refine ⟨?_, h2⟩
  have e : splice cs0.toArray.toList 0 cs = cs := by
    simp only [splice, List.take_zero, List.nil_append, Nat.zero_add]
    rw [List.drop_eq_nil_of_le (by simp [hl]), List.append_nil]
  rw [e] at h1
  exact h1
def oneInt (y : { y : Int // y ≤ 9223372036854775807 }) : List Value := [.int .i64 y.1]
def RunsI (w1 wr : World) (p s g : Nat) : Prop := ∃ v A c B kk d, Two w1 wr p s g v A c B kk d ∧ d.pend = [] ∧ d.stable.length = 3 ∧ d.dead = false
theorem Try.infoBoolS : (Try.prog.info? 4).map (fun i => (i.zero, i.size, i.bytes)) = some (some (.bool false), 1, 1) := by kernel_rfl
theorem foot_freshS {W w1 : World} {base p s : Nat} {v : Value} {d : Dk} (h : DiskAt W base p s v d) {A : Option Addr} {n c : Nat} {e : TypeId} {bs : List Bool} (hown : w1.ownsRow W.heap.size e 1 (.slice A n c) n (blv bs)) : ∀ b o, A = some ⟨b, o, none⟩ → 0 < n → ¬ foot p s v b := by
  rintro b o rfl _ hf
  have h1 := h.foot_lt b hf
  have h2 := (hown.lt b rfl).1
  omega
/-- The disks side by side, and two states read. -/
def SupT (w1 w : World) (p s g : Nat) (v : Value) (A : Option Addr) (c : Nat) (B : Option Addr) (k : Nat) (d : Dk) (g14 g16 : Nat) (cs : List Value) : Prop :=
  Two w1 w p s g v A c B k d ∧ RowAt w g14 24 cs ∧ RowAt w g16 24 cs ∧ cs.length = 6
theorem SupT.below {w1 w w' : World} {p s g : Nat} {v : Value} {A : Option Addr} {c : Nat} {B : Option Addr} {k : Nat} {d : Dk} {g14 g16 : Nat} {cs : List Value} (h : SupT w1 w p s g v A c B k d g14 g16 cs) (hb : Below w.heap.size w w') : SupT w1 w' p s g v A c B k d g14 g16 cs :=
  ⟨h.1.below hb, h.2.1.below hb, h.2.2.1.below hb, h.2.2.2⟩
theorem SupT.loads {w1 w : World} {p s g : Nat} {v : Value} {A : Option Addr} {c : Nat} {B : Option Addr} {k : Nat} {d : Dk} {g14 g16 : Nat} {cs : List Value} (h : SupT w1 w p s g v A c B k d g14 g16 cs) :
    (ldRDn (.pointer (some ⟨g, 0, none⟩))).run Try.prog w = .ok (.agg (rdC A c B k d).toArray) w ∧ (ldSup (.pointer (some ⟨g14, 0, none⟩))).run Try.prog w = .ok (.agg cs.toArray) w ∧ (ldSup (.pointer (some ⟨g16, 0, none⟩))).run Try.prog w = .ok (.agg cs.toArray) w :=
  ⟨run_ldRDn h.1.row, run_ldSup h.2.1 h.2.2.2, run_ldSup h.2.2.1 h.2.2.2⟩
theorem SupT.two {w1 w : World} {p s g : Nat} {v : Value} {A : Option Addr} {c : Nat} {B : Option Addr} {k : Nat} {d : Dk} {g14 g16 : Nat} {cs : List Value} (h : SupT w1 w p s g v A c B k d g14 g16 cs) : Two w1 w p s g v A c B k d := h.1
attribute [local go_sem ↓] loadAt37 loadAtRD storeAtRD loadAtSup
set_option maxRecDepth 20000 in
set_option maxHeartbeats 25600000 in
theorem superRuns_main (A0 : Option Addr) (n c0 : Nat) (f : Nat → SD) (B0 : Option Addr) (nb cb : Nat) (fb : Nat → { y : Int // y ≤ 9223372036854775807 }) (C : Option Addr) (nk ck : Nat) (keep : List Bool) (w : World)
    (hA : RElems SD.cells 6 w A0 n c0 f) (hB : RElems oneInt 1 w B0 nb cb fb) (hC : RBl w C nk ck keep) (hnk : nk ≤ 140737488351232) (hn : n ≤ 50) :
    Calls Try.prog 8 #[.slice A0 n c0, .slice B0 nb cb, .slice C nk ck] w fun e w' => e = .returned (.bool true) ∧ Below w.heap.size w w' := by
  have HA := Lib.hid hA; have HBK := Lib.hid hB; have HC := Lib.hid hC; have HNK := Lib.hid hnk
  clear hA hB hC hnk
  go_enter Try.func8, Try.ntmps8
  go_wp2_with fail
  refine (superAlive_true _).mono ?_
  rintro e w1 ⟨rfl, hb1⟩
  have HA1 := Lib.hid (HA.out.below hb1); have HBK1 := Lib.hid (HBK.out.below hb1); have HC1 := Lib.hid (HC.out.below hb1); have HB1 := Lib.hid hb1
  clear hb1 HA HBK HC
  go_wp2_with fail
  refine (disk_New 3 w1).mono ?_
  rintro e w2 ⟨p, s, rfl, hd2, hb2⟩
  have HD2 := Lib.hid hd2; have HB2 := Lib.hid hb2
  clear hd2 hb2
  go_wp2_with fail
  refine (ref_New 3 w2).mono ?_
  rintro e w3 ⟨A, c, rfl, hr3, hb3, hf3⟩
  have htwo := Two.start HD2.out HB2.out hr3 hb3 hf3
  have HI : Hid (RunsI w1 (w3.alloc (.cells (rdC A c none 0 (newDk 3)).toArray 36)) p s w3.heap.size) := Lib.hid ⟨_, _, _, _, _, _, htwo, rfl, rfl, rfl⟩
  have HG : Hid (w1.heap.size ≤ w3.heap.size) := Lib.hid (Nat.le_trans HB2.out.size hb3.size)
  clear hr3 hb3 hf3 htwo HD2 HB2
  go_wp2_with (refine stN 36 (rdC A c none 0 (newDk 3)) rfl _ _ rfl _ _ rfl rfl rfl (rdC_one _ _ _ _ _) Try.sizeRD rfl ?_)
  generalize hw4 : w3.alloc (.cells (rdC A c none 0 (newDk 3)).toArray 36) = w4 at *
  clear hw4
  generalize hg : w3.heap.size = g at *
  clear hg
  go_loopw [27] (fun i wr => ∃ k : Nat, k ≤ n ∧ i = .int .i64 k ∧ Hid (RunsI w1 wr p s g)) (fun i _ => n - (intOf i).toNat)
  case atStart => exact ⟨0, by omega, rfl, HI⟩
  case round =>
    clear HI
    obtain ⟨k, hk, rfl, HR⟩ := hrel
    by_cases hlt : k < n
    · have hk0 : (0 : Int) ≤ (k : Int) := Int.natCast_nonneg _
      have hk1 : (k : Int) < (n : Int) := by omega
      have hk9 : IntKind.i64.wrap (9 * (k : Int)) = 9 * (k : Int) := by simp [IntKind.wrap, IntKind.signed, IntKind.bits]; omega
      obtain ⟨v, A, c, B, kk, d, htw, hpn, hsl, hdd⟩ := HR.out
      obtain ⟨b, o, rfl, hel⟩ := (HA1.out.below htw.bl).2.2 (by omega)
      have hrg := hel k hlt
      generalize f k = x at *
      obtain ⟨xg, xr, xb, xq, xc, xe⟩ := x
      have HRG := Lib.hid hrg
      have htw5 := htw.below (below_alloc wr (.cells ([.int .u64 (xg : Nat), .int .i64 xr, .int .i64 xb, .int .i64 xq, .int .i64 xc, .int .i64 xe] : List Value).toArray 24))
      have HTW := Lib.hid htw5; have HPN := Lib.hid hpn; have HSL := Lib.hid hsl; have HDD := Lib.hid hdd
      have HX5 := Lib.hid (RowAt.new wr 24 [.int .u64 (xg : Nat), .int .i64 xr, .int .i64 xb, .int .i64 xq, .int .i64 xc, .int .i64 xe])
      clear HR htw hpn hsl hdd hel hrg htw5
      go_upto_region 10 with (first
        | (refine stN 24 [.int .u64 (xg : Nat), .int .i64 xr, .int .i64 xb, .int .i64 xq, .int .i64 xc, .int .i64 xe] rfl _ _ rfl _ _ rfl (by simp) rfl (by simp [Value.oneCell']) Try.sizeSuper rfl ?_)
        | (refine ldN 24 [.int .u64 (xg : Nat), .int .i64 xr, .int .i64 xb, .int .i64 xq, .int .i64 xc, .int .i64 xe] rfl _ rfl b (o + k * 6) rfl HRG.out Try.underlying24 rfl Try.sizeSuper ?_))
      generalize hw5 : wr.alloc (.cells ([.int .u64 (xg : Nat), .int .i64 xr, .int .i64 xb, .int .i64 xq, .int .i64 xc, .int .i64 xe] : List Value).toArray 24) = w5 at *
      clear hw5
      generalize hg10 : wr.heap.size = g10 at *
      clear hg10
      by_cases hkb : k < nb
      case' pos =>
        have hkb1 : (k : Int) < (nb : Int) := by omega
        obtain ⟨bb, ob, rfl, helb⟩ := (HBK1.out.below HTW.out.bl).2.2 (by omega)
        have hy0 : w5.cell? ⟨bb, ob + k, none⟩ = some (.int .i64 (fb k).1) := by simpa using helb k hkb 0 _ rfl
        obtain ⟨y, hyy⟩ : ∃ y, y = fb k := ⟨_, rfl⟩
        rw [← hyy] at hy0
        obtain ⟨y0, hy⟩ := y
        have HBRK := Lib.hid (disk_Break HTW.out.disk y0 hy)
        have HYB : Hid (∀ w', Below w1.heap.size w1 w' → w'.cell? ⟨bb, ob + k, none⟩ = some (.int .i64 y0)) := Lib.hid fun w' hb => by
          obtain ⟨bb', ob', e, h⟩ := (HBK1.out.below hb).2.2 (by omega)
          injection e with e
          injection e with e1 e2
          subst e1 e2
          have := h k hkb 0 _ rfl
          rw [← hyy] at this
          simpa using this
        have HRB := Lib.hid (fun (w' : World) (hr : RDk w' A c B kk d) => pair_break y0 hy w' hr)
        clear helb hyy
        go_wp2_with fail
        refine HBRK.out.mono ?_
        clear HBRK hy0
        rintro e w6 ⟨rfl, hd6, hk6⟩
        have hh := HTW.out.acted hd6 (hk6.imp (fun i _ hi => .inl hi)) (fun q hq => .inl hq)
        have HX6 := Lib.hid (HX5.out.kp (hk6.imp (S' := foot p s v) (fun i _ hi => .inl hi)) (foot_not HTW.out.disk HX5.out (by decide) (by decide) (by decide)))
        have hyc := HYB.out _ hh.bl
        have hhd : Half w1 w6.drew p s g v A c B kk d { d with fuel := max y0 (-1) } := ⟨hh.disk.drew, hh.row.below ((Below.refl _ _).drew), hh.rd.below ((Below.refl _ _).drew), hh.apA.up (Nat.le_refl _) (fun _ e => .inl e), hh.apB.up (Nat.le_refl _) (fun _ e => .inl e), hh.gA, hh.gB, bthen hh.bl ((Below.refl _ _).drew)⟩
        have hld := run_ldRDn hhd.row
        have HH := Lib.hid hhd
        clear hd6 hk6 hh hhd
        go_wp2_with fail
        go_region_with (go_at_call 21; refine (HRB.out _ HH.out.rd).mono ?_; rintro e w7 ⟨A', c', B', k', rfl, hr7, hb7, hA7, hB7⟩; unfold justIt; have hrow7 := HH.out.row.below hb7; have hst := run_stRDn hrow7 rfl A' c' B' k' { d with fuel := max y0 (-1) }; obtain ⟨hrow8, hk8⟩ := row_setCells (cs := rdC A' c' B' k' { d with fuel := max y0 (-1) }) hrow7 rfl; have HT8 := Lib.hid (HH.out.done hr7 hb7 hA7 hB7 hk8 hrow8 HG.out); have HX8 := Lib.hid (((HX6.out.below ((Below.refl _ _).drew)).below hb7).kp hk8 (fun e => ne_of_types ((HX6.out.below ((Below.refl _ _).drew)).below hb7) (e ▸ hrow7) (by decide) rfl)); clear hr7 hb7 hA7 hB7 hrow7 hrow8 hk8)
        all_goals
          generalize hw8 : w7.setCells g 0 (rdC A' c' B' k' { d with fuel := max y0 (-1) }) = w8 at *
          clear hw8 hst hld
          have HPN8 : Hid (({ d with fuel := max y0 (-1) } : Dk).pend = []) := HPN; have HSL8 : Hid (({ d with fuel := max y0 (-1) } : Dk).stable.length = 3) := HSL
          generalize ({ d with fuel := max y0 (-1) } : Dk) = d8 at *
          clear HH HRB HX6 hyc HYB HTW HX5 HRG
      case' neg =>
        obtain ⟨w8, hw8⟩ : ∃ w8, w8 = w5 := ⟨_, rfl⟩
        obtain ⟨A', hA'⟩ : ∃ A', A' = A := ⟨_, rfl⟩
        obtain ⟨B', hB'⟩ : ∃ B', B' = B := ⟨_, rfl⟩
        obtain ⟨c', hc'⟩ : ∃ c', c' = c := ⟨_, rfl⟩
        obtain ⟨k', hk'⟩ : ∃ k', k' = kk := ⟨_, rfl⟩
        obtain ⟨d8, hd8⟩ : ∃ d8, d8 = d := ⟨_, rfl⟩
        have HT8 := HTW; have HX8 := HX5; have HPN8 := HPN; have HSL8 := HSL
        rw [← hw8, ← hA', ← hB', ← hc', ← hk', ← hd8] at HT8
        rw [← hw8] at HX8
        rw [← hd8] at HPN8 HSL8
        rw [← hw8]
        have hkb2 : ¬ (k : Int) < (nb : Int) := by omega
        clear hw8 hA' hB' hc' hk' hd8 HTW HX5 HRG
      all_goals
        have hpl8 : d8.pend.length ≤ 1000 := by rw [HPN8.out]; simp
        have hl8 : 2 ≤ d8.stable.length := by rw [HSL8.out]; omega
        have hwr := super_Write_all ⟨xg, xr, xb, xq, xc, xe⟩ HT8.out.disk HT8.out.bl.size hpl8 hl8
        have hrw := fun (w' : World) (hr : RDk w' A' c' B' k' d8) => ref15_Write_all ⟨xg, xr, xb, xq, xc, xe⟩ hr hpl8 hl8
        have hp9 := superWA_pend (x := ⟨xg, xr, xb, xq, xc, xe⟩) HPN8.out
        obtain ⟨hl9, hq9⟩ := superWA_len d8 ⟨xg, xr, xb, xq, xc, xe⟩
        rw [HSL8.out] at hl9
        rw [HPN8.out] at hq9
        have hq9 : (superWA d8 ⟨xg, xr, xb, xq, xc, xe⟩).1.pend.length ≤ 1000000 := by simp at hq9; omega
        unfold SD.v at hwr hrw
        dsimp only at hwr hrw
        generalize superWA d8 ⟨xg, xr, xb, xq, xc, xe⟩ = dd9 at *
        obtain ⟨d9, err⟩ := dd9
        dsimp only at hwr hrw hp9 hl9 hq9
        have HWR := Lib.hid hwr; have HRW := Lib.hid hrw; have HP9 := Lib.hid hp9; have HL9 := Lib.hid hl9; have HQ9 := Lib.hid hq9
        clear hwr hrw hp9 hl9 hq9 hpl8 hl8
        go_wp2_with (refine ldN 24 [.int .u64 (xg : Nat), .int .i64 xr, .int .i64 xb, .int .i64 xq, .int .i64 xc, .int .i64 xe] rfl _ rfl g10 0 rfl HX8.out.range Try.underlying24 rfl Try.sizeSuper ?_)
        refine HWR.out.mono ?_
        clear HWR
        rintro e w9 ⟨v9, rfl, hd9, hk9, hv9⟩
        have HH9 := Lib.hid (HT8.out.acted hd9 hk9 hv9)
        have HX9 := Lib.hid (HX8.out.kp hk9 (foot_not HT8.out.disk HX8.out (by decide) (by decide) (by decide)))
        clear hd9 hk9 hv9 HT8 HX8
        go_wp2_with (first
          | (refine ldRD rfl _ rfl g rfl HH9.out.row ?_)
          | (refine ldN 24 [.int .u64 (xg : Nat), .int .i64 xr, .int .i64 xb, .int .i64 xq, .int .i64 xc, .int .i64 xe] rfl _ rfl g10 0 rfl HX9.out.range Try.underlying24 rfl Try.sizeSuper ?_))
        refine (HRW.out w9 HH9.out.rd).mono ?_
        clear HRW HX9
        rintro e w10 ⟨A9, c9, B9, k9, rfl, hr10, hb10, hA10, hB10⟩
        unfold withErr
        have HR10 := Lib.hid (hr10.below (below_alloc w10 (.cells (rdC A9 c9 B9 k9 d9).toArray 36)))
        have HB10 := Lib.hid (balloc hb10 (.cells (rdC A9 c9 B9 k9 d9).toArray 36))
        have HA10 : Hid (A9 = A' ∨ FrA w9 (w10.alloc (.cells (rdC A9 c9 B9 k9 d9).toArray 36)) A9) := Lib.hid (hA10.imp id (fun h => h.lift (Nat.le_refl _) (by simp)))
        have HBB10 : Hid (B9 = B' ∨ FrA w9 (w10.alloc (.cells (rdC A9 c9 B9 k9 d9).toArray 36)) B9) := Lib.hid (hB10.imp id (fun h => h.lift (Nat.le_refl _) (by simp)))
        have HN10 := Lib.hid (RowAt.new w10 36 (rdC A9 c9 B9 k9 d9))
        have HG10 := Lib.hid (HH9.out.row.below HB10.out)
        clear hr10 hb10 hA10 hB10
        go_wp2_with (first
          | (refine stN 36 (rdC A9 c9 B9 k9 d9) rfl _ _ rfl _ _ rfl rfl rfl (rdC_one _ _ _ _ _) Try.sizeRD rfl ?_)
          | (refine ldRD rfl _ rfl w10.heap.size rfl HN10.out ?_)
          | (refine stRD rfl _ _ rfl g rfl HG10.out rfl rfl ?_; intro w12 hs12 hk12; have HT12 := Lib.hid (HH9.out.done HR10.out HB10.out HA10.out HBB10.out hk12 hs12 HG.out); clear hs12 hk12))
        clear HH9 HR10 HB10 HA10 HBB10 HN10 HG10
        have HDE := disk_Dead HT12.out.disk
        generalize w10.heap.size = g12 at *
        cases hdead : d9.dead
        case' true =>
          rw [hdead] at HDE
          refine HDE.mono ?_
          clear HDE
          rintro e w13 ⟨rfl, rfl⟩
          have HC12 := Lib.hid (HC1.out.below HT12.out.bl)
          have HDK := Lib.hid HT12.out.disk
          go_wp2_with (at_builtin; refine wpList_copy_bools (W := w12) rfl _ _ 49 4 rfl Try.underlying49 Try.infoBoolS C nk ck keep w12.heap.size rfl rfl rfl HC12.out (Nat.le_trans HNK.out (by omega)) ?_; intro A14 c14 w14 hown14 hrb14 hb14; have HOW := Lib.hid (foot_freshS HDK.out hown14); have HRB14 := Lib.hid hrb14; have HB14 := Lib.hid hb14; clear hown14 hrb14 hb14)
          have HT14 := Lib.hid (HT12.out.below HB14.out)
          refine (disk_Crash HT14.out.disk HQ9.out A14 nk c14 keep HRB14.out HOW.out 0 _).mono ?_
          rintro e w15 ⟨rfl, hd15, hk15⟩
          have HH15 := Lib.hid (HT14.out.acted hd15 hk15 (fun q hq => by cases hq))
          have HC15 := Lib.hid (HC1.out.below HH15.out.bl)
          clear hd15 hk15 HDK HOW HRB14 HB14 HT14 HT12 HC12
          go_wp2_with (refine ldRD rfl _ rfl g rfl HH15.out.row ?_)
          refine (pair_crash HQ9.out C nk ck keep 0 _ w15 HH15.out.rd HC15.out).mono ?_
          rintro e w16 ⟨A17, c17, B17, k17, rfl, hr16, hb16, hA16, hB16⟩
          unfold justIt
          have HR16 := Lib.hid hr16; have HB16 := Lib.hid hb16; have HA16 := Lib.hid hA16; have HBB16 := Lib.hid hB16; have HG16 := Lib.hid (HH15.out.row.below hb16)
          clear hr16 hb16 hA16 hB16 HC15
          go_wp2_with (refine stRD rfl _ _ rfl g rfl HG16.out rfl rfl ?_; intro w17 hs17 hk17; have HT17 := Lib.hid (HH15.out.done HR16.out HB16.out HA16.out HBB16.out hk17 hs17 HG.out); clear hs17 hk17)
          have HPN17 : Hid ((d9.crashed keep 0 (9 * (k : Int))).pend = []) := Lib.hid rfl
          have HDD17 : Hid ((d9.crashed keep 0 (9 * (k : Int))).dead = false) := Lib.hid rfl
          have HSL17 : Hid ((d9.crashed keep 0 (9 * (k : Int))).stable.length = 3) := Lib.hid (by rw [show (d9.crashed keep 0 (9 * (k : Int))).stable.length = d9.stable.length from by simp [Dk.crashed, crashTo_length]]; exact HL9.out)
          generalize d9.crashed keep 0 (9 * (k : Int)) = d17 at *
          obtain ⟨v17, hv17⟩ : ∃ v17 : Value, v17 = .slice none 0 0 := ⟨_, rfl⟩
          rw [← hv17] at HT17
          clear hv17 HH15 HR16 HB16 HA16 HBB16 HG16 HP9 HL9 HQ9
        case' false =>
          rw [hdead] at HDE
          refine HDE.mono ?_
          clear HDE
          rintro e w13 ⟨rfl, rfl⟩
          have HPN17 : Hid (d9.pend = []) := Lib.hid (HP9.out hdead)
          have HDD17 : Hid (d9.dead = false) := Lib.hid hdead
          have HSL17 : Hid (d9.stable.length = 3) := HL9
          clear hdead HP9 HL9 HQ9
          have HT17 := HT12
          clear HT12
          revert HT17 HPN17 HDD17 HSL17
          generalize w12 = w17
          generalize v9 = v17
          generalize A9 = A17
          generalize c9 = c17
          generalize B9 = B17
          generalize k9 = k17
          generalize d9 = d17
          intro HPN17 HDD17 HSL17 HT17
        all_goals
          have hpl17 : d17.pend.length ≤ 1000 := by rw [HPN17.out]; simp
          have hl17 : 2 ≤ d17.stable.length := by rw [HSL17.out]; omega
          have HRD := Lib.hid (super_Read HT17.out.disk hpl17 hl17)
          have HRR := Lib.hid (fun (w' : World) (hr : RDk w' A17 c17 B17 k17 d17) => ref15_Read hr hpl17 hl17)
          obtain ⟨r, hr⟩ : ∃ r, r = readTo d17.read 2 := ⟨_, rfl⟩
          rw [← hr] at HRD HRR
          clear hr hpl17 hl17
          obtain ⟨⟨rg, r1, r2, r3, r4, r5⟩, ok⟩ := r
          go_wp2_with fail
          refine HRD.out.mono ?_
          clear HRD
          rintro e w18 ⟨rfl, hb18⟩
          unfold SD.v
          dsimp only
          have HX18 := Lib.hid (RowAt.new w18 24 [.int .u64 (rg : Nat), .int .i64 r1, .int .i64 r2, .int .i64 r3, .int .i64 r4, .int .i64 r5])
          have HT18 := Lib.hid ((HT17.out.below hb18).below (below_alloc w18 (.cells ([.int .u64 (rg : Nat), .int .i64 r1, .int .i64 r2, .int .i64 r3, .int .i64 r4, .int .i64 r5] : List Value).toArray 24)))
          clear hb18 HT17
          go_wp2_with (first
            | (refine stN 24 [.int .u64 (rg : Nat), .int .i64 r1, .int .i64 r2, .int .i64 r3, .int .i64 r4, .int .i64 r5] rfl _ _ rfl _ _ rfl rfl rfl (by simp [Value.oneCell']) Try.sizeSuper rfl ?_)
            | (refine ldRD rfl _ rfl g rfl HT18.out.row ?_))
          refine (HRR.out _ HT18.out.rd).mono ?_
          clear HRR
          rintro e w20 ⟨rfl, hb20⟩
          unfold SD.v
          dsimp only
          have hx21 := (HX18.out.below hb20).below (below_alloc w20 (.cells ([.int .u64 (rg : Nat), .int .i64 r1, .int .i64 r2, .int .i64 r3, .int .i64 r4, .int .i64 r5] : List Value).toArray 24))
          have ht21 := (HT18.out.below hb20).below (below_alloc w20 (.cells ([.int .u64 (rg : Nat), .int .i64 r1, .int .i64 r2, .int .i64 r3, .int .i64 r4, .int .i64 r5] : List Value).toArray 24))
          have hy21 := RowAt.new w20 24 [.int .u64 (rg : Nat), .int .i64 r1, .int .i64 r2, .int .i64 r3, .int .i64 r4, .int .i64 r5]
          have HX21 := Lib.hid hx21; have HT21 := Lib.hid ht21; have HY21 := Lib.hid hy21
          clear hb20 HX18 HT18 hx21 ht21 hy21
          go_upto_region 21 with (refine stN 24 [.int .u64 (rg : Nat), .int .i64 r1, .int .i64 r2, .int .i64 r3, .int .i64 r4, .int .i64 r5] rfl _ _ rfl _ _ rfl rfl rfl (by simp [Value.oneCell']) Try.sizeSuper rfl ?_)
          generalize w20.alloc (.cells ([.int .u64 (rg : Nat), .int .i64 r1, .int .i64 r2, .int .i64 r3, .int .i64 r4, .int .i64 r5] : List Value).toArray 24) = w21 at *
          generalize w20.heap.size = g16 at *
          generalize w18.heap.size = g14 at *
          have ht21 := HT21.out
          have hs0 : 0 < d17.stable.length := by rw [HSL17.out]; omega
          have hs1 : 1 < d17.stable.length := by rw [HSL17.out]; omega
          have hee : (err != err) = false := by simp
          have hoo : (ok != ok) = false := by simp
          have heq0 : ∀ w, (Op.equalIn 10000 32 (.agg (bv (secAt d17.stable 0)).toArray) (.agg (bv (secAt d17.stable 0)).toArray)).run Try.prog w = .ok true w := fun w => by
            have := eq37 w (secAt d17.stable 0) (secAt d17.stable 0) (ht21.rd.secL 0 hs0) (ht21.rd.secL 0 hs0)
            rwa [decide_eq_true rfl] at this
          have heq1 : ∀ w, (Op.equalIn 10000 32 (.agg (bv (secAt d17.stable 1)).toArray) (.agg (bv (secAt d17.stable 1)).toArray)).run Try.prog w = .ok true w := fun w => by
            have := eq37 w (secAt d17.stable 1) (secAt d17.stable 1) (ht21.rd.secL 1 hs1) (ht21.rd.secL 1 hs1)
            rwa [decide_eq_true rfl] at this
          have htd : SupT w1 w21.drew p s g v17 A17 c17 B17 k17 d17 g14 g16 [.int .u64 (rg : Nat), .int .i64 r1, .int .i64 r2, .int .i64 r3, .int .i64 r4, .int .i64 r5] := ⟨ht21.below ((Below.refl _ _).drew), HX21.out.below ((Below.refl _ _).drew), HY21.out.below ((Below.refl _ _).drew), rfl⟩
          have HS0 := Lib.hid (show ∀ w', SupT w1 w' p s g v17 A17 c17 B17 k17 d17 g14 g16 [.int .u64 (rg : Nat), .int .i64 r1, .int .i64 r2, .int .i64 r3, .int .i64 r4, .int .i64 r5] → Calls Try.prog 25 #[.pointer (some ⟨p, 0, none⟩), .int .i64 0] w' (fun e w'' => e = .returned (secV (secAt d17.stable 0)) ∧ Below w'.heap.size w' w'') from fun w' h => disk_Stable_yes h.1.disk 0 hs0)
          have HS1 := Lib.hid (show ∀ w', SupT w1 w' p s g v17 A17 c17 B17 k17 d17 g14 g16 [.int .u64 (rg : Nat), .int .i64 r1, .int .i64 r2, .int .i64 r3, .int .i64 r4, .int .i64 r5] → Calls Try.prog 25 #[.pointer (some ⟨p, 0, none⟩), .int .i64 1] w' (fun e w'' => e = .returned (secV (secAt d17.stable 1)) ∧ Below w'.heap.size w' w'') from fun w' h => disk_Stable_yes h.1.disk 1 hs1)
          have HT0 := Lib.hid (show ∀ w', SupT w1 w' p s g v17 A17 c17 B17 k17 d17 g14 g16 [.int .u64 (rg : Nat), .int .i64 r1, .int .i64 r2, .int .i64 r3, .int .i64 r4, .int .i64 r5] → Calls Try.prog 26 #[.agg (rdC A17 c17 B17 k17 d17).toArray, .int .i64 0] w' (fun e w'' => e = .returned (secV (secAt d17.stable 0)) ∧ Below w'.heap.size w' w'') from fun w' h => ref_At_yes h.1.rd 0 hs0)
          have HT1 := Lib.hid (show ∀ w', SupT w1 w' p s g v17 A17 c17 B17 k17 d17 g14 g16 [.int .u64 (rg : Nat), .int .i64 r1, .int .i64 r2, .int .i64 r3, .int .i64 r4, .int .i64 r5] → Calls Try.prog 26 #[.agg (rdC A17 c17 B17 k17 d17).toArray, .int .i64 1] w' (fun e w'' => e = .returned (secV (secAt d17.stable 1)) ∧ Below w'.heap.size w' w'') from fun w' h => ref_At_yes h.1.rd 1 hs1)
          obtain ⟨q0, q1, q2⟩ := htd.loads
          clear HX21 HT21 HY21 ht21
          go_region_held3 (fun w' => (ldRDn (.pointer (some ⟨g, 0, none⟩))).run Try.prog w' = .ok (.agg (rdC A17 c17 B17 k17 d17).toArray) w' ∧ (ldSup (.pointer (some ⟨g14, 0, none⟩))).run Try.prog w' = .ok (.agg ([.int .u64 (rg : Nat), .int .i64 r1, .int .i64 r2, .int .i64 r3, .int .i64 r4, .int .i64 r5] : List Value).toArray) w' ∧ (ldSup (.pointer (some ⟨g16, 0, none⟩))).run Try.prog w' = .ok (.agg ([.int .u64 (rg : Nat), .int .i64 r1, .int .i64 r2, .int .i64 r3, .int .i64 r4, .int .i64 r5] : List Value).toArray) w' ∧ SupT w1 w' p s g v17 A17 c17 B17 k17 d17 g14 g16 [.int .u64 (rg : Nat), .int .i64 r1, .int .i64 r2, .int .i64 r3, .int .i64 r4, .int .i64 r5]) (first | go_keep | exact ⟨by assumption, by assumption, by assumption, by assumption⟩)
            (first
              | (go_at_call 25; with_reducible refine (HS0.out _ (by assumption)).mono ?_; rintro e w31 ⟨rfl, hb31⟩; unfold secV; have ht31 : SupT w1 w31 p s g v17 A17 c17 B17 k17 d17 g14 g16 [.int .u64 (rg : Nat), .int .i64 r1, .int .i64 r2, .int .i64 r3, .int .i64 r4, .int .i64 r5] := SupT.below (by assumption) hb31; obtain ⟨q310, q311, q312⟩ := ht31.loads; clear hb31)
              | (go_at_call 25; with_reducible refine (HS1.out _ (by assumption)).mono ?_; rintro e w33 ⟨rfl, hb33⟩; unfold secV; have ht33 : SupT w1 w33 p s g v17 A17 c17 B17 k17 d17 g14 g16 [.int .u64 (rg : Nat), .int .i64 r1, .int .i64 r2, .int .i64 r3, .int .i64 r4, .int .i64 r5] := SupT.below (by assumption) hb33; obtain ⟨q330, q331, q332⟩ := ht33.loads; clear hb33)
              | (go_at_call 26; with_reducible refine (HT0.out _ (by assumption)).mono ?_; rintro e w32 ⟨rfl, hb32⟩; unfold secV; have ht32 : SupT w1 w32 p s g v17 A17 c17 B17 k17 d17 g14 g16 [.int .u64 (rg : Nat), .int .i64 r1, .int .i64 r2, .int .i64 r3, .int .i64 r4, .int .i64 r5] := SupT.below (by assumption) hb32; obtain ⟨q320, q321, q322⟩ := ht32.loads; clear hb32)
              | (go_at_call 26; with_reducible refine (HT1.out _ (by assumption)).mono ?_; rintro e w34 ⟨rfl, hb34⟩; unfold secV; have ht34 : SupT w1 w34 p s g v17 A17 c17 B17 k17 d17 g14 g16 [.int .u64 (rg : Nat), .int .i64 r1, .int .i64 r2, .int .i64 r3, .int .i64 r4, .int .i64 r5] := SupT.below (by assumption) hb34; obtain ⟨q340, q341, q342⟩ := ht34.loads; clear hb34))
          all_goals
            go_wp2_with fail
            go_roundw
            case rel => exact ⟨k + 1, by omega, by go_num, Lib.hid ⟨_, _, _, _, _, _, SupT.two (by assumption), HPN17.out, HSL17.out, HDD17.out⟩⟩
            case measure => simp [intOf]; omega
    · obtain rfl : k = n := by omega
      obtain ⟨v, A, c, B, kk, d, htw, -, -, -⟩ := HR.out
      have HBZ := Lib.hid (bthen HB1.out htw.bl)
      clear HR htw
      go_wp2_with fail
      go_ret
      exact ⟨rfl, HBZ.out⟩
end Go.Proofs.Ytanibabfdpgbbaa

/- SuperRuns: the arguments opened. -/
namespace Go.Proofs.Ytanibabfdpgbbaa
open Go.RowKit Go.ChangeShapes Go.WideShapes Go.ChangeAt
set_option maxRecDepth 20000 in
theorem superRuns_early (A : Option Addr) (n c : Nat) (b k : Value) (w : World) (h : 50 < n) :
    Calls Try.prog 8 #[.slice A n c, b, k] w fun e w' => e = .returned (.bool true) ∧ Below w.heap.size w w' := by
  go_enter Try.func8, Try.ntmps8
  go_wp2_with fail
  refine (superAlive_true _).mono ?_
  rintro e w1 ⟨rfl, hb1⟩
  have HB1 := Lib.hid hb1
  clear hb1
  go_wp2_with fail
  go_ret
  exact ⟨rfl, HB1.out⟩
set_option maxRecDepth 100000 in
theorem trod_oneInt {H : Type} {enc : TypeId × Value → H} {W : World} {fuel : Nat} {cs : List Value} {x : DataW H × List MemPlace} (hf : DataW.trod enc Try.prog W 0 (fun _ => true) true fuel 3 cs = some x) : ∃ y : { y : Int // y ≤ 9223372036854775807 }, cs = oneInt y := by
  obtain ⟨n0, e0, _, w0⟩ := DataW.trod_int Try.underlying3 hf
  exact ⟨⟨n0, (i64_wf w0).2⟩, e0⟩
set_option maxRecDepth 100000 in
theorem superRuns_walk {H : Type} {enc : TypeId × Value → H} {W : World} {base : Nat} {v0 v1 v2 : Value} {d0 d1 d2 : DataW H} {p0 p1 p2 : List MemPlace}
    (o0 : Value.okWide Try.prog W .any base 47 v0) (r0 : DataW.Trod enc Try.prog W 0 (fun _ => true) true 47 v0 d0 p0) (_z0 : ∀ n ∈ d0.weights Try.prog 47, n ≤ reachBytes)
    (o1 : Value.okWide Try.prog W .any base 54 v1) (r1 : DataW.Trod enc Try.prog W 0 (fun _ => true) true 54 v1 d1 p1) (_z1 : ∀ n ∈ d1.weights Try.prog 54, n ≤ reachBytes)
    (o2 : Value.okWide Try.prog W .any base 49 v2) (r2 : DataW.Trod enc Try.prog W 0 (fun _ => true) true 49 v2 d2 p2) (z2 : ∀ n ∈ d2.weights Try.prog 49, n ≤ reachBytes) :
    Calls Try.prog 8 #[v0, v1, v2] W fun e w' => e = .returned (.bool true) ∧ Below W.heap.size W w' := by
  haveI : Inhabited SD := ⟨SD.z⟩
  haveI : Inhabited { y : Int // y ≤ 9223372036854775807 } := ⟨⟨0, by decide⟩⟩
  obtain ⟨A, n, c, f, rfl, hA⟩ := open_elems SD.cells 6 Try.underlying47 (by kernel_rfl) (fun a => by unfold SD.cells; simp) (fun _ _ _ h => trod_super h) o0 r0
  obtain ⟨B, nb, cb, fb, rfl, hB⟩ := open_elems oneInt 1 Try.underlying54 (by kernel_rfl) (fun a => by unfold oneInt; simp) (fun _ _ _ h => trod_oneInt h) o1 r1
  obtain ⟨C, nk, ck, keep, rfl, hC, hnk⟩ := open_bools o2 r2 z2
  by_cases hn : 50 < n
  · exact superRuns_early A n c _ _ W hn
  · exact superRuns_main A n c f B nb cb fb C nk ck keep W hA hB hC hnk (by omega)
end Go.Proofs.Ytanibabfdpgbbaa
