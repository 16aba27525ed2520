/- What Crash of a disk computes. -/
import Derived.Test.YtoghmakbdhepfaaDiskW5
namespace Go.Proofs.Ytoghmakbdhepfaa
open Go.RowKit
attribute [local go_sem ↓] loadAt37 storeAt37

/-- copy as one step of a region that draws its order. -/
theorem step_copy {P : Program} {ops : Array Oper} {o : Oper} {a : Act} {w : World} {K : Act → World → Prop} {Q : Exit → Act → World → Prop} {E : Prop} (hgd : o.guard = none) (d s : Operand) (dT sT : TypeId)
    (ho : o.op = .call { callee := .builtin .copy, args := #[d, s], argTypes := #[dT, sT] }) (elem : TypeId) (hu : P.underlying dT = some (.slice elem)) (hsz : (P.info? elem).map (·.size) = some 1)
    (b off dLen dCap : Nat) (ad : Addr) (sLen sCap : Nat) (hd : a.eval d = .slice (some ⟨b, off, none⟩) dLen dCap) (hs : a.eval s = .slice (some ad) sLen sCap)
    (cs : List Value) (hn : cs.length = Nat.min sLen dLen) (hsrc : ∀ j v, cs[j]? = some v → w.cell? (ad.add j) = some v) (ht : w.there b off cs.length) (h1 : ∀ v ∈ cs, v.oneCell' = true)
    (h : K (a.put o.dst (goInt cs.length)) (w.setCells b off cs)) :
    if Region.wanted o (yielded ops a.tmps) = true then Oper.wp P o a w K Q else E := by
  have hw : Region.wanted o (yielded ops a.tmps) = true := by simp [Region.wanted, hgd]
  rw [if_pos hw]
  have hrun := run_copy_cells (P := P) w dT sT o.type elem b off dLen dCap ad sLen sCap cs hu hsz hn hsrc (fun j hj => (ht j hj).1) (fun j hj => (ht j hj).2) h1
  unfold Oper.wp
  simp [execOp, ho, resolve, invoke, builtin, hd, hs, hrun, Result.andThen]
  exact h

section
variable {w : World} {base p s : Nat} {v : Value} {d : Dk}
/-- Where the loop of Crash stands. -/
def CrashAt (w1 : World) (base p s : Nat) (v : Value) (d : Dk) (keep : List Bool) (torn : Int) (m k : Nat) (wr : World) : Prop :=
  DiskAt wr base p s v { d with stable := crashTo keep torn m d.stable d.pend k } ∧ Kp (foot p s v) w1 wr

set_option maxRecDepth 20000 in
set_option maxHeartbeats 1600000 in
theorem disk_Crash (h : DiskAt w base p s v d) (hpl : d.pend.length ≤ 1000000) (B : Option Addr) (n c : Nat) (keep : List Bool) (hk : RBl w B n c keep) (hkb : ∀ b o, B = some ⟨b, o, none⟩ → 0 < n → ¬ foot p s v b) (torn cut : Int) :
    Calls Try.prog 15 #[.pointer (some ⟨p, 0, none⟩), .slice B n c, .int .i64 torn, .int .i64 cut] w fun e w' => e = .returned (.tuple #[]) ∧ DiskAt w' base p s (.slice none 0 0) (d.crashed keep torn cut) ∧ Kp (foot p s v) w w' := by
  obtain ⟨A, cp, rfl⟩ := own_form h.pen
  have HC : Hid (CrashAt w base p s (.slice A d.pend.length cp) d keep torn (max 0 (min cut 128)).toNat 0 w) := Lib.hid ⟨h, Kp.refl _ _⟩
  have HKE := Lib.hid hk
  have HKB := Lib.hid hkb
  have c1 := h.c1
  have hnc := hk.2.1
  have hcm := hk.2.2.1
  clear h hk hkb
  go_enter Try.func15, Try.ntmps15
  go_wp2_with fail
  go_loopw [15] (fun i wr => ∃ k : Nat, k ≤ d.pend.length ∧ i = .int .i64 k ∧ Hid (CrashAt w base p s (.slice A d.pend.length cp) d keep torn (max 0 (min cut 128)).toNat k wr)) (fun i _ => d.pend.length - (intOf i).toNat)
  case atStart => exact ⟨0, by omega, rfl, HC⟩
  case round =>
    obtain ⟨k, hk, rfl, HW⟩ := hrel
    by_cases hlt : k < d.pend.length
    · obtain ⟨g, rfl, hg, -, hr⟩ := HW.out.1.pcell k (show k < d.pend.length from hlt)
      obtain ⟨hpin, hln⟩ := HW.out.1.pin' k (show k < d.pend.length from hlt)
      have hpin' : (penAt d.pend k).1 < (crashTo keep torn (max 0 (min cut 128)).toNat d.stable d.pend k).length := hpin
      have hr' : wr.rangeAt g (k * 129) (Value.int .i64 ((penAt d.pend k).1 : Int) :: bv (penAt d.pend k).2) := hr
      have hln' : (penAt d.pend k).2.length = 128 := hln
      have hnx : crashTo keep torn (max 0 (min cut 128)).toNat d.stable d.pend (k + 1) = crashStep keep torn (max 0 (min cut 128)).toNat (crashTo keep torn (max 0 (min cut 128)).toNat d.stable d.pend k) k (penAt d.pend k) := rfl
      clear hpin hr hln
      generalize penAt d.pend k = x at *
      obtain ⟨x1, x2⟩ := x
      simp only at hpin' hr' hln' hnx
      have HR := Lib.hid hr'; have HL := Lib.hid hln'; have HN := Lib.hid hnx
      have hlen : (crashTo keep torn (max 0 (min cut 128)).toNat d.stable d.pend k).length = d.stable.length := crashTo_length _ _ _ _ _ _
      have hx0 : (0 : Int) ≤ (x1 : Int) := Int.natCast_nonneg _
      have hx1 : (x1 : Int) < ((crashTo keep torn (max 0 (min cut 128)).toNat d.stable d.pend k).length : Int) := by omega
      have hk0 : (0 : Int) ≤ (k : Int) := Int.natCast_nonneg _
      have hk1 : (k : Int) < (d.pend.length : Int) := by omega
      have H2 := Lib.hid (HW.out.1.below (below_alloc wr (.cells (Value.int .i64 (x1 : Int) :: bv x2).toArray 68)))
      have hpz : p < wr.heap.size := HW.out.1.plt
      have HB : Hid (Kp (foot p s (.slice (some ⟨g, 0, none⟩) d.pend.length cp)) w (wr.alloc (.cells (Value.int .i64 (x1 : Int) :: bv x2).toArray 68))) := Lib.hid (HW.out.2.alloc _)
      have hkeep : ∀ j, j < n → ∃ b o, B = some ⟨b, o, none⟩ ∧ (wr.alloc (.cells (Value.int .i64 (x1 : Int) :: bv x2).toArray 68)).cell? ⟨b, o + j, none⟩ = some (.bool (atB keep j)) := fun j hj => by
        obtain ⟨b, o, e, hc⟩ := HKE.out.2.2.2 (by omega)
        refine ⟨b, o, e, ?_⟩
        have h1 := hc j hj
        rw [← h1]
        exact World.cell?_of_block (HB.out.block b (World.block_lt_of_cell? w _ h1) (HKB.out b o e (by omega)))
      have HKP := Lib.hid hkeep
      clear hr' hln' hnx hlen hpin' hkeep
      by_cases ht : (k : Int) = torn
      · have htb : ((k : Int) == torn) = true := beq_iff_eq.2 ht
        have HT := Lib.hid ht
        clear ht
        have c0 := H2.out.c0
        have hfin : ∀ m : Nat, (max 0 (min cut 128)).toNat = m → m ≤ 128 → CrashAt w base p s (.slice (some ⟨g, 0, none⟩) d.pend.length cp) d keep torn (max 0 (min cut 128)).toNat (k + 1) ((wr.alloc (.cells (Value.int .i64 (x1 : Int) :: bv x2).toArray 68)).drew.setCells s (x1 * 128) (bv (x2.take m))) := by
          intro m hm hm2
          refine ⟨?_, kp_setCells s _ _ _ HB.out.drew (fun _ => .inr (.inl rfl))⟩
          rw [HN.out]
          unfold crashStep
          rw [if_pos HT.out, hm]
          have := H2.out.drew.setTorn x1 x2 m (by simpa using hx1) HL.out hm2
          rw [hm] at this
          exact this
        have HF := Lib.hid hfin
        have HTH : Hid ((wr.alloc (.cells (Value.int .i64 (x1 : Int) :: bv x2).toArray 68)).drew.there s (x1 * 128) 128) := Lib.hid (H2.out.drew.sthere x1 (by simpa using hx1))
        have HRA : Hid ((wr.alloc (.cells (Value.int .i64 (x1 : Int) :: bv x2).toArray 68)).drew.rangeAt wr.heap.size 1 (bv x2)) := Lib.hid (range_alloc1 wr (Value.int .i64 (x1 : Int)) (bv x2) 68 (0, 0))
        have hsrc : ∀ m : Nat, ∀ j v, (bv (x2.take m))[j]? = some v → (wr.alloc (.cells (Value.int .i64 (x1 : Int) :: bv x2).toArray 68)).drew.cell? ((⟨wr.heap.size, 1, none⟩ : Addr).add j) = some v := by
          intro m j v hj
          rw [add_none]
          refine HRA.out j v ?_
          have e : bv (x2.take m) = (bv x2).take m := by simp [bv, List.map_take]
          rw [e, List.getElem?_take] at hj
          split at hj
          · exact hj
          · cases hj
        have HSRC := Lib.hid hsrc
        have HLM : Hid (∀ m, m ≤ 128 → (bv (x2.take m)).length = m) := Lib.hid fun m hm => by rw [bv_length, List.length_take, HL.out]; omega
        have HTM : Hid (∀ m, m ≤ 128 → (wr.alloc (.cells (Value.int .i64 (x1 : Int) :: bv x2).toArray 68)).drew.there s (x1 * 128) (bv (x2.take m)).length) := Lib.hid fun m hm j hj => HTH.out j (by rw [HLM.out m hm] at hj; omega)
        clear hfin hsrc
        by_cases hc1 : 0 < cut
        · by_cases hc2 : 128 < cut
          · have HMX := Lib.hid (HF.out 128 (by omega) (by omega))
            have HLN : Hid ((bv (x2.take 128)).length = Nat.min 128 128) := Lib.hid (by rw [HLM.out 128 (by omega)]; exact (Nat.min_eq_right (by omega)).symm)
            go_wp2_with (first | (refine ld157 rfl _ rfl g (k * 129) rfl (x1, x2) HR.out HL.out ?_) | (refine st157 rfl _ _ rfl _ _ rfl rfl (x1, x2) rfl HL.out rfl ?_))
            go_region_law ((refine step_copy (by rfl) _ _ _ _ (by rfl) 5 Try.underlying69 (by kernel_rfl) s (x1 * 128) 128 128 ⟨wr.heap.size, 1, none⟩ 128 128 (by rfl) (by rfl) (bv (x2.take 128)) (HLN.out) (HSRC.out 128) (HTM.out 128 (by omega)) (bv_one _) ?_))
            all_goals
              go_wp2
              go_roundw
              case rel => exact ⟨k + 1, by omega, by go_num, HMX⟩
              case measure => simp [intOf]; omega
          · obtain ⟨cn, rfl⟩ := Int.eq_ofNat_of_zero_le (show 0 ≤ cut by omega)
            have q1 : ((128 : Int) < (cn : Int)) = False := eq_false hc2
            have q0 : ((0 : Int) < (cn : Int)) = True := eq_true hc1
            have q2 : (cn : Int) ≤ 128 := by omega
            have q3 : (0 < cn) = True := eq_true (by omega)
            have HMX := Lib.hid (HF.out cn (by omega) (by omega))
            have HLN : Hid ((bv (x2.take cn)).length = Nat.min 128 cn) := Lib.hid (by rw [HLM.out cn (by omega)]; exact (Nat.min_eq_right (by omega)).symm)
            go_wp2_with (first | (refine ld157 rfl _ rfl g (k * 129) rfl (x1, x2) HR.out HL.out ?_) | (refine st157 rfl _ _ rfl _ _ rfl rfl (x1, x2) rfl HL.out rfl ?_))
            go_region_law ((refine step_copy (by rfl) _ _ _ _ (by rfl) 5 Try.underlying69 (by kernel_rfl) s (x1 * 128) cn 128 ⟨wr.heap.size, 1, none⟩ 128 128 (by rfl) (by rfl) (bv (x2.take cn)) (HLN.out) (HSRC.out cn) (HTM.out cn (by omega)) (bv_one _) ?_))
            all_goals
              go_wp2
              go_roundw
              case rel => exact ⟨k + 1, by omega, by go_num, HMX⟩
              case measure => simp [intOf]; omega
        · have q1 : ((128 : Int) < cut) = False := eq_false (by omega)
          have q0 : ((0 : Int) < cut) = False := eq_false hc1
          have HMX := Lib.hid (HF.out 0 (by omega) (by omega))
          have HLN : Hid ((bv (x2.take 0)).length = Nat.min 128 0) := Lib.hid (by rw [HLM.out 0 (by omega)]; exact (Nat.min_eq_right (by omega)).symm)
          go_wp2_with (first | (refine ld157 rfl _ rfl g (k * 129) rfl (x1, x2) HR.out HL.out ?_) | (refine st157 rfl _ _ rfl _ _ rfl rfl (x1, x2) rfl HL.out rfl ?_))
          go_region_law ((refine step_copy (by rfl) _ _ _ _ (by rfl) 5 Try.underlying69 (by kernel_rfl) s (x1 * 128) 0 128 ⟨wr.heap.size, 1, none⟩ 128 128 (by rfl) (by rfl) (bv (x2.take 0)) (HLN.out) (HSRC.out 0) (HTM.out 0 (by omega)) (bv_one _) ?_))
          all_goals
            go_wp2
            go_roundw
            case rel => exact ⟨k + 1, by omega, by go_num, HMX⟩
            case measure => simp [intOf]; omega
      · have htb : ((k : Int) == torn) = false := beq_eq_false_iff_ne.2 ht
        have HT := Lib.hid ht
        clear ht
        by_cases hkl : k < n
        · obtain ⟨b, o, rfl, hbc⟩ := HKP.out k hkl
          have hkl' : (k : Int) < (n : Int) := by omega
          by_cases hb : atB keep k = true
          · rw [hb] at hbc
            have c0 := H2.out.c0
            have hld := run_ldSec (w := (wr.alloc (.cells (Value.int .i64 (x1 : Int) :: bv x2).toArray 68)).drew) (range_alloc1 wr (Value.int .i64 (x1 : Int)) (bv x2) 68 (0, 0)) HL.out
            have hst := run_stSec (w := (wr.alloc (.cells (Value.int .i64 (x1 : Int) :: bv x2).toArray 68)).drew) (H2.out.sthere x1 (by simpa using hx1)) HL.out
            have hfin : CrashAt w base p s (.slice (some ⟨g, 0, none⟩) d.pend.length cp) d keep torn (max 0 (min cut 128)).toNat (k + 1) ((wr.alloc (.cells (Value.int .i64 (x1 : Int) :: bv x2).toArray 68)).drew.setCells s (x1 * 128) (bv x2)) := by
              refine ⟨?_, kp_setCells s _ _ _ HB.out.drew (fun _ => .inr (.inl rfl))⟩
              rw [HN.out]
              unfold crashStep
              rw [if_neg HT.out, if_pos hb]
              exact H2.out.drew.setSec x1 x2 (by simpa using hx1) HL.out
            have HF := Lib.hid hfin
            have HBB := Lib.hid hb
            clear hfin hb
            go_wp2_with (first | (refine ld157 rfl _ rfl g (k * 129) rfl (x1, x2) HR.out HL.out ?_) | (refine st157 rfl _ _ rfl _ _ rfl rfl (x1, x2) rfl HL.out rfl ?_))
            go_region_law (fail)
            all_goals
              go_wp2
              go_roundw
              case rel => exact ⟨k + 1, by omega, by go_num, HF⟩
              case measure => simp [intOf]; omega
          · have hb' : atB keep k = false := by simpa using hb
            rw [hb'] at hbc
            have hfin : CrashAt w base p s (.slice (some ⟨g, 0, none⟩) d.pend.length cp) d keep torn (max 0 (min cut 128)).toNat (k + 1) (wr.alloc (.cells (Value.int .i64 (x1 : Int) :: bv x2).toArray 68)) := by
              refine ⟨?_, HB.out⟩
              rw [HN.out]
              unfold crashStep
              rw [if_neg HT.out, if_neg hb]
              exact H2.out
            have HF := Lib.hid hfin
            clear hfin hb hb'
            go_wp2_with (first | (refine ld157 rfl _ rfl g (k * 129) rfl (x1, x2) HR.out HL.out ?_) | (refine st157 rfl _ _ rfl _ _ rfl rfl (x1, x2) rfl HL.out rfl ?_))
            go_roundw
            case rel => exact ⟨k + 1, by omega, by go_num, HF⟩
            case measure => simp [intOf]; omega
        · have hb' : atB keep k = false := by
            rw [atB, List.getD_eq_getElem?_getD, List.getElem?_eq_none (by rw [HKE.out.1]; omega)]; rfl
          have hfin : CrashAt w base p s (.slice (some ⟨g, 0, none⟩) d.pend.length cp) d keep torn (max 0 (min cut 128)).toNat (k + 1) (wr.alloc (.cells (Value.int .i64 (x1 : Int) :: bv x2).toArray 68)) := by
            refine ⟨?_, HB.out⟩
            rw [HN.out]
            unfold crashStep
            rw [if_neg HT.out, if_neg (by rw [hb']; decide)]
            exact H2.out
          have HF := Lib.hid hfin
          clear hfin hb'
          go_wp2_with (first | (refine ld157 rfl _ rfl g (k * 129) rfl (x1, x2) HR.out HL.out ?_) | (refine st157 rfl _ _ rfl _ _ rfl rfl (x1, x2) rfl HL.out rfl ?_))
          go_roundw
          case rel => exact ⟨k + 1, by omega, by go_num, HF⟩
          case measure => simp [intOf]; omega
    · obtain rfl : k = d.pend.length := by omega
      have h1 := HW.out.1
      have hfin := ((h1.set1 (.slice none 0 0) [] (World.ownsRow_nil _ _ _ _) (fun x hx => by cases hx)).set2 (-1) (by omega)).set3 false
      have hkp : Kp (foot p s (.slice A d.pend.length cp)) w (((wr.setCell ⟨p, 1, none⟩ (.slice none 0 0)).setCell ⟨p, 2, none⟩ (.int .i64 (-1))).setCell ⟨p, 3, none⟩ (.bool false)) :=
        ((HW.out.2.setCell _ _ (fun _ => .inl rfl)).setCell _ _ (fun _ => .inl rfl)).setCell _ _ (fun _ => .inl rfl)
      have c1' := h1.c1
      have f1' := h1.fz 1
      have c2' := h1.c2
      have f2' := h1.fz 2
      have c3' := h1.c3
      have f3' := h1.fz 3
      have HF := Lib.hid hfin; have HK2 := Lib.hid hkp
      clear hfin hkp h1
      go_wp2_with fail
      go_end0
      exact ⟨rfl, HF.out, HK2.out⟩
end
end Go.Proofs.Ytoghmakbdhepfaa
