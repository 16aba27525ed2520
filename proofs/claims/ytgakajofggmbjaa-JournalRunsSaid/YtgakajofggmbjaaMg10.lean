/- What Crash of a disk computes. -/
import Derived.Test.YtgakajofggmbjaaMg6
import Derived.RangeFuncNested
import Derived.RangeFuncCalls
import Derived.Deep.RegionHeld3
import Derived.WalkKit
import Derived.OrdersIn
import Derived.ControlIn
import Derived.AtR
import Derived.Test.YtgakajofggmbjaaMg5
import Derived.Test.YtgakajofggmbjaaMg9
import Derived.Test.YtgakajofggmbjaaProg
import Derived.Lib.Hide
import Derived.Test.YtgakajofggmbjaaMg3
import Derived.Test.YtgakajofggmbjaaMg2
import Derived.Laws.Bits64b
namespace Go.Proofs.Ytgakajofggmbjaa
open Go.RowKit
attribute [local go_sem ↓] loadAt37 storeAt37

/-- copy as one step of a region that draws its order. -/
theorem step_copy {P : Program} {ops : Array Oper} {o : Oper} {a : Act} {w : World} {K : Act → World → Prop} {Q : Exit → Act → World → Prop} {E : Prop} (hgd : o.guard = none) (d s : Operand) (dT sT : TypeId)
    (ho : o.op = .call { callee := .builtin .copy, args := #[d, s], argTypes := #[dT, sT] }) (elem : TypeId) (hu : P.underlying dT = some (.slice elem)) (hsz : (P.info? elem).map (·.size) = some 1)
    (b off dLen dCap : Nat) (ad : Addr) (sLen sCap : Nat) (hd : a.eval d = .slice (some ⟨b, off, none⟩) dLen dCap) (hs : a.eval s = .slice (some ad) sLen sCap)
    (cs : List Value) (hn : cs.length = Nat.min sLen dLen) (hsrc : ∀ j v, cs[j]? = some v → w.cell? (ad.add j) = some v) (ht : w.there b off cs.length) (h1 : ∀ v ∈ cs, v.oneCell' = true)
    (h : K (a.put o.dst (goInt cs.length)) (w.setCells b off cs)) :
    if Region.wanted o (yielded ops a.tmps) = true then Oper.wp P o a w K Q else E := by
  have hw : Region.wanted o (yielded ops a.tmps) = true := by simp [Region.wanted, hgd]
  rw [if_pos hw]
  have hrun := run_copy_cells (P := P) w dT sT o.type elem b off dLen dCap ad sLen sCap cs hu hsz hn hsrc (fun j hj => (ht j hj).1) (fun j hj => (ht j hj).2) h1
  unfold Oper.wp
  simp [execOp, ho, resolve, invoke, builtin, hd, hs, hrun, Result.andThen]
  exact h

section
variable {w : World} {base p s : Nat} {v : Value} {d : Dk}
/-- Where the loop of Crash stands. -/
def CrashAt (w1 : World) (base p s : Nat) (v : Value) (d : Dk) (keep : List Bool) (torn : Int) (m k : Nat) (wr : World) : Prop :=
  DiskAt wr base p s v { d with stable := crashTo keep torn m d.stable d.pend k } ∧ Kp (foot p s v) w1 wr

set_option maxRecDepth 20000 in
set_option maxHeartbeats 1600000 in
theorem disk_Crash (h : DiskAt w base p s v d) (hpl : d.pend.length ≤ 1000000) (B : Option Addr) (n c : Nat) (keep : List Bool) (hk : RBl w B n c keep) (hkb : ∀ b o, B = some ⟨b, o, none⟩ → 0 < n → ¬ foot p s v b) (torn cut : Int) :
    Calls Try.prog 17 #[.pointer (some ⟨p, 0, none⟩), .slice B n c, .int .i64 torn, .int .i64 cut] w fun e w' => e = .returned (.tuple #[]) ∧ DiskAt w' base p s (.slice none 0 0) (d.crashed keep torn cut) ∧ Kp (foot p s v) w w' := by
  obtain ⟨A, cp, rfl⟩ := own_form h.pen
  have HC : Hid (CrashAt w base p s (.slice A d.pend.length cp) d keep torn (max 0 (min cut 128)).toNat 0 w) := Lib.hid ⟨h, Kp.refl _ _⟩
  have HKE := Lib.hid hk
  have HKB := Lib.hid hkb
  have c1 := h.c1
  have hnc := hk.2.1
  have hcm := hk.2.2.1
  clear h hk hkb
  go_enter Try.func17, Try.ntmps17
  go_wp2_with fail
  go_loopw [15] (fun i wr => ∃ k : Nat, k ≤ d.pend.length ∧ i = .int .i64 k ∧ Hid (CrashAt w base p s (.slice A d.pend.length cp) d keep torn (max 0 (min cut 128)).toNat k wr)) (fun i _ => d.pend.length - (intOf i).toNat)
  case atStart => exact ⟨0, by omega, rfl, HC⟩
  case round =>
    obtain ⟨k, hk, rfl, HW⟩ := hrel
    by_cases hlt : k < d.pend.length
    · obtain ⟨g, rfl, hg, -, hr⟩ := HW.out.1.pcell k (show k < d.pend.length from hlt)
      obtain ⟨hpin, hln⟩ := HW.out.1.pin' k (show k < d.pend.length from hlt)
      have hpin' : (penAt d.pend k).1 < (crashTo keep torn (max 0 (min cut 128)).toNat d.stable d.pend k).length := hpin
      have hr' : wr.rangeAt g (k * 129) (Value.int .i64 ((penAt d.pend k).1 : Int) :: bv (penAt d.pend k).2) := hr
      have hln' : (penAt d.pend k).2.length = 128 := hln
      have hnx : crashTo keep torn (max 0 (min cut 128)).toNat d.stable d.pend (k + 1) = crashStep keep torn (max 0 (min cut 128)).toNat (crashTo keep torn (max 0 (min cut 128)).toNat d.stable d.pend k) k (penAt d.pend k) := rfl
      clear hpin hr hln
      generalize penAt d.pend k = x at *
      obtain ⟨x1, x2⟩ := x
      simp only at hpin' hr' hln' hnx
      have HR := Lib.hid hr'; have HL := Lib.hid hln'; have HN := Lib.hid hnx
      have hlen : (crashTo keep torn (max 0 (min cut 128)).toNat d.stable d.pend k).length = d.stable.length := crashTo_length _ _ _ _ _ _
      have hx0 : (0 : Int) ≤ (x1 : Int) := Int.natCast_nonneg _
      have hx1 : (x1 : Int) < ((crashTo keep torn (max 0 (min cut 128)).toNat d.stable d.pend k).length : Int) := by omega
      have hk0 : (0 : Int) ≤ (k : Int) := Int.natCast_nonneg _
      have hk1 : (k : Int) < (d.pend.length : Int) := by omega
      have H2 := Lib.hid (HW.out.1.below (below_alloc wr (.cells (Value.int .i64 (x1 : Int) :: bv x2).toArray 94)))
      have hpz : p < wr.heap.size := HW.out.1.plt
      have HB : Hid (Kp (foot p s (.slice (some ⟨g, 0, none⟩) d.pend.length cp)) w (wr.alloc (.cells (Value.int .i64 (x1 : Int) :: bv x2).toArray 94))) := Lib.hid (HW.out.2.alloc _)
      have hkeep : ∀ j, j < n → ∃ b o, B = some ⟨b, o, none⟩ ∧ (wr.alloc (.cells (Value.int .i64 (x1 : Int) :: bv x2).toArray 94)).cell? ⟨b, o + j, none⟩ = some (.bool (atB keep j)) := fun j hj => by
        obtain ⟨b, o, e, hc⟩ := HKE.out.2.2.2 (by omega)
        refine ⟨b, o, e, ?_⟩
        have h1 := hc j hj
        rw [← h1]
        exact World.cell?_of_block (HB.out.block b (World.block_lt_of_cell? w _ h1) (HKB.out b o e (by omega)))
      have HKP := Lib.hid hkeep
      clear hr' hln' hnx hlen hpin' hkeep
      by_cases ht : (k : Int) = torn
      · have htb : ((k : Int) == torn) = true := beq_iff_eq.2 ht
        have HT := Lib.hid ht
        clear ht
        have c0 := H2.out.c0
        have hfin : ∀ m : Nat, (max 0 (min cut 128)).toNat = m → m ≤ 128 → CrashAt w base p s (.slice (some ⟨g, 0, none⟩) d.pend.length cp) d keep torn (max 0 (min cut 128)).toNat (k + 1) ((wr.alloc (.cells (Value.int .i64 (x1 : Int) :: bv x2).toArray 94)).drew.setCells s (x1 * 128) (bv (x2.take m))) := by
          intro m hm hm2
          refine ⟨?_, kp_setCells s _ _ _ HB.out.drew (fun _ => .inr (.inl rfl))⟩
          rw [HN.out]
          unfold crashStep
          rw [if_pos HT.out, hm]
          have := H2.out.drew.setTorn x1 x2 m (by simpa using hx1) HL.out hm2
          rw [hm] at this
          exact this
        have HF := Lib.hid hfin
        have HTH : Hid ((wr.alloc (.cells (Value.int .i64 (x1 : Int) :: bv x2).toArray 94)).drew.there s (x1 * 128) 128) := Lib.hid (H2.out.drew.sthere x1 (by simpa using hx1))
        have HRA : Hid ((wr.alloc (.cells (Value.int .i64 (x1 : Int) :: bv x2).toArray 94)).drew.rangeAt wr.heap.size 1 (bv x2)) := Lib.hid (range_alloc1 wr (Value.int .i64 (x1 : Int)) (bv x2) 94 (0, 0))
        have hsrc : ∀ m : Nat, ∀ j v, (bv (x2.take m))[j]? = some v → (wr.alloc (.cells (Value.int .i64 (x1 : Int) :: bv x2).toArray 94)).drew.cell? ((⟨wr.heap.size, 1, none⟩ : Addr).add j) = some v := by
          intro m j v hj
          rw [add_none]
          refine HRA.out j v ?_
          have e : bv (x2.take m) = (bv x2).take m := by simp [bv, List.map_take]
          rw [e, List.getElem?_take] at hj
          split at hj
          · exact hj
          · cases hj
        have HSRC := Lib.hid hsrc
        have HLM : Hid (∀ m, m ≤ 128 → (bv (x2.take m)).length = m) := Lib.hid fun m hm => by rw [bv_length, List.length_take, HL.out]; omega
        have HTM : Hid (∀ m, m ≤ 128 → (wr.alloc (.cells (Value.int .i64 (x1 : Int) :: bv x2).toArray 94)).drew.there s (x1 * 128) (bv (x2.take m)).length) := Lib.hid fun m hm j hj => HTH.out j (by rw [HLM.out m hm] at hj; omega)
        clear hfin hsrc
        by_cases hc1 : 0 < cut
        · by_cases hc2 : 128 < cut
          · have HMX := Lib.hid (HF.out 128 (by omega) (by omega))
            have HLN : Hid ((bv (x2.take 128)).length = Nat.min 128 128) := Lib.hid (by rw [HLM.out 128 (by omega)]; exact (Nat.min_eq_right (by omega)).symm)
            go_wp2_with (first | (refine ld157 rfl _ rfl g (k * 129) rfl (x1, x2) HR.out HL.out ?_) | (refine st157 rfl _ _ rfl _ _ rfl rfl (x1, x2) rfl HL.out rfl ?_))
            go_region_law ((refine step_copy (by rfl) _ _ _ _ (by rfl) 5 Try.underlying37 (by kernel_rfl) s (x1 * 128) 128 128 ⟨wr.heap.size, 1, none⟩ 128 128 (by rfl) (by rfl) (bv (x2.take 128)) (HLN.out) (HSRC.out 128) (HTM.out 128 (by omega)) (bv_one _) ?_))
            all_goals
              go_wp2
              go_roundw
              case rel => exact ⟨k + 1, by omega, by go_num, HMX⟩
              case measure => simp [intOf]; omega
          · obtain ⟨cn, rfl⟩ := Int.eq_ofNat_of_zero_le (show 0 ≤ cut by omega)
            have q1 : ((128 : Int) < (cn : Int)) = False := eq_false hc2
            have q0 : ((0 : Int) < (cn : Int)) = True := eq_true hc1
            have q2 : (cn : Int) ≤ 128 := by omega
            have q3 : (0 < cn) = True := eq_true (by omega)
            have HMX := Lib.hid (HF.out cn (by omega) (by omega))
            have HLN : Hid ((bv (x2.take cn)).length = Nat.min 128 cn) := Lib.hid (by rw [HLM.out cn (by omega)]; exact (Nat.min_eq_right (by omega)).symm)
            go_wp2_with (first | (refine ld157 rfl _ rfl g (k * 129) rfl (x1, x2) HR.out HL.out ?_) | (refine st157 rfl _ _ rfl _ _ rfl rfl (x1, x2) rfl HL.out rfl ?_))
            go_region_law ((refine step_copy (by rfl) _ _ _ _ (by rfl) 5 Try.underlying37 (by kernel_rfl) s (x1 * 128) cn 128 ⟨wr.heap.size, 1, none⟩ 128 128 (by rfl) (by rfl) (bv (x2.take cn)) (HLN.out) (HSRC.out cn) (HTM.out cn (by omega)) (bv_one _) ?_))
            all_goals
              go_wp2
              go_roundw
              case rel => exact ⟨k + 1, by omega, by go_num, HMX⟩
              case measure => simp [intOf]; omega
        · have q1 : ((128 : Int) < cut) = False := eq_false (by omega)
          have q0 : ((0 : Int) < cut) = False := eq_false hc1
          have HMX := Lib.hid (HF.out 0 (by omega) (by omega))
          have HLN : Hid ((bv (x2.take 0)).length = Nat.min 128 0) := Lib.hid (by rw [HLM.out 0 (by omega)]; exact (Nat.min_eq_right (by omega)).symm)
          go_wp2_with (first | (refine ld157 rfl _ rfl g (k * 129) rfl (x1, x2) HR.out HL.out ?_) | (refine st157 rfl _ _ rfl _ _ rfl rfl (x1, x2) rfl HL.out rfl ?_))
          go_region_law ((refine step_copy (by rfl) _ _ _ _ (by rfl) 5 Try.underlying37 (by kernel_rfl) s (x1 * 128) 0 128 ⟨wr.heap.size, 1, none⟩ 128 128 (by rfl) (by rfl) (bv (x2.take 0)) (HLN.out) (HSRC.out 0) (HTM.out 0 (by omega)) (bv_one _) ?_))
          all_goals
            go_wp2
            go_roundw
            case rel => exact ⟨k + 1, by omega, by go_num, HMX⟩
            case measure => simp [intOf]; omega
      · have htb : ((k : Int) == torn) = false := beq_eq_false_iff_ne.2 ht
        have HT := Lib.hid ht
        clear ht
        by_cases hkl : k < n
        · obtain ⟨b, o, rfl, hbc⟩ := HKP.out k hkl
          have hkl' : (k : Int) < (n : Int) := by omega
          by_cases hb : atB keep k = true
          · rw [hb] at hbc
            have c0 := H2.out.c0
            have hld := run_ldSec (w := (wr.alloc (.cells (Value.int .i64 (x1 : Int) :: bv x2).toArray 94)).drew) (range_alloc1 wr (Value.int .i64 (x1 : Int)) (bv x2) 94 (0, 0)) HL.out
            have hst := run_stSec (w := (wr.alloc (.cells (Value.int .i64 (x1 : Int) :: bv x2).toArray 94)).drew) (H2.out.sthere x1 (by simpa using hx1)) HL.out
            have hfin : CrashAt w base p s (.slice (some ⟨g, 0, none⟩) d.pend.length cp) d keep torn (max 0 (min cut 128)).toNat (k + 1) ((wr.alloc (.cells (Value.int .i64 (x1 : Int) :: bv x2).toArray 94)).drew.setCells s (x1 * 128) (bv x2)) := by
              refine ⟨?_, kp_setCells s _ _ _ HB.out.drew (fun _ => .inr (.inl rfl))⟩
              rw [HN.out]
              unfold crashStep
              rw [if_neg HT.out, if_pos hb]
              exact H2.out.drew.setSec x1 x2 (by simpa using hx1) HL.out
            have HF := Lib.hid hfin
            have HBB := Lib.hid hb
            clear hfin hb
            go_wp2_with (first | (refine ld157 rfl _ rfl g (k * 129) rfl (x1, x2) HR.out HL.out ?_) | (refine st157 rfl _ _ rfl _ _ rfl rfl (x1, x2) rfl HL.out rfl ?_))
            go_region_law (fail)
            all_goals
              go_wp2
              go_roundw
              case rel => exact ⟨k + 1, by omega, by go_num, HF⟩
              case measure => simp [intOf]; omega
          · have hb' : atB keep k = false := by simpa using hb
            rw [hb'] at hbc
            have hfin : CrashAt w base p s (.slice (some ⟨g, 0, none⟩) d.pend.length cp) d keep torn (max 0 (min cut 128)).toNat (k + 1) (wr.alloc (.cells (Value.int .i64 (x1 : Int) :: bv x2).toArray 94)) := by
              refine ⟨?_, HB.out⟩
              rw [HN.out]
              unfold crashStep
              rw [if_neg HT.out, if_neg hb]
              exact H2.out
            have HF := Lib.hid hfin
            clear hfin hb hb'
            go_wp2_with (first | (refine ld157 rfl _ rfl g (k * 129) rfl (x1, x2) HR.out HL.out ?_) | (refine st157 rfl _ _ rfl _ _ rfl rfl (x1, x2) rfl HL.out rfl ?_))
            go_roundw
            case rel => exact ⟨k + 1, by omega, by go_num, HF⟩
            case measure => simp [intOf]; omega
        · have hb' : atB keep k = false := by
            rw [atB, List.getD_eq_getElem?_getD, List.getElem?_eq_none (by rw [HKE.out.1]; omega)]; rfl
          have hfin : CrashAt w base p s (.slice (some ⟨g, 0, none⟩) d.pend.length cp) d keep torn (max 0 (min cut 128)).toNat (k + 1) (wr.alloc (.cells (Value.int .i64 (x1 : Int) :: bv x2).toArray 94)) := by
            refine ⟨?_, HB.out⟩
            rw [HN.out]
            unfold crashStep
            rw [if_neg HT.out, if_neg (by rw [hb']; decide)]
            exact H2.out
          have HF := Lib.hid hfin
          clear hfin hb'
          go_wp2_with (first | (refine ld157 rfl _ rfl g (k * 129) rfl (x1, x2) HR.out HL.out ?_) | (refine st157 rfl _ _ rfl _ _ rfl rfl (x1, x2) rfl HL.out rfl ?_))
          go_roundw
          case rel => exact ⟨k + 1, by omega, by go_num, HF⟩
          case measure => simp [intOf]; omega
    · obtain rfl : k = d.pend.length := by omega
      have h1 := HW.out.1
      have hfin := ((h1.set1 (.slice none 0 0) [] (World.ownsRow_nil _ _ _ _) (fun x hx => by cases hx)).set2 (-1) (by omega)).set3 false
      have hkp : Kp (foot p s (.slice A d.pend.length cp)) w (((wr.setCell ⟨p, 1, none⟩ (.slice none 0 0)).setCell ⟨p, 2, none⟩ (.int .i64 (-1))).setCell ⟨p, 3, none⟩ (.bool false)) :=
        ((HW.out.2.setCell _ _ (fun _ => .inl rfl)).setCell _ _ (fun _ => .inl rfl)).setCell _ _ (fun _ => .inl rfl)
      have c1' := h1.c1
      have f1' := h1.fz 1
      have c2' := h1.c2
      have f2' := h1.fz 2
      have c3' := h1.c3
      have f3' := h1.fz 3
      have HF := Lib.hid hfin; have HK2 := Lib.hid hkp
      clear hfin hkp h1
      go_wp2_with fail
      go_end0
      exact ⟨rfl, HF.out, HK2.out⟩
end
end Go.Proofs.Ytgakajofggmbjaa

/- A region that draws its order, in a round of a loop over a function: by the laws of a region anywhere. No program in sight. -/
namespace Go.Proofs.Ytgakajofggmbjaa
open Go.RowKit

/-- Q at the end, and nothing else. -/
def OnlyN (Q : Exit → Act → World → Prop) : Exit → Act → World → Prop
  | .normal, a, w => Q .normal a w
  | _, _, _ => False
section
variable {P : Program} {ops : Array Oper} {Q : Exit → Act → World → Prop} {md : Region.Mode} {l n : Nat}
theorem wpOpIn_of (hd : ∀ (i : Nat) (o : Oper), ops[i]? = some o → ∀ c, o.op ≠ .defer c) (hlo : ¬ LetsOut Q) {i : Nat} {K : Act → World → Prop} {a : Act} {w : World} (h : wpOp P ops Q i K a w) : wpOpIn (Fence.wide.inRound l) n P ops Q i K a w := by
  unfold wpOp at h
  unfold wpOpIn
  cases ho : ops[i]? with
  | none => simpa [ho] using h
  | some o =>
    simp only [ho] at h ⊢
    split
    · rename_i hw
      rw [if_pos hw] at h
      rcases h with h | ⟨_, h⟩
      · refine ⟨fun _ _ => trivial, ?_⟩
        rw [Oper.semAt_eq _ _ _ (hd i o ho)]
        unfold Oper.wp at h
        generalize (execOp a.eval o).run P w = r at *
        cases r with
        | ok x w' =>
          cases x <;> simp only [Oper.upon, Oper.uponIn] at h ⊢
          case value => exact h
          case skip => exact h
          case defer => exact h
          case enter => exact ⟨fun e => (by cases e), CallsIn.inRound l (callsIn_wide.2 h)⟩
          case row => refine ⟨fun e => (by cases e), fun c cs _ => ?_⟩; obtain ⟨v, w', r, s⟩ := h c cs; exact ⟨v, w', r, stepsIn_wide.2 s⟩
        | halt x w' => cases x <;> simp only [Oper.upon, Oper.uponIn] at h ⊢; exact h
      · exact absurd h hlo
    · rename_i hw
      rw [if_neg hw] at h
      exact ⟨fun _ _ => trivial, h⟩
theorem wpAnyIn_of (hd : ∀ (i : Nat) (o : Oper), ops[i]? = some o → ∀ c, o.op ≠ .defer c) (hlo : ¬ LetsOut Q) : ∀ (fuel : Nat) (listed : Array Bool) (a : Act) (w : World), wpAny P md ops Q fuel listed a w → wpAnyIn (Fence.wide.inRound l) n P md ops Q fuel listed a w
  | 0, _, _, _, h => h
  | fuel + 1, _, _, _, h => ⟨h.1, fun i hi => wpOpIn_mono (fun a' w' h' => wpAnyIn_of hd hlo fuel _ a' w' h') (wpOpIn_of hd hlo (h.2 i hi))⟩
/-- No operation defers, as a Bool. -/
def noDefer (ops : Array Oper) : Bool := ops.toList.all fun o => match o.op with | .defer _ => false | _ => true
theorem noDefer_spec (h : noDefer ops = true) : ∀ (i : Nat) (o : Oper), ops[i]? = some o → ∀ c, o.op ≠ .defer c := by
  intro i o ho c e
  unfold noDefer at h
  rw [List.all_eq_true] at h
  have := h o (by rw [← Array.getElem?_toList] at ho; exact List.mem_of_getElem? ho)
  rw [e] at this
  cases this
/-- The beginning. -/
theorem wpIn_region_round {S : World → Prop} {id : Nat} {a : Act} {w : World} (hm : P.follows .mixedOrders = true) (hd : noDefer ops = true)
    (h : wpAnyH P .any ops (OnlyN Q) S ops.size (Array.replicate ops.size false) a w.drew) : (Code.region id ops true).wpIn (Fence.wide.inRound l) n P Q a w :=
  wpIn_mono (Q := OnlyN Q) (wpIn_region_any hm (wpAnyIn_of (noDefer_spec hd) (fun ⟨_, _, h⟩ => h) _ _ _ _ (wpAny_of_held _ _ _ _ h))) fun e a w h => by
    cases e <;> first | exact h | exact h.elim
end
end Go.Proofs.Ytgakajofggmbjaa

/- The journal as data: what Add does with a disk; what lies in memory while it runs. -/
namespace Go.Proofs.Ytgakajofggmbjaa
open Go.RowKit

/-- The sector of a record's k-th piece. -/
def pieceS (b : List UInt8) (k : Nat) : List UInt8 := splice zsec 0 ((b.drop (128 * k)).take 128)
theorem pieceS_length (b : List UInt8) (k : Nat) : (pieceS b k).length = 128 := by
  have h : ((b.drop (128 * k)).take 128).length ≤ 128 := by simp; omega
  generalize (b.drop (128 * k)).take 128 = x at *
  simp [pieceS, splice, zsec_length]
  omega
/-- A write is pending. -/
def Dk.push (d : Dk) (k : Nat) (l : List UInt8) : Dk := { d with pend := d.pend ++ [(k, l)] }
/-- One more piece: the disk, the next place, whether there was power. -/
def putStep (b : List UInt8) (st : Dk × Nat × Bool) (x : Nat) : Dk × Nat × Bool :=
  if st.2.2 then (if st.1.power.2 then (st.1.power.1.push st.2.1 (pieceS b x), st.2.1 + 1, true) else (st.1.power.1, st.2.1, false)) else st
def putsL (d : Dk) (at' : Nat) (b : List UInt8) (l : List Nat) : Dk × Nat × Bool := l.foldl (putStep b) (d, at', true)
theorem putsL_snoc (d : Dk) (at' : Nat) (b : List UInt8) (l : List Nat) (x : Nat) : putsL d at' b (l ++ [x]) = putStep b (putsL d at' b l) x := by simp [putsL]
theorem putsL_false (d : Dk) (at' : Nat) (b : List UInt8) (l r : List Nat) (h : (putsL d at' b l).2.2 = false) : putsL d at' b (l ++ r) = putsL d at' b l := by
  have h2 : ∀ (r : List Nat) (st : Dk × Nat × Bool), st.2.2 = false → r.foldl (putStep b) st = st := by
    intro r
    induction r with
    | nil => intro st _; rfl
    | cons x r ih => intro st hs; rw [List.foldl_cons, show putStep b st x = st by simp [putStep, hs]]; exact ih st hs
  unfold putsL at *
  rw [List.foldl_append]
  exact h2 r _ h
theorem Dk.push_power_stable (d : Dk) (k : Nat) (l : List UInt8) : (d.power.1.push k l).stable = d.stable := power_stable d
/-- While there is power. -/
theorem putsL_true (d : Dk) (at' : Nat) (b : List UInt8) : ∀ (l : List Nat) (d0 : Dk) (a0 : Nat), (l.foldl (putStep b) (d0, a0, true)).2.2 = true → (l.foldl (putStep b) (d0, a0, true)).2.1 = a0 + l.length ∧ (l.foldl (putStep b) (d0, a0, true)).1.stable = d0.stable ∧ (l.foldl (putStep b) (d0, a0, true)).1.pend.length = d0.pend.length + l.length
  | [], d0, a0, _ => ⟨rfl, rfl, rfl⟩
  | x :: r, d0, a0, h => by
    by_cases hp : d0.power.2 = true
    · have e : putStep b (d0, a0, true) x = (d0.power.1.push a0 (pieceS b x), a0 + 1, true) := by simp [putStep, hp]
      rw [List.foldl_cons, e] at h ⊢
      obtain ⟨h1, h2, h3⟩ := putsL_true d at' b r _ _ h
      refine ⟨by rw [h1]; simp; omega, h2.trans (Dk.push_power_stable _ _ _), by rw [h3]; simp [Dk.push, power_pend]; omega⟩
    · have e : putStep b (d0, a0, true) x = (d0.power.1, a0, false) := by simp [putStep, hp]
      rw [List.foldl_cons, e] at h
      have hf : (putsL d0.power.1 a0 b []).2.2 = true := rfl
      have h2 : ∀ (r : List Nat) (st : Dk × Nat × Bool), st.2.2 = false → (r.foldl (putStep b) st).2.2 = false := by
        intro r
        induction r with
        | nil => intro st hs; exact hs
        | cons x r ih => intro st hs; rw [List.foldl_cons, show putStep b st x = st by simp [putStep, hs]]; exact ih st hs
      rw [h2 r _ rfl] at h
      cases h
/-- The body of a record's head. -/
def hdBody (b : List UInt8) : List UInt8 := be b.length 2 ++ be (crcAdd 0#32 b).toNat 4
def Dk.flush (d : Dk) : Dk × Bool := if d.power.2 then (d.power.1.flushed, true) else (d.power.1, false)
/-- Add: the disk, the count, the error's number. -/
def addM (d : Dk) (first gen count : Nat) (b : List UInt8) : Dk × Nat × Int :=
  if 384 < b.length then (d, count, 63)
  else if 4 ≤ count then (d, count, 62)
  else
    let st := putsL d (first + 4 * count + 1) b (List.range ((b.length + 127) / 128))
    if st.2.2 = false then (st.1, count, 42)
    else if st.1.flush.2 = false then (st.1.flush.1, count, 42)
    else if st.1.flush.1.power.2 = false then (st.1.flush.1.power.1, count, 42)
    else
      let d3 := st.1.flush.1.power.1.push (first + 4 * count) (sealL (gen * 256 + (count + 1)) (hdBody b))
      if d3.flush.2 = false then (d3.flush.1, count, 42) else (d3.flush.1, count + 1, 0)
/-- What lies in memory while Add runs: its three boxes, the journal, the record, the disk. -/
structure AddI (w : World) (base p s j : Nat) (v : Value) (first : Int) (gen count : Nat) (A : Option Addr) (n c : Nat) (b : List UInt8) (nx err : Int) (d' : Dk) (W : World) : Prop where
  jb : RowAt W w.heap.size 33 [.pointer (some ⟨j, 0, none⟩)]
  eb : RowAt W (w.heap.size + 1) 41 [.int .i64 err]
  nb : RowAt W (w.heap.size + 2) 3 [.int .i64 nx]
  jr : JAt W j p first gen count
  rb : RB W A n c b
  dk : ∃ v', DiskAt W base p s v' d' ∧ ∀ g, v'.ownBlock = some g → v.ownBlock = some g ∨ w.heap.size + 5 ≤ g
  kp : Kp (foot p s v) w W
  sz : w.heap.size + 5 ≤ W.heap.size
/-- The record's own block is none of the disk's. -/
def RecAt (w : World) (p s : Nat) (v : Value) (A : Option Addr) : Prop := ∀ b o, A = some ⟨b, o, none⟩ → b < w.heap.size ∧ ¬ foot p s v b
section
variable {w W W' : World} {base p s j : Nat} {v : Value} {first : Int} {gen count : Nat} {A : Option Addr} {n c : Nat} {b : List UInt8} {nx err : Int} {d' d'' : Dk}
theorem RB.kpF {S : Nat → Prop} (h : RB W A n c b) (hk : Kp S W W') (hA : ∀ b o, A = some ⟨b, o, none⟩ → ¬ S b) : RB W' A n c b := by
  refine ⟨h.1, h.2.1, h.2.2.1, fun h0 => ?_⟩
  obtain ⟨b', o, rfl, hc⟩ := h.2.2.2 h0
  refine ⟨b', o, rfl, fun i hi => ?_⟩
  have hi' := hc i hi
  rw [← hi']
  have hlt := World.block_lt_of_cell? W _ hi'
  exact World.cell?_of_block (hk.block b' hlt (hA b' o rfl))
theorem foot_up {v' : Value} (hv : ∀ g, v'.ownBlock = some g → v.ownBlock = some g ∨ w.heap.size + 5 ≤ g) (k : Nat) (h : foot p s v' k) : foot p s v k ∨ w.heap.size + 5 ≤ k := by
  rcases h with h | h | h
  · exact .inl (.inl h)
  · exact .inl (.inr (.inl h))
  · rcases hv k h with h | h
    · exact .inl (.inr (.inr h))
    · exact .inr h
/-- What touches none of its blocks. -/
theorem AddI.kept {S : Nat → Prop} (h : AddI w base p s j v first gen count A n c b nx err d' W) (hA : RecAt w p s v A) (hj : j < w.heap.size) (hk : Kp S W W') (hS : ∀ k, S k → w.heap.size + 5 ≤ k) (hd : ∀ v', DiskAt W base p s v' d' → ∀ k, foot p s v' k → ¬ S k) :
    AddI w base p s j v first gen count A n c b nx err d' W' := by
  obtain ⟨v', hv', ho⟩ := h.dk
  exact ⟨h.jb.kp hk (fun e => by have := hS _ e; omega), h.eb.kp hk (fun e => by have := hS _ e; omega), h.nb.kp hk (fun e => by have := hS _ e; omega), RowAt.kp h.jr hk (fun e => by have := hS _ e; omega),
    h.rb.kpF hk (fun b o e hb => by have := (hA b o e).1; have := hS _ hb; omega), ⟨v', hv'.kept hk (hd v' hv'), ho⟩, h.kp.trans hk (fun i hi hs => by have := hS _ hs; omega), Nat.le_trans h.sz hk.size⟩
theorem AddI.below (h : AddI w base p s j v first gen count A n c b nx err d' W) (hb : Below W.heap.size W W') : AddI w base p s j v first gen count A n c b nx err d' W' := by
  obtain ⟨v', hv', ho⟩ := h.dk
  exact ⟨h.jb.below hb, h.eb.below hb, h.nb.below hb, RowAt.below h.jr hb, h.rb.below hb, ⟨v', hv'.below hb, ho⟩, h.kp.trans (Kp.of_below (S := fun _ => False) hb) (fun _ _ e => e.elim), Nat.le_trans h.sz hb.size⟩
/-- What the disk did. -/
theorem AddI.acted {v' v'' : Value} (h : AddI w base p s j v first gen count A n c b nx err d' W) (hA : RecAt w p s v A) (hd0 : DiskAt W base p s v' d') (ho : ∀ g, v'.ownBlock = some g → v.ownBlock = some g ∨ w.heap.size + 5 ≤ g) (hd : DiskAt W' base p s v'' d'') (hk : Kp (foot p s v') W W') (hv : ∀ q, v''.ownBlock = some q → v'.ownBlock = some q ∨ W.heap.size ≤ q) :
    AddI w base p s j v first gen count A n c b nx err d'' W' := by
  have f1 := foot_not hd0 h.jb (by decide) (by decide) (by decide)
  have f2 := foot_not hd0 h.eb (by decide) (by decide) (by decide)
  have f3 := foot_not hd0 h.nb (by decide) (by decide) (by decide)
  refine ⟨h.jb.kp hk f1, h.eb.kp hk f2, h.nb.kp hk f3, RowAt.kp h.jr hk (h.jr.not_foot hd0), h.rb.kpF hk (fun b o e hb => ?_), ⟨v'', hd, fun g hg => ?_⟩, h.kp.trans hk (fun i hi hs => ?_), Nat.le_trans h.sz hk.size⟩
  · rcases foot_up ho b hb with h1 | h1
    · exact (hA b o e).2 h1
    · have := (hA b o e).1
      omega
  · rcases hv g hg with h1 | h1
    · exact ho g h1
    · exact .inr (Nat.le_trans h.sz h1)
  · rcases foot_up ho i hs with h1 | h1
    · exact h1
    · omega
/-- The next place is written. -/
theorem AddI.next (h : AddI w base p s j v first gen count A n c b nx err d' W) (hA : RecAt w p s v A) (hj : j < w.heap.size) (nx' : Int) : AddI w base p s j v first gen count A n c b nx' err d' (W.setCell ⟨w.heap.size + 2, 0, none⟩ (.int .i64 nx')) := by
  obtain ⟨v', hv', ho⟩ := h.dk
  have hk : Kp (· = w.heap.size + 2) W (W.setCell ⟨w.heap.size + 2, 0, none⟩ (.int .i64 nx')) := (Kp.refl _ W).setCell _ _ (fun _ => rfl)
  have f3 := foot_not hv' h.nb (by decide) (by decide) (by decide)
  refine ⟨h.jb.kp hk (by omega), h.eb.kp hk (by omega), heap_setCell_same W (w.heap.size + 2) 0 _ _ _ h.nb, RowAt.kp h.jr hk (by omega), h.rb.kpF hk (fun b o e hb => by have := (hA b o e).1; omega), ⟨v', hv'.kept hk (fun k hf e => f3 (e ▸ hf)), ho⟩, h.kp.trans hk (fun i hi e => by omega), Nat.le_trans h.sz hk.size⟩
/-- The error is written. -/
theorem AddI.error (h : AddI w base p s j v first gen count A n c b nx err d' W) (hA : RecAt w p s v A) (hj : j < w.heap.size) (err' : Int) : AddI w base p s j v first gen count A n c b nx err' d' (W.setCell ⟨w.heap.size + 1, 0, none⟩ (.int .i64 err')) := by
  obtain ⟨v', hv', ho⟩ := h.dk
  have hk : Kp (· = w.heap.size + 1) W (W.setCell ⟨w.heap.size + 1, 0, none⟩ (.int .i64 err')) := (Kp.refl _ W).setCell _ _ (fun _ => rfl)
  have f3 := foot_not hv' h.eb (by decide) (by decide) (by decide)
  refine ⟨h.jb.kp hk (by omega), heap_setCell_same W (w.heap.size + 1) 0 _ _ _ h.eb, h.nb.kp hk (by omega), RowAt.kp h.jr hk (by omega), h.rb.kpF hk (fun b o e hb => by have := (hA b o e).1; omega), ⟨v', hv'.kept hk (fun k hf e => f3 (e ▸ hf)), ho⟩, h.kp.trans hk (fun i hi e => by omega), Nat.le_trans h.sz hk.size⟩
/-- It speaks of cells alone. -/
theorem addI_own (hA : RecAt w p s v A) (hj : j < w.heap.size) {β : Type} (f : β → Int × Int × Dk) : OwnFrom (w.heap.size + 5) (fun x W => AddI w base p s j v first gen count A n c b (f x).1 (f x).2.1 (f x).2.2 W) := by
  rintro x X Y row hs hg hrow
  refine hs.kept hA hj (Kp.of_grown (S := fun k => row = some k) hg (fun k e => e)) (fun k e => (hrow k e).1) (fun v' hv' k hf e => ?_)
  obtain ⟨o, ho, hc⟩ := (hrow k e).2
  rcases hf with rfl | rfl | hf
  · rw [hv'.obj] at ho; cases ho; cases hc
  · rw [hv'.sta] at ho; cases ho; cases hc
  · rcases hv'.pen.2 with ⟨rfl, _⟩ | ⟨g, cap, cur, rfl, _, hgb, _⟩
    · cases hf
    · obtain rfl : g = k := by simpa [Value.ownBlock] using hf
      rw [hgb] at ho; cases ho; cases hc
/-- What the disk did keeps what is no cells. -/
theorem keeps_foot {v' : Value} (hd : DiskAt W base p s v' d') (hk : Kp (foot p s v') W W') : KeepsOthers W W' := by
  refine ⟨hk.size, fun k o ho hc => ?_⟩
  refine (hk.block k (Array.getElem?_eq_some_iff.1 ho).1 (fun hf => ?_)).trans ho
  rcases hf with rfl | rfl | hf
  · rw [hd.obj] at ho; cases ho; cases hc
  · rw [hd.sta] at ho; cases ho; cases hc
  · rcases hd.pen.2 with ⟨rfl, _⟩ | ⟨g, cap, cur, rfl, _, hgb, _⟩
    · cases hf
    · obtain rfl : g = k := by simpa [Value.ownBlock] using hf
      rw [hgb] at ho; cases ho; cases hc
end
theorem flush_len (d : Dk) : d.flush.1.stable.length = d.stable.length := by
  unfold Dk.flush
  split
  · show (applyW d.power.1.stable d.power.1.pend).length = _
    rw [applyW_length, power_stable]
  · show d.power.1.stable.length = _
    rw [power_stable]
theorem flush_pend (d : Dk) : d.flush.1.pend.length ≤ d.pend.length := by
  unfold Dk.flush
  split
  · exact Nat.zero_le _
  · show d.power.1.pend.length ≤ _
    rw [power_pend]
    exact Nat.le_refl _
/-- Flush, with power or without. -/
theorem disk_Flush_any {w : World} {base p s : Nat} {v : Value} {d : Dk} (h : DiskAt w base p s v d) (hpl : d.pend.length ≤ 1000000) :
    Calls Try.prog 28 #[.pointer (some ⟨p, 0, none⟩)] w fun e w' => ∃ v', e = .returned (.int .i64 (if d.flush.2 = true then 0 else 42)) ∧ DiskAt w' base p s v' d.flush.1 ∧ Kp (foot p s v) w w' ∧ ∀ g, v'.ownBlock = some g → v.ownBlock = some g ∨ w.heap.size ≤ g := by
  by_cases hp : d.power.2 = true
  · refine (disk_Flush_yes h hp hpl).mono ?_
    rintro e w' ⟨rfl, hd, hk⟩
    have e1 : d.flush = (d.power.1.flushed, true) := by simp [Dk.flush, hp]
    rw [e1]
    exact ⟨_, rfl, hd, hk, fun g hg => by cases hg⟩
  · have hp' : d.power.2 = false := by simpa using hp
    refine (disk_Flush_dead h hp').mono ?_
    rintro e w' ⟨rfl, hd, hk⟩
    have e1 : d.flush = (d.power.1, false) := by simp [Dk.flush, hp']
    rw [e1]
    exact ⟨v, rfl, hd, hk.imp (fun i _ hi => .inl hi), fun g hg => .inl hg⟩
/-- A region that draws its order, whatever a panic would leave. -/
theorem wp_region_only {P : Program} {ops : Array Oper} {Q : Exit → Act → World → Prop} {S : World → Prop} {id : Nat} {a : Act} {w : World} (hm : P.follows .mixedOrders = true) (hS0 : S w.drew)
    (h : S w.drew → wpAnyH P .any ops (OnlyN Q) S ops.size (Array.replicate ops.size false) a w.drew) : (Code.region id ops true).wp P Q a w :=
  wpIn_wide.1 (wpIn_mono (n := 1) (Q := OnlyN Q) (wpIn_wide.2 (wp_region_held_drew (S := S) hm hS0 h)) fun e a w h => by
    cases e <;> first | exact h | exact h.elim)
/-- copy, inside a fence. -/
theorem wpListIn_copy {F : Fence} {m : Nat} {P : Program} {ops : Array Oper} {rest : List Oper} {o : Oper} {a : Act} {w : World} {Q : Exit → Act → World → Prop} (hgd : o.guard = none) (d s : Operand) (dT sT : TypeId)
    (ho : o.op = .call { callee := .builtin .copy, args := #[d, s], argTypes := #[dT, sT] }) (elem : TypeId) (hu : P.underlying dT = some (.slice elem)) (hsz : (P.info? elem).map (·.size) = some 1)
    (b off dLen dCap : Nat) (ad : Addr) (sLen sCap : Nat) (hd : a.eval d = .slice (some ⟨b, off, none⟩) dLen dCap) (hs : a.eval s = .slice (some ad) sLen sCap)
    (cs : List Value) (hn : cs.length = Nat.min sLen dLen) (hsrc : ∀ j v, cs[j]? = some v → w.cell? (ad.add j) = some v) (ht : w.there b off cs.length) (h1 : ∀ v ∈ cs, v.oneCell' = true)
    (h : wpListIn F m P ops Q rest (a.put o.dst (goInt cs.length)) (w.setCells b off cs)) : wpListIn F m P ops Q (o :: rest) a w := by
  refine wpListIn_plain hgd fun K hK' => ?_
  have hrun := run_copy_cells (P := P) w dT sT o.type elem b off dLen dCap ad sLen sCap cs hu hsz hn hsrc (fun j hj => (ht j hj).1) (fun j hj => (ht j hj).2) h1
  unfold Oper.wpIn
  refine ⟨?_, ?_⟩
  · simp [Oper.about, ho, resolve, Target.leads, Sem.run_pure]
  · rw [Oper.semAt_plain F _ _ (by rw [ho]; intro c hc'; cases hc')]
    simp [execOp, ho, resolve, invoke, builtin, hd, hs, hrun, Result.andThen]
    exact hK' _ _ h
end Go.Proofs.Ytgakajofggmbjaa

/- What crc.Add and the document's sum compute: crcAdd. -/
namespace Go.Proofs.Ytgakajofggmbjaa
open Go.RowKit

theorem ret_u32 {a b : Int} (h : a = b) : Ending.returned (.int .u32 a) = .returned (.int .u32 b) := by rw [h]

set_option maxHeartbeats 400000 in
theorem crc_Add (s : BitVec 32) (A : Option Addr) (n c : Nat) (xs : List UInt8) (w : World) (hx : RB w A n c xs) :
    Calls Try.prog 50 #[.int .u32 (s.toNat : Int), .slice A n c] w fun e w' => e = .returned (.int .u32 ((crcAdd s xs).toNat : Int)) ∧ w = w' := by
  obtain ⟨hl, hnc, hc, hA⟩ := hx
  have HL := Lib.hid hl; clear hl
  have hs := s.isLt
  go_enter Try.func50, Try.ntmps50
  go_wp2
  go_loop [0, 11] (fun t i => ∃ k : Nat, k ≤ n ∧ i = .int .i64 k ∧ t = .int .u32 ((crcFold (~~~ s) (xs.take k)).toNat : Int)) (fun _ i => n - (intOf i).toNat)
  case atStart => exact ⟨0, by omega, rfl, by rw [not_int]; rfl⟩
  case round =>
    obtain ⟨k, hk, rfl, rfl⟩ := hrel
    by_cases hlt : k < n
    · obtain ⟨b, o, rfl, hX⟩ := hA (by omega)
      have hcell := hX k hlt
      have HF := Lib.hid (crcFold_take (~~~ s) xs k (by rw [HL.out]; exact hlt))
      clear hX hA
      go_wp2
      go_loop [0, 19] (fun t i => ∃ j : Nat, j ≤ 8 ∧ i = .int .i64 j ∧ t = .int .u32 ((iter crcStep j (crcFold (~~~ s) (xs.take k) ^^^ (at8 xs k).toBitVec.setWidth 32)).toNat : Int)) (fun _ i => 8 - (intOf i).toNat)
      case atStart => exact ⟨0, by omega, rfl, by rw [crcByte_int]; rfl⟩
      case round =>
        obtain ⟨j, hj, rfl, rfl⟩ := hrel
        by_cases hlt8 : j < 8
        · go_wp2
          go_round
          case rel => exact ⟨j + 1, by omega, by go_num, by rw [crcStep_int]; rfl⟩
          case measure => simp [intOf]; omega
        · obtain rfl : j = 8 := by omega
          go_wp2
          go_round
          case rel => exact ⟨k + 1, by omega, by go_num, by rw [HF.out]⟩
          case measure => simp [intOf]; omega
    · obtain rfl : k = n := by omega
      go_wp2
      go_ret
      exact ⟨ret_u32 (by rw [not_int, List.take_of_length_le (by rw [HL.out]; omega)]; rfl), rfl⟩

set_option maxHeartbeats 400000 in
theorem ref03_Sum (s : BitVec 32) (A : Option Addr) (n c : Nat) (xs : List UInt8) (w : World) (hx : RB w A n c xs) :
    Calls Try.prog 36 #[.int .u32 (s.toNat : Int), .slice A n c] w fun e w' => e = .returned (.int .u32 ((crcAdd s xs).toNat : Int)) ∧ w = w' := by
  obtain ⟨hl, hnc, hc, hA⟩ := hx
  have HL := Lib.hid hl; clear hl
  have hs := s.isLt
  go_enter Try.func36, Try.ntmps36
  go_wp2
  go_loop [5, 6] (fun t i => ∃ k : Nat, k ≤ n ∧ i = .int .i64 k ∧ t = .int .u32 ((crcFold (~~~ s) (xs.take k)).toNat : Int)) (fun _ i => n - (intOf i).toNat)
  case atStart => exact ⟨0, by omega, rfl, by rw [not_sub]; rfl⟩
  case round =>
    obtain ⟨k, hk, rfl, rfl⟩ := hrel
    by_cases hlt : k < n
    · obtain ⟨b, o, rfl, hX⟩ := hA (by omega)
      have hcell := hX k hlt
      have HF := Lib.hid (crcFold_take (~~~ s) xs k (by rw [HL.out]; exact hlt))
      clear hX hA
      go_wp2
      go_loop [5, 7] (fun t i => ∃ j : Nat, j ≤ 8 ∧ i = .int .i64 j ∧ t = .int .u32 ((iter crcStep j (crcFold (~~~ s) (xs.take k) ^^^ (at8 xs k).toBitVec.setWidth 32)).toNat : Int)) (fun _ i => 8 - (intOf i).toNat)
      case atStart => exact ⟨0, by omega, rfl, by rw [crcByte_int]; rfl⟩
      case round =>
        obtain ⟨j, hj, rfl, rfl⟩ := hrel
        by_cases hlt8 : j < 8
        · by_cases hodd : ((iter crcStep j (crcFold (~~~ s) (xs.take k) ^^^ (at8 xs k).toBitVec.setWidth 32)).toNat : Int) % 2 = 1
          · have HO := Lib.hid hodd
            have hb : (((iter crcStep j (crcFold (~~~ s) (xs.take k) ^^^ (at8 xs k).toBitVec.setWidth 32)).toNat : Int) % 2 == 1) = true := beq_iff_eq.2 hodd
            clear hodd
            go_wp2
            go_round
            case rel => exact ⟨j + 1, by omega, by go_num, by rw [crcStep_odd _ HO.out]; rfl⟩
            case measure => simp [intOf]; omega
          · have HO := Lib.hid hodd
            have hb : (((iter crcStep j (crcFold (~~~ s) (xs.take k) ^^^ (at8 xs k).toBitVec.setWidth 32)).toNat : Int) % 2 == 1) = false := beq_eq_false_iff_ne.2 hodd
            clear hodd
            go_wp2
            go_round
            case rel => exact ⟨j + 1, by omega, by go_num, by rw [crcStep_even _ HO.out]; rfl⟩
            case measure => simp [intOf]; omega
        · obtain rfl : j = 8 := by omega
          go_wp2
          go_round
          case rel => exact ⟨k + 1, by omega, by go_num, by rw [HF.out]⟩
          case measure => simp [intOf]; omega
    · obtain rfl : k = n := by omega
      go_wp2
      go_ret
      exact ⟨ret_u32 (by rw [not_sub, List.take_of_length_le (by rw [HL.out]; omega)]; rfl), rfl⟩

set_option maxHeartbeats 400000 in
theorem crc_Sum (A : Option Addr) (n c : Nat) (xss : List (List UInt8)) (w : World) (hx : RRB w A n c xss) :
    Calls Try.prog 30 #[.slice A n c] w fun e w' => e = .returned (.int .u32 ((crcSums xss).toNat : Int)) ∧ w = w' := by
  obtain ⟨hl, hnc, hc, hA⟩ := hx
  have HL := Lib.hid hl; clear hl
  go_enter Try.func30, Try.ntmps30
  go_wp2
  go_loop [3, 8] (fun t i => ∃ k : Nat, k ≤ n ∧ i = .int .i64 k ∧ t = .int .u32 ((crcSums (xss.take k)).toNat : Int)) (fun _ i => n - (intOf i).toNat)
  case atStart => exact ⟨0, by omega, rfl, rfl⟩
  case round =>
    obtain ⟨k, hk, rfl, rfl⟩ := hrel
    by_cases hlt : k < n
    · obtain ⟨b, o, rfl, hX⟩ := hA (by omega)
      obtain ⟨A', n', c', hcell, hrb⟩ := hX k hlt
      have HF := Lib.hid (crcSums_take xss k (by rw [HL.out]; exact hlt))
      have HR := Lib.hid hrb
      clear hX hA hrb
      go_wp2_with (go_at_call 50; refine (crc_Add _ _ _ _ _ _ HR.out).mono ?_; rintro e w' ⟨rfl, rfl⟩)
      go_round
      case rel => exact ⟨k + 1, by omega, by go_num, by rw [HF.out]⟩
      case measure => simp [intOf]; omega
    · obtain rfl : k = n := by omega
      go_wp2
      go_ret
      exact ⟨ret_u32 (by rw [List.take_of_length_le (by rw [HL.out]; omega)]), rfl⟩

end Go.Proofs.Ytgakajofggmbjaa

/- The codec's reader: take and num; the reference's number. -/
namespace Go.Proofs.Ytgakajofggmbjaa
open Go.RowKit

/-- What is left of a slice value behind k. -/
def restV (A : Option Addr) (n c k : Nat) : Value := .slice (cutA A c k) (n - k) (c - k)
set_option maxRecDepth 20000 in
set_option maxHeartbeats 1600000 in
theorem take_fit (g : Nat) (A : Option Addr) (n c k : Nat) (w : World) (hc : w.cell? ⟨g, 0, none⟩ = some (.slice A n c)) (hf : w.frozen? ⟨g, 0, none⟩ = false) (hk : k ≤ n) (hnc : n ≤ c) (_hcm : c ≤ 9223372036854775807) :
    Calls Try.prog 65 #[.pointer (some ⟨g, 0, none⟩), .int .i64 k] w fun e w' => e = .returned (.slice A k c) ∧ w' = w.setCell ⟨g, 0, none⟩ (restV A n c k) := by
  have hd : decide (n < k) = false := decide_eq_false (by omega)
  have hk0 : (0 : Int) ≤ (k : Int) := Int.natCast_nonneg _
  have hk1 : (k : Int) ≤ (c : Int) := by omega
  have hk2 : (k : Int) ≤ (n : Int) := by omega
  go_enter Try.func65, Try.ntmps65
  go_wp2_with fail
  refine (fail_no _).mono ?_
  rintro e w' ⟨rfl, rfl⟩
  go_wp2_with fail
  all_goals
    go_ret
    refine ⟨rfl, ?_⟩
    simp [restV, cutA, *]
theorem take_unfit (g : Nat) (A : Option Addr) (n c k : Nat) (w : World) (hc : w.cell? ⟨g, 0, none⟩ = some (.slice A n c)) (hk : n < k) :
    Calls Try.prog 65 #[.pointer (some ⟨g, 0, none⟩), .int .i64 k] w fun e w' => e = .panicked gaveUp ∧ w = w' := by
  have hd : decide (n < k) = true := decide_eq_true (by omega)
  go_enter Try.func65, Try.ntmps65
  go_wp2_with fail
  refine (fail_yes _).mono ?_
  rintro e w' ⟨rfl, rfl⟩
  exact ⟨rfl, rfl, rfl⟩

set_option maxRecDepth 20000 in
set_option maxHeartbeats 1600000 in
theorem num_unfit (g : Nat) (A : Option Addr) (n c k : Nat) (w : World) (hc : w.cell? ⟨g, 0, none⟩ = some (.slice A n c)) (hk : n < k) :
    Calls Try.prog 64 #[.pointer (some ⟨g, 0, none⟩), .int .i64 k] w fun e w' => e = .panicked gaveUp ∧ w = w' := by
  go_enter Try.func64, Try.ntmps64
  go_wp2_with fail
  refine (take_unfit g A n c k w hc hk).mono ?_
  rintro e w' ⟨rfl, rfl⟩
  exact ⟨rfl, rfl, rfl⟩
set_option maxRecDepth 20000 in
theorem or_byte (m : Nat) (x : UInt8) (h : m * 256 + x.toNat < 18446744073709551616) : bits .or .u64 ((m : Int) * 256) (x.toNat : Int) = ((m * 256 + x.toNat : Nat) : Int) := by
  have hx := x.toNat_lt
  have h2 := Nat.two_pow_add_eq_or_of_lt (i := 8) (b := x.toNat) hx m
  rw [show (2 : Nat) ^ 8 = 256 from rfl, Nat.mul_comm 256 m] at h2
  have h3 := bits_or_u64_nat (m * 256) x.toNat (by omega) (by omega)
  rw [Int.natCast_mul] at h3
  rw [h2]
  exact h3
set_option maxRecDepth 20000 in
set_option maxHeartbeats 1600000 in
theorem num_fit (g : Nat) (A : Option Addr) (n c k : Nat) (xs : List UInt8) (w : World) (hc : w.cell? ⟨g, 0, none⟩ = some (.slice A n c)) (hf : w.frozen? ⟨g, 0, none⟩ = false) (hk : k ≤ n) (hk8 : k ≤ 8)
    (hr : RB (w.setCell ⟨g, 0, none⟩ (restV A n c k)) A n c xs) :
    Calls Try.prog 64 #[.pointer (some ⟨g, 0, none⟩), .int .i64 k] w fun e w' => e = .returned (.int .u64 (numOf (xs.take k))) ∧ w' = w.setCell ⟨g, 0, none⟩ (restV A n c k) := by
  have hnc := hr.2.1
  have hcm := hr.2.2.1
  have HR := Lib.hid hr
  clear hr
  go_enter Try.func64, Try.ntmps64
  go_wp2_with fail
  refine (take_fit g A n c k w hc hf hk hnc hcm).mono ?_
  rintro e w' ⟨rfl, rfl⟩
  generalize hw1 : w.setCell ⟨g, 0, none⟩ (restV A n c k) = w1 at *
  have HW1 := Lib.hid hw1
  clear hc hf hw1
  go_wp2_with fail
  go_loopw [5, 12] (fun u i wr => ∃ j, j ≤ k ∧ i = .int .i64 (j : Nat) ∧ u = .int .u64 (numOf (xs.take j)) ∧ wr = w1) (fun _ i _ => k - (intOf i).toNat)
  case atStart => exact ⟨0, by omega, rfl, rfl, rfl⟩
  case round =>
    obtain ⟨j, hj, rfl, rfl, rfl⟩ := hrel
    by_cases hlt : j < k
    · have hj0 : (0 : Int) ≤ (j : Int) := Int.natCast_nonneg _
      have hj1 : (j : Int) < (k : Int) := by omega
      obtain ⟨b, o, rfl, hcells⟩ := HR.out.2.2.2 (by omega)
      have hcell := hcells j (by omega)
      have hnt := numOf_take xs j (by rw [HR.out.1]; omega)
      have hsm := numOf_small xs (j + 1) (by omega)
      rw [hnt] at hsm
      have hx := (at8 xs j).toNat_lt
      have HT := Lib.hid hnt
      clear hcells hnt
      generalize numOf (xs.take j) = m at *
      generalize at8 xs j = x at *
      go_wp2_with fail
      go_roundw
      case rel => exact ⟨j + 1, by omega, by go_num, by rw [HT.out, or_byte m x (by omega)], trivial⟩
      case measure => simp [intOf]; omega
    · obtain rfl : j = k := by omega
      go_wp2_with fail
      go_ret
      exact ⟨rfl, HW1.out.symm⟩
end Go.Proofs.Ytgakajofggmbjaa
