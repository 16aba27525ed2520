/- The walk of DiskReads: what was written last is read. -/
import Derived.Test.YtoghmakbdhepfaaDiskW8
import Derived.Test.YtoghmakbdhepfaaBox
namespace Go.Proofs.Ytoghmakbdhepfaa
open Go.RowKit
attribute [local go_sem ↓] build37 loadAt37

/-- A live disk: it has no fuel to run out of. -/
def Dk.live (d : Dk) : Prop := d.fuel = -1 ∧ d.dead = false
theorem Dk.live.power {d : Dk} (h : d.live) : d.power = (d, true) := power_live d h.2 (by rw [h.1]; decide)

theorem applyW_append (st : List (List UInt8)) (l l' : List (Nat × List UInt8)) : applyW st (l ++ l') = applyW (applyW st l) l' := List.foldl_append
theorem secAt_applyW : ∀ (l : List (Nat × List UInt8)) (st : List (List UInt8)) (k : Nat), (∀ x ∈ l, x.1 < st.length) → secAt (applyW st l) k = lastW l k (secAt st k)
  | [], _, _, _ => rfl
  | x :: l, st, k, h => by
    have hx := h x List.mem_cons_self
    show secAt (applyW (st.set x.1 x.2) l) k = lastW l k (if x.1 = k then x.2 else secAt st k)
    rw [secAt_applyW l _ k (fun y hy => by rw [List.length_set]; exact h y (List.mem_cons_of_mem _ hy))]
    congr 1
    by_cases e : x.1 = k
    · subst e
      rw [if_pos rfl, secAt, List.getD_eq_getElem?_getD, List.getElem?_set_self hx]
      rfl
    · rw [if_neg e, secAt, List.getD_eq_getElem?_getD, List.getElem?_set_ne e, secAt, List.getD_eq_getElem?_getD]
theorem read_flushed (d : Dk) (k : Nat) (h : ∀ x ∈ d.pend, x.1 < d.stable.length) : d.flushed.read k = d.read k := by
  show lastW [] k (secAt (applyW d.stable d.pend) k) = lastW d.pend k (secAt d.stable k)
  rw [secAt_applyW _ _ _ h]
  rfl
theorem read_push (d : Dk) (k i : Nat) (l : List UInt8) : ({ d with pend := d.pend ++ [(i, l)] } : Dk).read k = if i = k then l else d.read k := by
  show lastW (d.pend ++ [(i, l)]) k (secAt d.stable k) = _
  rw [lastW_append]
  rfl

/-- What holds in every round: B is the first block of the law's own, w1 the world then; bw the box of what is wanted; k acts are done. -/
structure RI (w1 wr : World) (p s bw at_ k : Nat) (v : Value) (d : Dk) : Prop where
  disk : DiskAt wr w1.heap.size p s v d
  live : d.live
  len : d.stable.length = 8
  pn : d.pend.length ≤ k
  box : Box wr bw 28 (bv (d.read at_))
  out : ¬ foot p s v bw
  bw : w1.heap.size ≤ bw
  bel : Below w1.heap.size w1 wr
def ReadsInv (w1 wr : World) (p s bw at_ k : Nat) : Prop := ∃ v d, RI w1 wr p s bw at_ k v d

theorem read_len {w : World} {base p s : Nat} {v : Value} {d : Dk} (h : DiskAt w base p s v d) (k : Nat) (hk : k < d.stable.length) : (d.read k).length = 128 :=
  lastW_len _ _ _ (h.swid k hk) (fun x hx => (h.pin x hx).2)

section
variable {w1 wr w' : World} {p s bw at_ k : Nat} {v v' : Value} {d : Dk}
/-- What leaves all old blocks alone. -/
theorem RI.old (h : RI w1 wr p s bw at_ k v d) (hb : Below wr.heap.size wr w') : RI w1 w' p s bw at_ k v d :=
  ⟨h.disk.below hb, h.live, h.len, h.pn, h.box.below hb, h.out, h.bw, h.bel.trans (hb.mono h.bel.size)⟩
theorem RI.next (h : RI w1 wr p s bw at_ k v d) : RI w1 wr p s bw at_ (k + 1) v d := ⟨h.disk, h.live, h.len, Nat.le_succ_of_le h.pn, h.box, h.out, h.bw, h.bel⟩
theorem RI.wrote (h : RI w1 wr p s bw at_ k v d) (hat : at_ < 8) (i : Nat) (x : List UInt8) (hd : DiskAt w' w1.heap.size p s v' { d with pend := d.pend ++ [(i, x)] }) (hk : Kp (foot p s v) wr w')
    (hv : v'.ownBlock = v.ownBlock ∨ ∃ g, v'.ownBlock = some g ∧ wr.heap.size ≤ g) :
    (i ≠ at_ → ReadsInv w1 w' p s bw at_ (k + 1)) ∧ (i = at_ → x.length = 128 → ReadsInv w1 (w'.setCells bw 0 (bv x)) p s bw at_ (k + 1)) ∧ Box w' bw 28 (bv (d.read at_)) := by
  have hbx := h.box.kp hk h.out
  have hlt := h.box.lt
  have hout : ¬ foot p s v' bw := by
    intro hf
    rcases hf with e | e | e
    · exact h.out (.inl e)
    · exact h.out (.inr (.inl e))
    · rcases hv with hv | ⟨g, hg, hlg⟩
      · exact h.out (.inr (.inr (hv ▸ e)))
      · rw [hg] at e
        injection e with e
        omega
  have hbel : Below w1.heap.size w1 w' := h.bel.trans (hk.below h.bel.size fun i hi => h.disk.foot_base i hi)
  have hpn : (d.pend ++ [(i, x)]).length ≤ k + 1 := by
    have := h.pn
    simp
    omega
  refine ⟨fun hne => ⟨v', _, hd, h.live, h.len, hpn, ?_, hout, h.bw, hbel⟩, fun he hx => ⟨v', _, hd.kept (S := fun k => k = bw) (kp_setCells bw _ _ _ (Kp.refl _ _) (fun _ => rfl)) (fun k hf e => hout (e ▸ hf)), h.live, h.len, hpn, ?_, hout, h.bw, ?_⟩, hbx⟩
  · rw [read_push, if_neg hne]
    exact hbx
  · rw [read_push, if_pos he]
    exact hbx.set (by rw [bv_length, bv_length, hx, read_len h.disk at_ (by rw [h.len]; exact hat)])
  · exact hbel.trans ((kp_setCells (S := fun k => k = bw) bw (bv x) 0 w' (Kp.refl _ _) (fun _ => rfl)).below hbel.size (fun i hi => by have := h.bw; omega))
theorem RI.flushed (h : RI w1 wr p s bw at_ k v d) (hd : DiskAt w' w1.heap.size p s (.slice none 0 0) d.flushed) (hk : Kp (foot p s v) wr w') : ReadsInv w1 w' p s bw at_ (k + 1) := by
  refine ⟨_, _, hd, h.live, ?_, Nat.zero_le _, ?_, ?_, h.bw, h.bel.trans (hk.below h.bel.size fun i hi => h.disk.foot_base i hi)⟩
  · show (applyW d.stable d.pend).length = 8
    rw [applyW_length]
    exact h.len
  · rw [read_flushed d at_ (fun x hx => (h.disk.pin x hx).1)]
    exact h.box.kp hk h.out
  · intro hf
    rcases hf with e | e | e
    · exact h.out (.inl e)
    · exact h.out (.inr (.inl e))
    · simp [Value.ownBlock] at e
end
/-- An act's data within its box. -/
theorem Box.actData {w : World} {b : Nat} {t : TypeId} {y : ActD} (h : Box w b t (actCells y)) : w.rangeAt b 3 (bv y.data) := fun j u hj => h.cell (3 + j) u (by
  rw [Nat.add_comm]
  show (bv y.data ++ [.slice y.ka y.kn y.kc])[j]? = some u
  rw [List.getElem?_append_left (List.getElem?_eq_some_iff.1 hj).1]
  exact hj)

set_option maxRecDepth 20000 in
set_option maxHeartbeats 6400000 in
theorem diskReads_main (A : Option Addr) (n c : Nat) (l : List ActD) (at_ : Nat) (w : World) (hl : RActs w A n c l) (hn : n ≤ 200) (ha : at_ ≤ 7) :
    Calls Try.prog 4 #[.slice A n c, .int .i64 at_] w fun e w' => e = .returned (.bool true) ∧ Below w.heap.size w w' := by
  have b0 := run_bldSec0
  have HL := Lib.hid hl
  clear hl
  have ha0 : (0 : Int) ≤ (at_ : Int) := Int.natCast_nonneg _
  have ha1 : ¬ ((at_ : Int) < 0) := by omega
  have ha2 : ¬ ((7 : Int) < (at_ : Int)) := by omega
  go_enter Try.func4, Try.ntmps4
  go_wp2_with fail
  refine (diskAlive_true _).mono ?_
  rintro e w1 ⟨rfl, hb1⟩
  have HL1 := Lib.hid (HL.out.below hb1)
  have HB1 := Lib.hid hb1
  clear hb1 HL
  go_wp2_with fail
  refine (disk_New 8 w1).mono ?_
  rintro e w2 ⟨p, s, rfl, hd0, hb0⟩
  have H0 := Lib.hid hd0
  have HB0 := Lib.hid hb0
  clear hd0 hb0
  go_wp2_with (first | (refine st37 rfl _ _ rfl _ _ rfl rfl zsec rfl zsec_length rfl ?_))
  have hi0 : ReadsInv w1 (w2.alloc (.cells (bv zsec).toArray 28)) p s w2.heap.size at_ 0 := by
    have hd := H0.out
    have hsz := HB0.out.size
    have hrd : (newDk 8).read at_ = zsec := by
      show secAt (List.replicate 8 zsec) at_ = zsec
      unfold secAt
      rw [List.getD_eq_getElem?_getD]
      by_cases h : at_ < 8
      · rw [List.getElem?_replicate, if_pos h]; rfl
      · omega
    refine ⟨_, _, hd.below (below_alloc w2 _), ⟨rfl, rfl⟩, rfl, Nat.le_refl _, ?_, fun hf => absurd (hd.foot_lt _ hf) (by omega), hsz, balloc HB0.out _⟩
    rw [hrd]
    exact Box.new w2 _ _
  have HI0 := Lib.hid hi0
  clear hi0 H0 HB0
  go_loopw [34] (fun i wr => ∃ k : Nat, k ≤ n ∧ i = .int .i64 k ∧ Hid (ReadsInv w1 wr p s w2.heap.size at_ k)) (fun i _ => n - (intOf i).toNat)
  case atStart => exact ⟨0, by omega, rfl, HI0⟩
  case round =>
    obtain ⟨k, hk, rfl, HR⟩ := hrel
    obtain ⟨v, d, hri⟩ := HR.out
    by_cases hlt : k < n
    · have hk0 : (0 : Int) ≤ (k : Int) := Int.natCast_nonneg _
      have hk1 : (k : Int) < (n : Int) := by omega
      obtain ⟨b, o, rfl, hacts⟩ := (HL1.out.below hri.bel).2.2.2 (by omega)
      obtain ⟨hrg, hok⟩ := hacts k hlt
      generalize actAt l k = y at *
      obtain ⟨kind, aat, cut, data, ka, kn, kc, keep⟩ := y
      have HRG := Lib.hid hrg
      have hdl : data.length = 128 := hok.data
      have HDL := Lib.hid hdl
      have HOK := Lib.hid hok
      have hri1 := hri.old (below_alloc wr (.cells (actCells ⟨kind, aat, cut, data, ka, kn, kc, keep⟩).toArray 31))
      have hnb := Box.new wr (actCells ⟨kind, aat, cut, data, ka, kn, kc, keep⟩) 31
      have hnf : ¬ foot p s v wr.heap.size := fun hf => absurd (hri.disk.foot_lt _ hf) (by omega)
      have hnw : w2.heap.size ≠ wr.heap.size := by have := hri.box.lt; omega
      generalize hW : wr.alloc (.cells (actCells ⟨kind, aat, cut, data, ka, kn, kc, keep⟩).toArray 31) = W at hri1 hnb
      have HW := Lib.hid hW; have HNB := Lib.hid hnb; have HNF := Lib.hid hnf; have HRI := Lib.hid hri1; have HNW := Lib.hid hnw
      have n0 := hnb.cell 0 _ rfl
      have n1 := hnb.cell 1 _ rfl
      have hld := run_ldSec hnb.actData hdl
      clear hrg hok hacts hdl hri hri1 hW hnb hnf hnw
      by_cases hk1' : kind = 1
      · subst hk1'
        by_cases hin : 0 ≤ aat ∧ aat < 8
        · obtain ⟨i, rfl⟩ := Int.eq_ofNat_of_zero_le hin.1
          have hi8 : i < 8 := by omega
          have hwr := disk_Write_yes HRI.out.disk HRI.out.bel.size i (by rw [HRI.out.len]; exact hi8) data HDL.out (by rw [HRI.out.live.power]) (by have := HRI.out.pn; omega)
          have HWR := Lib.hid hwr
          clear hwr
          go_wp2_with (first | (refine ld40 rfl _ rfl b (o + k * 132) rfl ⟨_, _, _, _, _, _, _, _⟩ HRG.out HDL.out ?_) | (refine st40 rfl _ _ rfl _ _ rfl rfl ⟨_, _, _, _, _, _, _, _⟩ rfl HDL.out rfl ?_; rw [HW.out]))
          refine HWR.out.mono ?_
          rintro e w3 ⟨v', rfl, hd3, hk3, hv3⟩
          rw [HRI.out.live.power] at hd3
          obtain ⟨r1, r2, r3⟩ := HRI.out.wrote (by omega) i data hd3 hk3 hv3
          have hnb3 := HNB.out.kp hk3 HNF.out
          have n0 := hnb3.cell 0 _ rfl
          have n1 := hnb3.cell 1 _ rfl
          have HLW := Lib.hid hnb3.actData
          have HR1 := Lib.hid r1; have HR2 := Lib.hid r2; have HR3 := Lib.hid r3
          have HLR := Lib.hid (read_len HRI.out.disk at_ (by rw [HRI.out.len]; omega))
          clear hd3 hk3 hv3 r1 r2 r3 hld
          by_cases he : i = at_
          · have hq : ((i : Int) == (at_ : Int)) = true := by rw [beq_iff_eq]; omega
            have hnb4 : Box (w3.setCells w2.heap.size 0 (bv data)) wr.heap.size _ _ := hnb3.kp (S := fun k => k = w2.heap.size) (kp_setCells _ _ _ _ (Kp.refl _ _) (fun _ => rfl)) (fun hf => HNW.out hf.symm)
            generalize hW4 : w3.setCells w2.heap.size 0 (bv data) = W4 at hnb4
            have HW4 := Lib.hid hW4
            have HF : Hid (ReadsInv w1 W4 p s w2.heap.size at_ (k + 1)) := Lib.hid (hW4 ▸ HR2.out he HDL.out)
            have n04 := hnb4.cell 0 _ rfl
            clear hnb3 hnb4 hW4 he
            go_wp2_with (first | (refine ld37 rfl _ rfl wr.heap.size 3 rfl data HLW.out HDL.out ?_) | (refine st37_over rfl _ _ rfl w2.heap.size rfl data (d.read at_) HR3.out rfl HDL.out HLR.out ?_; rw [HW4.out]))
            go_roundw
            case rel => exact ⟨k + 1, by omega, by go_num, HF⟩
            case measure => simp [intOf]; omega
          · have hq : ((i : Int) == (at_ : Int)) = false := by rw [beq_eq_false_iff_ne]; omega
            have HF := Lib.hid (HR1.out he)
            clear hnb3 he
            go_wp2_with fail
            go_roundw
            case rel => exact ⟨k + 1, by omega, by go_num, HF⟩
            case measure => simp [intOf]; omega
        · have hwr := disk_Write_no HRI.out.disk aat (by rw [HRI.out.len]; omega) data
          have HWR := Lib.hid hwr
          clear hwr
          go_wp2_with (first | (refine ld40 rfl _ rfl b (o + k * 132) rfl ⟨_, _, _, _, _, _, _, _⟩ HRG.out HDL.out ?_) | (refine st40 rfl _ _ rfl _ _ rfl rfl ⟨_, _, _, _, _, _, _, _⟩ rfl HDL.out rfl ?_; rw [HW.out]))
          refine HWR.out.mono ?_
          rintro e w3 ⟨rfl, hb3⟩
          have n0 := (HNB.out.below hb3).cell 0 _ rfl
          have HF : Hid (ReadsInv w1 w3 p s w2.heap.size at_ (k + 1)) := Lib.hid ⟨v, d, (HRI.out.old hb3).next⟩
          clear hb3 hld
          go_wp2_with fail
          go_roundw
          case rel => exact ⟨k + 1, by omega, by go_num, HF⟩
          case measure => simp [intOf]; omega
      · by_cases hk2' : kind = 2
        · subst hk2'
          have hfl := disk_Flush_yes HRI.out.disk (by rw [HRI.out.live.power]) (by have := HRI.out.pn; omega)
          have HFL := Lib.hid hfl
          clear hfl hld hk1'
          go_wp2_with (first | (refine ld40 rfl _ rfl b (o + k * 132) rfl ⟨_, _, _, _, _, _, _, _⟩ HRG.out HDL.out ?_) | (refine st40 rfl _ _ rfl _ _ rfl rfl ⟨_, _, _, _, _, _, _, _⟩ rfl HDL.out rfl ?_; rw [HW.out]))
          refine HFL.out.mono ?_
          rintro e w3 ⟨rfl, hd3, hk3⟩
          rw [HRI.out.live.power] at hd3
          have HF := Lib.hid (HRI.out.flushed hd3 hk3)
          clear hd3 hk3
          go_wp2_with fail
          go_roundw
          case rel => exact ⟨k + 1, by omega, by go_num, HF⟩
          case measure => simp [intOf]; omega
        · have q1 : (kind == 1) = false := by rw [beq_eq_false_iff_ne]; exact hk1'
          have q2 : (kind == 2) = false := by rw [beq_eq_false_iff_ne]; exact hk2'
          have HF : Hid (ReadsInv w1 W p s w2.heap.size at_ (k + 1)) := Lib.hid ⟨v, d, HRI.out.next⟩
          clear hld
          go_wp2_with (first | (refine ld40 rfl _ rfl b (o + k * 132) rfl ⟨_, _, _, _, _, _, _, _⟩ HRG.out HDL.out ?_) | (refine st40 rfl _ _ rfl _ _ rfl rfl ⟨_, _, _, _, _, _, _, _⟩ rfl HDL.out rfl ?_; rw [HW.out]))
          go_roundw
          case rel => exact ⟨k + 1, by omega, by go_num, HF⟩
          case measure => simp [intOf]; omega
    · obtain rfl : k = n := by omega
      have hr := disk_Read_yes hri.disk at_ (by rw [hri.len]; omega) (by have := hri.pn; omega)
      have HRD := Lib.hid hr
      have HBX := Lib.hid hri.box
      have HLN := Lib.hid (read_len hri.disk at_ (by rw [hri.len]; omega))
      have HBB := Lib.hid (bthen HB1.out hri.bel)
      clear hr hri
      go_wp2_with fail
      refine HRD.out.mono ?_
      rintro e w3 ⟨rfl, hb3⟩
      have hbx3 := (HBX.out.below hb3).old (.cells (bv (d.read at_)).toArray 28)
      have HB3 := Lib.hid (balloc hb3 (.cells (bv (d.read at_)).toArray 28))
      have hl1 := run_ldSec (w := w3.alloc (.cells (bv (d.read at_)).toArray 28)) (Box.new w3 (bv (d.read at_)) _).range HLN.out
      have hl2 := run_ldSec (w := w3.alloc (.cells (bv (d.read at_)).toArray 28)) hbx3.range HLN.out
      have q1 := eq37 (w3.alloc (.cells (bv (d.read at_)).toArray 28)) (d.read at_) (d.read at_) HLN.out HLN.out
      clear hb3 hbx3
      go_wp2_with (first | (refine st37 rfl _ _ rfl _ _ rfl rfl (d.read at_) rfl HLN.out rfl ?_))
      go_ret
      exact ⟨rfl, bthen HBB.out HB3.out⟩
end Go.Proofs.Ytoghmakbdhepfaa
