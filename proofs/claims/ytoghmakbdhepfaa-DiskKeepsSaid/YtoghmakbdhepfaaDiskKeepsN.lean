/- The walk of DiskKeeps: the rounds. -/
import Derived.Test.YtoghmakbdhepfaaDiskKeepsM
import Derived.Deep.Cut
import Derived.Deep.QuietTactic
import Derived.BigQuiet
namespace Go.Proofs.Ytoghmakbdhepfaa
open Go.RowKit
attribute [local go_sem ↓] build37 loadAt37

theorem byte_eq (x y : UInt8) : ((x.toNat : Int) == (y.toNat : Int)) = decide (x = y) := by
  by_cases h : x = y
  · subst h; simp
  · rw [decide_eq_false h, beq_eq_false_iff_ne]
    intro e
    exact h (UInt8.toNat_inj.1 (by omega))
theorem int_eq (x y : Int) : (x == y) = decide (x = y) := by
  by_cases h : x = y
  · subst h; simp
  · rw [decide_eq_false h, beq_eq_false_iff_ne]; exact h
theorem below_dNK (w : World) (n : Nat) : Below w.heap.size w (w.drewN n) := ((Kp.refl (fun _ => False) w).drewN n).below (Nat.le_refl _) (fun _ hf => hf.elim)
/-- Eight sectors of zeros (a name that the walk leaves alone). -/
def z8 : List (List UInt8) := List.replicate 8 zsec
def bld8 (parts : Array (Nat × Value)) : Sem Value := Instr.build 39 parts
theorem build8 (parts : Array (Nat × Value)) : Instr.build 39 parts = bld8 parts := rfl
def bldActs (parts : Array (Nat × Value)) : Sem Value := Instr.buildSlice 26 1 parts
theorem buildActs (parts : Array (Nat × Value)) : Instr.buildSlice 26 1 parts = bldActs parts := rfl
theorem zero8 : Try.zeroCells39 = (secs z8).toArray := by
  unfold z8 secs zsec bv
  rw [List.flatten_replicate_replicate, List.map_replicate]
  rfl
set_option maxRecDepth 20000 in
theorem run_bld8 (w : World) : (bld8 #[]).run Try.prog w = .ok (.agg (secs z8).toArray) w := by
  unfold bld8
  simp [go_sem]
  exact zero8
set_option maxRecDepth 20000 in
theorem run_bldActs (w : World) (y : ActD) (hl : y.data.length = 128) : (bldActs #[(0, actV y)]).run Try.prog w = .ok (.slice (some ⟨w.heap.size, 0, none⟩) 1 1) (w.alloc (.cells (actCells y).toArray 31)) := by
  have h := actCells_length y hl
  unfold bldActs actV
  simp [go_sem, h]
  rw [fold_full _ _ (by rw [h]; rfl)]
theorem secs8_length : (secs z8).length = 1024 := by
  rw [secs_length _ (fun x hx => by unfold z8 at hx; rw [List.eq_of_mem_replicate hx]; exact zsec_length)]
  rfl
theorem secs_oneK (l : List (List UInt8)) : ∀ u ∈ secs l, u.oneCell' = true := bv_one _
theorem Try.size8 : (Try.prog.info? 39).map (·.size) = some 1024 := by kernel_rfl
theorem Try.infoAct : (Try.prog.info? 31).map (fun i => (i.zero, i.size, i.bytes)) = some (some (.agg Try.zeroCells31), 132, 176) := by kernel_rfl
def KInv (w1 wr : World) (p s g8 k : Nat) (u : Value) : Prop := ∃ v d l, KI w1 wr p s g8 v u d l ∧ l.length ≤ k
/-- While what was written since is laid down: j of the acts are done. -/
structure KF (w1 wr : World) (p s g8 : Nat) (v9 : Value) (st : List (List UInt8)) (d : Dk) (l : List ActD) (j : Nat) : Prop where
  disk : DiskAt wr w1.heap.size p s (.slice none 0 0) d
  box : RowAt wr g8 39 (secs (applyW st ((pendOf l).take j)))
  own : wr.ownsRow w1.heap.size 31 132 v9 l.length (acells l)
  bl : Below w1.heap.size w1 wr
section
variable {ops : Array Oper} {rest : List Oper} {op : Oper} {a : Act} {w : World} {Q : Exit → Act → World → Prop}
theorem st37_midK (hgd : op.guard = none) (x y : Operand) (ho : op.op = .store 28 x y) (g o : Nat) (hx : a.eval x = .pointer (some ⟨g, o, none⟩)) (l : List UInt8) (hy : a.eval y = secV l) (hl : l.length = 128) (ht : w.there g o 128)
    (h : wpList Try.prog ops Q rest (a.put op.dst undef) (w.setCells g o (bv l))) : wpList Try.prog ops Q (op :: rest) a w := by
  refine wpList_store_mid hgd _ x y ho _ o (bv l).toArray hx hy ?_ (Try.size37.trans (by simp [bv_length, hl])) (all_oneCell_toArray (bv_one l)) (by simpa using h)
  simpa [bv_length, hl] using ht
end
theorem rd_act (w : World) (y : ActD) (hl : y.data.length = 128) : Rd (w.alloc (.cells (actCells y).toArray 31)) (some ⟨w.heap.size, 0, none⟩) 1 132 (actCells y) :=
  ⟨by rw [actCells_length y hl], fun _ => ⟨_, 0, rfl, fun j u hj => range_alloc w (actCells y) _ _ j u hj⟩⟩
section
attribute [local go_sem ↓] build8 buildActs
set_option maxRecDepth 20000 in
set_option maxHeartbeats 12800000 in
theorem diskKeeps_main (A0 : Option Addr) (n c0 : Nat) (l : List ActD) (K : Option Addr) (nk ck : Nat) (keep : List Bool) (t0 t1 : Int) (w : World) (hl : RActs w A0 n c0 l) (hn : n ≤ 200) (hk : RBl w K nk ck keep) (hnk : nk ≤ 140737488351232) :
    Calls Try.prog 5 #[.slice A0 n c0, .slice K nk ck, .agg #[.int .i64 t0, .int .i64 t1]] w fun e w' => e = .returned (.bool true) ∧ Below w.heap.size w w' := by
  have b8 := run_bld8
  have HL := Lib.hid hl; have HK := Lib.hid hk; have HNK := Lib.hid hnk
  have HT := Lib.hid (RowAt.new w 38 [.int .i64 t0, .int .i64 t1])
  have HB0 := Lib.hid (below_alloc w (.cells ([.int .i64 t0, .int .i64 t1] : List Value).toArray 38))
  clear hl hk hnk
  go_enter Try.func5, Try.ntmps5
  go_wp2_with fail
  refine (diskAlive_true _).mono ?_
  rintro e w1 ⟨rfl, hb1⟩
  have HB1 := Lib.hid (bthen HB0.out hb1)
  have HL1 := Lib.hid (HL.out.below HB1.out); have HK1 := Lib.hid (HK.out.below HB1.out); have HT1 := Lib.hid (HT.out.below hb1)
  clear hb1 HL HK HT HB0
  go_wp2_with fail
  refine (disk_New 8 w1).mono ?_
  rintro e w2 ⟨p, s, rfl, hd0, hb0⟩
  have hs8 : (newDk 8).stable = z8 := rfl
  have hown : ((w2.alloc (.cells (secs z8).toArray 39)).alloc (.cells #[] 31)).ownsRow w1.heap.size 31 132 (.slice (some ⟨w2.heap.size + 1, 0, none⟩) 0 0) 0 [] := by
    have := own_empty (w2.alloc (.cells (secs z8).toArray 39)) w1.heap.size 31 132 (by have := hb0.size; simp; omega)
    rwa [World.size_alloc] at this
  have HKI : Hid (KInv w1 ((w2.alloc (.cells (secs z8).toArray 39)).alloc (.cells #[] 31)) p s w2.heap.size 0 (.slice (some ⟨w2.heap.size + 1, 0, none⟩) 0 0)) := Lib.hid ⟨_, newDk 8, [],
    ⟨(hd0.below (below_alloc _ _)).below (below_alloc _ _), rfl, (RowAt.new w2 _ _).below (below_alloc _ _), hown, rfl, fun a ha => by simp at ha, balloc (balloc hb0 _) _⟩, Nat.le_refl _⟩
  have HG8 : Hid (w1.heap.size ≤ w2.heap.size) := Lib.hid hb0.size
  clear hd0 hb0 hs8 hown
  go_wp2_with (refine stN 39 (secs z8) rfl _ _ rfl _ _ rfl rfl rfl (secs_oneK _) (by rw [secs8_length]; exact Try.size8) (by rw [secs8_length]; rfl) ?_)
  generalize hw3 : (w2.alloc (.cells (secs z8).toArray 39)).alloc (.cells #[] 31) = w3 at *
  clear hw3
  generalize hg8 : w2.heap.size = g8 at *
  clear hg8
  go_loopw [9, 36] (fun u i wr => ∃ k : Nat, k ≤ n ∧ i = .int .i64 k ∧ Hid (KInv w1 wr p s g8 k u)) (fun _ i _ => n - (intOf i).toNat)
  case atStart => exact ⟨0, by omega, rfl, HKI⟩
  case round =>
    clear HKI
    obtain ⟨k, hk, rfl, HR⟩ := hrel
    by_cases hlt : k < n
    · have hk0 : (0 : Int) ≤ (k : Int) := Int.natCast_nonneg _
      have hk1 : (k : Int) < (n : Int) := by omega
      obtain ⟨v, d, l9, hki, hl9⟩ := HR.out
      obtain ⟨b, o, rfl, hacts⟩ := (HL1.out.below hki.bl).2.2.2 (by omega)
      obtain ⟨hrg, hok⟩ := hacts k hlt
      generalize actAt l k = y at *
      have HRG := Lib.hid hrg; have HDL := Lib.hid hok.data
      have hat := hok.at_
      have hki0 := hki.below (below_alloc wr (.cells (actCells y).toArray 31))
      have hbx := Box.new wr (actCells y) 31
      have hld := run_ldSec (act_data hbx) hok.data
      have hu9 : ∀ q, u9.ownBlock = some q → q < wr.heap.size := fun q hq => (hki.own.lt q hq).2
      have HU9 := Lib.hid hu9
      have hnf : ¬ foot p s v wr.heap.size := fun hf => by have := hki.disk.foot_lt _ hf; omega
      have hpl : d.pend.length ≤ 1000 := by rw [hki.pe]; simp [pendOf]; omega
      have n0 := hbx.cell 0 _ rfl
      have n1 := hbx.cell 1 _ rfl
      have HKI0 := Lib.hid hki0; have HBX := Lib.hid hbx; have HNF := Lib.hid hnf; have HPL := Lib.hid hpl; have HL9 := Lib.hid hl9
      clear HR hki hki0 hbx hnf hpl hl9 hrg hok hacts hu9
      by_cases hk1' : y.kind = 1
      · rw [hk1'] at n0
        have HK1 := Lib.hid hk1'
        clear hk1'
        by_cases hin : 0 ≤ y.at_ ∧ y.at_ < 8
        · obtain ⟨i, hi⟩ := Int.eq_ofNat_of_zero_le hin.1
          have HI := Lib.hid hi
          have hi8 : i < 8 := by omega
          rw [hi] at n1
          by_cases hpw : d.power.2 = true
          · have HWR := Lib.hid (disk_Write_yes HKI0.out.disk HKI0.out.bl.size i (by rw [HKI0.out.len]; exact hi8) y.data HDL.out hpw (by have := HPL.out; omega))
            have hp1 := HKI0.out.disk
            clear hin hpw hat hp1
            go_wp2_with (first
              | (refine ld40 rfl _ rfl b (o + k * 132) rfl y HRG.out HDL.out ?_)
              | (refine st40 rfl _ _ rfl _ _ rfl rfl y rfl HDL.out rfl ?_))
            refine HWR.out.mono ?_
            clear HWR
            rintro e w6 ⟨v6, rfl, hd6, hk6, -⟩
            obtain ⟨-, s2, s3⟩ := HKI0.out.side hk6
            have hbx6 := HBX.out.kp hk6 HNF.out
            have HD6 := Lib.hid hd6; have HK6 := Lib.hid hk6; have HO6 := Lib.hid s2; have HS6 := Lib.hid s3.size; have HBX6 := Lib.hid hbx6
            have hbb := run_bldActs w6 y HDL.out
            clear hd6 hk6 s2 s3 hbx6 n0 n1 hld
            go_wp2_with (first
              | (refine ld40 rfl _ rfl wr.heap.size 0 rfl y HBX6.out.range HDL.out ?_)
              | (at_builtin; go_must (refine wpList_append_any (w0 := w6.alloc (.cells (actCells y).toArray 31)) w1.heap.size rfl (.tmp 52) (.tmp 54) 26 31 (.agg Try.zeroCells31) 132 176 rfl Try.underlying26 Try.infoAct (by kernel_rfl) (by decide) (by decide) u9 l9.length (acells l9) (some ⟨w6.heap.size, 0, none⟩) 1 1 (actCells y) rfl rfl (HO6.out.alloc _) (rd_act w6 y HDL.out) (actCells_one y) (by have := HL9.out; omega) (Below.refl _ _) (by have := HS6.out; simp; omega) ?_); intro v7 w7 hown7 hb7 hg7 ha7; have n7 := ((HBX6.out.below (below_alloc _ (.cells (actCells y).toArray 31))).kp (Kp.of_grown (S := fun q => u9.ownBlock = some q) hg7 (fun _ e => e)) (fun e => by have := HU9.out _ e; omega)).cell 0 _ rfl; rw [HK1.out] at n7; have HNX : Hid (KInv w1 w7 p s g8 (k + 1) v7) := Lib.hid ⟨v6, _, _, HKI0.out.push HK6.out HD6.out (power_stable d) (by rw [hi]; rfl) ⟨by omega, by omega, HDL.out⟩ hg7 hown7, by have := HL9.out; rw [List.length_append]; simp; omega⟩; clear hown7 hb7 hg7 ha7))
            go_roundw
            case rel => exact ⟨k + 1, by omega, by go_num, HNX⟩
            case measure => simp [intOf]; omega
          · have HWR := Lib.hid (disk_Write_dead HKI0.out.disk i (by rw [HKI0.out.len]; exact hi8) y.data (by simpa using hpw))
            clear hin hi hpw hat
            go_wp2_with (first
              | (refine ld40 rfl _ rfl b (o + k * 132) rfl y HRG.out HDL.out ?_)
              | (refine st40 rfl _ _ rfl _ _ rfl rfl y rfl HDL.out rfl ?_))
            refine HWR.out.mono ?_
            clear HWR
            rintro e w6 ⟨rfl, hd6, hk6⟩
            have hk6' : Kp (foot p s v) (wr.alloc (.cells (actCells y).toArray 31)) w6 := hk6.imp (fun i _ hi => .inl hi)
            obtain ⟨s1, s2, s3⟩ := HKI0.out.side hk6'
            have n6 := (HBX.out.kp hk6' HNF.out).cell 0 _ rfl
            rw [HK1.out] at n6
            have HNX : Hid (KInv w1 w6 p s g8 (k + 1) u9) := Lib.hid ⟨v, d.power.1, l9, ⟨hd6, by rw [power_stable]; exact HKI0.out.len, by rw [power_stable]; exact s1, s2, by rw [power_pend]; exact HKI0.out.pe, HKI0.out.ok, s3⟩, by have := HL9.out; omega⟩
            clear hd6 hk6 hk6' s1 s2 s3 n0 n1 hld
            go_wp2_with fail
            go_roundw
            case rel => exact ⟨k + 1, by omega, by go_num, HNX⟩
            case measure => simp [intOf]; omega
        · have HWR := Lib.hid (disk_Write_no HKI0.out.disk y.at_ (by rw [HKI0.out.len]; omega) y.data)
          clear hin hat
          go_wp2_with (first
            | (refine ld40 rfl _ rfl b (o + k * 132) rfl y HRG.out HDL.out ?_)
            | (refine st40 rfl _ _ rfl _ _ rfl rfl y rfl HDL.out rfl ?_))
          refine HWR.out.mono ?_
          clear HWR
          rintro e w6 ⟨rfl, hb6⟩
          have n6 := (HBX.out.below hb6).cell 0 _ rfl
          rw [HK1.out] at n6
          have HNX : Hid (KInv w1 w6 p s g8 (k + 1) u9) := Lib.hid ⟨v, d, l9, HKI0.out.below hb6, by have := HL9.out; omega⟩
          clear hb6 n0 n1 hld
          go_wp2_with fail
          go_roundw
          case rel => exact ⟨k + 1, by omega, by go_num, HNX⟩
          case measure => simp [intOf]; omega
      · have q1 : (y.kind == 1) = false := by rw [beq_eq_false_iff_ne]; exact hk1'
        clear hk1'
        by_cases hk2 : y.kind = 2
        · rw [hk2] at n0 q1
          have HK2 := Lib.hid hk2
          clear hk2 hat q1
          by_cases hpw : d.power.2 = true
          · have HFL := Lib.hid (disk_Flush_yes HKI0.out.disk hpw (by have := HPL.out; omega))
            clear hpw hld
            go_wp2_with (first
              | (refine ld40 rfl _ rfl b (o + k * 132) rfl y HRG.out HDL.out ?_)
              | (refine st40 rfl _ _ rfl _ _ rfl rfl y rfl HDL.out rfl ?_))
            refine HFL.out.mono ?_
            clear HFL
            rintro e w6 ⟨rfl, hd6, hk6⟩
            obtain ⟨s1, s2, s3⟩ := HKI0.out.side hk6
            have hbx6 := HBX.out.kp hk6 HNF.out
            obtain ⟨A9, c9, rfl⟩ := own_form s2
            have HKF : Hid (KF w1 w6 p s g8 (.slice A9 l9.length c9) d.stable d.power.1.flushed l9 0 ∧ Box w6 wr.heap.size 31 (actCells y)) := Lib.hid ⟨⟨hd6, s1, s2, s3⟩, hbx6⟩
            clear hd6 hk6 s1 s2 s3 n0 n1 hbx6
            have HST : Hid (d.power.1.flushed.stable = applyW d.stable (pendOf l9)) := Lib.hid (by show applyW d.power.1.stable d.power.1.pend = _; rw [power_stable, power_pend, HKI0.out.pe])
            have hn9 : l9.length ≤ 200 := by have := HL9.out; omega
            go_wp2_with fail
            obtain ⟨wo, rfl⟩ : ∃ wo : World, wo = wr := ⟨_, rfl⟩
            go_loopw [66] (fun i wr => ∃ j : Nat, j ≤ l9.length ∧ i = .int .i64 j ∧ Hid (KF w1 wr p s g8 (.slice A9 l9.length c9) d.stable d.power.1.flushed l9 j ∧ Box wr wo.heap.size 31 (actCells y))) (fun i _ => l9.length - (intOf i).toNat)
            case atStart => exact ⟨0, by omega, rfl, HKF⟩
            case round =>
              clear HKF
              obtain ⟨j, hj, rfl, HF⟩ := hrel
              by_cases hjl : j < l9.length
              · obtain ⟨ga, rfl, hra⟩ := own_act HF.out.1.own (fun a ha => (HKI0.out.ok a ha).2.2) j hjl
                obtain ⟨hz1, hz2, hz3⟩ := HKI0.out.ok _ (actAt_mem hjl)
                have hnx := applyW_take d.stable (pendOf l9) j (by simp [pendOf]; exact hjl)
                rw [penAt_pendOf l9 j hjl] at hnx
                generalize actAt l9 j = z at *
                obtain ⟨m, hm⟩ := Int.eq_ofNat_of_zero_le hz1
                rw [hm, Int.toNat_natCast] at hnx
                have hm8 : m < 8 := by omega
                have hbz := Box.new wr (actCells z) 31
                have z1 := hbz.cell 1 _ rfl
                rw [hm] at z1
                have hwid := applyW_widK ((pendOf l9).take j) d.stable HKI0.out.disk.wid (fun x hx => by
                  have hx2 := List.mem_of_mem_take hx
                  simp only [pendOf, List.mem_map] at hx2
                  obtain ⟨a, ha, rfl⟩ := hx2
                  exact (HKI0.out.ok a ha).2.2)
                obtain ⟨hth, hrow, hkp⟩ := box_set (HF.out.1.box.below (below_alloc _ (.cells (actCells z).toArray 31))) hwid m z.data (by rw [applyW_length, HKI0.out.len]; exact hm8) hz3
                rw [← hnx] at hrow
                have hki8 := HKI0.out.boxNot
                have HFN : Hid (KF w1 ((wr.alloc (.cells (actCells z).toArray 31)).setCells g8 (m * 128) (bv z.data)) p s g8 (.slice (some ⟨ga, 0, none⟩) l9.length c9) d.stable d.power.1.flushed l9 (j + 1) ∧ Box ((wr.alloc (.cells (actCells z).toArray 31)).setCells g8 (m * 128) (bv z.data)) wo.heap.size 31 (actCells y)) := Lib.hid ⟨⟨(HF.out.1.disk.below (below_alloc _ _)).kept hkp (fun i hf e => by
                    have e : i = g8 := e
                    subst e
                    rcases hf with h | h | h
                    · exact ne_of_types HF.out.1.disk.obj (h ▸ HF.out.1.box) (by decide) rfl
                    · exact ne_of_types HF.out.1.disk.sta (h ▸ HF.out.1.box) (by decide) rfl
                    · simp [Value.ownBlock] at h), hrow, own_kpK (HF.out.1.own.alloc _) hkp (fun e => own_ne HF.out.1.own HF.out.1.box (by decide) e), (balloc HF.out.1.bl _).trans (hkp.below (balloc HF.out.1.bl _).size (fun i e => by have e : i = g8 := e; subst e; exact HG8.out))⟩, (HF.out.2.old _).kp hkp (fun e => ne_of_types HF.out.2 (e ▸ HF.out.1.box) (by decide) rfl)⟩
                have HRA := Lib.hid hra; have HZ3 := Lib.hid hz3; have HTH := Lib.hid hth; have HBZ := Lib.hid hbz
                have hj0 : (0 : Int) ≤ (j : Int) := Int.natCast_nonneg _
                have hj1 : (j : Int) < (l9.length : Int) := by omega
                have hm0 : (0 : Int) ≤ (m : Int) := Int.natCast_nonneg _
                have hm1 : (m : Int) < 8 := by omega
                clear hra hz1 hz2 hz3 hnx hm hbz hwid hth hrow hkp hki8
                go_wp2_with (first
                  | (refine ld40 rfl _ rfl ga (j * 132) rfl z HRA.out HZ3.out ?_)
                  | (refine st40 rfl _ _ rfl _ _ rfl rfl z rfl HZ3.out rfl ?_)
                  | (refine ld37 rfl _ rfl wr.heap.size 3 rfl z.data (act_data HBZ.out) HZ3.out ?_)
                  | (refine st37_midK rfl _ _ rfl g8 (m * 128) rfl z.data rfl HZ3.out HTH.out ?_))
                go_roundw
                case rel => exact ⟨j + 1, by omega, by go_num, HFN⟩
                case measure => simp [intOf]; omega
              · obtain rfl : j = l9.length := by omega
                have hown0 := own_empty wr w1.heap.size 31 132 HF.out.1.bl.size
                have hbox := HF.out.1.box
                rw [List.take_of_length_le (by simp [pendOf]), ← HST.out] at hbox
                have n6 := (HF.out.2.old (.cells #[] 31)).cell 0 _ rfl
                rw [HK2.out] at n6
                have HNX : Hid (KInv w1 (wr.alloc (.cells #[] 31)) p s g8 (k + 1) (.slice (some ⟨wr.heap.size, 0, none⟩) 0 0)) := Lib.hid ⟨_, _, [], ⟨HF.out.1.disk.below (below_alloc _ _), by rw [HST.out, applyW_length]; exact HKI0.out.len, hbox.below (below_alloc _ _), hown0, rfl, fun a ha => by simp at ha, balloc HF.out.1.bl _⟩, Nat.zero_le _⟩
                clear hown0 hbox HF
                go_wp2_with fail
                go_roundw
                case rel => exact ⟨k + 1, by omega, by go_num, HNX⟩
                case measure => simp [intOf]; omega
          · have HFL := Lib.hid (disk_Flush_dead HKI0.out.disk (by simpa using hpw))
            clear hpw hld
            go_wp2_with (first
              | (refine ld40 rfl _ rfl b (o + k * 132) rfl y HRG.out HDL.out ?_)
              | (refine st40 rfl _ _ rfl _ _ rfl rfl y rfl HDL.out rfl ?_))
            refine HFL.out.mono ?_
            clear HFL
            rintro e w6 ⟨rfl, hd6, hk6⟩
            have hk6' : Kp (foot p s v) (wr.alloc (.cells (actCells y).toArray 31)) w6 := hk6.imp (fun i _ hi => .inl hi)
            obtain ⟨s1, s2, s3⟩ := HKI0.out.side hk6'
            have n6 := (HBX.out.kp hk6' HNF.out).cell 0 _ rfl
            rw [HK2.out] at n6
            have HNX : Hid (KInv w1 w6 p s g8 (k + 1) u9) := Lib.hid ⟨v, d.power.1, l9, ⟨hd6, by rw [power_stable]; exact HKI0.out.len, by rw [power_stable]; exact s1, s2, by rw [power_pend]; exact HKI0.out.pe, HKI0.out.ok, s3⟩, by have := HL9.out; omega⟩
            clear hd6 hk6 hk6' s1 s2 s3 n0 n1
            go_wp2_with fail
            go_roundw
            case rel => exact ⟨k + 1, by omega, by go_num, HNX⟩
            case measure => simp [intOf]; omega
        · have q2 : (y.kind == 2) = false := by rw [beq_eq_false_iff_ne]; exact hk2
          clear hk2
          by_cases hk3 : y.kind = 3
          · rw [hk3] at n0 q1 q2
            have HBR := Lib.hid (disk_Break HKI0.out.disk y.at_ hat.2)
            clear hk3 hat q1 q2
            go_wp2_with (first
              | (refine ld40 rfl _ rfl b (o + k * 132) rfl y HRG.out HDL.out ?_)
              | (refine st40 rfl _ _ rfl _ _ rfl rfl y rfl HDL.out rfl ?_))
            refine HBR.out.mono ?_
            clear HBR
            rintro e w6 ⟨rfl, hd6, hk6⟩
            have hk6' : Kp (foot p s v) (wr.alloc (.cells (actCells y).toArray 31)) w6 := hk6.imp (fun i _ hi => .inl hi)
            obtain ⟨s1, s2, s3⟩ := HKI0.out.side hk6'
            have HNX : Hid (KInv w1 w6 p s g8 (k + 1) u9) := Lib.hid ⟨v, _, l9, ⟨hd6, HKI0.out.len, s1, s2, HKI0.out.pe, HKI0.out.ok, s3⟩, by have := HL9.out; omega⟩
            clear hd6 hk6 hk6' s1 s2 s3 n0 n1
            go_wp2_with fail
            go_roundw
            case rel => exact ⟨k + 1, by omega, by go_num, HNX⟩
            case measure => simp [intOf]; omega
          · have q3 : (y.kind == 3) = false := by rw [beq_eq_false_iff_ne]; exact hk3
            have HNX : Hid (KInv w1 (wr.alloc (.cells (actCells y).toArray 31)) p s g8 (k + 1) u9) := Lib.hid ⟨v, d, l9, HKI0.out, by have := HL9.out; omega⟩
            clear hk3 hat
            go_wp2_with (first
              | (refine ld40 rfl _ rfl b (o + k * 132) rfl y HRG.out HDL.out ?_)
              | (refine st40 rfl _ _ rfl _ _ rfl rfl y rfl HDL.out rfl ?_))
            go_roundw
            case rel => exact ⟨k + 1, by omega, by go_num, HNX⟩
            case measure => simp [intOf]; omega
    · obtain rfl : k = n := by omega
      obtain ⟨v, d, l9, hki, hl9⟩ := HR.out
      obtain ⟨A9, c9, rfl⟩ := own_form hki.own
      have hpl : d.pend.length ≤ 1000 := by rw [hki.pe]; simp [pendOf]; omega
      have HKI := Lib.hid hki; have HPL := Lib.hid hpl
      have hbx := HT1.out.below hki.bl
      have y0 := hbx.cell 0 _ rfl
      have y1 := hbx.cell 1 _ rfl
      have HBX := Lib.hid hbx
      have HKW := Lib.hid (HK1.out.below hki.bl)
      have HNF : Hid (¬ foot p s v w.heap.size) := Lib.hid (by
        rintro (h | h | h)
        · exact ne_of_types hki.disk.obj (h ▸ hbx) (by decide) rfl
        · exact ne_of_types hki.disk.sta (h ▸ hbx) (by decide) rfl
        · exact own_ne hki.disk.pen hbx (by decide) h)
      clear HR hki hpl hbx
      go_wp2_with fail
      go_region_held3 (fun w' => w'.cell? ⟨w.heap.size, 0, none⟩ = some (.int .i64 t0) ∧ w'.cell? ⟨w.heap.size, 1, none⟩ = some (.int .i64 t1)) (first | go_keep | exact ⟨by assumption, by assumption⟩)
        (first
          | (refine step_append_any (by rfl) _ _ 29 4 (.bool false) 1 1 (by rfl) Try.underlying29 Try.infoBl rfl (by decide) (by decide) wr.heap.size (.slice (some ⟨wr.heap.size, 0, none⟩) 0 0) 0 [] K nk ck (blv keep) (by rfl) (by rfl) ((own_empty wr wr.heap.size 4 1 (Nat.le_refl _)).drew) ((HKW.out.below (((Below.refl _ _).alloc (Nat.le_refl _) _).drew)).rd) (blv_one _) (by have := HNK.out; omega) (by simp) ?_
             intro v4 w4 hown4 hg4 ha4
             rw [Nat.zero_add] at hown4
             rw [List.nil_append] at hown4
             obtain ⟨A4, c4, rfl, hrb4⟩ := own_rbl hown4
             have hb4 : Below wr.heap.size wr w4 := Below.grown (((Below.refl _ _).alloc (Nat.le_refl _) _).drew) hg4 (by simp) (fun k hk => by cases hk; exact Nat.le_refl _)
             have y40 := cell_blD (HBX.out.cell 0 _ rfl) hb4
             have y41 := cell_blD (HBX.out.cell 1 _ rfl) hb4
             have HOWN := Lib.hid hown4; have HRB := Lib.hid hrb4; have HB4 := Lib.hid hb4
             clear hown4 hg4 ha4 hrb4 hb4)
          | (go_at_call 15; refine (disk_Crash (HKI.out.disk.below HB4.out) (by have := HPL.out; omega) A4 nk c4 keep HRB.out (foot_freshD HKI.out.disk HOWN.out) t0 t1).mono ?_; rintro e w5 ⟨rfl, hd5, hk5⟩; have y50 := cell_kpD y40 hk5 HNF.out; have y51 := cell_kpD y41 hk5 HNF.out; have HD5 := Lib.hid hd5; have HK5 := Lib.hid hk5; clear hd5 hk5))
      obtain ⟨s1, s2, s3⟩ := (HKI.out.below HB4.out).side HK5.out
      have HS1 := Lib.hid s1; have HS2 := Lib.hid s2; have HS3 := Lib.hid s3
      clear s1 s2 s3 y0 y1 y40 y41 y50 y51
      have HLW := Lib.hid (fun (i k : Nat) (hk : k < 128) => keeps_ok HKI.out.pe HKI.out.disk.wid HKI.out.disk.pin HKI.out.ok keep t0 t1 i k hk)
      have HCL : Hid ((d.crashed keep t0 t1).stable.length = 8) := Lib.hid (by show (crashTo _ _ _ _ _ _).length = 8; rw [crashTo_length]; exact HKI.out.len)
      have HCR : Hid ((d.crashed keep t0 t1).fuel = -1 ∧ (d.crashed keep t0 t1).dead = false ∧ (d.crashed keep t0 t1).pend = []) := Lib.hid ⟨rfl, rfl, rfl⟩
      generalize d.crashed keep t0 t1 = d5 at *
      go_wp2_with fail
      go_loopw [94] (fun i wx => ∃ m : Nat, m ≤ 8 ∧ i = .int .i64 m ∧ Hid (Below w5.heap.size w5 wx)) (fun i _ => 8 - (intOf i).toNat)
      case atStart => exact ⟨0, by omega, rfl, Lib.hid (Below.refl _ _)⟩
      case round =>
        obtain ⟨m, hm, rfl, HBL⟩ := hrel
        obtain ⟨wa, rfl⟩ : ∃ wa : World, wa = wr := ⟨_, rfl⟩
        by_cases hml : m < 8
        · have hm0 : (0 : Int) ≤ (m : Int) := Int.natCast_nonneg _
          have hm1 : (m : Int) < 8 := by omega
          go_wp2_with fail
          refine (disk_Stable_yes (HD5.out.below HBL.out) m (by rw [HCL.out]; omega)).mono ?_
          rintro e w6 ⟨rfl, hb6⟩
          have hxl : (secAt d5.stable m).length = 128 := HD5.out.swid m (by rw [HCL.out]; omega)
          obtain ⟨x, hx⟩ : ∃ x, x = secAt d5.stable m := ⟨_, rfl⟩
          rw [← hx] at hxl ⊢
          have HXE := Lib.hid hx; have HXL := Lib.hid hxl
          have HSX := Lib.hid (SecAt.new w6 x hxl)
          have HB7 := Lib.hid (balloc (bthen HBL.out hb6) (.cells (bv x).toArray 28))
          clear hx hxl hb6
          go_wp2_with (refine st37 rfl _ _ rfl _ _ rfl rfl x rfl HXL.out rfl ?_)
          generalize hw7 : w6.alloc (.cells (bv x).toArray 28) = w7 at *
          clear hw7
          generalize hgx : w6.heap.size = gx at *
          clear hgx
          go_loopw [100] (fun i wx => ∃ q : Nat, q ≤ 128 ∧ i = .int .i64 q ∧ Hid (Below w7.heap.size w7 wx)) (fun i _ => 128 - (intOf i).toNat)
          case atStart => exact ⟨0, by omega, rfl, Lib.hid (Below.refl _ _)⟩
          case round =>
            obtain ⟨q, hq, rfl, HBQ⟩ := hrel
            obtain ⟨wb, rfl⟩ : ∃ wb : World, wb = wr := ⟨_, rfl⟩
            by_cases hql : q < 128
            · have hq0 : (0 : Int) ≤ (q : Int) := Int.natCast_nonneg _
              have hq1 : (q : Int) < 128 := by omega
              have c1 := (HSX.out.below HBQ.out).cell q hql
              have c2 := box_byte ((HS1.out.below HB7.out).below HBQ.out) HKI.out.disk.wid m q (by rw [HKI.out.len]; exact hml) hql
              have hlw := HLW.out m q hql
              rw [← HXE.out] at hlw
              generalize at8 x q = xb at *
              generalize at8 (secAt d.stable m) q = fb at *
              have hcmp : ((xb.toNat : Int) == (fb.toNat : Int)) = decide (xb = fb) := byte_eq xb fb
              generalize decide (xb = fb) = b0 at *
              have HLQ := Lib.hid hlw
              have HC1 : Hid (∀ w', Below w7.heap.size w7 w' → w'.cell? ⟨gx, q, none⟩ = some (.int .u8 (xb.toNat : Int))) := Lib.hid fun w' hb => by
                have h1 := (HSX.out.below hb)
                rw [← c1]
                exact (cell_of_row w' gx q _ _ _ h1.1).trans (cell_of_row wb gx q _ _ _ (HSX.out.below HBQ.out).1).symm
              clear hlw
              go_wp2_with fail
              go_quiet (fail)
              clear c1 c2 hcmp
              go_wp2_with fail
              have hl9' : l9.length ≤ 1000000 := by omega
              go_loopw [17, 114] (fun u i wx => ∃ j : Nat, j ≤ l9.length ∧ i = .int .i64 j ∧ u = .bool (okTo l9 m q xb b0 j) ∧ Hid (Below w7.heap.size w7 wx)) (fun _ i _ => l9.length - (intOf i).toNat)
              case atStart => exact ⟨0, by omega, rfl, rfl, Lib.hid (bthen HBQ.out (below_dNK _ _))⟩
              case round =>
                obtain ⟨j, hj, rfl, rfl, HBJ⟩ := hrel
                by_cases hjl : j < l9.length
                · obtain ⟨ga, rfl, hra⟩ := own_act HS2.out (fun a ha => (HKI.out.ok a ha).2.2) j hjl
                  have hra' := range_below (range_below hra HB7.out) HBJ.out
                  obtain ⟨-, -, hz3⟩ := HKI.out.ok _ (actAt_mem hjl)
                  have hnx : okTo l9 m q xb b0 (j + 1) = (okTo l9 m q xb b0 j || (decide ((actAt l9 j).at_ = (m : Int)) && decide (at8 (actAt l9 j).data q = xb))) := rfl
                  generalize okTo l9 m q xb b0 j = ob at *
                  generalize actAt l9 j = z at *
                  have hbz := Box.new wr (actCells z) 31
                  have z1 := hbz.cell 1 _ rfl
                  have z3 := act_data hbz q _ (bv_get z.data q (by rw [hz3]; exact hql))
                  have zx := HC1.out _ (balloc HBJ.out (.cells (actCells z).toArray 31))
                  generalize at8 z.data q = db at *
                  have hc1 : (z.at_ == (m : Int)) = decide (z.at_ = (m : Int)) := int_eq _ _
                  have hc2 : ((db.toNat : Int) == (xb.toNat : Int)) = decide (db = xb) := byte_eq db xb
                  generalize decide (z.at_ = (m : Int)) = bA at *
                  generalize decide (db = xb) = bD at *
                  have HNX := Lib.hid hnx; have HRA := Lib.hid hra'; have HZ3 := Lib.hid hz3
                  have HBN := Lib.hid (balloc HBJ.out (.cells (actCells z).toArray 31))
                  have hj0 : (0 : Int) ≤ (j : Int) := Int.natCast_nonneg _
                  have hj1 : (j : Int) < (l9.length : Int) := by omega
                  clear hra hra' hz3 hnx hbz
                  have hcases : ob = true ∨ (ob = false ∧ bA = false) ∨ (ob = false ∧ bA = true) := by cases ob <;> cases bA <;> simp
                  rcases hcases with rfl | ⟨rfl, rfl⟩ | ⟨rfl, rfl⟩
                  all_goals
                    go_wp2_with (first
                      | (refine ld40 rfl _ rfl ga (j * 132) rfl z HRA.out HZ3.out ?_)
                      | (refine st40 rfl _ _ rfl _ _ rfl rfl z rfl HZ3.out rfl ?_))
                    go_frame
                    go_quiet (fail)
                    go_wp2_with fail
                    go_roundw
                    case rel => exact ⟨j + 1, by omega, by go_num, by rw [HNX.out]; simp, Lib.hid (bthen HBN.out (below_dNK _ _))⟩
                    case measure => simp [intOf]; omega
                · obtain rfl : j = l9.length := by omega
                  rw [HLQ.out]
                  go_wp2_with fail
                  go_roundw
                  case rel => exact ⟨q + 1, by omega, by go_num, HBJ⟩
                  case measure => simp [intOf]; omega
            · obtain rfl : q = 128 := by omega
              go_wp2_with fail
              go_roundw
              case rel => exact ⟨m + 1, by omega, by go_num, Lib.hid (HB7.out.trans (HBQ.out.mono HB7.out.size))⟩
              case measure => simp [intOf]; omega
        · obtain rfl : m = 8 := by omega
          have HDZ := Lib.hid (HD5.out.below HBL.out)
          have hpw : d5.power.2 = true := by rw [power_live d5 HCR.out.2.1 (by rw [HCR.out.1]; decide)]
          have HFL := Lib.hid (disk_Flush_yes HDZ.out hpw (by rw [HCR.out.2.2]; simp))
          have hbz : Below w1.heap.size w1 wa := HS3.out.trans (HBL.out.mono HS3.out.size)
          have HBZ := Lib.hid hbz
          clear hpw hbz
          go_wp2_with fail
          refine (disk_Dead HDZ.out).mono ?_
          rintro e w8 ⟨rfl, rfl⟩
          rw [HCR.out.2.1]
          go_wp2_with fail
          refine HFL.out.mono ?_
          clear HFL
          rintro e w9 ⟨rfl, -, hk9⟩
          have HB9 := Lib.hid (bthen HB1.out (HBZ.out.trans (hk9.below HBZ.out.size (fun i hi => HDZ.out.foot_base i hi))))
          clear hk9
          go_wp2_with fail
          go_ret
          exact ⟨rfl, HB9.out⟩
end
end Go.Proofs.Ytoghmakbdhepfaa
