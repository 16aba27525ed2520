/- The act that is a crash. -/
import Derived.Test.YtoghmakbdhepfaaDiskDo
import Derived.Test.YtoghmakbdhepfaaStep
import Derived.Deep.RegionHeld3
import Derived.Deep.Cut
namespace Go.Proofs.Ytoghmakbdhepfaa
open Go.RowKit
attribute [local go_sem ↓] build37

theorem act_keep {w : World} {b : Nat} {t : TypeId} {y : ActD} (h : Box w b t (actCells y)) (hl : y.data.length = 128) : w.cell? ⟨b, 131, none⟩ = some (.slice y.ka y.kn y.kc) := h.cell 131 _ (by
  show (bv y.data ++ [Value.slice y.ka y.kn y.kc])[128]? = _
  rw [List.getElem?_append_right (by rw [bv_length, hl]; exact Nat.le_refl _), bv_length, hl]
  rfl)
theorem cell_blD {w w1 : World} {b o : Nat} {v : Value} (h : w.cell? ⟨b, o, none⟩ = some v) (hb : Below w.heap.size w w1) : w1.cell? ⟨b, o, none⟩ = some v := by
  rw [hb.cell (p := ⟨b, o, none⟩) (World.block_lt_of_cell? w _ h)]
  exact h
theorem cell_kpD {w w1 : World} {S : Nat → Prop} {b o : Nat} {v : Value} (h : w.cell? ⟨b, o, none⟩ = some v) (hk : Kp S w w1) (hb : ¬ S b) : w1.cell? ⟨b, o, none⟩ = some v := by
  rw [← h]
  exact World.cell?_of_block (hk.block b (World.block_lt_of_cell? w _ h) hb)
theorem foot_freshD {W w1 : World} {base p s : Nat} {v : Value} {d : Dk} (h : DiskAt W base p s v d) {A : Option Addr} {n c : Nat} {e : TypeId} {bs : List Bool} (hown : w1.ownsRow W.heap.size e 1 (.slice A n c) n (blv bs)) : ∀ b o, A = some ⟨b, o, none⟩ → 0 < n → ¬ foot p s v b := by
  rintro b o rfl _ hf
  have h1 := h.foot_lt b hf
  have h2 := (hown.lt b rfl).1
  omega
theorem Try.infoBl : (Try.prog.info? 4).map (fun i => (i.zero, i.size, i.bytes)) = some (some (.bool false), 1, 1) := by kernel_rfl
section
variable {w w3 : World} {base p s : Nat} {v v' : Value} {d d' : Dk} {y : ActD}
set_option maxRecDepth 20000 in
set_option maxHeartbeats 3200000 in
theorem do_crash (h : DiskAt w base p s v d) (hok : ActOk w y) (hk : y.kind = 4) (hpl : d.pend.length ≤ 1000000) :
    Calls Try.prog 18 #[.pointer (some ⟨p, 0, none⟩), .agg (actCells y).toArray] w (DoPost w base p s v zsec 0 (d.crashed y.keep y.at_ y.cut)) := by
  have b0 := run_bldSec0
  have H := Lib.hid h; have HW := Lib.hid (doW_disk h y); have HPL := Lib.hid hpl; have HKN := Lib.hid hok.keepn
  have HKE := Lib.hid ((hok.keep.below (below_alloc w (.cells (actCells y).toArray 31))).below (below_alloc _ (.cells Try.zeroCells28 28)))
  have HBX := Lib.hid (doW_act w y)
  have n0 := (doW_act w y).cell 0 _ rfl
  have n1 := (doW_act w y).cell 1 _ rfl
  have n2 := (doW_act w y).cell 2 _ rfl
  have n3 := act_keep (doW_act w y) hok.data
  have hpw := h.plt
  rw [hk] at n0
  clear h hok hk hpl
  obtain ⟨W, hW⟩ : ∃ W, W = doW w y := ⟨_, rfl⟩
  have HWE := Lib.hid hW
  have HWS : Hid (w.heap.size + 2 = W.heap.size) := Lib.hid (by rw [hW, doW_size])
  rw [← hW] at HW HBX
  have hKE : RBl W y.ka y.kn y.kc y.keep := by rw [hW]; exact HKE.out
  have HKW := Lib.hid hKE
  clear hW HKE hKE
  unfold doW at n0 n1 n2 n3
  go_enter Try.func18, Try.ntmps18
  go_upto_region 11 with fail
  have hWE := HWE.out
  unfold doW at hWE
  rw [← hWE] at n0 n1 n2 n3 ⊢
  clear hWE n0
  have N3 := Lib.hid n3
  have HF : Hid (¬ foot p s v w.heap.size) := Lib.hid (fun hf => by have := H.out.foot_lt _ hf; omega)
  go_region_held3 (fun w' => w'.cell? ⟨w.heap.size, 1, none⟩ = some (.int .i64 y.at_) ∧ w'.cell? ⟨w.heap.size, 2, none⟩ = some (.int .i64 y.cut) ∧ w'.cell? ⟨w.heap.size, 131, none⟩ = some (.slice y.ka y.kn y.kc)) (first | go_keep | exact ⟨by assumption, by assumption, by assumption⟩)
    (first
      | (refine step_append_any (by rfl) _ _ 29 4 (.bool false) 1 1 (by rfl) Try.underlying29 Try.infoBl rfl (by decide) (by decide) W.heap.size (.slice (some ⟨W.heap.size, 0, none⟩) 0 0) 0 [] y.ka y.kn y.kc (blv y.keep) (by rfl) (by rfl) ((own_empty W W.heap.size 4 1 (Nat.le_refl _)).drew) ((HKW.out.below (((Below.refl _ _).alloc (Nat.le_refl _) _).drew)).rd) (blv_one _) (by have := HKN.out; omega) (by simp) ?_
         intro v4 w4 hown4 hg4 ha4
         rw [Nat.zero_add, List.nil_append] at hown4
         obtain ⟨A4, c4, rfl, hrb4⟩ := own_rbl hown4
         have hb4 : Below W.heap.size W w4 := Below.grown (((Below.refl _ _).alloc (Nat.le_refl _) _).drew) hg4 (by simp) (fun k hk => by cases hk; exact Nat.le_refl _)
         have n1 := cell_blD (HBX.out.cell 1 _ rfl) hb4
         have n2 := cell_blD (HBX.out.cell 2 _ rfl) hb4
         have n3 := cell_blD N3.out hb4
         have HOWN := Lib.hid hown4; have HRB := Lib.hid hrb4; have HB4 := Lib.hid hb4
         clear hown4 hg4 ha4 hrb4 hb4)
      | (go_at_call 15; refine (disk_Crash (HW.out.below HB4.out) HPL.out A4 y.kn c4 y.keep HRB.out (foot_freshD HW.out HOWN.out) y.at_ y.cut).mono ?_; rintro e w5 ⟨rfl, hd5, hk5⟩; have n1 := cell_kpD n1 hk5 HF.out; have n2 := cell_kpD n2 hk5 HF.out; have n3 := cell_kpD n3 hk5 HF.out; have HD5 := Lib.hid hd5; have HK5 := Lib.hid hk5; clear hd5 hk5))
  have hk3 : Kp (foot p s v) (doW w y) w5 := by rw [← HWE.out]; exact (Kp.of_below (S := foot p s v) HB4.out).trans HK5.out (fun i _ hi => hi)
  obtain ⟨f1, f2, f3⟩ := do_fin (y := y) H.out HD5.out hk3 (fun g hg => by simp [Value.ownBlock] at hg) zsec 0 zsec_length
  have F1 := Lib.hid f1; have F2 := Lib.hid f2; have F3 := Lib.hid f3
  clear f1 f2 f3 hk3 n1 n2 n3
  go_wp2_with (refine st37_over rfl _ _ rfl (w.heap.size + 1) rfl zsec zsec F1.out rfl zsec_length zsec_length ?_)
  exact bodyPost_ret (ret37_box Try.results18 _ _ zsec zsec_length _ _ rfl rfl F2.out) rfl F3.out
end
end Go.Proofs.Ytoghmakbdhepfaa
