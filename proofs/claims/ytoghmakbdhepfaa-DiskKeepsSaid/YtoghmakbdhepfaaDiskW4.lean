/- What Write of a disk computes. -/
import Derived.Test.YtoghmakbdhepfaaDiskW3
import Derived.Deep.RegionHeld3
import Derived.Deep.RegionLaw
namespace Go.Proofs.Ytoghmakbdhepfaa
open Go.RowKit

attribute [local go_sem ↓] loadAt37 build157 buildSlice152

/-- What a Write that is done leaves. -/
def WritePost (w : World) (base p s : Nat) (v : Value) (d : Dk) (k : Nat) (l : List UInt8) (e : Ending) (w' : World) : Prop :=
  ∃ v', e = .returned (.int .i64 0) ∧ DiskAt w' base p s v' { d.power.1 with pend := d.pend ++ [(k, l)] } ∧ Kp (foot p s v) w w' ∧ (v'.ownBlock = v.ownBlock ∨ ∃ g, v'.ownBlock = some g ∧ w.heap.size ≤ g)

theorem disk_pushed {w1 w2 : World} {base p s : Nat} {v v2 : Value} {d : Dk} (h : DiskAt w1 base p s v d) (o : Obj) (hg : ((w1.alloc o).drew).grownBy w2 v.ownBlock) (k : Nat) (l : List UInt8)
    (hown : w2.ownsRow base 68 129 v2 (d.pend.length + 1) (pcells d.pend ++ (Value.int .i64 (k : Int) :: bv l))) (hk : k < d.stable.length) (hl : l.length = 128) :
    DiskAt (w2.setCell ⟨p, 1, none⟩ v2) base p s v2 { d with pend := d.pend ++ [(k, l)] } := by
  have hp : w2.heap[p]? = w1.heap[p]? := by
    rw [hg.block p (by simp; have := h.plt; omega) (fun e => h.vp e.symm)]
    exact Go.heap_alloc_old _ _ h.plt
  have hs : w2.heap[s]? = w1.heap[s]? := by
    rw [hg.block s (by simp; have := h.slt; omega) (fun e => h.vs e.symm)]
    exact Go.heap_alloc_old _ _ h.slt
  have hobj : w2.heap[p]? = some (.cells #[.slice (some ⟨s, 0, none⟩) d.stable.length d.stable.length, v, .int .i64 d.fuel, .bool d.dead] 65 (0, 0)) := hp.trans h.obj
  refine ⟨h.hp, h.hs, ?_, ?_, ?_, h.len, h.wid, ?_, h.fu⟩
  · rw [heap_setCell_same w2 p 1 _ _ v2 hobj]; rfl
  · rw [heap_setCell_other w2 ⟨p, 1, none⟩ s v2 (Ne.symm h.ps), hs]; exact h.sta
  · have e : pcells (d.pend ++ [(k, l)]) = pcells d.pend ++ (Value.int .i64 (k : Int) :: bv l) := by simp [pcells]
    rw [e]
    simp only [List.length_append, List.length_cons, List.length_nil, Nat.zero_add]
    exact own_setCell hown _ _ (own_ne hown hobj (by decide))
  · intro x hx
    rcases List.mem_append.1 hx with hx | hx
    · exact h.pin x hx
    · rw [List.mem_singleton.1 hx]; exact ⟨hk, hl⟩

theorem pen_one (k : Nat) (l : List UInt8) : ∀ u ∈ Value.int .i64 (k : Int) :: bv l, u.oneCell' = true := fun u hu => by
  rcases List.mem_cons.1 hu with rfl | hu
  · rfl
  · exact bv_one _ u hu

section
variable {w : World} {base p s : Nat} {v : Value} {d : Dk}
set_option maxRecDepth 20000 in
set_option maxHeartbeats 800000 in
theorem disk_Write_yes (h : DiskAt w base p s v d) (hbase : base ≤ w.heap.size) (k : Nat) (hk : k < d.stable.length) (l : List UInt8) (hl : l.length = 128) (hpw : d.power.2 = true) (hpl : d.pend.length ≤ 1000000) :
    Calls Try.prog 11 #[.pointer (some ⟨p, 0, none⟩), .int .i64 k, .agg (bv l).toArray] w (WritePost w base p s v d k l) := by
  have HPW := Lib.hid hpw
  have H1 := Lib.hid (h.below (below_alloc w (.cells (bv l).toArray 28)))
  have HR := Lib.hid (range_alloc w (bv l) 28 (0, 0))
  have hp0 := h.plt
  have hvb : v.ownBlock ≠ some w.heap.size := fun e => by have := (h.pen.lt _ e).2; omega
  clear hpw h
  go_enter Try.func11, Try.ntmps11
  go_wp2_with fail
  refine (disk_there_yes H1.out k hk).mono ?_
  rintro e w1 ⟨rfl, rfl⟩
  go_wp2_with fail
  refine (disk_power H1.out).mono ?_
  rintro e w1 ⟨rfl, hd1, hk1⟩
  rw [HPW.out]
  have e1 : d.power.1.pend = d.pend := by unfold Dk.power; split <;> rfl
  have e2 : d.power.1.stable = d.stable := by unfold Dk.power; split <;> rfl
  have hpl1 : d.power.1.pend.length ≤ 1000000 := by rw [e1]; exact hpl
  have HP : Hid (∀ e w', (∃ v', e = .returned (.int .i64 0) ∧ DiskAt w' base p s v' { d.power.1 with pend := d.power.1.pend ++ [(k, l)] } ∧ Kp (foot p s v) w w' ∧ (v'.ownBlock = v.ownBlock ∨ ∃ g, v'.ownBlock = some g ∧ w.heap.size ≤ g)) → WritePost w base p s v d k l e w') := Lib.hid fun e w' h => by
    rw [e1] at h
    exact h
  have HE2 := Lib.hid e2
  clear e1 e2
  generalize d.power.1 = d1 at *
  have c1 := hd1.c1
  have f1 := hd1.fz 1
  have hp1 := hd1.plt
  have HR1 := Lib.hid (range_kp HR.out hk1 (by omega))
  have HD := Lib.hid hd1
  clear hd1
  go_wp2_with fail
  have hld := run_ldSec (w := w1.drew) HR1.out hl
  have hbp := fun W => run_bldPen W k l hl
  have hbs := fun W => run_bldPens W (Value.int .i64 (k : Int) :: bv l) (by simp [bv_length, hl])
  obtain ⟨i0, hi0, hz0, hz1, hz2⟩ := info_parts Try.info157
  have HI := Lib.hid hi0; have HI0 := Lib.hid hz0; have HI1 := Lib.hid hz1; have HI2 := Lib.hid hz2
  clear hi0 hz0 hz1 hz2
  go_region_law ((refine step_append_lies _ (by rfl) _ _ _ (by rfl) base 68 i0 _ 129 136 Try.underlying63 HI.out HI0.out HI1.out HI2.out rfl (by omega) v d1.pend.length _ (by rfl) ((HD.out.pen.alloc _).drew) ⟨w1.heap.size, 0, none⟩ 1 1 (Value.int .i64 (k : Int) :: bv l) (by rfl) (by simp [bv_length, hl]) (World.news_of_block (cs := (Value.int .i64 (k : Int) :: bv l).toArray) (t := 68) (fr := (0, 0)) (heap_alloc_new w1 _)) (pen_one k l) (by omega) (by simp [maxLen]; omega) (by omega) (by have := hk1.size; simp at this; simp; omega) (w1.heap.size + 1) (by simp) ?_; intro gg cap w2 hown1 hgrow hat hlt2; have c1' : w2.cell? ⟨p, 1, none⟩ = some v := (hgrow.cell_far _ (by simp; omega) (Ne.symm HD.out.vp)).trans (by simp [go_sem, c1, hp1]); have f1' : w2.frozen? ⟨p, 1, none⟩ = false := (hgrow.frozen_far _ (by simp; omega) (Ne.symm HD.out.vp)).trans (by simp [go_sem, f1, hp1])))
  all_goals
    have hfin : DiskAt (w2.setCell ⟨p, 1, none⟩ (.slice (some ⟨gg, 0, none⟩) (d1.pend.length + 1) cap)) base p s (.slice (some ⟨gg, 0, none⟩) (d1.pend.length + 1) cap) { d1 with pend := d1.pend ++ [(k, l)] } :=
      disk_pushed HD.out _ hgrow k l hown1 (by rw [HE2.out]; exact hk) hl
    have hkp : Kp (foot p s v) w (w2.setCell ⟨p, 1, none⟩ (.slice (some ⟨gg, 0, none⟩) (d1.pend.length + 1) cap)) :=
      ((((Kp.of_below (below_alloc w _)).trans hk1 (fun i _ hi => .inl hi)).alloc _).drew.trans (Kp.of_grown (S := foot p s v) hgrow (fun i hi => .inr (.inr hi))) (fun _ _ hi => hi)).setCell _ _ (fun _ => .inl rfl)
    have hblk : (Value.slice (some ⟨gg, 0, none⟩) (d1.pend.length + 1) cap).ownBlock = v.ownBlock ∨ ∃ g, (Value.slice (some ⟨gg, 0, none⟩) (d1.pend.length + 1) cap).ownBlock = some g ∧ w.heap.size ≤ g := by
      rcases hat with e | e
      · exact .inl (by rw [e]; rfl)
      · exact .inr ⟨gg, rfl, by have := hk1.size; simp at this; omega⟩
    have HF := Lib.hid hfin; have HK := Lib.hid hkp; have HB := Lib.hid hblk
    clear hfin hkp hblk hgrow hown1 hat
    go_wp2
    go_ret
    exact HP.out _ _ ⟨_, rfl, HF.out, HK.out, HB.out⟩
set_option maxRecDepth 20000 in
set_option maxHeartbeats 800000 in
theorem disk_Write_no (h : DiskAt w base p s v d) (i : Int) (hi : i < 0 ∨ (d.stable.length : Int) ≤ i) (l : List UInt8) :
    Calls Try.prog 11 #[.pointer (some ⟨p, 0, none⟩), .int .i64 i, .agg (bv l).toArray] w fun e w' => e = .returned (.int .i64 41) ∧ Below w.heap.size w w' := by
  have H1 := Lib.hid (h.below (below_alloc w (.cells (bv l).toArray 28)))
  have HI := Lib.hid hi
  clear h hi
  go_enter Try.func11, Try.ntmps11
  go_wp2_with fail
  refine (disk_there_no H1.out i HI.out).mono ?_
  rintro e w1 ⟨rfl, rfl⟩
  go_wp2_with fail
  go_ret
  exact ⟨rfl, below_alloc w _⟩
set_option maxRecDepth 20000 in
set_option maxHeartbeats 800000 in
theorem disk_Write_dead (h : DiskAt w base p s v d) (k : Nat) (hk : k < d.stable.length) (l : List UInt8) (hpw : d.power.2 = false) :
    Calls Try.prog 11 #[.pointer (some ⟨p, 0, none⟩), .int .i64 k, .agg (bv l).toArray] w fun e w' => e = .returned (.int .i64 42) ∧ DiskAt w' base p s v d.power.1 ∧ Kp (fun k => k = p) w w' := by
  have H1 := Lib.hid (h.below (below_alloc w (.cells (bv l).toArray 28)))
  have HPW := Lib.hid hpw
  clear h hpw
  go_enter Try.func11, Try.ntmps11
  go_wp2_with fail
  refine (disk_there_yes H1.out k hk).mono ?_
  rintro e w1 ⟨rfl, rfl⟩
  go_wp2_with fail
  refine (disk_power H1.out).mono ?_
  rintro e w1 ⟨rfl, hd1, hk1⟩
  rw [HPW.out]
  have HD := Lib.hid hd1
  have HK := Lib.hid ((Kp.of_below (S := fun k => k = p) (below_alloc w _)).trans hk1 (fun _ _ hi => hi))
  clear hd1 hk1
  go_wp2_with fail
  go_ret
  exact ⟨rfl, HD.out, HK.out⟩
end
end Go.Proofs.Ytoghmakbdhepfaa
