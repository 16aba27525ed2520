/- What New, Write of a disk compute. -/
import Derived.Test.YtanibabfdpgbbaaMg7
import Derived.Deep.RegionHeld3
import Derived.Deep.RegionLaw
namespace Go.Proofs.Ytanibabfdpgbbaa
open Go.RowKit

theorem Try.info37 : (Try.prog.info? 32).map (fun i => (i.zero, i.size, i.bytes)) = some (some (.agg Try.zeroCells32), 128, 128) := by kernel_rfl
theorem Try.info157 : (Try.prog.info? 68).map (fun i => (i.zero, i.size, i.bytes)) = some (some (.agg Try.zeroCells68), 129, 136) := by kernel_rfl

/-- A new disk. -/
def newDk (n : Int) : Dk := ⟨List.replicate (max 0 (min n 1024)).toNat zsec, [], -1, false⟩

theorem made_same (z : Array Value) (u : Value) (m : Nat) (hz : 0 < z.size) (h : ∀ j, j < z.size → z[j]? = some u) : (madeCells z m).toList = List.replicate m u := by
  apply List.ext_getElem
  · simp [madeCells]
  · intro i h1 h2
    obtain ⟨hlt, he⟩ := Array.getElem?_eq_some_iff.1 (h (i % z.size) (Nat.mod_lt _ hz))
    simp only [madeCells, Array.toList_map, List.getElem_map, Array.toList_range, List.getElem_range, List.getElem_replicate]
    rw [getElem!_pos z _ hlt, he]
theorem bv_zsec : bv zsec = List.replicate 128 (.int .u8 0) := by
  unfold bv zsec
  rw [List.map_replicate]
  rfl
theorem made_secs (n : Nat) : (madeCells Try.zeroCells32 (n * 128)).toList = secs (List.replicate n zsec) := by
  have e : secs (List.replicate n zsec) = List.replicate (n * 128) (.int .u8 0) := by
    unfold secs zsec bv
    rw [List.flatten_replicate_replicate, List.map_replicate]
    rfl
  rw [e, Try.zero37, bv_zsec]
  refine made_same _ _ _ (by rw [List.size_toArray, List.length_replicate]; omega) fun j hj => ?_
  rw [List.getElem?_toArray]
  rw [List.size_toArray] at hj
  rw [List.getElem?_eq_getElem hj, List.getElem_replicate]

theorem own_full {w : World} {base n size : Nat} {e : TypeId} {s : Nat} {xs : List Value} (h : w.ownsRow base e size (.slice (some ⟨s, 0, none⟩) n n) n xs) : base ≤ s ∧ w.heap[s]? = some (.cells xs.toArray e (0, 0)) := by
  rcases h.2 with ⟨h0, _⟩ | ⟨g, cap, cur, he, hb, hg, _, _, hs, ht⟩
  · cases h0
  · injection he with e1 e2 e3
    injection e1 with e1
    injection e1 with e1
    subst e1 e3
    refine ⟨hb, ?_⟩
    rw [hg, ← ht, List.take_of_length_le (by simp [hs])]

/-- What New leaves. -/
def NewPost (w : World) (n : Int) (e : Ending) (w' : World) : Prop := ∃ p s, e = .returned (.pointer (some ⟨p, 0, none⟩)) ∧ DiskAt w' w.heap.size p s (.slice none 0 0) (newDk n) ∧ Below w.heap.size w w'
set_option maxRecDepth 20000 in
set_option maxHeartbeats 400000 in
theorem disk_New (n : Int) (w : World) : Calls Try.prog 10 #[.int .i64 n] w (NewPost w n) := by
  obtain ⟨i0, hi0, hz0, hz1, hz2⟩ := info_parts Try.info37
  have HI := Lib.hid hi0; have HI0 := Lib.hid hz0; have HI1 := Lib.hid hz1; have HI2 := Lib.hid hz2
  clear hi0 hz0 hz1 hz2
  have main : ∀ m : Nat, m ≤ 1024 → (max 0 (min n 1024)).toNat = m → ∀ w1 : World, w1.ownsRow w.heap.size 32 128 (.slice (some ⟨w.heap.size, 0, none⟩) m m) m (madeCells (Value.agg Try.zeroCells32).cells (m * 128)).toList → w.grownBy w1 none →
      DiskAt (w1.alloc (.cells #[.slice (some ⟨w.heap.size, 0, none⟩) m m, .slice none 0 0, .int .i64 (-1), .bool false] 64)) w.heap.size w1.heap.size w.heap.size (.slice none 0 0) (newDk n) ∧ Below w.heap.size w (w1.alloc (.cells #[.slice (some ⟨w.heap.size, 0, none⟩) m m, .slice none 0 0, .int .i64 (-1), .bool false] 64)) := by
    intro m hm he w1 hown hg
    have hb : Below w.heap.size w w1 := (Below.refl _ _).grown hg (Nat.le_refl _) (fun k hk => by cases hk)
    obtain ⟨_, hs⟩ := own_full hown
    rw [show (madeCells (Value.agg Try.zeroCells32).cells (m * 128)).toList = secs (List.replicate m zsec) from made_secs m] at hs
    have hl : (newDk n).stable.length = m := by simp [newDk, he]
    have hst : (newDk n).stable = List.replicate m zsec := by simp [newDk, he]
    refine ⟨⟨hb.size, Nat.le_refl _, ?_, ?_, World.ownsRow_nil _ _ _ _, by rw [hl]; exact hm, ?_, fun x hx => by simp [newDk] at hx, by simp [newDk]⟩, balloc hb _⟩
    · rw [hl]
      exact heap_alloc_new _ _
    · rw [Go.heap_alloc_old _ _ (lt_of_heap hs)]
      rw [hst]
      exact hs
    · intro x hx
      rw [hst] at hx
      rw [List.eq_of_mem_replicate hx]
      exact zsec_length
  by_cases h0 : n ≤ 0
  · have HM := Lib.hid (main 0 (by omega) (by omega))
    clear main
    go_enter Try.func10, Try.ntmps10
    go_wp2_with (at_make; refine wpList_make_full _ rfl _ _ 33 rfl w.heap.size 32 i0 _ 128 Try.underlying33 HI.out HI0.out HI1.out .i64 .i64 _ _ 0 rfl rfl rfl rfl (by simp) (by simp) (Nat.le_refl _) ?_; intro w1 hown hg)
    obtain ⟨r1, r2⟩ := HM.out w1 hown hg
    go_ret
    exact ⟨_, _, rfl, r1, r2⟩
  · by_cases h1 : n ≤ 1024
    · obtain ⟨m, rfl⟩ := Int.eq_ofNat_of_zero_le (show 0 ≤ n by omega)
      have HM := Lib.hid (main m (by omega) (by omega))
      clear main
      go_enter Try.func10, Try.ntmps10
      go_wp2_with (at_make; refine wpList_make_full _ rfl _ _ 33 rfl w.heap.size 32 i0 _ 128 Try.underlying33 HI.out HI0.out HI1.out .i64 .i64 _ _ m rfl rfl (by omega) (by omega) (by rw [HI2.out]; omega) (by unfold maxLen; omega) (Nat.le_refl _) ?_; intro w1 hown hg)
      obtain ⟨r1, r2⟩ := HM.out w1 hown hg
      go_ret
      exact ⟨_, _, rfl, r1, r2⟩
    · have HM := Lib.hid (main 1024 (by omega) (by omega))
      clear main
      go_enter Try.func10, Try.ntmps10
      go_wp2_with (at_make; refine wpList_make_full _ rfl _ _ 33 rfl w.heap.size 32 i0 _ 128 Try.underlying33 HI.out HI0.out HI1.out .i64 .i64 _ _ 1024 rfl rfl (by omega) (by omega) (by rw [HI2.out]; omega) (by unfold maxLen; omega) (Nat.le_refl _) ?_; intro w1 hown hg)
      obtain ⟨r1, r2⟩ := HM.out w1 hown hg
      go_ret
      exact ⟨_, _, rfl, r1, r2⟩
end Go.Proofs.Ytanibabfdpgbbaa

/- What Write of a disk computes. -/
namespace Go.Proofs.Ytanibabfdpgbbaa
open Go.RowKit

attribute [local go_sem ↓] loadAt37 build157 buildSlice152

/-- What a Write that is done leaves. -/
def WritePost (w : World) (base p s : Nat) (v : Value) (d : Dk) (k : Nat) (l : List UInt8) (e : Ending) (w' : World) : Prop :=
  ∃ v', e = .returned (.int .i64 0) ∧ DiskAt w' base p s v' { d.power.1 with pend := d.pend ++ [(k, l)] } ∧ Kp (foot p s v) w w' ∧ (v'.ownBlock = v.ownBlock ∨ ∃ g, v'.ownBlock = some g ∧ w.heap.size ≤ g)

theorem disk_pushed {w1 w2 : World} {base p s : Nat} {v v2 : Value} {d : Dk} (h : DiskAt w1 base p s v d) (o : Obj) (hg : ((w1.alloc o).drew).grownBy w2 v.ownBlock) (k : Nat) (l : List UInt8)
    (hown : w2.ownsRow base 68 129 v2 (d.pend.length + 1) (pcells d.pend ++ (Value.int .i64 (k : Int) :: bv l))) (hk : k < d.stable.length) (hl : l.length = 128) :
    DiskAt (w2.setCell ⟨p, 1, none⟩ v2) base p s v2 { d with pend := d.pend ++ [(k, l)] } := by
  have hp : w2.heap[p]? = w1.heap[p]? := by
    rw [hg.block p (by simp; have := h.plt; omega) (fun e => h.vp e.symm)]
    exact Go.heap_alloc_old _ _ h.plt
  have hs : w2.heap[s]? = w1.heap[s]? := by
    rw [hg.block s (by simp; have := h.slt; omega) (fun e => h.vs e.symm)]
    exact Go.heap_alloc_old _ _ h.slt
  have hobj : w2.heap[p]? = some (.cells #[.slice (some ⟨s, 0, none⟩) d.stable.length d.stable.length, v, .int .i64 d.fuel, .bool d.dead] 64 (0, 0)) := hp.trans h.obj
  refine ⟨h.hp, h.hs, ?_, ?_, ?_, h.len, h.wid, ?_, h.fu⟩
  · rw [heap_setCell_same w2 p 1 _ _ v2 hobj]; rfl
  · rw [heap_setCell_other w2 ⟨p, 1, none⟩ s v2 (Ne.symm h.ps), hs]; exact h.sta
  · have e : pcells (d.pend ++ [(k, l)]) = pcells d.pend ++ (Value.int .i64 (k : Int) :: bv l) := by simp [pcells]
    rw [e]
    simp only [List.length_append, List.length_cons, List.length_nil, Nat.zero_add]
    exact own_setCell hown _ _ (own_ne hown hobj (by decide))
  · intro x hx
    rcases List.mem_append.1 hx with hx | hx
    · exact h.pin x hx
    · rw [List.mem_singleton.1 hx]; exact ⟨hk, hl⟩

theorem pen_one (k : Nat) (l : List UInt8) : ∀ u ∈ Value.int .i64 (k : Int) :: bv l, u.oneCell' = true := fun u hu => by
  rcases List.mem_cons.1 hu with rfl | hu
  · rfl
  · exact bv_one _ u hu

section
variable {w : World} {base p s : Nat} {v : Value} {d : Dk}
set_option maxRecDepth 20000 in
set_option maxHeartbeats 800000 in
theorem disk_Write_yes (h : DiskAt w base p s v d) (hbase : base ≤ w.heap.size) (k : Nat) (hk : k < d.stable.length) (l : List UInt8) (hl : l.length = 128) (hpw : d.power.2 = true) (hpl : d.pend.length ≤ 1000000) :
    Calls Try.prog 15 #[.pointer (some ⟨p, 0, none⟩), .int .i64 k, .agg (bv l).toArray] w (WritePost w base p s v d k l) := by
  have HPW := Lib.hid hpw
  have H1 := Lib.hid (h.below (below_alloc w (.cells (bv l).toArray 32)))
  have HR := Lib.hid (range_alloc w (bv l) 32 (0, 0))
  have hp0 := h.plt
  have hvb : v.ownBlock ≠ some w.heap.size := fun e => by have := (h.pen.lt _ e).2; omega
  clear hpw h
  go_enter Try.func15, Try.ntmps15
  go_wp2_with fail
  refine (disk_there_yes H1.out k hk).mono ?_
  rintro e w1 ⟨rfl, rfl⟩
  go_wp2_with fail
  refine (disk_power H1.out).mono ?_
  rintro e w1 ⟨rfl, hd1, hk1⟩
  rw [HPW.out]
  have e1 : d.power.1.pend = d.pend := by unfold Dk.power; split <;> rfl
  have e2 : d.power.1.stable = d.stable := by unfold Dk.power; split <;> rfl
  have hpl1 : d.power.1.pend.length ≤ 1000000 := by rw [e1]; exact hpl
  have HP : Hid (∀ e w', (∃ v', e = .returned (.int .i64 0) ∧ DiskAt w' base p s v' { d.power.1 with pend := d.power.1.pend ++ [(k, l)] } ∧ Kp (foot p s v) w w' ∧ (v'.ownBlock = v.ownBlock ∨ ∃ g, v'.ownBlock = some g ∧ w.heap.size ≤ g)) → WritePost w base p s v d k l e w') := Lib.hid fun e w' h => by
    rw [e1] at h
    exact h
  have HE2 := Lib.hid e2
  clear e1 e2
  generalize d.power.1 = d1 at *
  have c1 := hd1.c1
  have f1 := hd1.fz 1
  have hp1 := hd1.plt
  have HR1 := Lib.hid (range_kp HR.out hk1 (by omega))
  have HD := Lib.hid hd1
  clear hd1
  go_wp2_with fail
  have hld := run_ldSec (w := w1.drew) HR1.out hl
  have hbp := fun W => run_bldPen W k l hl
  have hbs := fun W => run_bldPens W (Value.int .i64 (k : Int) :: bv l) (by simp [bv_length, hl])
  obtain ⟨i0, hi0, hz0, hz1, hz2⟩ := info_parts Try.info157
  have HI := Lib.hid hi0; have HI0 := Lib.hid hz0; have HI1 := Lib.hid hz1; have HI2 := Lib.hid hz2
  clear hi0 hz0 hz1 hz2
  go_region_law ((refine step_append_lies _ (by rfl) _ _ _ (by rfl) base 68 i0 _ 129 136 Try.underlying62 HI.out HI0.out HI1.out HI2.out rfl (by omega) v d1.pend.length _ (by rfl) ((HD.out.pen.alloc _).drew) ⟨w1.heap.size, 0, none⟩ 1 1 (Value.int .i64 (k : Int) :: bv l) (by rfl) (by simp [bv_length, hl]) (World.news_of_block (cs := (Value.int .i64 (k : Int) :: bv l).toArray) (t := 68) (fr := (0, 0)) (heap_alloc_new w1 _)) (pen_one k l) (by omega) (by simp [maxLen]; omega) (by omega) (by have := hk1.size; simp at this; simp; omega) (w1.heap.size + 1) (by simp) ?_; intro gg cap w2 hown1 hgrow hat hlt2; have c1' : w2.cell? ⟨p, 1, none⟩ = some v := (hgrow.cell_far _ (by simp; omega) (Ne.symm HD.out.vp)).trans (by simp [go_sem, c1, hp1]); have f1' : w2.frozen? ⟨p, 1, none⟩ = false := (hgrow.frozen_far _ (by simp; omega) (Ne.symm HD.out.vp)).trans (by simp [go_sem, f1, hp1])))
  all_goals
    have hfin : DiskAt (w2.setCell ⟨p, 1, none⟩ (.slice (some ⟨gg, 0, none⟩) (d1.pend.length + 1) cap)) base p s (.slice (some ⟨gg, 0, none⟩) (d1.pend.length + 1) cap) { d1 with pend := d1.pend ++ [(k, l)] } :=
      disk_pushed HD.out _ hgrow k l hown1 (by rw [HE2.out]; exact hk) hl
    have hkp : Kp (foot p s v) w (w2.setCell ⟨p, 1, none⟩ (.slice (some ⟨gg, 0, none⟩) (d1.pend.length + 1) cap)) :=
      ((((Kp.of_below (below_alloc w _)).trans hk1 (fun i _ hi => .inl hi)).alloc _).drew.trans (Kp.of_grown (S := foot p s v) hgrow (fun i hi => .inr (.inr hi))) (fun _ _ hi => hi)).setCell _ _ (fun _ => .inl rfl)
    have hblk : (Value.slice (some ⟨gg, 0, none⟩) (d1.pend.length + 1) cap).ownBlock = v.ownBlock ∨ ∃ g, (Value.slice (some ⟨gg, 0, none⟩) (d1.pend.length + 1) cap).ownBlock = some g ∧ w.heap.size ≤ g := by
      rcases hat with e | e
      · exact .inl (by rw [e]; rfl)
      · exact .inr ⟨gg, rfl, by have := hk1.size; simp at this; omega⟩
    have HF := Lib.hid hfin; have HK := Lib.hid hkp; have HB := Lib.hid hblk
    clear hfin hkp hblk hgrow hown1 hat
    go_wp2
    go_ret
    exact HP.out _ _ ⟨_, rfl, HF.out, HK.out, HB.out⟩
set_option maxRecDepth 20000 in
set_option maxHeartbeats 800000 in
theorem disk_Write_no (h : DiskAt w base p s v d) (i : Int) (hi : i < 0 ∨ (d.stable.length : Int) ≤ i) (l : List UInt8) :
    Calls Try.prog 15 #[.pointer (some ⟨p, 0, none⟩), .int .i64 i, .agg (bv l).toArray] w fun e w' => e = .returned (.int .i64 41) ∧ Below w.heap.size w w' := by
  have H1 := Lib.hid (h.below (below_alloc w (.cells (bv l).toArray 32)))
  have HI := Lib.hid hi
  clear h hi
  go_enter Try.func15, Try.ntmps15
  go_wp2_with fail
  refine (disk_there_no H1.out i HI.out).mono ?_
  rintro e w1 ⟨rfl, rfl⟩
  go_wp2_with fail
  go_ret
  exact ⟨rfl, below_alloc w _⟩
set_option maxRecDepth 20000 in
set_option maxHeartbeats 800000 in
theorem disk_Write_dead (h : DiskAt w base p s v d) (k : Nat) (hk : k < d.stable.length) (l : List UInt8) (hpw : d.power.2 = false) :
    Calls Try.prog 15 #[.pointer (some ⟨p, 0, none⟩), .int .i64 k, .agg (bv l).toArray] w fun e w' => e = .returned (.int .i64 42) ∧ DiskAt w' base p s v d.power.1 ∧ Kp (fun k => k = p) w w' := by
  have H1 := Lib.hid (h.below (below_alloc w (.cells (bv l).toArray 32)))
  have HPW := Lib.hid hpw
  clear h hpw
  go_enter Try.func15, Try.ntmps15
  go_wp2_with fail
  refine (disk_there_yes H1.out k hk).mono ?_
  rintro e w1 ⟨rfl, rfl⟩
  go_wp2_with fail
  refine (disk_power H1.out).mono ?_
  rintro e w1 ⟨rfl, hd1, hk1⟩
  rw [HPW.out]
  have HD := Lib.hid hd1
  have HK := Lib.hid ((Kp.of_below (S := fun k => k = p) (below_alloc w _)).trans hk1 (fun _ _ hi => hi))
  clear hd1 hk1
  go_wp2_with fail
  go_ret
  exact ⟨rfl, HD.out, HK.out⟩
end
end Go.Proofs.Ytanibabfdpgbbaa

/- What Flush of a disk computes. -/
namespace Go.Proofs.Ytanibabfdpgbbaa
open Go.RowKit
attribute [local go_sem ↓] loadAt37 storeAt37

/-- The disk when all writes are stable. -/
def Dk.flushed (d : Dk) : Dk := { d with stable := applyW d.stable d.pend, pend := [] }
section
variable {w : World} {base p s : Nat} {v : Value} {d : Dk}
theorem disk_Flush_dead (h : DiskAt w base p s v d) (hpw : d.power.2 = false) :
    Calls Try.prog 38 #[.pointer (some ⟨p, 0, none⟩)] w fun e w' => e = .returned (.int .i64 42) ∧ DiskAt w' base p s v d.power.1 ∧ Kp (fun k => k = p) w w' := by
  have H := Lib.hid h
  have HPW := Lib.hid hpw
  clear h hpw
  go_enter Try.func38, Try.ntmps38
  go_wp2_with fail
  refine (disk_power H.out).mono ?_
  rintro e w1 ⟨rfl, hd1, hk1⟩
  rw [HPW.out]
  have HD := Lib.hid hd1; have HK := Lib.hid hk1
  clear hd1 hk1
  go_wp2_with fail
  go_ret
  exact ⟨rfl, HD.out, HK.out⟩

theorem power_pend (d : Dk) : d.power.1.pend = d.pend := by unfold Dk.power; split <;> rfl
theorem power_stable (d : Dk) : d.power.1.stable = d.stable := by unfold Dk.power; split <;> rfl

set_option maxRecDepth 20000 in
set_option maxHeartbeats 1600000 in
theorem disk_Flush_yes (h : DiskAt w base p s v d) (hpw : d.power.2 = true) (hpl : d.pend.length ≤ 1000000) :
    Calls Try.prog 38 #[.pointer (some ⟨p, 0, none⟩)] w fun e w' => e = .returned (.int .i64 0) ∧ DiskAt w' base p s (.slice none 0 0) d.power.1.flushed ∧ Kp (foot p s v) w w' := by
  obtain ⟨A, c, rfl⟩ := own_form h.pen
  have H := Lib.hid h
  have HPW := Lib.hid hpw
  have hpl1 : d.power.1.pend.length ≤ 1000000 := by rw [power_pend]; exact hpl
  have hpe : d.power.1.pend.length = d.pend.length := by rw [power_pend]
  have HPE := Lib.hid hpe
  clear h hpw hpe
  go_enter Try.func38, Try.ntmps38
  go_wp2_with fail
  refine (disk_power H.out).mono ?_
  rintro e w1 ⟨rfl, hd1, hk1⟩
  rw [HPW.out]
  generalize hgen : d.power.1 = d1 at *
  have HG := Lib.hid hgen; clear hgen
  have c1 := hd1.c1
  have HD := Lib.hid hd1; have HK := Lib.hid hk1
  clear hd1 hk1
  go_wp2_with fail
  go_loopw [13] (fun i wr => ∃ k : Nat, k ≤ d.pend.length ∧ i = .int .i64 k ∧ Hid (DiskAt wr base p s (.slice A d.pend.length c) { d1 with stable := applyW d1.stable (d1.pend.take k) }) ∧ Hid (Kp (foot p s (.slice A d.pend.length c)) w1 wr)) (fun i _ => d.pend.length - (intOf i).toNat)
  case atStart => exact ⟨0, by omega, rfl, HD, Lib.hid (Kp.refl _ _)⟩
  case round =>
    obtain ⟨k, hk, rfl, HW, HKW⟩ := hrel
    by_cases hlt : k < d.pend.length
    · obtain ⟨g, rfl, hg, -, hr⟩ := HW.out.pcell k (show k < d1.pend.length by rw [HPE.out]; exact hlt)
      obtain ⟨hpin, hln⟩ := HW.out.pin' k (show k < d1.pend.length by rw [HPE.out]; exact hlt)
      have hpin' : (penAt d1.pend k).1 < (applyW d1.stable (d1.pend.take k)).length := hpin
      have hr' : wr.rangeAt g (k * 129) (Value.int .i64 ((penAt d1.pend k).1 : Int) :: bv (penAt d1.pend k).2) := hr
      have hln' : (penAt d1.pend k).2.length = 128 := hln
      have hnx := applyW_take d1.stable d1.pend k (by rw [HPE.out]; exact hlt)
      clear hpin hr hln
      generalize penAt d1.pend k = x at *
      obtain ⟨x1, x2⟩ := x
      simp only at hpin' hr' hln' hnx
      have HR := Lib.hid hr'; have HL := Lib.hid hln'; have HN := Lib.hid hnx
      have hlen : (applyW d1.stable (d1.pend.take k)).length = d1.stable.length := applyW_length _ _
      have hx0 : (0 : Int) ≤ (x1 : Int) := Int.natCast_nonneg _
      have hx1 : (x1 : Int) < ((applyW d1.stable (d1.pend.take k)).length : Int) := by omega
      have hk0 : (0 : Int) ≤ (k : Int) := Int.natCast_nonneg _
      have hk1 : (k : Int) < (d.pend.length : Int) := by omega
      have H2 := Lib.hid (HW.out.below (below_alloc wr (.cells (Value.int .i64 (x1 : Int) :: bv x2).toArray 68)))
      have HLEN := Lib.hid hlen
      clear hr' hln' hnx hlen hpin'
      go_wp2_with (first | (refine ld157 rfl _ rfl g (k * 129) rfl (x1, x2) HR.out HL.out ?_) | (refine st157 rfl _ _ rfl _ _ rfl rfl (x1, x2) rfl HL.out rfl ?_))
      have c0 := H2.out.c0
      have hld := run_ldSec (w := (wr.alloc (.cells (Value.int .i64 (x1 : Int) :: bv x2).toArray 68)).drew) (range_alloc1 wr (Value.int .i64 (x1 : Int)) (bv x2) 68 (0, 0)) HL.out
      have hst := run_stSec (w := (wr.alloc (.cells (Value.int .i64 (x1 : Int) :: bv x2).toArray 68)).drew) (H2.out.sthere x1 (by simpa using hx1)) HL.out
      have hpz : p < wr.heap.size := HW.out.plt
      have hfin : DiskAt ((wr.alloc (.cells (Value.int .i64 (x1 : Int) :: bv x2).toArray 68)).drew.setCells s (x1 * 128) (bv x2)) base p s (.slice (some ⟨g, 0, none⟩) d.pend.length c) { d1 with stable := applyW d1.stable (d1.pend.take (k + 1)) } := by
        rw [HN.out]
        exact H2.out.drew.setSec x1 x2 (by simpa using hx1) HL.out
      have hkp : Kp (foot p s (.slice (some ⟨g, 0, none⟩) d.pend.length c)) w1 ((wr.alloc (.cells (Value.int .i64 (x1 : Int) :: bv x2).toArray 68)).drew.setCells s (x1 * 128) (bv x2)) :=
        kp_setCells s _ _ _ (HKW.out.alloc _).drew (fun _ => .inr (.inl rfl))
      have HF := Lib.hid hfin; have HK2 := Lib.hid hkp
      clear hfin hkp
      go_region_law (fail)
      all_goals
        go_wp2
        go_roundw
        case rel => exact ⟨k + 1, by omega, by go_num, HF, HK2⟩
        case measure => simp [intOf]; omega
    · obtain rfl : k = d.pend.length := by omega
      have hfin := HW.out.set1 (.slice none 0 0) [] (World.ownsRow_nil _ _ _ _) (fun x hx => by cases hx)
      have hkp : Kp (foot p s (.slice A d.pend.length c)) w (wr.setCell ⟨p, 1, none⟩ (.slice none 0 0)) :=
        ((HK.out.imp (S' := foot p s (.slice A d.pend.length c)) (fun i _ h => .inl h)).trans HKW.out (fun i _ hi => hi)).setCell _ _ (fun _ => .inl rfl)
      rw [List.take_of_length_le (by rw [HPE.out]; exact Nat.le_refl _)] at hfin
      have c1' := HW.out.c1
      have f1' := HW.out.fz 1
      have HF := Lib.hid hfin; have HK2 := Lib.hid hkp
      clear hfin hkp
      go_wp2_with fail
      go_ret
      exact ⟨rfl, by rw [HG.out]; exact HF.out, HK2.out⟩
end
end Go.Proofs.Ytanibabfdpgbbaa

/- More on disks as data: live disks; what is read behind a write and a flush. -/
namespace Go.Proofs.Ytanibabfdpgbbaa
open Go.RowKit

theorem power_live (d : Dk) (h : d.dead = false) (hf : d.fuel < 0) : d.power = (d, true) := by
  unfold Dk.power
  have hn : ¬ (d.dead = true ∨ d.fuel = 0) := fun h1 => by
    rcases h1 with h1 | h1
    · rw [h] at h1; cases h1
    · omega
  rw [if_neg hn, if_neg (by omega)]
/-- A live disk: it has no fuel to run out of. -/
def Dk.live (d : Dk) : Prop := d.fuel = -1 ∧ d.dead = false
theorem Dk.live.power {d : Dk} (h : d.live) : d.power = (d, true) := power_live d h.2 (by rw [h.1]; decide)

theorem applyW_append (st : List (List UInt8)) (l l' : List (Nat × List UInt8)) : applyW st (l ++ l') = applyW (applyW st l) l' := List.foldl_append
theorem secAt_applyW : ∀ (l : List (Nat × List UInt8)) (st : List (List UInt8)) (k : Nat), (∀ x ∈ l, x.1 < st.length) → secAt (applyW st l) k = lastW l k (secAt st k)
  | [], _, _, _ => rfl
  | x :: l, st, k, h => by
    have hx := h x List.mem_cons_self
    show secAt (applyW (st.set x.1 x.2) l) k = lastW l k (if x.1 = k then x.2 else secAt st k)
    rw [secAt_applyW l _ k (fun y hy => by rw [List.length_set]; exact h y (List.mem_cons_of_mem _ hy))]
    congr 1
    by_cases e : x.1 = k
    · subst e
      rw [if_pos rfl, secAt, List.getD_eq_getElem?_getD, List.getElem?_set_self hx]
      rfl
    · rw [if_neg e, secAt, List.getD_eq_getElem?_getD, List.getElem?_set_ne e, secAt, List.getD_eq_getElem?_getD]
theorem read_flushed (d : Dk) (k : Nat) (h : ∀ x ∈ d.pend, x.1 < d.stable.length) : d.flushed.read k = d.read k := by
  show lastW [] k (secAt (applyW d.stable d.pend) k) = lastW d.pend k (secAt d.stable k)
  rw [secAt_applyW _ _ _ h]
  rfl
theorem read_push (d : Dk) (k i : Nat) (l : List UInt8) : ({ d with pend := d.pend ++ [(i, l)] } : Dk).read k = if i = k then l else d.read k := by
  show lastW (d.pend ++ [(i, l)]) k (secAt d.stable k) = _
  rw [lastW_append]
  rfl
theorem read_len {w : World} {base p s : Nat} {v : Value} {d : Dk} (h : DiskAt w base p s v d) (k : Nat) (hk : k < d.stable.length) : (d.read k).length = 128 :=
  lastW_len _ _ _ (h.swid k hk) (fun x hx => (h.pin x hx).2)
end Go.Proofs.Ytanibabfdpgbbaa

/- super.Write: on a live disk that waits for nothing. -/
namespace Go.Proofs.Ytanibabfdpgbbaa
open Go.RowKit
attribute [local go_sem ↓] loadAt37

theorem Try.sizeSuper : (Try.prog.info? 24).map (·.size) = some 6 := by kernel_rfl
/-- The super's numbers, in the order of the body. -/
def numF (n : Nat) : FieldD := ⟨n, none, 0, 0, []⟩
def atN (ns : List Nat) (k : Nat) : Nat := ns.getD k 0
def superSh : List UInt8 := [52, 50, 50, 52, 50]
def bodyL (r b q c e : Nat) : List UInt8 := be r 4 ++ (be b 2 ++ (be q 2 ++ (be c 4 ++ be e 2)))
theorem bodyL_length (r b q c e : Nat) : (bodyL r b q c e).length = 14 := by simp [bodyL, be_length]
theorem super_pack (r b q c e : Nat) (hr : r ≤ 1024) (hb : b ≤ 255) (hq : q ≤ 48) (hc : c ≤ 1024) (he : e ≤ 65535) (l : List FieldD) (hl : vals l = [(r, []), (b, []), (q, []), (c, []), (e, [])]) : packM superSh l = some (bodyL r b q c e) := by
  have hlen : l.length = 5 := by have := congrArg List.length hl; simpa [vals] using this
  refine (packM_iff _ _ _).2 ⟨by decide, by rw [hlen]; rfl, ?_⟩
  rw [hl]
  have w4 : letterW 52 = some (3 + 1) := by decide
  have w2 : letterW 50 = some (1 + 1) := by decide
  simp only [superSh, packL, encV, w4, w2]
  rw [if_pos (show r < 256 ^ (3 + 1) by omega), if_pos (show b < 256 ^ (1 + 1) by omega), if_pos (show q < 256 ^ (1 + 1) by omega), if_pos (show c < 256 ^ (3 + 1) by omega), if_pos (show e < 256 ^ (1 + 1) by omega)]
  simp [bodyL]
theorem super_unpack (r b q c e : Nat) (hr : r ≤ 1024) (hb : b ≤ 255) (hq : q ≤ 48) (hc : c ≤ 1024) (he : e ≤ 65535) : unpackM superSh (bodyL r b q c e) = some [(r, []), (b, []), (q, []), (c, []), (e, [])] := by
  have h := back_of (super_pack r b q c e hr hb hq hc he [numF r, numF b, numF q, numF c, numF e] rfl)
  rw [h]
  rfl
/-- What Write leaves. -/
def SWrite (w : World) (base p s : Nat) (v : Value) (d : Dk) (gen : Nat) (body : List UInt8) (e : Ending) (w' : World) : Prop :=
  ∃ d', e = .returned (.int .i64 0) ∧ DiskAt w' base p s (.slice none 0 0) d' ∧ d'.live ∧ d'.pend = [] ∧ d'.stable.length = d.stable.length ∧ (∀ k, d'.read k = if gen % 2 = k then sealL gen body else d.read k) ∧ Kp (foot p s v) w w'
set_option maxRecDepth 20000 in
set_option maxHeartbeats 6400000 in
theorem super_Write (gen r b q c e : Nat) (hg1 : 1 ≤ gen) (hg2 : gen ≤ 281474976710655) (hr : r ≤ 1024) (hb : b ≤ 255) (hq : q ≤ 48) (hc : c ≤ 1024) (he : e ≤ 65535)
    {w : World} {base p s : Nat} {v : Value} {d : Dk} (h : DiskAt w base p s v d) (hbase : base ≤ w.heap.size) (hlive : d.live) (hpl : d.pend.length ≤ 1000) (hlen : 2 ≤ d.stable.length) :
    Calls Try.prog 18 #[.pointer (some ⟨p, 0, none⟩), SD.v ⟨gen, r, b, q, c, e⟩] w (SWrite w base p s v d gen (bodyL r b q c e)) := by
  have HD := Lib.hid h
  have hright : (⟨gen, r, b, q, c, e⟩ : SD).right := ⟨hg1, hg2, ⟨by show (0 : Int) ≤ (r : Int); omega, by show (r : Int) ≤ 1024; omega⟩, ⟨by show (0 : Int) ≤ (c : Int); omega, by show (c : Int) ≤ 1024; omega⟩, ⟨by show (0 : Int) ≤ (b : Int); omega, by show (b : Int) ≤ 255; omega⟩, ⟨by show (0 : Int) ≤ (q : Int); omega, by show (q : Int) ≤ 48; omega⟩, ⟨by show (0 : Int) ≤ (e : Int); omega, by show (e : Int) ≤ 65535; omega⟩⟩
  have HRT := Lib.hid hright
  have HX := Lib.hid (RowAt.new w 24 (SD.cells ⟨gen, r, b, q, c, e⟩))
  have HB1 := Lib.hid (below_alloc w (.cells (SD.cells ⟨gen, r, b, q, c, e⟩).toArray 24))
  have HBND : Hid (r ≤ 1024 ∧ b ≤ 255 ∧ q ≤ 48 ∧ c ≤ 1024 ∧ e ≤ 65535) := Lib.hid ⟨hr, hb, hq, hc, he⟩
  have HGN : Hid (1 ≤ gen ∧ gen ≤ 281474976710655) := Lib.hid ⟨hg1, hg2⟩
  have HPL := Lib.hid hpl; have HLV := Lib.hid hlive; have HLN := Lib.hid hlen; have HBS := Lib.hid hbase
  clear h hright hr hb hq hc he hg1 hg2 hpl hlive hlen hbase
  unfold SD.cells at HX HB1
  unfold SD.v
  dsimp only at HX HB1 ⊢
  go_enter Try.func18, Try.ntmps18
  go_wp2_with (refine ldN 24 [.int .u64 gen, .int .i64 r, .int .i64 b, .int .i64 q, .int .i64 c, .int .i64 e] rfl _ rfl w.heap.size 0 rfl HX.out.range Try.underlying24 rfl Try.sizeSuper ?_)
  refine (super_Right ⟨gen, r, b, q, c, e⟩ _).mono ?_
  rw [decide_eq_true HRT.out]
  rintro e' w2 ⟨rfl, hb2⟩
  have HX2 := Lib.hid (HX.out.below hb2); have HB2 := Lib.hid (bthen HB1.out hb2)
  have hx1 := HX2.out.cell 1 _ rfl
  have hx2 := HX2.out.cell 2 _ rfl
  have hx3 := HX2.out.cell 3 _ rfl
  have hx4 := HX2.out.cell 4 _ rfl
  have hx5 := HX2.out.cell 5 _ rfl
  clear hb2
  go_wp2_with fail
  have HV := Lib.hid (RowAt.new w2 3 [.int .i64 r, .int .i64 b, .int .i64 q, .int .i64 c, .int .i64 e])
  have HBV := Lib.hid (balloc HB2.out (.cells #[.int .i64 r, .int .i64 b, .int .i64 q, .int .i64 c, .int .i64 e] 3))
  have HXV := Lib.hid (HX2.out.below (below_alloc w2 (.cells #[.int .i64 r, .int .i64 b, .int .i64 q, .int .i64 c, .int .i64 e] 3)))
  have hnv : ∀ k, k < 5 → ([.int .i64 r, .int .i64 b, .int .i64 q, .int .i64 c, .int .i64 e] : List Value)[k]? = some (.int .i64 ((atN [r, b, q, c, e] k : Nat) : Int)) ∧ atN [r, b, q, c, e] k ≤ 65535 := fun k hk => by
    have := HBND.out
    match k, hk with
    | 0, _ => exact ⟨rfl, by show r ≤ 65535; omega⟩
    | 1, _ => exact ⟨rfl, by show b ≤ 65535; omega⟩
    | 2, _ => exact ⟨rfl, by show q ≤ 65535; omega⟩
    | 3, _ => exact ⟨rfl, by show c ≤ 65535; omega⟩
    | 4, _ => exact ⟨rfl, by show e ≤ 65535; omega⟩
  have hvs : ∀ k, k < 5 → ([(r, []), (b, []), (q, []), (c, []), (e, [])] : List (Nat × List UInt8)).take (k + 1) = ([(r, []), (b, []), (q, []), (c, []), (e, [])] : List (Nat × List UInt8)).take k ++ [(atN [r, b, q, c, e] k, [])] := fun k hk => by
    match k, hk with
    | 0, _ => rfl
    | 1, _ => rfl
    | 2, _ => rfl
    | 3, _ => rfl
    | 4, _ => rfl
  have HNV := Lib.hid hnv; have HVS := Lib.hid hvs
  clear hnv hvs hx1 hx2 hx3 hx4 hx5
  generalize hw3 : w2.alloc (.cells #[.int .i64 r, .int .i64 b, .int .i64 q, .int .i64 c, .int .i64 e] 3) = w3 at *
  clear hw3
  generalize hg2 : w2.heap.size = g2 at *
  clear hg2
  go_loopw [5, 28] (fun u i wr => ∃ k lk, k ≤ 5 ∧ i = .int .i64 (k : Nat) ∧ Hid (OFields wr w3.heap.size u lk) ∧ Hid (lk.length = k) ∧ Hid (vals lk = ([(r, []), (b, []), (q, []), (c, []), (e, [])] : List (Nat × List UInt8)).take k) ∧ Hid (Below w3.heap.size w3 wr)) (fun _ i _ => 5 - (intOf i).toNat)
  case atStart => exact ⟨0, [], by omega, rfl, Lib.hid ⟨World.ownsRow_nil _ _ _ _, by simp, by simp, by simp⟩, Lib.hid rfl, Lib.hid rfl, Lib.hid (Below.refl _ _)⟩
  case round =>
    obtain ⟨k, lk, hk, rfl, HO, HK, HVL, HBr⟩ := hrel
    by_cases hlt : k < 5
    · have hk0 : (0 : Int) ≤ (k : Int) := Int.natCast_nonneg _
      have hk1 : (k : Int) < 5 := by omega
      obtain ⟨hv1, hv2⟩ := HNV.out k hlt
      have hcell := (HV.out.below HBr.out).cell k _ hv1
      have HVS1 := Lib.hid (HVS.out k hlt)
      generalize atN [r, b, q, c, e] k = nk at *
      have hn0 : (0 : Int) ≤ (nk : Int) := Int.natCast_nonneg _
      have hwr : IntKind.u64.wrap (nk : Int) = (nk : Int) := wrap_u64 nk (by omega)
      clear hv1
      go_wp2_with (at_builtin; go_must (refine wpList_append_any (w0 := wr.alloc (.cells #[.int .u64 nk, .slice none 0 0] 83)) w3.heap.size rfl _ _ 79 83 (.agg #[.int .u64 0, .slice none 0 0]) 2 32 rfl Try.underlying79 Try.info87 rfl (by decide) (by decide) u5 lk.length (fcells lk) (some ⟨wr.heap.size, 0, none⟩) 1 1 [.int .u64 nk, .slice none 0 0] rfl rfl (HO.out.alloc _).row ⟨rfl, fun _ => ⟨_, _, rfl, fun j v hj => by rw [World.cell?_alloc_mark, Nat.zero_add]; simpa using hj⟩⟩ (by simp [Value.oneCell']) (by rw [HK.out]; omega) (Below.refl _ _) (by have := HBr.out.size; simp; omega) ?_; intro v5 w5 hown5 hb5 hg5 ha5; have h5 : Hid (Below w3.heap.size w3 w5) := Lib.hid ((HBr.out.alloc HBr.out.size _).trans hb5); have ho5 : Hid (OFields w5 w3.heap.size v5 (lk ++ [⟨nk, none, 0, 0, []⟩])) := Lib.hid ((HO.out.alloc _).push ⟨nk, none, 0, 0, []⟩ (by show nk < 18446744073709551616; omega) (by simp) (World.ownsRow_nil _ _ _ _) hg5 hown5); clear hown5 hb5 hg5 ha5))
      go_roundw
      case rel => exact ⟨k + 1, lk ++ [⟨nk, none, 0, 0, []⟩], by omega, by go_num, ho5, Lib.hid (by rw [List.length_append, HK.out]; rfl), Lib.hid (by rw [HVS1.out, ← HVL.out]; simp [vals]), h5⟩
      case measure => simp [intOf]; omega
    · obtain rfl : k = 5 := by omega
      have hvl : vals lk = [(r, []), (b, []), (q, []), (c, []), (e, [])] := HVL.out
      obtain ⟨A5, c5, rfl, hrf⟩ := HO.out.read
      have HP := Lib.hid (codec_Pack superSh A5 lk.length c5 lk wr hrf)
      rw [super_pack r b q c e HBND.out.1 HBND.out.2.1 HBND.out.2.2.1 HBND.out.2.2.2.1 HBND.out.2.2.2.2 lk hvl] at HP
      have HBW := Lib.hid (bthen HBV.out HBr.out)
      have HXR := Lib.hid (HXV.out.below HBr.out)
      clear hvl hrf HNV HVS HVL HO
      go_wp2_with fail
      refine HP.out.mono ?_
      clear HP
      rintro e' w6 ⟨hb6, ⟨v6, o6, ho6, rfl, hown6⟩ | ⟨hno, -⟩⟩
      · injection ho6 with ho6
        subst ho6
        obtain ⟨A6, c6, rfl, hrb6⟩ := own_rb hown6
        rw [bodyL_length] at hrb6 ⊢
        have HR6 := Lib.hid hrb6; have HB6 := Lib.hid (bthen HBW.out hb6)
        have HX6 := Lib.hid (HXR.out.below hb6)
        have hx0 := HX6.out.cell 0 _ rfl
        clear hb6 hown6 hrb6
        go_wp2_with fail
        refine (seal_Make gen (by have := HGN.out; omega) A6 14 c6 (bodyL r b q c e) w6 HR6.out (by omega)).mono ?_
        have hmk : makeM gen (bodyL r b q c e) = some (sealL gen (bodyL r b q c e)) := by unfold makeM; rw [if_neg (by rw [bodyL_length]; have := HGN.out; omega)]
        rw [hmk]
        rintro e' w7 ⟨l7, e7, rfl, hl7, hb7, ⟨hs7, rfl⟩ | ⟨hno, -⟩⟩
        · injection hs7 with hs7
          have HL7 := Lib.hid hl7; have HS7 := Lib.hid hs7
          have HB7 := Lib.hid (balloc (bthen HB6.out hb7) (.cells (bv l7).toArray 32))
          have HX7 := Lib.hid ((HX6.out.below hb7).below (below_alloc w7 (.cells (bv l7).toArray 32)))
          have hy0 := HX7.out.cell 0 _ rfl
          have hld := run_ldSec (w := w7.alloc (.cells (bv l7).toArray 32)) (range_alloc w7 (bv l7) _ _) hl7
          have HD7 := Lib.hid (HD.out.below HB7.out)
          obtain ⟨m, hm⟩ : ∃ m : Nat, gen % 2 = m := ⟨_, rfl⟩
          have hmod : (gen : Int) % 2 = (m : Int) := by omega
          have HM := Lib.hid hm
          have hm2 : m < 2 := by omega
          have hm0 : (0 : Int) ≤ (m : Int) := Int.natCast_nonneg _
          have hwm : IntKind.i64.wrap (m : Int) = (m : Int) := by simp [IntKind.wrap, IntKind.signed, IntKind.bits]; omega
          clear hl7 hb7 hs7 hmk hx0 hm
          go_wp2_with (refine st37 rfl _ _ rfl _ _ rfl rfl l7 rfl HL7.out rfl ?_)
          refine (disk_Write_yes HD7.out (Nat.le_trans HBS.out HB7.out.size) m (by have := HLN.out; omega) l7 HL7.out (by rw [HLV.out.power]) (by have := HPL.out; omega)).mono ?_
          rintro e' w8 ⟨v8, rfl, hd8, hk8, hv8⟩
          rw [HLV.out.power] at hd8
          have HD8 := Lib.hid hd8; have HK8 := Lib.hid hk8; have HV8 := Lib.hid hv8
          have hlive8 : ({ d with pend := d.pend ++ [(m, l7)] } : Dk).live := HLV.out
          have HLV8 := Lib.hid hlive8
          clear hd8 hk8 hv8 hlive8 hld hy0
          go_wp2_with fail
          refine (disk_Flush_yes HD8.out (by rw [HLV8.out.power]) (by have := HPL.out; simp; omega)).mono ?_
          rintro e' w9 ⟨rfl, hd9, hk9⟩
          rw [HLV8.out.power] at hd9
          have HD9 := Lib.hid hd9; have HK9 := Lib.hid hk9
          clear hd9 hk9
          go_wp2_with fail
          go_ret
          refine ⟨_, rfl, HD9.out, HLV.out, rfl, applyW_length _ _, fun k => ?_, ?_⟩
          · rw [read_flushed _ k (fun x hx => (HD8.out.pin x hx).1), read_push, HM.out, HS7.out]
          · refine ((Kp.of_below (S := foot p s v) HB7.out).trans HK8.out (fun _ _ hf => hf)).trans HK9.out (fun i hi hf => ?_)
            rcases hf with hf | hf | hf
            · exact .inl hf
            · exact .inr (.inl hf)
            · rcases HV8.out with h1 | ⟨g, h1, h2⟩
              · exact .inr (.inr (h1 ▸ hf))
              · rw [h1] at hf
                injection hf with hf
                have := HB7.out.size
                omega
        · cases hno
      · cases hno
end Go.Proofs.Ytanibabfdpgbbaa
