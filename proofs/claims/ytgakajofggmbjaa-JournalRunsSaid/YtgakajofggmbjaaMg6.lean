/- What Stable and Read of a disk compute. -/
import Derived.Test.YtgakajofggmbjaaMg5
import Derived.Test.YtgakajofggmbjaaMg4
import Derived.Deep.RegionHeld3
import Derived.Deep.RegionLaw
namespace Go.Proofs.Ytgakajofggmbjaa
open Go.RowKit

section
variable {w : World} {base p s : Nat} {v : Value} {d : Dk}
set_option maxRecDepth 20000 in
set_option maxHeartbeats 400000 in
theorem disk_Stable_yes (h : DiskAt w base p s v d) (k : Nat) (hk : k < d.stable.length) :
    Calls Try.prog 23 #[.pointer (some ⟨p, 0, none⟩), .int .i64 k] w fun e w' => e = .returned (secV (secAt d.stable k)) ∧ Below w.heap.size w w' := by
  have hsec := h.sec k hk
  have hw := h.swid k hk
  have c0 := (h.below (below_alloc w (.cells Try.zeroCells55 55))).c0
  have H1 := Lib.hid (h.below (below_alloc w (.cells Try.zeroCells55 55)))
  have HS := Lib.hid (range_old hsec (.cells Try.zeroCells55 55))
  have HW := Lib.hid hw
  have hk0 : (0 : Int) ≤ (k : Int) := Int.natCast_nonneg _
  have hk1 : (k : Int) < (d.stable.length : Int) := by omega
  clear h hsec hw
  go_enter Try.func23, Try.ntmps23
  go_wp2_with fail
  refine (disk_there_yes H1.out k hk).mono ?_
  rintro e w1 ⟨rfl, rfl⟩
  go_wp2_with (first | (refine ld37 rfl _ rfl s (k * 128) rfl (secAt d.stable k) HS.out HW.out ?_) | (refine st37 rfl _ _ rfl _ _ rfl rfl (secAt d.stable k) rfl HW.out rfl ?_))
  exact bodyPost_ret (ret37 Try.results23 _ w (secAt d.stable k) HW.out _ rfl rfl) rfl ⟨rfl, below_alloc w _⟩
set_option maxRecDepth 20000 in
set_option maxHeartbeats 400000 in
theorem disk_Stable_no (h : DiskAt w base p s v d) (i : Int) (hi : i < 0 ∨ (d.stable.length : Int) ≤ i) :
    Calls Try.prog 23 #[.pointer (some ⟨p, 0, none⟩), .int .i64 i] w fun e w' => e = .returned (secV zsec) ∧ Below w.heap.size w w' := by
  have H1 := Lib.hid (h.below (below_alloc w (.cells Try.zeroCells55 55)))
  have HI := Lib.hid hi
  clear h hi
  go_enter Try.func23, Try.ntmps23
  go_wp2_with fail
  refine (disk_there_no H1.out i HI.out).mono ?_
  rintro e w1 ⟨rfl, rfl⟩
  go_wp2_with (first | (refine st37 rfl _ _ rfl _ _ rfl rfl zsec rfl zsec_length rfl ?_))
  exact bodyPost_ret (ret37 Try.results23 _ w zsec zsec_length _ rfl rfl) rfl ⟨rfl, below_alloc w _⟩
set_option maxRecDepth 20000 in
set_option maxHeartbeats 400000 in
theorem disk_Read_no (h : DiskAt w base p s v d) (i : Int) (hi : i < 0 ∨ (d.stable.length : Int) ≤ i) :
    Calls Try.prog 55 #[.pointer (some ⟨p, 0, none⟩), .int .i64 i] w fun e w' => e = .returned (.tuple #[secV zsec, .int .i64 41]) ∧ Below w.heap.size w w' := by
  have H1 := Lib.hid (h.below (below_alloc w (.cells Try.zeroCells55 55)))
  have HI := Lib.hid hi
  clear h hi
  go_enter Try.func55, Try.ntmps55
  go_wp2_with fail
  refine (disk_there_no H1.out i HI.out).mono ?_
  rintro e w1 ⟨rfl, rfl⟩
  go_wp2_with (first | (refine st37 rfl _ _ rfl _ _ rfl rfl zsec rfl zsec_length rfl ?_))
  exact bodyPost_ret (ret37_tmp Try.results55 _ w zsec zsec_length _ _ rfl rfl rfl) rfl ⟨rfl, below_alloc w _⟩
set_option maxRecDepth 20000 in
set_option maxHeartbeats 800000 in
theorem disk_Read_yes (h : DiskAt w base p s v d) (k : Nat) (hk : k < d.stable.length) (hpl : d.pend.length ≤ 1000000) :
    Calls Try.prog 55 #[.pointer (some ⟨p, 0, none⟩), .int .i64 k] w fun e w' => e = .returned (.tuple #[secV (d.read k), .int .i64 0]) ∧ Below w.heap.size w w' := by
  obtain ⟨A, c, rfl⟩ := own_form h.pen
  have hsec := h.sec k hk
  have hw := h.swid k hk
  have h1 := h.below (below_alloc w (.cells Try.zeroCells55 55))
  have c0 := h1.c0
  have c1 := h1.c1
  have H1 := Lib.hid h1
  have HS := Lib.hid (range_old hsec (.cells Try.zeroCells55 55))
  have HW := Lib.hid hw
  have hk0 : (0 : Int) ≤ (k : Int) := Int.natCast_nonneg _
  have hk1 : (k : Int) < (d.stable.length : Int) := by omega
  clear h hsec hw h1
  go_enter Try.func55, Try.ntmps55
  go_wp2_with fail
  refine (disk_there_yes H1.out k hk).mono ?_
  rintro e w1 ⟨rfl, rfl⟩
  go_wp2_with fail
  go_loop [6] (fun i => ∃ m : Nat, m ≤ d.pend.length ∧ i = .int .i64 ((m : Int) - 1) ∧ Hid (∀ j, m ≤ j → j < d.pend.length → (penAt d.pend j).1 ≠ k)) (fun i => (intOf i + 1).toNat)
  case atStart => exact ⟨d.pend.length, Nat.le_refl _, rfl, Lib.hid fun j h1 h2 => by omega⟩
  case round =>
    obtain ⟨m, hm, rfl, HN⟩ := hrel
    cases m with
    | zero =>
      go_wp2_with (first | (refine ld37 rfl _ rfl s (k * 128) rfl (secAt d.stable k) HS.out HW.out ?_) | (refine st37 rfl _ _ rfl _ _ rfl rfl (secAt d.stable k) rfl HW.out rfl ?_))
      have e : d.read k = secAt d.stable k := lastW_none _ _ _ fun x hx => by
        obtain ⟨i, hi, rfl⟩ := List.mem_iff_getElem.1 hx
        have := HN.out i (by omega) hi
        rw [penAt, List.getD_eq_getElem?_getD, List.getElem?_eq_getElem hi] at this
        exact this
      rw [e]
      exact bodyPost_ret (ret37_tmp Try.results55 _ w (secAt d.stable k) HW.out _ _ rfl rfl rfl) rfl ⟨rfl, below_alloc w _⟩
    | succ m =>
      have e : (((m + 1 : Nat) : Int) - 1) = (m : Int) := by omega
      rw [e]
      clear e
      obtain ⟨g, rfl, hg, _, hr⟩ := H1.out.pcell m (by omega)
      obtain ⟨hcell, hr1⟩ := range_head hr
      have HR := Lib.hid hr1
      have HP := Lib.hid (H1.out.pin' m (by omega))
      have hm0 : (0 : Int) ≤ (m : Int) := Int.natCast_nonneg _
      have hm1 : (m : Int) < (d.pend.length : Int) := by omega
      clear hr hr1
      by_cases hq : (penAt d.pend m).1 = k
      · have hb : (((penAt d.pend m).1 : Int) == (k : Int)) = true := by rw [beq_iff_eq]; omega
        have HQ := Lib.hid hq
        clear hq
        go_wp2_with (first | (refine ld37 rfl _ rfl g (m * 129 + 1) rfl (penAt d.pend m).2 HR.out HP.out.2 ?_) | (refine st37 rfl _ _ rfl _ _ rfl rfl (penAt d.pend m).2 rfl HP.out.2 rfl ?_))
        have e : d.read k = (penAt d.pend m).2 := lastW_at _ _ m _ (by omega) HQ.out fun i h1 h2 => HN.out i (by omega) h2
        rw [e]
        exact bodyPost_ret (ret37_tmp Try.results55 _ w (penAt d.pend m).2 HP.out.2 _ _ rfl rfl rfl) rfl ⟨rfl, below_alloc w _⟩
      · have hb : (((penAt d.pend m).1 : Int) == (k : Int)) = false := by rw [beq_eq_false_iff_ne]; omega
        have HQ := Lib.hid hq
        clear hq
        go_wp2_with fail
        go_round
        case rel => exact ⟨m, by omega, rfl, Lib.hid fun j h1 h2 => by
          by_cases hj : j = m
          · subst hj; exact HQ.out
          · exact HN.out j (by omega) h2⟩
        case measure => simp [intOf]
end
end Go.Proofs.Ytgakajofggmbjaa

/- What New, Write of a disk compute. -/
namespace Go.Proofs.Ytgakajofggmbjaa
open Go.RowKit

theorem Try.info37 : (Try.prog.info? 55).map (fun i => (i.zero, i.size, i.bytes)) = some (some (.agg Try.zeroCells55), 128, 128) := by kernel_rfl
theorem Try.info157 : (Try.prog.info? 94).map (fun i => (i.zero, i.size, i.bytes)) = some (some (.agg Try.zeroCells94), 129, 136) := by kernel_rfl

/-- A new disk. -/
def newDk (n : Int) : Dk := ⟨List.replicate (max 0 (min n 1024)).toNat zsec, [], -1, false⟩

theorem made_same (z : Array Value) (u : Value) (m : Nat) (hz : 0 < z.size) (h : ∀ j, j < z.size → z[j]? = some u) : (madeCells z m).toList = List.replicate m u := by
  apply List.ext_getElem
  · simp [madeCells]
  · intro i h1 h2
    obtain ⟨hlt, he⟩ := Array.getElem?_eq_some_iff.1 (h (i % z.size) (Nat.mod_lt _ hz))
    simp only [madeCells, Array.toList_map, List.getElem_map, Array.toList_range, List.getElem_range, List.getElem_replicate]
    rw [getElem!_pos z _ hlt, he]
theorem bv_zsec : bv zsec = List.replicate 128 (.int .u8 0) := by
  unfold bv zsec
  rw [List.map_replicate]
  rfl
theorem made_secs (n : Nat) : (madeCells Try.zeroCells55 (n * 128)).toList = secs (List.replicate n zsec) := by
  have e : secs (List.replicate n zsec) = List.replicate (n * 128) (.int .u8 0) := by
    unfold secs zsec bv
    rw [List.flatten_replicate_replicate, List.map_replicate]
    rfl
  rw [e, Try.zero37, bv_zsec]
  refine made_same _ _ _ (by rw [List.size_toArray, List.length_replicate]; omega) fun j hj => ?_
  rw [List.getElem?_toArray]
  rw [List.size_toArray] at hj
  rw [List.getElem?_eq_getElem hj, List.getElem_replicate]

theorem own_full {w : World} {base n size : Nat} {e : TypeId} {s : Nat} {xs : List Value} (h : w.ownsRow base e size (.slice (some ⟨s, 0, none⟩) n n) n xs) : base ≤ s ∧ w.heap[s]? = some (.cells xs.toArray e (0, 0)) := by
  rcases h.2 with ⟨h0, _⟩ | ⟨g, cap, cur, he, hb, hg, _, _, hs, ht⟩
  · cases h0
  · injection he with e1 e2 e3
    injection e1 with e1
    injection e1 with e1
    subst e1 e3
    refine ⟨hb, ?_⟩
    rw [hg, ← ht, List.take_of_length_le (by simp [hs])]

/-- What New leaves. -/
def NewPost (w : World) (n : Int) (e : Ending) (w' : World) : Prop := ∃ p s, e = .returned (.pointer (some ⟨p, 0, none⟩)) ∧ DiskAt w' w.heap.size p s (.slice none 0 0) (newDk n) ∧ Below w.heap.size w w'
set_option maxRecDepth 20000 in
set_option maxHeartbeats 400000 in
theorem disk_New (n : Int) (w : World) : Calls Try.prog 9 #[.int .i64 n] w (NewPost w n) := by
  obtain ⟨i0, hi0, hz0, hz1, hz2⟩ := info_parts Try.info37
  have HI := Lib.hid hi0; have HI0 := Lib.hid hz0; have HI1 := Lib.hid hz1; have HI2 := Lib.hid hz2
  clear hi0 hz0 hz1 hz2
  have main : ∀ m : Nat, m ≤ 1024 → (max 0 (min n 1024)).toNat = m → ∀ w1 : World, w1.ownsRow w.heap.size 55 128 (.slice (some ⟨w.heap.size, 0, none⟩) m m) m (madeCells (Value.agg Try.zeroCells55).cells (m * 128)).toList → w.grownBy w1 none →
      DiskAt (w1.alloc (.cells #[.slice (some ⟨w.heap.size, 0, none⟩) m m, .slice none 0 0, .int .i64 (-1), .bool false] 66)) w.heap.size w1.heap.size w.heap.size (.slice none 0 0) (newDk n) ∧ Below w.heap.size w (w1.alloc (.cells #[.slice (some ⟨w.heap.size, 0, none⟩) m m, .slice none 0 0, .int .i64 (-1), .bool false] 66)) := by
    intro m hm he w1 hown hg
    have hb : Below w.heap.size w w1 := (Below.refl _ _).grown hg (Nat.le_refl _) (fun k hk => by cases hk)
    obtain ⟨_, hs⟩ := own_full hown
    rw [show (madeCells (Value.agg Try.zeroCells55).cells (m * 128)).toList = secs (List.replicate m zsec) from made_secs m] at hs
    have hl : (newDk n).stable.length = m := by simp [newDk, he]
    have hst : (newDk n).stable = List.replicate m zsec := by simp [newDk, he]
    refine ⟨⟨hb.size, Nat.le_refl _, ?_, ?_, World.ownsRow_nil _ _ _ _, by rw [hl]; exact hm, ?_, fun x hx => by simp [newDk] at hx, by simp [newDk]⟩, balloc hb _⟩
    · rw [hl]
      exact heap_alloc_new _ _
    · rw [Go.heap_alloc_old _ _ (lt_of_heap hs)]
      rw [hst]
      exact hs
    · intro x hx
      rw [hst] at hx
      rw [List.eq_of_mem_replicate hx]
      exact zsec_length
  by_cases h0 : n ≤ 0
  · have HM := Lib.hid (main 0 (by omega) (by omega))
    clear main
    go_enter Try.func9, Try.ntmps9
    go_wp2_with (at_make; refine wpList_make_full _ rfl _ _ 27 rfl w.heap.size 55 i0 _ 128 Try.underlying27 HI.out HI0.out HI1.out .i64 .i64 _ _ 0 rfl rfl rfl rfl (by simp) (by simp) (Nat.le_refl _) ?_; intro w1 hown hg)
    obtain ⟨r1, r2⟩ := HM.out w1 hown hg
    go_ret
    exact ⟨_, _, rfl, r1, r2⟩
  · by_cases h1 : n ≤ 1024
    · obtain ⟨m, rfl⟩ := Int.eq_ofNat_of_zero_le (show 0 ≤ n by omega)
      have HM := Lib.hid (main m (by omega) (by omega))
      clear main
      go_enter Try.func9, Try.ntmps9
      go_wp2_with (at_make; refine wpList_make_full _ rfl _ _ 27 rfl w.heap.size 55 i0 _ 128 Try.underlying27 HI.out HI0.out HI1.out .i64 .i64 _ _ m rfl rfl (by omega) (by omega) (by rw [HI2.out]; omega) (by unfold maxLen; omega) (Nat.le_refl _) ?_; intro w1 hown hg)
      obtain ⟨r1, r2⟩ := HM.out w1 hown hg
      go_ret
      exact ⟨_, _, rfl, r1, r2⟩
    · have HM := Lib.hid (main 1024 (by omega) (by omega))
      clear main
      go_enter Try.func9, Try.ntmps9
      go_wp2_with (at_make; refine wpList_make_full _ rfl _ _ 27 rfl w.heap.size 55 i0 _ 128 Try.underlying27 HI.out HI0.out HI1.out .i64 .i64 _ _ 1024 rfl rfl (by omega) (by omega) (by rw [HI2.out]; omega) (by unfold maxLen; omega) (Nat.le_refl _) ?_; intro w1 hown hg)
      obtain ⟨r1, r2⟩ := HM.out w1 hown hg
      go_ret
      exact ⟨_, _, rfl, r1, r2⟩
end Go.Proofs.Ytgakajofggmbjaa

/- What Write of a disk computes. -/
namespace Go.Proofs.Ytgakajofggmbjaa
open Go.RowKit

attribute [local go_sem ↓] loadAt37 build157 buildSlice152

/-- What a Write that is done leaves. -/
def WritePost (w : World) (base p s : Nat) (v : Value) (d : Dk) (k : Nat) (l : List UInt8) (e : Ending) (w' : World) : Prop :=
  ∃ v', e = .returned (.int .i64 0) ∧ DiskAt w' base p s v' { d.power.1 with pend := d.pend ++ [(k, l)] } ∧ Kp (foot p s v) w w' ∧ (v'.ownBlock = v.ownBlock ∨ ∃ g, v'.ownBlock = some g ∧ w.heap.size ≤ g)

theorem disk_pushed {w1 w2 : World} {base p s : Nat} {v v2 : Value} {d : Dk} (h : DiskAt w1 base p s v d) (o : Obj) (hg : ((w1.alloc o).drew).grownBy w2 v.ownBlock) (k : Nat) (l : List UInt8)
    (hown : w2.ownsRow base 94 129 v2 (d.pend.length + 1) (pcells d.pend ++ (Value.int .i64 (k : Int) :: bv l))) (hk : k < d.stable.length) (hl : l.length = 128) :
    DiskAt (w2.setCell ⟨p, 1, none⟩ v2) base p s v2 { d with pend := d.pend ++ [(k, l)] } := by
  have hp : w2.heap[p]? = w1.heap[p]? := by
    rw [hg.block p (by simp; have := h.plt; omega) (fun e => h.vp e.symm)]
    exact Go.heap_alloc_old _ _ h.plt
  have hs : w2.heap[s]? = w1.heap[s]? := by
    rw [hg.block s (by simp; have := h.slt; omega) (fun e => h.vs e.symm)]
    exact Go.heap_alloc_old _ _ h.slt
  have hobj : w2.heap[p]? = some (.cells #[.slice (some ⟨s, 0, none⟩) d.stable.length d.stable.length, v, .int .i64 d.fuel, .bool d.dead] 66 (0, 0)) := hp.trans h.obj
  refine ⟨h.hp, h.hs, ?_, ?_, ?_, h.len, h.wid, ?_, h.fu⟩
  · rw [heap_setCell_same w2 p 1 _ _ v2 hobj]; rfl
  · rw [heap_setCell_other w2 ⟨p, 1, none⟩ s v2 (Ne.symm h.ps), hs]; exact h.sta
  · have e : pcells (d.pend ++ [(k, l)]) = pcells d.pend ++ (Value.int .i64 (k : Int) :: bv l) := by simp [pcells]
    rw [e]
    simp only [List.length_append, List.length_cons, List.length_nil, Nat.zero_add]
    exact own_setCell hown _ _ (own_ne hown hobj (by decide))
  · intro x hx
    rcases List.mem_append.1 hx with hx | hx
    · exact h.pin x hx
    · rw [List.mem_singleton.1 hx]; exact ⟨hk, hl⟩

theorem pen_one (k : Nat) (l : List UInt8) : ∀ u ∈ Value.int .i64 (k : Int) :: bv l, u.oneCell' = true := fun u hu => by
  rcases List.mem_cons.1 hu with rfl | hu
  · rfl
  · exact bv_one _ u hu

section
variable {w : World} {base p s : Nat} {v : Value} {d : Dk}
set_option maxRecDepth 20000 in
set_option maxHeartbeats 800000 in
theorem disk_Write_yes (h : DiskAt w base p s v d) (hbase : base ≤ w.heap.size) (k : Nat) (hk : k < d.stable.length) (l : List UInt8) (hl : l.length = 128) (hpw : d.power.2 = true) (hpl : d.pend.length ≤ 1000000) :
    Calls Try.prog 27 #[.pointer (some ⟨p, 0, none⟩), .int .i64 k, .agg (bv l).toArray] w (WritePost w base p s v d k l) := by
  have HPW := Lib.hid hpw
  have H1 := Lib.hid (h.below (below_alloc w (.cells (bv l).toArray 55)))
  have HR := Lib.hid (range_alloc w (bv l) 55 (0, 0))
  have hp0 := h.plt
  have hvb : v.ownBlock ≠ some w.heap.size := fun e => by have := (h.pen.lt _ e).2; omega
  clear hpw h
  go_enter Try.func27, Try.ntmps27
  go_wp2_with fail
  refine (disk_there_yes H1.out k hk).mono ?_
  rintro e w1 ⟨rfl, rfl⟩
  go_wp2_with fail
  refine (disk_power H1.out).mono ?_
  rintro e w1 ⟨rfl, hd1, hk1⟩
  rw [HPW.out]
  have e1 : d.power.1.pend = d.pend := by unfold Dk.power; split <;> rfl
  have e2 : d.power.1.stable = d.stable := by unfold Dk.power; split <;> rfl
  have hpl1 : d.power.1.pend.length ≤ 1000000 := by rw [e1]; exact hpl
  have HP : Hid (∀ e w', (∃ v', e = .returned (.int .i64 0) ∧ DiskAt w' base p s v' { d.power.1 with pend := d.power.1.pend ++ [(k, l)] } ∧ Kp (foot p s v) w w' ∧ (v'.ownBlock = v.ownBlock ∨ ∃ g, v'.ownBlock = some g ∧ w.heap.size ≤ g)) → WritePost w base p s v d k l e w') := Lib.hid fun e w' h => by
    rw [e1] at h
    exact h
  have HE2 := Lib.hid e2
  clear e1 e2
  generalize d.power.1 = d1 at *
  have c1 := hd1.c1
  have f1 := hd1.fz 1
  have hp1 := hd1.plt
  have HR1 := Lib.hid (range_kp HR.out hk1 (by omega))
  have HD := Lib.hid hd1
  clear hd1
  go_wp2_with fail
  have hld := run_ldSec (w := w1.drew) HR1.out hl
  have hbp := fun W => run_bldPen W k l hl
  have hbs := fun W => run_bldPens W (Value.int .i64 (k : Int) :: bv l) (by simp [bv_length, hl])
  obtain ⟨i0, hi0, hz0, hz1, hz2⟩ := info_parts Try.info157
  have HI := Lib.hid hi0; have HI0 := Lib.hid hz0; have HI1 := Lib.hid hz1; have HI2 := Lib.hid hz2
  clear hi0 hz0 hz1 hz2
  go_region_law ((refine step_append_lies _ (by rfl) _ _ _ (by rfl) base 94 i0 _ 129 136 Try.underlying64 HI.out HI0.out HI1.out HI2.out rfl (by omega) v d1.pend.length _ (by rfl) ((HD.out.pen.alloc _).drew) ⟨w1.heap.size, 0, none⟩ 1 1 (Value.int .i64 (k : Int) :: bv l) (by rfl) (by simp [bv_length, hl]) (World.news_of_block (cs := (Value.int .i64 (k : Int) :: bv l).toArray) (t := 94) (fr := (0, 0)) (heap_alloc_new w1 _)) (pen_one k l) (by omega) (by simp [maxLen]; omega) (by omega) (by have := hk1.size; simp at this; simp; omega) (w1.heap.size + 1) (by simp) ?_; intro gg cap w2 hown1 hgrow hat hlt2; have c1' : w2.cell? ⟨p, 1, none⟩ = some v := (hgrow.cell_far _ (by simp; omega) (Ne.symm HD.out.vp)).trans (by simp [go_sem, c1, hp1]); have f1' : w2.frozen? ⟨p, 1, none⟩ = false := (hgrow.frozen_far _ (by simp; omega) (Ne.symm HD.out.vp)).trans (by simp [go_sem, f1, hp1])))
  all_goals
    have hfin : DiskAt (w2.setCell ⟨p, 1, none⟩ (.slice (some ⟨gg, 0, none⟩) (d1.pend.length + 1) cap)) base p s (.slice (some ⟨gg, 0, none⟩) (d1.pend.length + 1) cap) { d1 with pend := d1.pend ++ [(k, l)] } :=
      disk_pushed HD.out _ hgrow k l hown1 (by rw [HE2.out]; exact hk) hl
    have hkp : Kp (foot p s v) w (w2.setCell ⟨p, 1, none⟩ (.slice (some ⟨gg, 0, none⟩) (d1.pend.length + 1) cap)) :=
      ((((Kp.of_below (below_alloc w _)).trans hk1 (fun i _ hi => .inl hi)).alloc _).drew.trans (Kp.of_grown (S := foot p s v) hgrow (fun i hi => .inr (.inr hi))) (fun _ _ hi => hi)).setCell _ _ (fun _ => .inl rfl)
    have hblk : (Value.slice (some ⟨gg, 0, none⟩) (d1.pend.length + 1) cap).ownBlock = v.ownBlock ∨ ∃ g, (Value.slice (some ⟨gg, 0, none⟩) (d1.pend.length + 1) cap).ownBlock = some g ∧ w.heap.size ≤ g := by
      rcases hat with e | e
      · exact .inl (by rw [e]; rfl)
      · exact .inr ⟨gg, rfl, by have := hk1.size; simp at this; omega⟩
    have HF := Lib.hid hfin; have HK := Lib.hid hkp; have HB := Lib.hid hblk
    clear hfin hkp hblk hgrow hown1 hat
    go_wp2
    go_ret
    exact HP.out _ _ ⟨_, rfl, HF.out, HK.out, HB.out⟩
set_option maxRecDepth 20000 in
set_option maxHeartbeats 800000 in
theorem disk_Write_no (h : DiskAt w base p s v d) (i : Int) (hi : i < 0 ∨ (d.stable.length : Int) ≤ i) (l : List UInt8) :
    Calls Try.prog 27 #[.pointer (some ⟨p, 0, none⟩), .int .i64 i, .agg (bv l).toArray] w fun e w' => e = .returned (.int .i64 41) ∧ Below w.heap.size w w' := by
  have H1 := Lib.hid (h.below (below_alloc w (.cells (bv l).toArray 55)))
  have HI := Lib.hid hi
  clear h hi
  go_enter Try.func27, Try.ntmps27
  go_wp2_with fail
  refine (disk_there_no H1.out i HI.out).mono ?_
  rintro e w1 ⟨rfl, rfl⟩
  go_wp2_with fail
  go_ret
  exact ⟨rfl, below_alloc w _⟩
set_option maxRecDepth 20000 in
set_option maxHeartbeats 800000 in
theorem disk_Write_dead (h : DiskAt w base p s v d) (k : Nat) (hk : k < d.stable.length) (l : List UInt8) (hpw : d.power.2 = false) :
    Calls Try.prog 27 #[.pointer (some ⟨p, 0, none⟩), .int .i64 k, .agg (bv l).toArray] w fun e w' => e = .returned (.int .i64 42) ∧ DiskAt w' base p s v d.power.1 ∧ Kp (fun k => k = p) w w' := by
  have H1 := Lib.hid (h.below (below_alloc w (.cells (bv l).toArray 55)))
  have HPW := Lib.hid hpw
  clear h hpw
  go_enter Try.func27, Try.ntmps27
  go_wp2_with fail
  refine (disk_there_yes H1.out k hk).mono ?_
  rintro e w1 ⟨rfl, rfl⟩
  go_wp2_with fail
  refine (disk_power H1.out).mono ?_
  rintro e w1 ⟨rfl, hd1, hk1⟩
  rw [HPW.out]
  have HD := Lib.hid hd1
  have HK := Lib.hid ((Kp.of_below (S := fun k => k = p) (below_alloc w _)).trans hk1 (fun _ _ hi => hi))
  clear hd1 hk1
  go_wp2_with fail
  go_ret
  exact ⟨rfl, HD.out, HK.out⟩
end
end Go.Proofs.Ytgakajofggmbjaa

/- What Flush of a disk computes. -/
namespace Go.Proofs.Ytgakajofggmbjaa
open Go.RowKit
attribute [local go_sem ↓] loadAt37 storeAt37

/-- The disk when all writes are stable. -/
def Dk.flushed (d : Dk) : Dk := { d with stable := applyW d.stable d.pend, pend := [] }
section
variable {w : World} {base p s : Nat} {v : Value} {d : Dk}
theorem disk_Flush_dead (h : DiskAt w base p s v d) (hpw : d.power.2 = false) :
    Calls Try.prog 28 #[.pointer (some ⟨p, 0, none⟩)] w fun e w' => e = .returned (.int .i64 42) ∧ DiskAt w' base p s v d.power.1 ∧ Kp (fun k => k = p) w w' := by
  have H := Lib.hid h
  have HPW := Lib.hid hpw
  clear h hpw
  go_enter Try.func28, Try.ntmps28
  go_wp2_with fail
  refine (disk_power H.out).mono ?_
  rintro e w1 ⟨rfl, hd1, hk1⟩
  rw [HPW.out]
  have HD := Lib.hid hd1; have HK := Lib.hid hk1
  clear hd1 hk1
  go_wp2_with fail
  go_ret
  exact ⟨rfl, HD.out, HK.out⟩

theorem power_pend (d : Dk) : d.power.1.pend = d.pend := by unfold Dk.power; split <;> rfl
theorem power_stable (d : Dk) : d.power.1.stable = d.stable := by unfold Dk.power; split <;> rfl

set_option maxRecDepth 20000 in
set_option maxHeartbeats 1600000 in
theorem disk_Flush_yes (h : DiskAt w base p s v d) (hpw : d.power.2 = true) (hpl : d.pend.length ≤ 1000000) :
    Calls Try.prog 28 #[.pointer (some ⟨p, 0, none⟩)] w fun e w' => e = .returned (.int .i64 0) ∧ DiskAt w' base p s (.slice none 0 0) d.power.1.flushed ∧ Kp (foot p s v) w w' := by
  obtain ⟨A, c, rfl⟩ := own_form h.pen
  have H := Lib.hid h
  have HPW := Lib.hid hpw
  have hpl1 : d.power.1.pend.length ≤ 1000000 := by rw [power_pend]; exact hpl
  have hpe : d.power.1.pend.length = d.pend.length := by rw [power_pend]
  have HPE := Lib.hid hpe
  clear h hpw hpe
  go_enter Try.func28, Try.ntmps28
  go_wp2_with fail
  refine (disk_power H.out).mono ?_
  rintro e w1 ⟨rfl, hd1, hk1⟩
  rw [HPW.out]
  generalize hgen : d.power.1 = d1 at *
  have HG := Lib.hid hgen; clear hgen
  have c1 := hd1.c1
  have HD := Lib.hid hd1; have HK := Lib.hid hk1
  clear hd1 hk1
  go_wp2_with fail
  go_loopw [13] (fun i wr => ∃ k : Nat, k ≤ d.pend.length ∧ i = .int .i64 k ∧ Hid (DiskAt wr base p s (.slice A d.pend.length c) { d1 with stable := applyW d1.stable (d1.pend.take k) }) ∧ Hid (Kp (foot p s (.slice A d.pend.length c)) w1 wr)) (fun i _ => d.pend.length - (intOf i).toNat)
  case atStart => exact ⟨0, by omega, rfl, HD, Lib.hid (Kp.refl _ _)⟩
  case round =>
    obtain ⟨k, hk, rfl, HW, HKW⟩ := hrel
    by_cases hlt : k < d.pend.length
    · obtain ⟨g, rfl, hg, -, hr⟩ := HW.out.pcell k (show k < d1.pend.length by rw [HPE.out]; exact hlt)
      obtain ⟨hpin, hln⟩ := HW.out.pin' k (show k < d1.pend.length by rw [HPE.out]; exact hlt)
      have hpin' : (penAt d1.pend k).1 < (applyW d1.stable (d1.pend.take k)).length := hpin
      have hr' : wr.rangeAt g (k * 129) (Value.int .i64 ((penAt d1.pend k).1 : Int) :: bv (penAt d1.pend k).2) := hr
      have hln' : (penAt d1.pend k).2.length = 128 := hln
      have hnx := applyW_take d1.stable d1.pend k (by rw [HPE.out]; exact hlt)
      clear hpin hr hln
      generalize penAt d1.pend k = x at *
      obtain ⟨x1, x2⟩ := x
      simp only at hpin' hr' hln' hnx
      have HR := Lib.hid hr'; have HL := Lib.hid hln'; have HN := Lib.hid hnx
      have hlen : (applyW d1.stable (d1.pend.take k)).length = d1.stable.length := applyW_length _ _
      have hx0 : (0 : Int) ≤ (x1 : Int) := Int.natCast_nonneg _
      have hx1 : (x1 : Int) < ((applyW d1.stable (d1.pend.take k)).length : Int) := by omega
      have hk0 : (0 : Int) ≤ (k : Int) := Int.natCast_nonneg _
      have hk1 : (k : Int) < (d.pend.length : Int) := by omega
      have H2 := Lib.hid (HW.out.below (below_alloc wr (.cells (Value.int .i64 (x1 : Int) :: bv x2).toArray 94)))
      have HLEN := Lib.hid hlen
      clear hr' hln' hnx hlen hpin'
      go_wp2_with (first | (refine ld157 rfl _ rfl g (k * 129) rfl (x1, x2) HR.out HL.out ?_) | (refine st157 rfl _ _ rfl _ _ rfl rfl (x1, x2) rfl HL.out rfl ?_))
      have c0 := H2.out.c0
      have hld := run_ldSec (w := (wr.alloc (.cells (Value.int .i64 (x1 : Int) :: bv x2).toArray 94)).drew) (range_alloc1 wr (Value.int .i64 (x1 : Int)) (bv x2) 94 (0, 0)) HL.out
      have hst := run_stSec (w := (wr.alloc (.cells (Value.int .i64 (x1 : Int) :: bv x2).toArray 94)).drew) (H2.out.sthere x1 (by simpa using hx1)) HL.out
      have hpz : p < wr.heap.size := HW.out.plt
      have hfin : DiskAt ((wr.alloc (.cells (Value.int .i64 (x1 : Int) :: bv x2).toArray 94)).drew.setCells s (x1 * 128) (bv x2)) base p s (.slice (some ⟨g, 0, none⟩) d.pend.length c) { d1 with stable := applyW d1.stable (d1.pend.take (k + 1)) } := by
        rw [HN.out]
        exact H2.out.drew.setSec x1 x2 (by simpa using hx1) HL.out
      have hkp : Kp (foot p s (.slice (some ⟨g, 0, none⟩) d.pend.length c)) w1 ((wr.alloc (.cells (Value.int .i64 (x1 : Int) :: bv x2).toArray 94)).drew.setCells s (x1 * 128) (bv x2)) :=
        kp_setCells s _ _ _ (HKW.out.alloc _).drew (fun _ => .inr (.inl rfl))
      have HF := Lib.hid hfin; have HK2 := Lib.hid hkp
      clear hfin hkp
      go_region_law (fail)
      all_goals
        go_wp2
        go_roundw
        case rel => exact ⟨k + 1, by omega, by go_num, HF, HK2⟩
        case measure => simp [intOf]; omega
    · obtain rfl : k = d.pend.length := by omega
      have hfin := HW.out.set1 (.slice none 0 0) [] (World.ownsRow_nil _ _ _ _) (fun x hx => by cases hx)
      have hkp : Kp (foot p s (.slice A d.pend.length c)) w (wr.setCell ⟨p, 1, none⟩ (.slice none 0 0)) :=
        ((HK.out.imp (S' := foot p s (.slice A d.pend.length c)) (fun i _ h => .inl h)).trans HKW.out (fun i _ hi => hi)).setCell _ _ (fun _ => .inl rfl)
      rw [List.take_of_length_le (by rw [HPE.out]; exact Nat.le_refl _)] at hfin
      have c1' := HW.out.c1
      have f1' := HW.out.fz 1
      have HF := Lib.hid hfin; have HK2 := Lib.hid hkp
      clear hfin hkp
      go_wp2_with fail
      go_ret
      exact ⟨rfl, by rw [HG.out]; exact HF.out, HK2.out⟩
end
end Go.Proofs.Ytgakajofggmbjaa

/- More on disks as data: live disks; what is read behind a write and a flush. -/
namespace Go.Proofs.Ytgakajofggmbjaa
open Go.RowKit

theorem power_live (d : Dk) (h : d.dead = false) (hf : d.fuel < 0) : d.power = (d, true) := by
  unfold Dk.power
  have hn : ¬ (d.dead = true ∨ d.fuel = 0) := fun h1 => by
    rcases h1 with h1 | h1
    · rw [h] at h1; cases h1
    · omega
  rw [if_neg hn, if_neg (by omega)]
/-- A live disk: it has no fuel to run out of. -/
def Dk.live (d : Dk) : Prop := d.fuel = -1 ∧ d.dead = false
theorem Dk.live.power {d : Dk} (h : d.live) : d.power = (d, true) := power_live d h.2 (by rw [h.1]; decide)

theorem applyW_append (st : List (List UInt8)) (l l' : List (Nat × List UInt8)) : applyW st (l ++ l') = applyW (applyW st l) l' := List.foldl_append
theorem secAt_applyW : ∀ (l : List (Nat × List UInt8)) (st : List (List UInt8)) (k : Nat), (∀ x ∈ l, x.1 < st.length) → secAt (applyW st l) k = lastW l k (secAt st k)
  | [], _, _, _ => rfl
  | x :: l, st, k, h => by
    have hx := h x List.mem_cons_self
    show secAt (applyW (st.set x.1 x.2) l) k = lastW l k (if x.1 = k then x.2 else secAt st k)
    rw [secAt_applyW l _ k (fun y hy => by rw [List.length_set]; exact h y (List.mem_cons_of_mem _ hy))]
    congr 1
    by_cases e : x.1 = k
    · subst e
      rw [if_pos rfl, secAt, List.getD_eq_getElem?_getD, List.getElem?_set_self hx]
      rfl
    · rw [if_neg e, secAt, List.getD_eq_getElem?_getD, List.getElem?_set_ne e, secAt, List.getD_eq_getElem?_getD]
theorem read_flushed (d : Dk) (k : Nat) (h : ∀ x ∈ d.pend, x.1 < d.stable.length) : d.flushed.read k = d.read k := by
  show lastW [] k (secAt (applyW d.stable d.pend) k) = lastW d.pend k (secAt d.stable k)
  rw [secAt_applyW _ _ _ h]
  rfl
theorem read_push (d : Dk) (k i : Nat) (l : List UInt8) : ({ d with pend := d.pend ++ [(i, l)] } : Dk).read k = if i = k then l else d.read k := by
  show lastW (d.pend ++ [(i, l)]) k (secAt d.stable k) = _
  rw [lastW_append]
  rfl
theorem read_len {w : World} {base p s : Nat} {v : Value} {d : Dk} (h : DiskAt w base p s v d) (k : Nat) (hk : k < d.stable.length) : (d.read k).length = 128 :=
  lastW_len _ _ _ (h.swid k hk) (fun x hx => (h.pin x hx).2)
end Go.Proofs.Ytgakajofggmbjaa

/- The document's disk (baileyref04.Disk), a value: what it means, and what There, power, At, New, Break, Read compute. -/
namespace Go.Proofs.Ytgakajofggmbjaa
open Go.RowKit
attribute [local go_sem ↓] build37

/-- A write's cells (a name that the walk leaves alone). -/
def penC (x : Nat × List UInt8) : List Value := .int .i64 (x.1 : Int) :: bv x.2
theorem penC_length (x : Nat × List UInt8) (h : x.2.length = 128) : (penC x).length = 129 := by simp [penC, bv_length, h]
theorem penC_one (x : Nat × List UInt8) : ∀ u ∈ penC x, u.oneCell' = true := fun u hu => by
  rcases List.mem_cons.1 hu with rfl | hu
  · rfl
  · exact bv_one _ u hu
/-- The cells of a disk as a value (a name that the walk leaves alone). -/
def rdC (A : Option Addr) (c : Nat) (B : Option Addr) (k : Nat) (d : Dk) : List Value := [.slice A d.stable.length c, .slice B d.pend.length k, .int .i64 d.fuel, .bool d.dead]
theorem rdC_one (A : Option Addr) (c : Nat) (B : Option Addr) (k : Nat) (d : Dk) : ∀ u ∈ rdC A c B k d, u.oneCell' = true := by simp [rdC, Value.oneCell']
/-- The disk d, its sectors and its writes read in the world w. -/
structure RDk (w : World) (A : Option Addr) (c : Nat) (B : Option Addr) (k : Nat) (d : Dk) : Prop where
  sec : Rd w A d.stable.length 128 (secs d.stable)
  pen : Rd w B d.pend.length 129 (pcells d.pend)
  nc : d.stable.length ≤ c
  cm : c ≤ 9223372036854775807
  pk : d.pend.length ≤ k
  km : k ≤ 9223372036854775807
  len : d.stable.length ≤ 1024
  wid : ∀ x ∈ d.stable, x.length = 128
  pin : ∀ x ∈ d.pend, x.1 < d.stable.length ∧ x.2.length = 128
  fu : -1 ≤ d.fuel ∧ d.fuel ≤ 9223372036854775807
section
variable {w w' : World} {A : Option Addr} {c : Nat} {B : Option Addr} {k : Nat} {d : Dk}
theorem RDk.below (h : RDk w A c B k d) (hb : Below w.heap.size w w') : RDk w' A c B k d := ⟨h.sec.below hb, h.pen.below hb, h.nc, h.cm, h.pk, h.km, h.len, h.wid, h.pin, h.fu⟩
theorem RDk.kp {S : Nat → Prop} (h : RDk w A c B k d) (hk : Kp S w w') (hS : ∀ b, S b → w.heap.size ≤ b) : RDk w' A c B k d := h.below (hk.below (Nat.le_refl _) hS)
theorem Rd.kpF {S : Nat → Prop} {n size : Nat} {cs : List Value} (h : Rd w A n size cs) (hk : Kp S w w') (hA : ∀ b o, A = some ⟨b, o, none⟩ → ¬ S b) : Rd w' A n size cs := by
  refine ⟨h.1, fun hp => ?_⟩
  obtain ⟨b, o, e, hc⟩ := h.2 hp
  refine ⟨b, o, e, fun j u hj => ?_⟩
  have h1 := hc j u hj
  rw [← h1]
  exact World.cell?_of_block (hk.block b (World.block_lt_of_cell? w _ h1) (hA b o e))
theorem RDk.kpF {S : Nat → Prop} (h : RDk w A c B k d) (hk : Kp S w w') (hA : ∀ b o, A = some ⟨b, o, none⟩ → ¬ S b) (hB : ∀ b o, B = some ⟨b, o, none⟩ → ¬ S b) : RDk w' A c B k d := ⟨h.sec.kpF hk hA, h.pen.kpF hk hB, h.nc, h.cm, h.pk, h.km, h.len, h.wid, h.pin, h.fu⟩
/-- A slice lies in blocks that are new since W. -/
def FrA (W W' : World) (A : Option Addr) : Prop := ∀ b o, A = some ⟨b, o, none⟩ → W.heap.size ≤ b ∧ b < W'.heap.size
theorem FrA.none (W W' : World) : FrA W W' none := fun _ _ e => by cases e
theorem FrA.own {base n size cap : Nat} {e : TypeId} {xs : List Value} {W : World} (h : w.ownsRow base e size (.slice A n cap) n xs) (hb : W.heap.size ≤ base) : FrA W w A := fun b o he => by
  subst he
  exact ⟨Nat.le_trans hb (h.lt b rfl).1, (h.lt b rfl).2⟩
theorem RDk.secR (h : RDk w A c B k d) (i : Nat) (hi : i < d.stable.length) : ∃ b o, A = some ⟨b, o, none⟩ ∧ w.rangeAt b (o + i * 128) (bv (secAt d.stable i)) := by
  have hl : (secs (d.stable.take i)).length = i * 128 := by
    rw [secs_length _ (fun x hx => h.wid x (List.mem_of_mem_take hx)), List.length_take]
    congr 1
    omega
  obtain ⟨b, o, hA, hc⟩ := h.sec.2 (by rw [secs_length _ h.wid]; omega)
  refine ⟨b, o, hA, fun j u hj => ?_⟩
  rw [Nat.add_assoc]
  refine hc _ u ?_
  rw [secs_split d.stable i hi]
  have := mid_get (secs (d.stable.take i)) (bv (secAt d.stable i)) (secs (d.stable.drop (i + 1))) j u hj
  rwa [hl] at this
theorem RDk.penR (h : RDk w A c B k d) (i : Nat) (hi : i < d.pend.length) : ∃ b o, B = some ⟨b, o, none⟩ ∧ w.rangeAt b (o + i * 129) (penC (penAt d.pend i)) := by
  have hl : (pcells (d.pend.take i)).length = i * 129 := by
    rw [pcells_length _ (fun x hx => (h.pin x (List.mem_of_mem_take hx)).2), List.length_take]
    congr 1
    omega
  obtain ⟨b, o, hB, hc⟩ := h.pen.2 (by rw [pcells_length _ (fun x hx => (h.pin x hx).2)]; omega)
  refine ⟨b, o, hB, fun j u hj => ?_⟩
  rw [Nat.add_assoc]
  refine hc _ u ?_
  have hp := pcells_split d.pend i hi
  rw [List.append_assoc] at hp
  rw [hp]
  have := mid_get (pcells (d.pend.take i)) (Value.int .i64 ((penAt d.pend i).1 : Int) :: bv (penAt d.pend i).2) (pcells (d.pend.drop (i + 1))) j u hj
  rwa [hl] at this
theorem RDk.pinAt (h : RDk w A c B k d) (i : Nat) (hi : i < d.pend.length) : (penAt d.pend i).1 < d.stable.length ∧ (penAt d.pend i).2.length = 128 := h.pin _ (penAt_mem hi)
theorem RDk.secL (h : RDk w A c B k d) (i : Nat) (hi : i < d.stable.length) : (secAt d.stable i).length = 128 := h.wid _ (secAt_mem hi)
end
theorem Try.sizeRD : (Try.prog.info? 30).map (·.size) = some 4 := by kernel_rfl
theorem Try.sizeRW : (Try.prog.info? 96).map (·.size) = some 129 := by kernel_rfl
theorem size_rw (x : Nat × List UInt8) (h : x.2.length = 128) : (Try.prog.info? 96).map (·.size) = some (penC x).length := by rw [penC_length x h]; exact Try.sizeRW
/-- The fields of a disk in a box. -/
theorem rd_cells {w : World} {g : Nat} {A : Option Addr} {c : Nat} {B : Option Addr} {k : Nat} {d : Dk} (h : RowAt w g 30 (rdC A c B k d)) :
    w.cell? ⟨g, 0, none⟩ = some (.slice A d.stable.length c) ∧ w.cell? ⟨g, 1, none⟩ = some (.slice B d.pend.length k) ∧ w.cell? ⟨g, 2, none⟩ = some (.int .i64 d.fuel) ∧ w.cell? ⟨g, 3, none⟩ = some (.bool d.dead) :=
  ⟨h.cell 0 _ rfl, h.cell 1 _ rfl, h.cell 2 _ rfl, h.cell 3 _ rfl⟩
theorem zsec_new (w : World) : SecAt (w.alloc (.cells Try.zeroCells55 55)) w.heap.size zsec := by
  rw [Try.zero37]
  exact SecAt.new w zsec zsec_length
theorem zsec_new' (w : World) (g : Nat) (hg : g = w.heap.size) : SecAt (w.alloc (.cells Try.zeroCells55 55)) g zsec := hg ▸ zsec_new w
theorem RowAt.new' (w : World) (t : TypeId) (cs : List Value) (g : Nat) (hg : g = w.heap.size) : RowAt (w.alloc (.cells cs.toArray t)) g t cs := hg ▸ RowAt.new w t cs
/-- Results that lie in a variable: a disk; a disk and something more; a sector; a sector and something more. -/
theorem ret_rd {fn : Func} {p : Tmp} (h : fn.results = #[.cell p 30]) (tmps : Array Value) (w : World) (A : Option Addr) (c : Nat) (B : Option Addr) (k : Nat) (d : Dk) (g : Nat) (hp : tmps.getD p undef = .pointer (some ⟨g, 0, none⟩)) (hb : RowAt w g 30 (rdC A c B k d)) :
    (results fn tmps).run Try.prog w = .ok (.agg (rdC A c B k d).toArray) w :=
  res_row h tmps _ _ _ _ _ hp hb.range Try.underlying30 rfl Try.sizeRD
theorem ret_rd_tmp {fn : Func} {p q : Tmp} (h : fn.results = #[.cell p 30, .tmp q]) (tmps : Array Value) (w : World) (A : Option Addr) (c : Nat) (B : Option Addr) (k : Nat) (d : Dk) (u : Value) (g : Nat) (hp : tmps.getD p undef = .pointer (some ⟨g, 0, none⟩)) (hq : tmps.getD q undef = u) (hb : RowAt w g 30 (rdC A c B k d)) :
    (results fn tmps).run Try.prog w = .ok (.tuple #[.agg (rdC A c B k d).toArray, u]) w :=
  res_row_tmp h tmps _ _ _ _ _ u hp hq hb.range Try.underlying30 rfl Try.sizeRD
theorem ret37_atT {fn : Func} {p q : Tmp} (h : fn.results = #[.cell p 55, .tmp q]) (tmps : Array Value) (w : World) (l : List UInt8) (u : Value) (g : Nat) (hp : tmps.getD p undef = .pointer (some ⟨g, 0, none⟩)) (hq : tmps.getD q undef = u) (hb : SecAt w g l) :
    (results fn tmps).run Try.prog w = .ok (.tuple #[secV l, u]) w :=
  res_row_tmp h tmps _ _ _ (bv l) _ u hp hq hb.range Try.underlying55 rfl (Try.size37.trans (by simp [bv_length, hb.2]))
theorem ret37_at1 {fn : Func} {p : Tmp} (h : fn.results = #[.cell p 55]) (tmps : Array Value) (w : World) (l : List UInt8) (g : Nat) (hp : tmps.getD p undef = .pointer (some ⟨g, 0, none⟩)) (hb : SecAt w g l) :
    (results fn tmps).run Try.prog w = .ok (secV l) w :=
  res_row h tmps _ _ _ (bv l) _ hp hb.range Try.underlying55 rfl (Try.size37.trans (by simp [bv_length, hb.2]))

section
variable {w : World} {A : Option Addr} {c : Nat} {B : Option Addr} {k : Nat} {d : Dk}
set_option maxHeartbeats 400000 in
theorem ref_There_yes (i : Nat) (hi : i < d.stable.length) (w : World) : Calls Try.prog 45 #[.agg (rdC A c B k d).toArray, .int .i64 i] w fun e w' => e = .returned (.bool true) ∧ Below w.heap.size w w' := by
  obtain ⟨c0, -, -, -⟩ := rd_cells (RowAt.new w 30 (rdC A c B k d))
  have hk0 : (0 : Int) ≤ (i : Int) := Int.natCast_nonneg _
  have hk1 : (i : Int) < (d.stable.length : Int) := by omega
  go_enter Try.func45, Try.ntmps45
  go_wp2
  go_ret
  exact ⟨ret_bool (by first | rfl | simp), below_alloc w _⟩
set_option maxHeartbeats 400000 in
theorem ref_There_no (i : Int) (hi : i < 0 ∨ (d.stable.length : Int) ≤ i) (w : World) : Calls Try.prog 45 #[.agg (rdC A c B k d).toArray, .int .i64 i] w fun e w' => e = .returned (.bool false) ∧ Below w.heap.size w w' := by
  obtain ⟨c0, -, -, -⟩ := rd_cells (RowAt.new w 30 (rdC A c B k d))
  by_cases h0 : i < 0
  · go_enter Try.func45, Try.ntmps45
    go_wp2
    go_ret
    exact ⟨rfl, below_alloc w _⟩
  · have h1 : (d.stable.length : Int) ≤ i := by omega
    clear hi
    go_enter Try.func45, Try.ntmps45
    go_wp2
    go_ret
    exact ⟨ret_bool (by simp [h1]), below_alloc w _⟩
end
end Go.Proofs.Ytgakajofggmbjaa
