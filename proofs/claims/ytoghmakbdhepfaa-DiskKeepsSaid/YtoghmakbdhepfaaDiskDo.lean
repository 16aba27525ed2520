/- An act on a disk: what the laws' own function 'do' answers and leaves. -/
import Derived.Test.YtoghmakbdhepfaaDiskW6
import Derived.Test.YtoghmakbdhepfaaBox
namespace Go.Proofs.Ytoghmakbdhepfaa
open Go.RowKit
attribute [local go_sem ↓] build37

/-- What 'do' leaves: the sector r and the number err are answered, the disk is d'. -/
def DoPost (w : World) (base p s : Nat) (v : Value) (r : List UInt8) (err : Int) (d' : Dk) (e : Ending) (w' : World) : Prop :=
  ∃ v', e = .returned (.tuple #[.agg (bv r).toArray, .int .i64 err]) ∧ DiskAt w' base p s v' d' ∧ Kp (foot p s v) w w' ∧ (∀ g, v'.ownBlock = some g → v.ownBlock = some g ∨ w.heap.size ≤ g)

theorem ret37_box {fn : Func} {p q : Tmp} (h : fn.results = #[.cell p 28, .tmp q]) (tmps : Array Value) (w : World) (l : List UInt8) (hl : l.length = 128) (u : Value) (g : Nat) (hp : tmps.getD p undef = .pointer (some ⟨g, 0, none⟩)) (hq : tmps.getD q undef = u) (hb : Box w g 28 (bv l)) :
    (results fn tmps).run Try.prog w = .ok (.tuple #[.agg (bv l).toArray, u]) w :=
  res_row_tmp h tmps _ _ _ (bv l) _ u hp hq hb.range Try.underlying28 rfl (Try.size37.trans (by simp [bv_length, hl]))

/-- An act's data within its box. -/
theorem act_data {w : World} {b : Nat} {t : TypeId} {y : ActD} (h : Box w b t (actCells y)) : w.rangeAt b 3 (bv y.data) := fun j u hj => h.cell (3 + j) u (by
  rw [Nat.add_comm]
  show (bv y.data ++ [.slice y.ka y.kn y.kc])[j]? = some u
  rw [List.getElem?_append_left (List.getElem?_eq_some_iff.1 hj).1]
  exact hj)
/-- The world in which 'do' works. -/
noncomputable def doW (w : World) (y : ActD) : World := (w.alloc (.cells (actCells y).toArray 31)).alloc (.cells Try.zeroCells28 28)
section
variable {w w3 : World} {base p s : Nat} {v v' : Value} {d d' : Dk} {y : ActD}
theorem doW_size (w : World) (y : ActD) : (doW w y).heap.size = w.heap.size + 2 := by simp [doW]
theorem doW_disk (h : DiskAt w base p s v d) (y : ActD) : DiskAt (doW w y) base p s v d := (h.below (below_alloc _ _)).below (below_alloc _ _)
theorem doW_act (w : World) (y : ActD) : Box (doW w y) w.heap.size 31 (actCells y) := (Box.new w _ _).old _
theorem doW_res (w : World) (y : ActD) : Box (doW w y) (w.heap.size + 1) 28 (bv zsec) := by
  have := Box.new (w.alloc (.cells (actCells y).toArray 31)) (bv zsec) 28
  rw [← Try.zero37] at this
  simpa [doW] using this
theorem doW_kp (S : Nat → Prop) (w : World) (y : ActD) : Kp S w (doW w y) := ((Kp.refl S w).alloc _).alloc _
/-- The end of 'do': the result is stored. -/
theorem do_fin (h : DiskAt w base p s v d) (hd : DiskAt w3 base p s v' d') (hk : Kp (foot p s v) (doW w y) w3) (hv : ∀ g, v'.ownBlock = some g → v.ownBlock = some g ∨ (doW w y).heap.size ≤ g) (r : List UInt8) (err : Int) (hr : r.length = 128) :
    Box w3 (w.heap.size + 1) 28 (bv zsec) ∧ Box (w3.setCells (w.heap.size + 1) 0 (bv r)) (w.heap.size + 1) 28 (bv r) ∧ DoPost w base p s v r err d' (.returned (.tuple #[.agg (bv r).toArray, .int .i64 err])) (w3.setCells (w.heap.size + 1) 0 (bv r)) := by
  have hb : Box w3 (w.heap.size + 1) 28 (bv zsec) := (doW_res w y).kp hk (fun hf => by have := h.foot_lt _ hf; omega)
  refine ⟨hb, hb.set (by rw [bv_length, bv_length, hr, zsec_length]), v', rfl, hd.kept (S := fun k => k = w.heap.size + 1) (kp_setCells _ _ _ _ (Kp.refl _ _) (fun _ => rfl)) (fun k hf e => ?_), ?_, fun g hg => ?_⟩
  · subst e
    rcases hf with e | e | e
    · have := h.plt; omega
    · have := h.slt; omega
    · rcases hv _ e with e | e
      · have := (h.pen.lt _ e).2; omega
      · rw [doW_size] at e; omega
  · exact kp_setCells _ _ _ _ ((doW_kp (foot p s v) w y).trans hk (fun _ _ hi => hi)) (fun hlt => by omega)
  · rcases hv g hg with e | e
    · exact .inl e
    · rw [doW_size] at e; exact .inr (by omega)

set_option maxRecDepth 20000 in
set_option maxHeartbeats 1600000 in
theorem do_read (h : DiskAt w base p s v d) (hk : y.kind = 0) (r : List UInt8) (err : Int) (hr : r.length = 128)
    (hc : Calls Try.prog 13 #[.pointer (some ⟨p, 0, none⟩), .int .i64 y.at_] (doW w y) fun e w' => e = .returned (.tuple #[secV r, .int .i64 err]) ∧ Below (doW w y).heap.size (doW w y) w') :
    Calls Try.prog 18 #[.pointer (some ⟨p, 0, none⟩), .agg (actCells y).toArray] w (DoPost w base p s v r err d) := by
  have H := Lib.hid h; have HC := Lib.hid hc; have HRL := Lib.hid hr
  have n0 := (doW_act w y).cell 0 _ rfl
  have n1 := (doW_act w y).cell 1 _ rfl
  rw [hk] at n0
  clear h hc hr hk
  unfold doW at n0 n1
  go_enter Try.func18, Try.ntmps18
  go_wp2_with fail
  refine HC.out.mono ?_
  rintro e w3 ⟨rfl, hb3⟩
  obtain ⟨f1, f2, f3⟩ := do_fin (y := y) H.out ((doW_disk H.out y).below hb3) (Kp.of_below hb3) (fun g hg => .inl hg) r err HRL.out
  have F1 := Lib.hid f1; have F2 := Lib.hid f2; have F3 := Lib.hid f3
  clear f1 f2 f3 hb3
  go_wp2_with (refine st37_over rfl _ _ rfl (w.heap.size + 1) rfl r zsec F1.out rfl HRL.out zsec_length ?_)
  exact bodyPost_ret (ret37_box Try.results18 _ _ r HRL.out _ _ rfl rfl F2.out) rfl F3.out

set_option maxRecDepth 20000 in
set_option maxHeartbeats 1600000 in
theorem do_write (h : DiskAt w base p s v d) (hy : y.data.length = 128) (hk : y.kind = 1) (err : Int) (d' : Dk)
    (hc : Calls Try.prog 11 #[.pointer (some ⟨p, 0, none⟩), .int .i64 y.at_, .agg (bv y.data).toArray] (doW w y) fun e w' => e = .returned (.int .i64 err) ∧ ∃ v', DiskAt w' base p s v' d' ∧ Kp (foot p s v) (doW w y) w' ∧ (∀ g, v'.ownBlock = some g → v.ownBlock = some g ∨ (doW w y).heap.size ≤ g)) :
    Calls Try.prog 18 #[.pointer (some ⟨p, 0, none⟩), .agg (actCells y).toArray] w (DoPost w base p s v zsec err d') := by
  have b0 := run_bldSec0
  have H := Lib.hid h; have HC := Lib.hid hc; have HY := Lib.hid hy
  have n0 := (doW_act w y).cell 0 _ rfl
  have n1 := (doW_act w y).cell 1 _ rfl
  have HD := Lib.hid (act_data (doW_act w y))
  rw [hk] at n0
  clear h hc hy hk
  unfold doW at n0 n1
  go_enter Try.func18, Try.ntmps18
  go_wp2_with (refine ld37 rfl _ rfl w.heap.size 3 rfl y.data HD.out HY.out ?_)
  refine HC.out.mono ?_
  rintro e w3 ⟨rfl, v', hd3, hk3, hv3⟩
  obtain ⟨f1, f2, f3⟩ := do_fin H.out hd3 hk3 hv3 zsec err zsec_length
  have F1 := Lib.hid f1; have F2 := Lib.hid f2; have F3 := Lib.hid f3
  clear f1 f2 f3 hd3 hk3 hv3
  go_wp2_with (refine st37_over rfl _ _ rfl (w.heap.size + 1) rfl zsec zsec F1.out rfl zsec_length zsec_length ?_)
  exact bodyPost_ret (ret37_box Try.results18 _ _ zsec zsec_length _ _ rfl rfl F2.out) rfl F3.out

set_option maxRecDepth 20000 in
set_option maxHeartbeats 1600000 in
theorem do_flush (h : DiskAt w base p s v d) (hk : y.kind = 2) (err : Int) (d' : Dk)
    (hc : Calls Try.prog 12 #[.pointer (some ⟨p, 0, none⟩)] (doW w y) fun e w' => e = .returned (.int .i64 err) ∧ ∃ v', DiskAt w' base p s v' d' ∧ Kp (foot p s v) (doW w y) w' ∧ (∀ g, v'.ownBlock = some g → v.ownBlock = some g ∨ (doW w y).heap.size ≤ g)) :
    Calls Try.prog 18 #[.pointer (some ⟨p, 0, none⟩), .agg (actCells y).toArray] w (DoPost w base p s v zsec err d') := by
  have b0 := run_bldSec0
  have H := Lib.hid h; have HC := Lib.hid hc
  have n0 := (doW_act w y).cell 0 _ rfl
  rw [hk] at n0
  clear h hc hk
  unfold doW at n0
  go_enter Try.func18, Try.ntmps18
  go_wp2_with fail
  refine HC.out.mono ?_
  rintro e w3 ⟨rfl, v', hd3, hk3, hv3⟩
  obtain ⟨f1, f2, f3⟩ := do_fin H.out hd3 hk3 hv3 zsec err zsec_length
  have F1 := Lib.hid f1; have F2 := Lib.hid f2; have F3 := Lib.hid f3
  clear f1 f2 f3 hd3 hk3 hv3
  go_wp2_with (refine st37_over rfl _ _ rfl (w.heap.size + 1) rfl zsec zsec F1.out rfl zsec_length zsec_length ?_)
  exact bodyPost_ret (ret37_box Try.results18 _ _ zsec zsec_length _ _ rfl rfl F2.out) rfl F3.out

set_option maxRecDepth 20000 in
set_option maxHeartbeats 1600000 in
theorem do_break (h : DiskAt w base p s v d) (hk : y.kind = 3) (hn : y.at_ ≤ 9223372036854775807) :
    Calls Try.prog 18 #[.pointer (some ⟨p, 0, none⟩), .agg (actCells y).toArray] w (DoPost w base p s v zsec 0 { d with fuel := max y.at_ (-1) }) := by
  have b0 := run_bldSec0
  have hc := disk_Break (doW_disk h y) y.at_ hn
  have H := Lib.hid h; have HC := Lib.hid hc
  have n0 := (doW_act w y).cell 0 _ rfl
  have n1 := (doW_act w y).cell 1 _ rfl
  rw [hk] at n0
  clear h hc hk hn
  unfold doW at n0 n1
  go_enter Try.func18, Try.ntmps18
  go_wp2_with fail
  refine HC.out.mono ?_
  rintro e w3 ⟨rfl, hd3, hk3⟩
  obtain ⟨f1, f2, f3⟩ := do_fin (y := y) H.out hd3 (hk3.imp fun i _ hi => .inl hi) (fun g hg => .inl hg) zsec 0 zsec_length
  have F1 := Lib.hid f1; have F2 := Lib.hid f2; have F3 := Lib.hid f3
  clear f1 f2 f3 hd3 hk3
  go_wp2_with (refine st37_over rfl _ _ rfl (w.heap.size + 1) rfl zsec zsec F1.out rfl zsec_length zsec_length ?_)
  exact bodyPost_ret (ret37_box Try.results18 _ _ zsec zsec_length _ _ rfl rfl F2.out) rfl F3.out

set_option maxRecDepth 20000 in
set_option maxHeartbeats 1600000 in
theorem do_none (h : DiskAt w base p s v d) (h0 : y.kind ≠ 0) (h1 : y.kind ≠ 1) (h2 : y.kind ≠ 2) (h3 : y.kind ≠ 3) (h4 : y.kind ≠ 4) :
    Calls Try.prog 18 #[.pointer (some ⟨p, 0, none⟩), .agg (actCells y).toArray] w (DoPost w base p s v zsec 0 d) := by
  have b0 := run_bldSec0
  obtain ⟨f1, f2, f3⟩ := do_fin (y := y) h (doW_disk h y) (Kp.refl _ _) (fun g hg => .inl hg) zsec 0 zsec_length
  have F1 := Lib.hid f1; have F2 := Lib.hid f2; have F3 := Lib.hid f3
  have n0 := (doW_act w y).cell 0 _ rfl
  have q0 : (y.kind == 0) = false := by rw [beq_eq_false_iff_ne]; exact h0
  have q1 : (y.kind == 1) = false := by rw [beq_eq_false_iff_ne]; exact h1
  have q2 : (y.kind == 2) = false := by rw [beq_eq_false_iff_ne]; exact h2
  have q3 : (y.kind == 3) = false := by rw [beq_eq_false_iff_ne]; exact h3
  have q4 : (y.kind == 4) = false := by rw [beq_eq_false_iff_ne]; exact h4
  clear h f1 f2 f3 h0 h1 h2 h3 h4
  unfold doW at n0
  go_enter Try.func18, Try.ntmps18
  go_wp2_with (refine st37_over rfl _ _ rfl (w.heap.size + 1) rfl zsec zsec F1.out rfl zsec_length zsec_length ?_)
  exact bodyPost_ret (ret37_box Try.results18 _ _ zsec zsec_length _ _ rfl rfl F2.out) rfl F3.out
end
end Go.Proofs.Ytoghmakbdhepfaa
