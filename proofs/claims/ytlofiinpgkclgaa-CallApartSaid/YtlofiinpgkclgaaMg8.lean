/- Copies of labels and of calls. -/
import Derived.Test.YtlofiinpgkclgaaMg5
import Derived.Test.YtlofiinpgkclgaaMg2
import Derived.Test.YtlofiinpgkclgaaMg7
import Derived.Deep.RegionHeld3
import Derived.Deep.Cut
import Derived.Test.YtlofiinpgkclgaaMg6
namespace Go.Proofs.Ytlofiinpgkclgaa
open Go.RowKit

theorem RCats.rd {w : World} {A : Option Addr} {n c : Nat} {l : List CatD} (h : RCats w A n c l) : Rd w A n 2 (ccells l) := by
  obtain ⟨h1, h2, h3, h4⟩ := h
  refine ⟨by rw [ccells_length, h1], fun hp => ?_⟩
  obtain ⟨b, o, e, hc⟩ := h4 (by rw [ccells_length, h1] at hp; omega)
  refine ⟨b, o, e, fun j u hj => ?_⟩
  have hlt : j < l.length * 2 := by
    have := (List.getElem?_eq_some_iff.1 hj).1
    rwa [ccells_length] at this
  obtain ⟨g1, g2⟩ := hc (j / 2) (by omega)
  obtain ⟨q1, q2⟩ := ccells_get l (j / 2) (by omega)
  rcases Nat.mod_two_eq_zero_or_one j with e2 | e2
  · rw [show j / 2 * 2 = j by omega] at q1
    rw [q1] at hj
    injection hj with hj
    rw [← hj, ← g1]
    congr 2
    omega
  · rw [show j / 2 * 2 + 1 = j by omega] at q2
    rw [q2] at hj
    injection hj with hj
    rw [← hj, ← g2]
    congr 2
    omega
theorem ccells_one (l : List CatD) : ∀ u ∈ ccells l, u.oneCell' = true := by
  intro u hu
  simp only [ccells, List.mem_flatMap] at hu
  obtain ⟨c, _, hu⟩ := hu
  simp only [List.mem_cons, List.not_mem_nil, or_false] at hu
  rcases hu with rfl | rfl <;> rfl
set_option maxRecDepth 20000 in
set_option maxHeartbeats 3200000 in
theorem ref09_Copy (A : Option Addr) (n c : Nat) (l : LabD) (w : World) (hr : RCats w A n c l.cats) (hn : n * 16 ≤ 140737488355328) :
    Calls Try.prog 16 #[.agg #[.int .i64 l.dflt, .slice A n c]] w fun e w' => ∃ A' c', e = .returned (.agg #[.int .i64 l.dflt, .slice A' n c']) ∧ w'.ownsRow w.heap.size 65 2 (.slice A' n c') n (ccells l.cats) ∧ Below w.heap.size w w' := by
  obtain ⟨df, cs⟩ := l
  dsimp only at hr ⊢
  have hbb := balloc (below_alloc w (.cells #[.int .i64 df, .slice A n c] 26)) (.cells #[.int .i64 0, .slice none 0 0] 26)
  have HR := Lib.hid (hr.below hbb)
  have b1 := (Box2.new w 26 (.int .i64 df) (.slice A n c)).alloc (.cells #[.int .i64 0, .slice none 0 0] 26)
  have b2 := Box2.new (w.alloc (.cells #[.int .i64 df, .slice A n c] 26)) 26 (.int .i64 0) (.slice none 0 0)
  rw [World.size_alloc] at b2
  have hsz : ((w.alloc (.cells #[.int .i64 df, .slice A n c] 26)).alloc (.cells #[.int .i64 0, .slice none 0 0] 26)).heap.size = w.heap.size + 2 := by simp
  have HBB := Lib.hid hbb
  clear hr hbb
  go_enter Try.func16, Try.ntmps16
  go_wp2_with fail
  generalize (w.alloc (.cells #[.int .i64 df, .slice A n c] 26)).alloc (.cells #[.int .i64 0, .slice none 0 0] 26) = w1 at *
  have q0 := b1.cell0
  have q1 := b1.cell1
  have HB1 := Lib.hid b1; have HB2 := Lib.hid b2; have HSZ := Lib.hid hsz
  clear b1 b2 hsz
  go_region_held3 (fun W' => W'.cell? ⟨w.heap.size, 0, none⟩ = some (.int .i64 df) ∧ W'.cell? ⟨w.heap.size, 1, none⟩ = some (.slice A n c)) (first | exact ⟨q0, q1⟩ | assumption | exact ⟨(HB1.out.alloc _).cell0, (HB1.out.alloc _).cell1⟩ | exact ⟨k0, k1⟩ | exact hS5.out) (first
    | (refine step_append_any rfl _ _ 24 65 _ 2 16 rfl Try.underlying24 Try.infoCat rfl (by decide) (by decide) w1.heap.size (.slice (some ⟨w1.heap.size, 0, none⟩) 0 0) 0 [] A n c (ccells cs) rfl rfl (own_empty w1.drew w1.heap.size 65 2 (Nat.le_refl _)) (HR.out.below ((Below.refl _ w1).drew.alloc (Nat.le_refl _) _)).rd (ccells_one cs) (by omega) (by show _ ≤ (w1.drew.alloc _).heap.size; rw [World.size_alloc]; show _ ≤ w1.heap.size + 1; omega) ?_
       intro v4 w4 hown4 hg4 hat4
       rw [Nat.zero_add, List.nil_append] at hown4
       obtain ⟨A4, c4, rfl, -⟩ := own_rcats hown4
       have hne : ∀ B : Nat, B < w1.heap.size → some B ≠ (Value.slice (some ⟨w1.heap.size, 0, none⟩) 0 0).ownBlock := fun B hB e => by
         have e : some B = some w1.heap.size := e
         injection e with e
         omega
       have hz1 : w.heap.size < w1.heap.size ∧ w.heap.size + 1 < w1.heap.size := by have := HSZ.out; omega
       have hK1 := Lib.hid (Box2.kept (HB1.out.alloc (W := w1.drew) (.cells #[] 65)) hg4 (hne _ hz1.1))
       have hK2 := Box2.kept (HB2.out.alloc (W := w1.drew) (.cells #[] 65)) hg4 (hne _ hz1.2)
       have hS5 := Lib.hid ((fun W (h : Box2 W w.heap.size 26 (.int .i64 df) (.slice A n c)) => And.intro h.cell0 h.cell1) _ ((hK1.out.kept (grownBy_set w4 (w.heap.size + 1) 0 (.int .i64 df)) (fun e => by injection e with e; omega)).kept (grownBy_set _ (w.heap.size + 1) 1 (.slice A4 n c4)) (fun e => by injection e with e; omega)))
       have k0 := hK1.out.cell0
       have k1 := hK1.out.cell1
       have m0 := hK2.cell0
       have m1 := hK2.cell1
       have n0 := hK2.frozen 0
       have n1 := hK2.frozen 1
       have HBX := Lib.hid (HBB.out.trans (((Below.refl w1.heap.size w1).drew.alloc (Nat.le_refl _) (.cells #[] 65)).grown hg4 (by rw [World.size_alloc]; show _ ≤ w1.heap.size + 1; omega) (fun j e => by have e : some w1.heap.size = some j := e; injection e with e; omega) |>.mono (by have := HSZ.out; omega)))
       have HO4 := Lib.hid hown4
       have HK2 := Lib.hid hK2
       clear hown4 hg4 hat4 hne hz1 hK2))
  all_goals
    go_wp2_with fail
    have hv5 := (HK2.out.set0 (.int .i64 df)).set1 (.slice A4 n c4)
    have c50 := hv5.cell0
    have c51 := hv5.cell1
    have h9 := HSZ.out
    refine bodyPost_ret (v := .agg #[.int .i64 df, .slice A4 n c4]) ?_ rfl ⟨A4, c4, rfl, ?_, ?_⟩
    · simp [results, Try.f16, go_sem, c50, c51]
    · exact own_mono (own_set (own_set HO4.out ⟨w.heap.size + 1, 0, none⟩ _ (fun e => by have h3 : w1.heap.size ≤ w.heap.size + 1 := (HO4.out.lt _ e).1; omega)) ⟨w.heap.size + 1, 1, none⟩ _ (fun e => by have h3 : w1.heap.size ≤ w.heap.size + 1 := (HO4.out.lt _ e).1; omega)) (by omega)
    · exact (HBX.out.setCell (p := ⟨w.heap.size + 1, 0, none⟩) (Nat.le_succ _) _).setCell (p := ⟨w.heap.size + 1, 1, none⟩) (Nat.le_succ _) _
theorem Box12.set1 {W : World} {B : Nat} {x : CallD} {p : CallP} (h : Box12 W B x p) (A : Option Addr) (n c : Nat) : Box12 ((W.setCell ⟨B, 6, none⟩ (.int .i64 x.lab.dflt)).setCell ⟨B, 7, none⟩ (.slice A n c)) B x ⟨A, n, c, p.A2, p.n2, p.c2, p.A3, p.n3, p.c3⟩ :=
  ⟨heap_setCell_same _ _ _ _ _ _ (heap_setCell_same _ _ _ _ _ _ h.heap)⟩
theorem Box12.set2 {W : World} {B : Nat} {x : CallD} {p : CallP} (h : Box12 W B x p) (A : Option Addr) (n c : Nat) : Box12 ((W.setCell ⟨B, 8, none⟩ (.int .i64 x.clr.dflt)).setCell ⟨B, 9, none⟩ (.slice A n c)) B x ⟨p.A1, p.n1, p.c1, A, n, c, p.A3, p.n3, p.c3⟩ :=
  ⟨heap_setCell_same _ _ _ _ _ _ (heap_setCell_same _ _ _ _ _ _ h.heap)⟩
theorem Box12.set3 {W : World} {B : Nat} {x : CallD} {p : CallP} (h : Box12 W B x p) (A : Option Addr) (n c : Nat) : Box12 (W.setCell ⟨B, 10, none⟩ (.slice A n c)) B x ⟨p.A1, p.n1, p.c1, p.A2, p.n2, p.c2, A, n, c⟩ :=
  ⟨heap_setCell_same _ _ _ _ _ _ h.heap⟩
theorem Box12.frozen {W : World} {B : Nat} {x : CallD} {p : CallP} (h : Box12 W B x p) (j : Nat) : W.frozen? ⟨B, j, none⟩ = false := frozen_of_row W B j _ _ h.heap
theorem Box12.other {W : World} {B B' j : Nat} {x : CallD} {p : CallP} (h : Box12 W B x p) (hne : B ≠ B') (v : Value) : Box12 (W.setCell ⟨B', j, none⟩ v) B x p := ⟨(Below.heap_setCell _ _ _ _ hne).trans h.heap⟩
theorem grownBy_setCells (b : Nat) : ∀ (cs : List Value) (o : Nat) (W : World), W.grownBy (W.setCells b o cs) (some b)
  | [], _, W => ⟨rfl, rfl, rfl, Nat.le_refl _, fun _ _ _ => rfl⟩
  | v :: cs, o, W => by
    rw [World.setCells]
    have h1 := grownBy_set W b o v
    have h2 := grownBy_setCells b cs (o + 1) (W.setCell ⟨b, o, none⟩ v)
    exact ⟨h2.os.trans h1.os, h2.tape.trans h1.tape, h2.output.trans h1.output, Nat.le_trans h1.size h2.size, fun k hk hne => (h2.block k (Nat.lt_of_lt_of_le hk h1.size) hne).trans (h1.block k hk hne)⟩
theorem Box12.all {W : World} {B : Nat} {x0 : CallD} {p0 : CallP} (h : Box12 W B x0 p0) (x : CallD) (p : CallP) : Box12 (W.setCells B 0 (callCells x p).toList) B x p := by
  have h0 : W.heap[B]? = some (.cells #[.int .i64 x0.op, .int .i64 x0.n, .int .i64 x0.m, .int .u64 x0.dir, .int .u64 x0.obj, .int .u64 x0.dir2, .int .i64 x0.lab.dflt, .slice p0.A1 p0.n1 p0.c1, .int .i64 x0.clr.dflt, .slice p0.A2 p0.n2 p0.c2, .slice p0.A3 p0.n3 p0.c3, .int .u64 x0.bits] 29 (0, 0)) := h.heap
  clear h
  show Box12 (W.setCells B 0 [.int .i64 x.op, .int .i64 x.n, .int .i64 x.m, .int .u64 x.dir, .int .u64 x.obj, .int .u64 x.dir2, .int .i64 x.lab.dflt, .slice p.A1 p.n1 p.c1, .int .i64 x.clr.dflt, .slice p.A2 p.n2 p.c2, .slice p.A3 p.n3 p.c3, .int .u64 x.bits]) B x p
  simp only [World.setCells]
  obtain ⟨W1, e1⟩ : ∃ W', W.setCell ⟨B, 0, none⟩ (.int .i64 x.op) = W' := ⟨_, rfl⟩
  rw [e1]
  have h1 : W1.heap[B]? = some (.cells #[.int .i64 x.op, .int .i64 x0.n, .int .i64 x0.m, .int .u64 x0.dir, .int .u64 x0.obj, .int .u64 x0.dir2, .int .i64 x0.lab.dflt, .slice p0.A1 p0.n1 p0.c1, .int .i64 x0.clr.dflt, .slice p0.A2 p0.n2 p0.c2, .slice p0.A3 p0.n3 p0.c3, .int .u64 x0.bits] 29 (0, 0)) := by rw [← e1]; exact heap_setCell_same _ _ _ _ _ _ h0
  clear e1 h0
  obtain ⟨W2, e2⟩ : ∃ W', W1.setCell ⟨B, 0 + 1, none⟩ (.int .i64 x.n) = W' := ⟨_, rfl⟩
  rw [e2]
  have h2 : W2.heap[B]? = some (.cells #[.int .i64 x.op, .int .i64 x.n, .int .i64 x0.m, .int .u64 x0.dir, .int .u64 x0.obj, .int .u64 x0.dir2, .int .i64 x0.lab.dflt, .slice p0.A1 p0.n1 p0.c1, .int .i64 x0.clr.dflt, .slice p0.A2 p0.n2 p0.c2, .slice p0.A3 p0.n3 p0.c3, .int .u64 x0.bits] 29 (0, 0)) := by rw [← e2]; exact heap_setCell_same _ _ _ _ _ _ h1
  clear e2 h1
  obtain ⟨W3, e3⟩ : ∃ W', W2.setCell ⟨B, 0 + 1 + 1, none⟩ (.int .i64 x.m) = W' := ⟨_, rfl⟩
  rw [e3]
  have h3 : W3.heap[B]? = some (.cells #[.int .i64 x.op, .int .i64 x.n, .int .i64 x.m, .int .u64 x0.dir, .int .u64 x0.obj, .int .u64 x0.dir2, .int .i64 x0.lab.dflt, .slice p0.A1 p0.n1 p0.c1, .int .i64 x0.clr.dflt, .slice p0.A2 p0.n2 p0.c2, .slice p0.A3 p0.n3 p0.c3, .int .u64 x0.bits] 29 (0, 0)) := by rw [← e3]; exact heap_setCell_same _ _ _ _ _ _ h2
  clear e3 h2
  obtain ⟨W4, e4⟩ : ∃ W', W3.setCell ⟨B, 0 + 1 + 1 + 1, none⟩ (.int .u64 x.dir) = W' := ⟨_, rfl⟩
  rw [e4]
  have h4 : W4.heap[B]? = some (.cells #[.int .i64 x.op, .int .i64 x.n, .int .i64 x.m, .int .u64 x.dir, .int .u64 x0.obj, .int .u64 x0.dir2, .int .i64 x0.lab.dflt, .slice p0.A1 p0.n1 p0.c1, .int .i64 x0.clr.dflt, .slice p0.A2 p0.n2 p0.c2, .slice p0.A3 p0.n3 p0.c3, .int .u64 x0.bits] 29 (0, 0)) := by rw [← e4]; exact heap_setCell_same _ _ _ _ _ _ h3
  clear e4 h3
  obtain ⟨W5, e5⟩ : ∃ W', W4.setCell ⟨B, 0 + 1 + 1 + 1 + 1, none⟩ (.int .u64 x.obj) = W' := ⟨_, rfl⟩
  rw [e5]
  have h5 : W5.heap[B]? = some (.cells #[.int .i64 x.op, .int .i64 x.n, .int .i64 x.m, .int .u64 x.dir, .int .u64 x.obj, .int .u64 x0.dir2, .int .i64 x0.lab.dflt, .slice p0.A1 p0.n1 p0.c1, .int .i64 x0.clr.dflt, .slice p0.A2 p0.n2 p0.c2, .slice p0.A3 p0.n3 p0.c3, .int .u64 x0.bits] 29 (0, 0)) := by rw [← e5]; exact heap_setCell_same _ _ _ _ _ _ h4
  clear e5 h4
  obtain ⟨W6, e6⟩ : ∃ W', W5.setCell ⟨B, 0 + 1 + 1 + 1 + 1 + 1, none⟩ (.int .u64 x.dir2) = W' := ⟨_, rfl⟩
  rw [e6]
  have h6 : W6.heap[B]? = some (.cells #[.int .i64 x.op, .int .i64 x.n, .int .i64 x.m, .int .u64 x.dir, .int .u64 x.obj, .int .u64 x.dir2, .int .i64 x0.lab.dflt, .slice p0.A1 p0.n1 p0.c1, .int .i64 x0.clr.dflt, .slice p0.A2 p0.n2 p0.c2, .slice p0.A3 p0.n3 p0.c3, .int .u64 x0.bits] 29 (0, 0)) := by rw [← e6]; exact heap_setCell_same _ _ _ _ _ _ h5
  clear e6 h5
  obtain ⟨W7, e7⟩ : ∃ W', W6.setCell ⟨B, 0 + 1 + 1 + 1 + 1 + 1 + 1, none⟩ (.int .i64 x.lab.dflt) = W' := ⟨_, rfl⟩
  rw [e7]
  have h7 : W7.heap[B]? = some (.cells #[.int .i64 x.op, .int .i64 x.n, .int .i64 x.m, .int .u64 x.dir, .int .u64 x.obj, .int .u64 x.dir2, .int .i64 x.lab.dflt, .slice p0.A1 p0.n1 p0.c1, .int .i64 x0.clr.dflt, .slice p0.A2 p0.n2 p0.c2, .slice p0.A3 p0.n3 p0.c3, .int .u64 x0.bits] 29 (0, 0)) := by rw [← e7]; exact heap_setCell_same _ _ _ _ _ _ h6
  clear e7 h6
  obtain ⟨W8, e8⟩ : ∃ W', W7.setCell ⟨B, 0 + 1 + 1 + 1 + 1 + 1 + 1 + 1, none⟩ (.slice p.A1 p.n1 p.c1) = W' := ⟨_, rfl⟩
  rw [e8]
  have h8 : W8.heap[B]? = some (.cells #[.int .i64 x.op, .int .i64 x.n, .int .i64 x.m, .int .u64 x.dir, .int .u64 x.obj, .int .u64 x.dir2, .int .i64 x.lab.dflt, .slice p.A1 p.n1 p.c1, .int .i64 x0.clr.dflt, .slice p0.A2 p0.n2 p0.c2, .slice p0.A3 p0.n3 p0.c3, .int .u64 x0.bits] 29 (0, 0)) := by rw [← e8]; exact heap_setCell_same _ _ _ _ _ _ h7
  clear e8 h7
  obtain ⟨W9, e9⟩ : ∃ W', W8.setCell ⟨B, 0 + 1 + 1 + 1 + 1 + 1 + 1 + 1 + 1, none⟩ (.int .i64 x.clr.dflt) = W' := ⟨_, rfl⟩
  rw [e9]
  have h9 : W9.heap[B]? = some (.cells #[.int .i64 x.op, .int .i64 x.n, .int .i64 x.m, .int .u64 x.dir, .int .u64 x.obj, .int .u64 x.dir2, .int .i64 x.lab.dflt, .slice p.A1 p.n1 p.c1, .int .i64 x.clr.dflt, .slice p0.A2 p0.n2 p0.c2, .slice p0.A3 p0.n3 p0.c3, .int .u64 x0.bits] 29 (0, 0)) := by rw [← e9]; exact heap_setCell_same _ _ _ _ _ _ h8
  clear e9 h8
  obtain ⟨W10, e10⟩ : ∃ W', W9.setCell ⟨B, 0 + 1 + 1 + 1 + 1 + 1 + 1 + 1 + 1 + 1, none⟩ (.slice p.A2 p.n2 p.c2) = W' := ⟨_, rfl⟩
  rw [e10]
  have h10 : W10.heap[B]? = some (.cells #[.int .i64 x.op, .int .i64 x.n, .int .i64 x.m, .int .u64 x.dir, .int .u64 x.obj, .int .u64 x.dir2, .int .i64 x.lab.dflt, .slice p.A1 p.n1 p.c1, .int .i64 x.clr.dflt, .slice p.A2 p.n2 p.c2, .slice p0.A3 p0.n3 p0.c3, .int .u64 x0.bits] 29 (0, 0)) := by rw [← e10]; exact heap_setCell_same _ _ _ _ _ _ h9
  clear e10 h9
  obtain ⟨W11, e11⟩ : ∃ W', W10.setCell ⟨B, 0 + 1 + 1 + 1 + 1 + 1 + 1 + 1 + 1 + 1 + 1, none⟩ (.slice p.A3 p.n3 p.c3) = W' := ⟨_, rfl⟩
  rw [e11]
  have h11 : W11.heap[B]? = some (.cells #[.int .i64 x.op, .int .i64 x.n, .int .i64 x.m, .int .u64 x.dir, .int .u64 x.obj, .int .u64 x.dir2, .int .i64 x.lab.dflt, .slice p.A1 p.n1 p.c1, .int .i64 x.clr.dflt, .slice p.A2 p.n2 p.c2, .slice p.A3 p.n3 p.c3, .int .u64 x0.bits] 29 (0, 0)) := by rw [← e11]; exact heap_setCell_same _ _ _ _ _ _ h10
  clear e11 h10
  obtain ⟨W12, e12⟩ : ∃ W', W11.setCell ⟨B, 0 + 1 + 1 + 1 + 1 + 1 + 1 + 1 + 1 + 1 + 1 + 1, none⟩ (.int .u64 x.bits) = W' := ⟨_, rfl⟩
  rw [e12]
  have h12 : W12.heap[B]? = some (.cells #[.int .i64 x.op, .int .i64 x.n, .int .i64 x.m, .int .u64 x.dir, .int .u64 x.obj, .int .u64 x.dir2, .int .i64 x.lab.dflt, .slice p.A1 p.n1 p.c1, .int .i64 x.clr.dflt, .slice p.A2 p.n2 p.c2, .slice p.A3 p.n3 p.c3, .int .u64 x.bits] 29 (0, 0)) := by rw [← e12]; exact heap_setCell_same _ _ _ _ _ _ h11
  clear e12 h11
  exact ⟨h12⟩
theorem Box12.there {W : World} {B : Nat} {x : CallD} {p : CallP} (h : Box12 W B x p) : W.there B 0 12 := by
  intro j hj
  rw [Nat.zero_add]
  refine ⟨?_, h.frozen j⟩
  obtain ⟨k0, k1, k2, k3, k4, k5, k6, k7, k8, k9, k10, k11⟩ := h.cells
  have : j = 0 ∨ j = 1 ∨ j = 2 ∨ j = 3 ∨ j = 4 ∨ j = 5 ∨ j = 6 ∨ j = 7 ∨ j = 8 ∨ j = 9 ∨ j = 10 ∨ j = 11 := by omega
  rcases this with rfl | rfl | rfl | rfl | rfl | rfl | rfl | rfl | rfl | rfl | rfl | rfl <;> simp [*]
theorem Try.size29 : (Try.prog.info? 29).map (·.size) = some 12 := by kernel_rfl
def zeroC : CallD := ⟨0, 0, 0, 0, 0, 0, ⟨0, []⟩, ⟨0, []⟩, [], 0⟩
def zeroP : CallP := ⟨none, 0, 0, none, 0, 0, none, 0, 0⟩
set_option maxRecDepth 20000 in
set_option maxHeartbeats 3200000 in
theorem ref19_Copy (x : CallD) (p : CallP) (w : World) (hr : RCall w x p) (h1 : p.n1 * 16 ≤ 140737488355328) (h2 : p.n2 * 16 ≤ 140737488355328) :
    Calls Try.prog 9 #[callV x p] w fun e w' => ∃ p', e = .returned (callV x p') ∧ RCall w' x p' ∧ Below w.heap.size w w' := by
  have HR := Lib.hid hr
  obtain ⟨w1, hw1⟩ : ∃ w1, (w.alloc (.cells (callCells x p) 29)).alloc (.cells (callCells zeroC zeroP) 29) = w1 := ⟨_, rfl⟩
  have hb1 : Below w.heap.size w w1 := by rw [← hw1]; exact balloc (below_alloc w _) _
  have hs1 : w1.heap.size = w.heap.size + 2 := by rw [← hw1]; simp
  have hx1 : Box12 w1 w.heap.size x p := by rw [← hw1]; exact (Box12.new w x p).below (below_alloc _ _)
  have hz1 : Box12 w1 (w.heap.size + 1) zeroC zeroP := by
    rw [← hw1]
    have := Box12.new (w.alloc (.cells (callCells x p) 29)) zeroC zeroP
    rwa [World.size_alloc] at this
  have HB1 := Lib.hid hb1; have HS1 := Lib.hid hs1; have HX1 := Lib.hid hx1; have HZ1 := Lib.hid hz1
  have HL1 := Lib.hid (fun w' (hb : Below w.heap.size w w') => ref09_Copy p.A1 p.n1 p.c1 x.lab w' (hr.lab.cats.below hb) h1)
  have HL2 := Lib.hid (fun w' (hb : Below w.heap.size w w') => ref09_Copy p.A2 p.n2 p.c2 x.clr w' (hr.clr.cats.below hb) h2)
  clear hr hb1 hs1 hx1 hz1 h1 h2
  obtain ⟨op, nn, mm, dir, obj, dir2, lab, clr, data, bits⟩ := x
  obtain ⟨A1, n1, c1, A2, n2, c2, A3, n3, c3⟩ := p
  unfold callV
  unfold callCells zeroC zeroP at *
  dsimp only at *
  go_enter Try.func9, Try.ntmps9
  go_wp2_with fail
  rw [show (w.alloc (.cells #[.int .i64 op, .int .i64 nn, .int .i64 mm, .int .u64 dir, .int .u64 obj, .int .u64 dir2, .int .i64 lab.dflt, .slice A1 n1 c1, .int .i64 clr.dflt, .slice A2 n2 c2, .slice A3 n3 c3, .int .u64 bits] 29)).alloc (.cells #[.int .i64 0, .int .i64 0, .int .i64 0, .int .u64 0, .int .u64 0, .int .u64 0, .int .i64 0, .slice none 0 0, .int .i64 0, .slice none 0 0, .slice none 0 0, .int .u64 0] 29) = w1 from hw1]
  clear hw1
  refine (HL1.out _ HB1.out).mono ?_
  rintro e w2 ⟨A4, c4, rfl, hown2, hb2⟩
  have HX2 := Lib.hid (HX1.out.below hb2)
  have HZ2 := Lib.hid (HZ1.out.below hb2)
  have HB2 := Lib.hid (bthen HB1.out hb2)
  have HO2 := Lib.hid hown2
  have HS2 := Lib.hid (show w.heap.size + 2 ≤ w2.heap.size from HS1.out ▸ hb2.size)
  clear hown2 hb2
  obtain ⟨k0, k1, k2, k3, k4, k5, k6, k7, k8, k9, k10, k11⟩ := HX2.out.cells
  dsimp only at k0 k1 k2 k3 k4 k5 k6 k7 k8 k9 k10 k11
  have f6 := HX2.out.frozen 6
  have f7 := HX2.out.frozen 7
  go_wp2_with fail
  obtain ⟨w3, hw3⟩ : ∃ w3, (w2.setCell ⟨w.heap.size, 6, none⟩ (.int .i64 lab.dflt)).setCell ⟨w.heap.size, 7, none⟩ (.slice A4 n1 c4) = w3 := ⟨_, rfl⟩
  rw [hw3]
  have HX3 : Hid (Box12 w3 w.heap.size ⟨op, nn, mm, dir, obj, dir2, lab, clr, data, bits⟩ ⟨A4, n1, c4, A2, n2, c2, A3, n3, c3⟩) := Lib.hid (by rw [← hw3]; exact HX2.out.set1 A4 n1 c4)
  have HZ3 : Hid (Box12 w3 (w.heap.size + 1) zeroC zeroP) := Lib.hid (by rw [← hw3]; exact (HZ2.out.other (by omega) _).other (by omega) _)
  have HB3 : Hid (Below w.heap.size w w3) := Lib.hid (by rw [← hw3]; exact (HB2.out.setCell (p := ⟨w.heap.size, 6, none⟩) (Nat.le_refl _) _).setCell (p := ⟨w.heap.size, 7, none⟩) (Nat.le_refl _) _)
  have HO3 : Hid (w3.ownsRow w1.heap.size 65 2 (.slice A4 n1 c4) n1 (ccells lab.cats)) := Lib.hid (by
    rw [← hw3]
    exact own_set (own_set HO2.out ⟨w.heap.size, 6, none⟩ _ (fun e => by have h3 : w1.heap.size ≤ w.heap.size := (HO2.out.lt _ e).1; have := HS1.out; omega)) ⟨w.heap.size, 7, none⟩ _ (fun e => by have h3 : w1.heap.size ≤ w.heap.size := (HO2.out.lt _ e).1; have := HS1.out; omega))
  have HS3 : Hid (w.heap.size + 2 ≤ w3.heap.size) := Lib.hid (by rw [← hw3]; simpa [World.setCell] using HS2.out)
  clear hw3 k0 k1 k2 k3 k4 k5 k6 k7 k8 k9 k10 k11 f6 f7
  obtain ⟨k0, k1, k2, k3, k4, k5, k6, k7, k8, k9, k10, k11⟩ := HX3.out.cells
  dsimp only at k0 k1 k2 k3 k4 k5 k6 k7 k8 k9 k10 k11
  refine (HL2.out _ HB3.out).mono ?_
  rintro e w4 ⟨A5, c5, rfl, hown4, hb4⟩
  have HX4 := Lib.hid (HX3.out.below hb4)
  have HZ4 := Lib.hid (HZ3.out.below hb4)
  have HB4 := Lib.hid (bthen HB3.out hb4)
  have HO4 := Lib.hid hown4
  have HO4' := Lib.hid (own_below HO3.out hb4)
  clear hown4 hb4 k0 k1 k2 k3 k4 k5 k6 k7 k8 k9 k10 k11
  obtain ⟨k0, k1, k2, k3, k4, k5, k6, k7, k8, k9, k10, k11⟩ := HX4.out.cells
  dsimp only at k0 k1 k2 k3 k4 k5 k6 k7 k8 k9 k10 k11
  have f8 := HX4.out.frozen 8
  have f9 := HX4.out.frozen 9
  go_upto_region 3 with fail
  obtain ⟨w5, hw5⟩ : ∃ w5, (w4.setCell ⟨w.heap.size, 8, none⟩ (.int .i64 clr.dflt)).setCell ⟨w.heap.size, 9, none⟩ (.slice A5 n2 c5) = w5 := ⟨_, rfl⟩
  rw [hw5]
  have HX5 : Hid (Box12 w5 w.heap.size ⟨op, nn, mm, dir, obj, dir2, lab, clr, data, bits⟩ ⟨A4, n1, c4, A5, n2, c5, A3, n3, c3⟩) := Lib.hid (by rw [← hw5]; exact HX4.out.set2 A5 n2 c5)
  have HZ5 : Hid (Box12 w5 (w.heap.size + 1) zeroC zeroP) := Lib.hid (by rw [← hw5]; exact (HZ4.out.other (by omega) _).other (by omega) _)
  have HB5 : Hid (Below w.heap.size w w5) := Lib.hid (by rw [← hw5]; exact (HB4.out.setCell (p := ⟨w.heap.size, 8, none⟩) (Nat.le_refl _) _).setCell (p := ⟨w.heap.size, 9, none⟩) (Nat.le_refl _) _)
  have HO5' : Hid (w5.ownsRow w1.heap.size 65 2 (.slice A4 n1 c4) n1 (ccells lab.cats)) := Lib.hid (by
    rw [← hw5]
    exact own_set (own_set HO4'.out ⟨w.heap.size, 8, none⟩ _ (fun e => by have h3 : w1.heap.size ≤ w.heap.size := (HO4'.out.lt _ e).1; have := HS1.out; omega)) ⟨w.heap.size, 9, none⟩ _ (fun e => by have h3 : w1.heap.size ≤ w.heap.size := (HO4'.out.lt _ e).1; have := HS1.out; omega))
  have HO5 : Hid (w5.ownsRow (w.heap.size + 2) 65 2 (.slice A5 n2 c5) n2 (ccells clr.cats)) := Lib.hid (by
    rw [← hw5]
    exact own_mono (own_set (own_set HO4.out ⟨w.heap.size, 8, none⟩ _ (fun e => by have h3 : w3.heap.size ≤ w.heap.size := (HO4.out.lt _ e).1; have := HS3.out; omega)) ⟨w.heap.size, 9, none⟩ _ (fun e => by have h3 : w3.heap.size ≤ w.heap.size := (HO4.out.lt _ e).1; have := HS3.out; omega)) HS3.out)
  have HS5 : Hid (w.heap.size + 2 ≤ w5.heap.size) := Lib.hid (by rw [← hw5]; have := HB4.out.size; have h4 := HZ4.out.lt; simp [World.setCell]; omega)
  clear hw5 k0 k1 k2 k3 k4 k5 k6 k7 k8 k9 k10 k11 f8 f9
  have HXA := HX5.out.below (below_alloc w5 (.cells #[] 5))
  obtain ⟨k0, k1, k2, k3, k4, k5, k6, k7, k8, k9, k10, k11⟩ := HXA.cells
  dsimp only at k0 k1 k2 k3 k4 k5 k6 k7 k8 k9 k10 k11
  clear HXA
  go_upto_region 4 with (at_builtin; refine wpList_copy_bytes (W := w5) rfl _ _ 27 5 rfl Try.underlying27 Try.infoU8' A3 n3 c3 data w5.heap.size rfl rfl rfl (HR.out.data.below HB5.out) (by have := HR.out.dlen; dsimp only at this; omega) ?_; intro A6 c6 w6 hown6 hrb6 hb6; obtain ⟨kk0, kk1, kk2, kk3, kk4, kk5, kk6, kk7, kk8, kk9, kk10, kk11⟩ := (HX5.out.below hb6).cells; have f10 := (HX5.out.below hb6).frozen 10; dsimp only at kk0 kk1 kk2 kk3 kk4 kk5 kk6 kk7 kk8 kk9 kk10 kk11; have HR6 := Lib.hid hrb6; have HB6 := Lib.hid hb6; have HO6 := Lib.hid hown6; clear hown6 hrb6 hb6)
  obtain ⟨w7, hw7⟩ : ∃ w7, w6.setCell ⟨w.heap.size, 10, none⟩ (.slice A6 n3 c6) = w7 := ⟨_, rfl⟩
  rw [hw7]
  have hb57 : Below (w.heap.size + 2) w5 w7 → True := fun _ => trivial
  have HX7 : Hid (Box12 w7 w.heap.size ⟨op, nn, mm, dir, obj, dir2, lab, clr, data, bits⟩ ⟨A4, n1, c4, A5, n2, c5, A6, n3, c6⟩) := Lib.hid (by rw [← hw7]; exact (HX5.out.below HB6.out).set3 A6 n3 c6)
  have HZ7 : Hid (Box12 w7 (w.heap.size + 1) zeroC zeroP) := Lib.hid (by rw [← hw7]; exact (HZ5.out.below HB6.out).other (by omega) _)
  have HB7 : Hid (Below w.heap.size w w7) := Lib.hid (by rw [← hw7]; exact (bthen HB5.out HB6.out).setCell (p := ⟨w.heap.size, 10, none⟩) (Nat.le_refl _) _)
  have HP7 : Hid (w7.ownsRow (w.heap.size + 2) 65 2 (.slice A4 n1 c4) n1 (ccells lab.cats)) := Lib.hid (by
    rw [← hw7]
    exact own_set (own_mono (own_below HO5'.out HB6.out) (by have := HS1.out; omega)) ⟨w.heap.size, 10, none⟩ _ (fun e => by have h3 : w1.heap.size ≤ w.heap.size := (HO5'.out.lt _ e).1; have := HS1.out; omega))
  have HQ7 : Hid (w7.ownsRow (w.heap.size + 2) 65 2 (.slice A5 n2 c5) n2 (ccells clr.cats)) := Lib.hid (by
    rw [← hw7]
    exact own_set (own_below HO5.out HB6.out) ⟨w.heap.size, 10, none⟩ _ (fun e => by have h3 : w.heap.size + 2 ≤ w.heap.size := (HO5.out.lt _ e).1; omega))
  have HR7 : Hid (w7.ownsRow (w.heap.size + 2) 5 1 (.slice A6 n3 c6) n3 (bv data)) := Lib.hid (by
    rw [← hw7]
    exact own_set (own_mono HO6.out HS5.out) ⟨w.heap.size, 10, none⟩ _ (fun e => by have h3 : w5.heap.size ≤ w.heap.size := (HO6.out.lt _ e).1; have := HS5.out; omega))
  clear hw7 hb57 k0 k1 k2 k3 k4 k5 k6 k7 k8 k9 k10 k11 kk0 kk1 kk2 kk3 kk4 kk5 kk6 kk7 kk8 kk9 kk10 kk11 f10
  obtain ⟨k0, k1, k2, k3, k4, k5, k6, k7, k8, k9, k10, k11⟩ := HX7.out.cells
  dsimp only at k0 k1 k2 k3 k4 k5 k6 k7 k8 k9 k10 k11
  have HTH := Lib.hid HZ7.out.there
  go_wp2_with (refine wpList_store_mid rfl 29 _ _ rfl (w.heap.size + 1) 0 #[.int .i64 op, .int .i64 nn, .int .i64 mm, .int .u64 dir, .int .u64 obj, .int .u64 dir2, .int .i64 lab.dflt, .slice A4 n1 c4, .int .i64 clr.dflt, .slice A5 n2 c5, .slice A6 n3 c6, .int .u64 bits] rfl rfl HTH.out Try.size29 (by simp [Value.oneCell']) ?_)
  obtain ⟨w8, hw8⟩ : ∃ w8, w7.setCells (w.heap.size + 1) 0 [.int .i64 op, .int .i64 nn, .int .i64 mm, .int .u64 dir, .int .u64 obj, .int .u64 dir2, .int .i64 lab.dflt, .slice A4 n1 c4, .int .i64 clr.dflt, .slice A5 n2 c5, .slice A6 n3 c6, .int .u64 bits] = w8 := ⟨_, rfl⟩
  have hw8' : w7.setCells (w.heap.size + 1) 0 (callCells ⟨op, nn, mm, dir, obj, dir2, lab, clr, data, bits⟩ ⟨A4, n1, c4, A5, n2, c5, A6, n3, c6⟩).toList = w8 := hw8
  rw [hw8]
  have hg := grownBy_setCells (w.heap.size + 1) (callCells ⟨op, nn, mm, dir, obj, dir2, lab, clr, data, bits⟩ ⟨A4, n1, c4, A5, n2, c5, A6, n3, c6⟩).toList 0 w7
  rw [hw8'] at hg
  have hx8 := HZ7.out.all ⟨op, nn, mm, dir, obj, dir2, lab, clr, data, bits⟩ ⟨A4, n1, c4, A5, n2, c5, A6, n3, c6⟩
  rw [hw8'] at hx8
  clear hw8 hw8' k0 k1 k2 k3 k4 k5 k6 k7 k8 k9 k10 k11
  obtain ⟨k0, k1, k2, k3, k4, k5, k6, k7, k8, k9, k10, k11⟩ := hx8.cells
  dsimp only at k0 k1 k2 k3 k4 k5 k6 k7 k8 k9 k10 k11
  have hp8 := HP7.out.kept hg (.inr fun e => by have h3 := (HP7.out.lt _ e).1; omega)
  have hq8 := HQ7.out.kept hg (.inr fun e => by have h3 := (HQ7.out.lt _ e).1; omega)
  have hr8 := HR7.out.kept hg (.inr fun e => by have h3 := (HR7.out.lt _ e).1; omega)
  refine bodyPost_ret (v := .agg #[.int .i64 op, .int .i64 nn, .int .i64 mm, .int .u64 dir, .int .u64 obj, .int .u64 dir2, .int .i64 lab.dflt, .slice A4 n1 c4, .int .i64 clr.dflt, .slice A5 n2 c5, .slice A6 n3 c6, .int .u64 bits]) ?_ rfl ⟨⟨A4, n1, c4, A5, n2, c5, A6, n3, c6⟩, rfl, ?_, ?_⟩
  · simp [results, Try.f9, go_sem, k0, k1, k2, k3, k4, k5, k6, k7, k8, k9, k10, k11]
  · obtain ⟨_, _, e1, r1⟩ := own_rcats hp8
    obtain ⟨_, _, e2, r2⟩ := own_rcats hq8
    obtain ⟨_, _, e3, r3⟩ := own_rb hr8
    injection e1 with e1 _ e1'
    injection e2 with e2 _ e2'
    injection e3 with e3 _ e3'
    subst e1 e1' e2 e2' e3 e3'
    exact ⟨⟨r1, HR.out.lab.ids⟩, ⟨r2, HR.out.clr.ids⟩, r3, HR.out.dlen, HR.out.op, HR.out.n, HR.out.m, HR.out.ld, HR.out.cd, HR.out.big⟩
  · exact HB7.out.grown hg HB7.out.size (fun j e => by injection e with e; omega)
end Go.Proofs.Ytlofiinpgkclgaa

/- The call of bytes, as data; the ten fields in memory. -/
namespace Go.Proofs.Ytlofiinpgkclgaa
open Go.RowKit

/-- Bytes of a label's form. -/
def LabB (b : List UInt8) : Prop := b.length % 9 = 1 ∧ b.length ≤ 91
instance (b : List UInt8) : Decidable (LabB b) := by unfold LabB; infer_instance
def tenV (a n m d o d2 : Nat) (x y z : List UInt8) (t : Nat) : List V := [(a, []), (n, []), (m, []), (d, []), (o, []), (d2, []), (0, x), (0, y), (0, z), (t, [])]
structure TenOk (a n m d o d2 : Nat) (x y z : List UInt8) (t : Nat) : Prop where
  a : a < 256
  n : n < 65536
  m : m < 65536
  d : d < 18446744073709551616
  o : o < 18446744073709551616
  d2 : d2 < 18446744073709551616
  x : x.length ≤ 1024
  y : y.length ≤ 1024
  z : z.length ≤ 1024
  t : t < 18446744073709551616
theorem enc_num {c : UInt8} {w : Nat} (hw : letterW c = some (w + 1)) {v : V} {x : List UInt8} (h : encV c v = some x) : v.1 < 256 ^ (w + 1) := by
  simp only [encV, hw] at h
  split at h
  · assumption
  · cases h
theorem enc_b {v : V} {x : List UInt8} (h : encV 98 v = some x) : v.2.length ≤ 1024 := by
  have eb : letterW 98 = some 0 := rfl
  simp only [encV, eb] at h
  split at h
  · cases h
  · omega
theorem packL_cons {c : UInt8} {sh : List UInt8} {vs : List V} {x : List UInt8} (h : packL (c :: sh) vs = some x) : ∃ v r a b, vs = v :: r ∧ encV c v = some a ∧ packL sh r = some b := by
  match vs, h with
  | v :: r, h =>
    simp only [packL] at h
    split at h
    · rename_i a b ha hb
      exact ⟨v, r, a, b, rfl, ha, hb⟩
    · cases h
theorem packL_nil {vs : List V} {x : List UInt8} (h : packL [] vs = some x) : vs = [] := by
  match vs, h with
  | [], _ => rfl
theorem un_shape {bs : List UInt8} {vs : List V} (h : unpackM shapeC bs = some vs) : ∃ a n m d o d2 x y z t, vs = tenV a n m d o d2 x y z t ∧ TenOk a n m d o d2 x y z t ∧ packL shapeC vs = some bs := by
  obtain ⟨_, h1⟩ := (unpackM_iff _ _ _).1 h
  obtain ⟨x, hx, hb⟩ := un_pack shapeC _ _ _ h1
  rw [List.append_nil] at hb
  subst hb
  have hc := pack_un shapeC vs bs [] hx
  rw [List.append_nil, h1] at hc
  injection hc with hc
  injection hc with hc _
  have hx0 := hx
  unfold shapeC at hx
  obtain ⟨v0, r, _, _, rfl, e0, hx⟩ := packL_cons hx
  obtain ⟨v1, r, _, _, rfl, e1, hx⟩ := packL_cons hx
  obtain ⟨v2, r, _, _, rfl, e2, hx⟩ := packL_cons hx
  obtain ⟨v3, r, _, _, rfl, e3, hx⟩ := packL_cons hx
  obtain ⟨v4, r, _, _, rfl, e4, hx⟩ := packL_cons hx
  obtain ⟨v5, r, _, _, rfl, e5, hx⟩ := packL_cons hx
  obtain ⟨v6, r, _, _, rfl, e6, hx⟩ := packL_cons hx
  obtain ⟨v7, r, _, _, rfl, e7, hx⟩ := packL_cons hx
  obtain ⟨v8, r, _, _, rfl, e8, hx⟩ := packL_cons hx
  obtain ⟨v9, r, _, _, rfl, e9, hx⟩ := packL_cons hx
  obtain rfl := packL_nil hx
  simp only [canonL, shapeC, List.zipWith_cons_cons, List.zipWith_nil_left, List.cons.injEq, and_true] at hc
  obtain ⟨c0, c1, c2, c3, c4, c5, c6, c7, c8, c9⟩ := hc
  have n1 : ∀ v : V, v = canonV 49 v → v = (v.1, []) := fun v h => h.trans (by simp [canonV])
  have n2 : ∀ v : V, v = canonV 50 v → v = (v.1, []) := fun v h => h.trans (by simp [canonV])
  have n8 : ∀ v : V, v = canonV 56 v → v = (v.1, []) := fun v h => h.trans (by simp [canonV])
  have nb : ∀ v : V, v = canonV 98 v → v = (0, v.2) := fun v h => h.trans (by simp [canonV])
  refine ⟨v0.1, v1.1, v2.1, v3.1, v4.1, v5.1, v6.2, v7.2, v8.2, v9.1, ?_, ⟨?_, ?_, ?_, ?_, ?_, ?_, ?_, ?_, ?_, ?_⟩, hx0⟩
  · unfold tenV
    rw [← n1 _ c0, ← n2 _ c1, ← n2 _ c2, ← n8 _ c3, ← n8 _ c4, ← n8 _ c5, ← nb _ c6, ← nb _ c7, ← nb _ c8, ← n8 _ c9]
  · simpa using enc_num (w := 0) rfl e0
  · simpa using enc_num (w := 1) rfl e1
  · simpa using enc_num (w := 1) rfl e2
  · simpa using enc_num (w := 7) rfl e3
  · simpa using enc_num (w := 7) rfl e4
  · simpa using enc_num (w := 7) rfl e5
  · exact enc_b e6
  · exact enc_b e7
  · exact enc_b e8
  · simpa using enc_num (w := 7) rfl e9
/-- The call of bytes. -/
def readM (bs : List UInt8) : Option CallD := match unpackM shapeC bs with
  | some [(a, _), (n, _), (m, _), (d, _), (o, _), (d2, _), (_, x), (_, y), (_, z), (t, _)] => if z.length ≤ 128 ∧ LabB x ∧ LabB y then some ⟨(a : Int), (n : Int), (m : Int), d, o, d2, labOf x, labOf y, z, t⟩ else none
  | _ => none
theorem readM_none {bs : List UInt8} (h : unpackM shapeC bs = none) : readM bs = none := by unfold readM; rw [h]
theorem readM_ten {bs : List UInt8} {a n m d o d2 : Nat} {x y z : List UInt8} {t : Nat} (h : unpackM shapeC bs = some (tenV a n m d o d2 x y z t)) :
    readM bs = if z.length ≤ 128 ∧ LabB x ∧ LabB y then some ⟨(a : Int), (n : Int), (m : Int), d, o, d2, labOf x, labOf y, z, t⟩ else none := by
  unfold readM
  rw [h]
  rfl
/-- The ten fields in memory. -/
structure Ten (w : World) (base g o' : Nat) (a n m d o d2 : Nat) (A6 : Option Addr) (n6 c6 : Nat) (A7 : Option Addr) (n7 c7 : Nat) (A8 : Option Addr) (n8 c8 : Nat) (t : Nat) : Prop where
  base : base ≤ g
  i0 : w.cell? ⟨g, o', none⟩ = some (.int .u64 (a : Nat))
  i1 : w.cell? ⟨g, o' + 2, none⟩ = some (.int .u64 (n : Nat))
  i2 : w.cell? ⟨g, o' + 4, none⟩ = some (.int .u64 (m : Nat))
  i3 : w.cell? ⟨g, o' + 6, none⟩ = some (.int .u64 (d : Nat))
  i4 : w.cell? ⟨g, o' + 8, none⟩ = some (.int .u64 (o : Nat))
  i5 : w.cell? ⟨g, o' + 10, none⟩ = some (.int .u64 (d2 : Nat))
  i6 : w.cell? ⟨g, o' + 12 + 1, none⟩ = some (.slice A6 n6 c6)
  i7 : w.cell? ⟨g, o' + 14 + 1, none⟩ = some (.slice A7 n7 c7)
  i8 : w.cell? ⟨g, o' + 16 + 1, none⟩ = some (.slice A8 n8 c8)
  i9 : w.cell? ⟨g, o' + 18, none⟩ = some (.int .u64 (t : Nat))
theorem Ten.lt {w : World} {base g o' a n m d o d2 : Nat} {A6 : Option Addr} {n6 c6 : Nat} {A7 : Option Addr} {n7 c7 : Nat} {A8 : Option Addr} {n8 c8 t : Nat} (h : Ten w base g o' a n m d o d2 A6 n6 c6 A7 n7 c7 A8 n8 c8 t) : g < w.heap.size := World.block_lt_of_cell? w _ h.i0
theorem Ten.below {w w' : World} {base g o' a n m d o d2 : Nat} {A6 : Option Addr} {n6 c6 : Nat} {A7 : Option Addr} {n7 c7 : Nat} {A8 : Option Addr} {n8 c8 t : Nat} (h : Ten w base g o' a n m d o d2 A6 n6 c6 A7 n7 c7 A8 n8 c8 t) (hb : Below w.heap.size w w') : Ten w' base g o' a n m d o d2 A6 n6 c6 A7 n7 c7 A8 n8 c8 t :=
  ⟨h.base, (hb.cell (p := ⟨g, _, none⟩) h.lt).trans h.i0, (hb.cell (p := ⟨g, _, none⟩) h.lt).trans h.i1, (hb.cell (p := ⟨g, _, none⟩) h.lt).trans h.i2, (hb.cell (p := ⟨g, _, none⟩) h.lt).trans h.i3, (hb.cell (p := ⟨g, _, none⟩) h.lt).trans h.i4, (hb.cell (p := ⟨g, _, none⟩) h.lt).trans h.i5, (hb.cell (p := ⟨g, _, none⟩) h.lt).trans h.i6, (hb.cell (p := ⟨g, _, none⟩) h.lt).trans h.i7, (hb.cell (p := ⟨g, _, none⟩) h.lt).trans h.i8, (hb.cell (p := ⟨g, _, none⟩) h.lt).trans h.i9⟩
theorem Ten.set {w : World} {base g o' a n m d o d2 : Nat} {A6 : Option Addr} {n6 c6 : Nat} {A7 : Option Addr} {n7 c7 : Nat} {A8 : Option Addr} {n8 c8 t : Nat} (h : Ten w base g o' a n m d o d2 A6 n6 c6 A7 n7 c7 A8 n8 c8 t) (B j : Nat) (v : Value) (hne : g ≠ B) : Ten (w.setCell ⟨B, j, none⟩ v) base g o' a n m d o d2 A6 n6 c6 A7 n7 c7 A8 n8 c8 t := by
  have k : ∀ (i : Nat), (w.setCell ⟨B, j, none⟩ v).cell? ⟨g, i, none⟩ = w.cell? ⟨g, i, none⟩ := fun i => World.cell?_of_block (Below.heap_setCell _ _ _ _ hne)
  exact ⟨h.base, (k _).trans h.i0, (k _).trans h.i1, (k _).trans h.i2, (k _).trans h.i3, (k _).trans h.i4, (k _).trans h.i5, (k _).trans h.i6, (k _).trans h.i7, (k _).trans h.i8, (k _).trans h.i9⟩
theorem ten_list {lk : List FieldD} {vs : List V} (h : vs.length = 10) (hv : vs = vals lk) : ∃ f0 f1 f2 f3 f4 f5 f6 f7 f8 f9, lk = [f0, f1, f2, f3, f4, f5, f6, f7, f8, f9] := by
  have hl : lk.length = 10 := by rw [hv] at h; simpa [vals] using h
  rcases lk with _ | ⟨f0, _ | ⟨f1, _ | ⟨f2, _ | ⟨f3, _ | ⟨f4, _ | ⟨f5, _ | ⟨f6, _ | ⟨f7, _ | ⟨f8, _ | ⟨f9, _ | ⟨f10, lk⟩⟩⟩⟩⟩⟩⟩⟩⟩⟩⟩
  all_goals first
    | exact ⟨_, _, _, _, _, _, _, _, _, _, rfl⟩
    | (exfalso; simp at hl)
/-- What unpacking a call leaves. -/
theorem unpack_ten {w w' : World} {e : Ending} {a n m d o d2 : Nat} {x y z : List UInt8} {t : Nat} (h : UnpackedPost w (some (tenV a n m d o d2 x y z t)) e w') :
    Below w.heap.size w w' ∧ ∃ g o' c A6 n6 c6 A7 n7 c7 A8 n8 c8, e = .returned (.tuple #[.slice (some ⟨g, o', none⟩) 10 c, .int .i64 0]) ∧ Ten w' w.heap.size g o' a n m d o d2 A6 n6 c6 A7 n7 c7 A8 n8 c8 t ∧ RB w' A6 n6 c6 x ∧ RB w' A7 n7 c7 y ∧ RB w' A8 n8 c8 z := by
  obtain ⟨hb, ⟨v, lk, hlk, rfl, hof⟩ | ⟨hno, -⟩⟩ := h
  · refine ⟨hb, ?_⟩
    injection hlk with hlk
    obtain ⟨f0, f1, f2, f3, f4, f5, f6, f7, f8, f9, rfl⟩ := ten_list rfl hlk
    · obtain ⟨A2, c2, rfl, hrf⟩ := hof.read
      obtain ⟨g, o', rfl, hfs⟩ := hrf.2.2.2 (by show 0 < 10; omega)
      simp only [tenV, vals, List.map_cons, List.map_nil, List.cons.injEq, Prod.mk.injEq, and_true] at hlk
      obtain ⟨⟨q0, _⟩, ⟨q1, _⟩, ⟨q2, _⟩, ⟨q3, _⟩, ⟨q4, _⟩, ⟨q5, _⟩, ⟨_, q6⟩, ⟨_, q7⟩, ⟨_, q8⟩, ⟨q9, _⟩⟩ := hlk
      obtain ⟨r0, _⟩ := hfs 0 (by show 0 < 10; omega)
      obtain ⟨r1, _⟩ := hfs 1 (by show 1 < 10; omega)
      obtain ⟨r2, _⟩ := hfs 2 (by show 2 < 10; omega)
      obtain ⟨r3, _⟩ := hfs 3 (by show 3 < 10; omega)
      obtain ⟨r4, _⟩ := hfs 4 (by show 4 < 10; omega)
      obtain ⟨r5, _⟩ := hfs 5 (by show 5 < 10; omega)
      obtain ⟨r6, k6⟩ := hfs 6 (by show 6 < 10; omega)
      obtain ⟨r7, k7⟩ := hfs 7 (by show 7 < 10; omega)
      obtain ⟨r8, k8⟩ := hfs 8 (by show 8 < 10; omega)
      obtain ⟨r9, _⟩ := hfs 9 (by show 9 < 10; omega)
      refine ⟨g, o', c2, f6.A, f6.n, f6.c, f7.A, f7.n, f7.c, f8.A, f8.n, f8.c, rfl, ⟨(hof.row.lt g rfl).1, ?_, ?_, ?_, ?_, ?_, ?_, r6 1 _ rfl, r7 1 _ rfl, r8 1 _ rfl, ?_⟩, ?_, ?_, ?_⟩
      · rw [q0]; exact r0 0 _ rfl
      · rw [q1]; exact r1 0 _ rfl
      · rw [q2]; exact r2 0 _ rfl
      · rw [q3]; exact r3 0 _ rfl
      · rw [q4]; exact r4 0 _ rfl
      · rw [q5]; exact r5 0 _ rfl
      · rw [q9]; exact r9 0 _ rfl
      · rw [q6]; exact k6.rb
      · rw [q7]; exact k7.rb
      · rw [q8]; exact k8.rb
  · cases hno
/-- What Read answers and leaves (the document's as well). -/
def RdPost (w : World) (r : Option CallD) (e : Ending) (w' : World) : Prop :=
  Below w.heap.size w w' ∧ ∃ x p z, e = .returned (.tuple #[callV x p, .int .i64 z]) ∧ RCall w' x p ∧ p.n1 * 16 ≤ 140737488355328 ∧ p.n2 * 16 ≤ 140737488355328 ∧ ((r = some x ∧ z = 0) ∨ (r = none ∧ x = zeroC ∧ z = 191))
theorem rcats_nil (w : World) : RCats w none 0 0 [] := ⟨rfl, Nat.le_refl _, by omega, fun h => absurd h (by omega)⟩
theorem rcall_zero (w : World) : RCall w zeroC zeroP :=
  ⟨⟨rcats_nil w, fun j hj => absurd hj (by show ¬ j < 0; omega)⟩, ⟨rcats_nil w, fun j hj => absurd hj (by show ¬ j < 0; omega)⟩, RB.nil w, Nat.zero_le _, ⟨by decide, by decide⟩, ⟨by decide, by decide⟩, ⟨by decide, by decide⟩, ⟨by decide, by decide⟩, ⟨by decide, by decide⟩, ⟨by decide, by decide, by decide, by decide⟩⟩
theorem catOf_lt (bs : List UInt8) (k : Nat) : (catOf bs k).id < 18446744073709551616 := numOf_small _ 8 (by decide)
theorem atC_catsOf (bs : List UInt8) (q k : Nat) (h : k < q) : atC (catsOf bs q) k = catOf bs k := by simp [atC, catsOf, List.getD_eq_getElem?_getD, h]
theorem rlab_of {w : World} {A : Option Addr} {n c : Nat} {bs : List UInt8} (h : RCats w A n c (labOf bs).cats) : RLab w A n c (labOf bs) :=
  ⟨h, fun j hj => by
    have hl := h.1
    rw [show (labOf bs).cats = catsOf bs (bs.length / 9) from rfl, catsOf_length] at hl
    rw [show (labOf bs).cats = catsOf bs (bs.length / 9) from rfl, atC_catsOf _ _ _ (by omega)]
    exact catOf_lt _ _⟩
theorem lab1_catOf (x : List UInt8) (k : Nat) (h : 10 + 9 * k ≤ x.length) : lab1 (catOf x k) = (x.drop (1 + 9 * k)).take 9 := by
  unfold lab1 catOf
  dsimp only
  rw [be_numOf _ 8 (by simp; omega)]
  have e : byt (((at8 x (9 + 9 * k)).toNat : Nat) : Int) = at8 x (9 + 9 * k) := by simp [byt]
  rw [e]
  have h9 : ((x.drop (1 + 9 * k)).take 9) = ((x.drop (1 + 9 * k)).take 8) ++ [at8 (x.drop (1 + 9 * k)) 8] := take_at8 _ 8 (by simp; omega)
  rw [h9]
  congr 2
  simp only [at8, List.getD_eq_getElem?_getD, List.getElem?_drop]
  congr 2
  omega
theorem labTo_of (x : List UInt8) (q : Nat) (hx : x.length = 9 * q + 1) : ∀ k, k ≤ q → labTo (labOf x) k = x.take (1 + 9 * k) := by
  have hq : (labOf x).cats = catsOf x q := by show catsOf x (x.length / 9) = _; rw [hx]; congr 1; omega
  intro k
  induction k with
  | zero =>
    intro _
    have h1 : x.take (0 + 1) = x.take 0 ++ [at8 x 0] := take_at8 x 0 (by omega)
    have e : byt (((at8 x 0).toNat : Nat) : Int) = at8 x 0 := by simp [byt]
    show byt (((at8 x 0).toNat : Nat) : Int) :: _ = _
    rw [e]
    simpa using h1.symm
  | succ k ih =>
    intro hk
    rw [labTo_succ _ _ (by rw [hq, catsOf_length]; omega), ih (by omega), hq, atC_catsOf _ _ _ (by omega), lab1_catOf x k (by omega), ← List.take_add]
    first | rfl | (congr 1; omega)
/-- A label's bytes, there and back. -/
theorem lab_back {x : List UInt8} (h : LabB x) : labBytes (labOf x) = some x := by
  obtain ⟨h1, h2⟩ := h
  obtain ⟨q, hq⟩ : ∃ q, x.length = 9 * q + 1 := ⟨x.length / 9, by omega⟩
  have hc : (labOf x).cats = catsOf x q := by show catsOf x (x.length / 9) = _; rw [hq]; congr 1; omega
  have hl : (labOf x).cats.length = q := by rw [hc, catsOf_length]
  have b0 := (at8 x 0).toNat_lt
  rw [labBytes_some (by omega) ⟨by show 0 ≤ (((at8 x 0).toNat : Nat) : Int); omega, by show (((at8 x 0).toNat : Nat) : Int) ≤ 255; omega⟩ (fun j hj => by
    rw [hc, atC_catsOf _ _ _ (by omega)]
    have := (at8 x (9 + 9 * j)).toNat_lt
    exact ⟨by show 0 ≤ (((at8 x (9 + 9 * j)).toNat : Nat) : Int); omega, by show (((at8 x (9 + 9 * j)).toNat : Nat) : Int) ≤ 255; omega⟩), hl, labTo_of x q hq q (Nat.le_refl _), List.take_of_length_le (by omega)]
end Go.Proofs.Ytlofiinpgkclgaa
