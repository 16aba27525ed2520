/- call.Read: the call of bytes. -/
import Derived.Test.YtlofiinpgkclgaaMg8
import Derived.Test.YtlofiinpgkclgaaMg7
import Derived.Deep.Cut
import Derived.Deep.QuietTactic
import Derived.BigQuiet
import Derived.Deep.RegionHeld3
import Derived.Test.YtlofiinpgkclgaaMg5
namespace Go.Proofs.Ytlofiinpgkclgaa
open Go.RowKit

theorem below_setCells {w W : World} {B : Nat} (h : Below w.heap.size w W) (hB : w.heap.size ≤ B) (cs : List Value) (o : Nat) : Below w.heap.size w (W.setCells B o cs) :=
  h.grown (grownBy_setCells B cs o W) h.size (fun j e => by injection e with e; omega)
theorem RB.set_box {W : World} {A : Option Addr} {n c B : Nat} {xs : List UInt8} {x : CallD} {p : CallP} (h : RB W A n c xs) (hz : Box12 W B x p) (cs : List Value) : RB (W.setCells B 0 cs) A n c xs := by
  obtain ⟨h1, h2, h3, h4⟩ := h
  refine ⟨h1, h2, h3, fun hp => ?_⟩
  obtain ⟨b, o, e, hc⟩ := h4 hp
  refine ⟨b, o, e, fun k hk => ?_⟩
  have hk' := hc k hk
  have hne : b ≠ B := by
    rintro rfl
    rw [cell_of_row _ _ _ _ _ _ hz.heap] at hk'
    have hlt := (Array.getElem?_eq_some_iff.1 hk').1
    have hlt : o + k < 12 := hlt
    obtain ⟨j, hj⟩ : ∃ j, j = o + k := ⟨_, rfl⟩
    rw [← hj] at hk' hlt
    have : j = 0 ∨ j = 1 ∨ j = 2 ∨ j = 3 ∨ j = 4 ∨ j = 5 ∨ j = 6 ∨ j = 7 ∨ j = 8 ∨ j = 9 ∨ j = 10 ∨ j = 11 := by omega
    rcases this with rfl | rfl | rfl | rfl | rfl | rfl | rfl | rfl | rfl | rfl | rfl | rfl <;> simp [callCells] at hk'
  exact (World.cell?_of_block ((grownBy_setCells B cs 0 W).block b (World.block_lt_of_cell? W _ hk') (fun e => hne (by injection e)))).trans hk'
/-- labelOf's answer in one shape. -/
theorem labelOf_one {P : Program} {f : FuncId} {args : Array Value} {w : World} {bs : List UInt8} (h : Calls P f args w (LabelPost w bs)) : Calls P f args w fun e w' => Below w.heap.size w w' ∧ ∃ l A n c, e = .returned (.tuple #[.agg #[.int .i64 l.dflt, .slice A n c], .bool (decide (LabB bs))]) ∧ w'.ownsRow w.heap.size 65 2 (.slice A n c) n (ccells l.cats) ∧ n ≤ 10 ∧ (LabB bs → l = labOf bs) := by
  refine h.mono ?_
  rintro e w' ⟨hb, ⟨h1, h2, v, rfl, hown⟩ | ⟨h1, rfl⟩⟩
  · obtain ⟨A, c, rfl, -⟩ := own_rcats hown
    refine ⟨hb, labOf bs, A, _, c, by rw [decide_eq_true (show LabB bs from ⟨h1, h2⟩)], hown, ?_, fun _ => rfl⟩
    rw [show (labOf bs).cats = catsOf bs (bs.length / 9) from rfl, catsOf_length]
    omega
  · exact ⟨hb, ⟨0, []⟩, none, 0, 0, by rw [decide_eq_false (show ¬ LabB bs from h1)], World.ownsRow_nil _ _ _ _, by omega, fun h => absurd h h1⟩
set_option maxRecDepth 20000 in
set_option maxHeartbeats 6400000 in
theorem call_Read (A : Option Addr) (n c : Nat) (bs : List UInt8) (w : World) (hr : RB w A n c bs) : Calls Try.prog 13 #[.slice A n c] w (RdPost w (readM bs)) := by
  obtain ⟨w0, hw0⟩ : ∃ w0, w.alloc (.cells (callCells zeroC zeroP) 29) = w0 := ⟨_, rfl⟩
  have HB0 : Hid (Below w.heap.size w w0) := Lib.hid (by rw [← hw0]; exact below_alloc _ _)
  have HZ0 : Hid (Box12 w0 w.heap.size zeroC zeroP) := Lib.hid (by rw [← hw0]; exact Box12.new _ _ _)
  have HS0 : Hid (w0.heap.size = w.heap.size + 1) := Lib.hid (by rw [← hw0]; simp)
  have HU := Lib.hid (codec_Unpack shapeC A n c bs w0 (hr.below (hw0 ▸ below_alloc w _)))
  have HN := Lib.hid (@readM_none bs)
  have HT := Lib.hid (fun a n m d o d2 x y z t => @readM_ten bs a n m d o d2 x y z t)
  have HSH := Lib.hid (fun vs => @un_shape bs vs)
  clear hr
  unfold callCells zeroC zeroP at hw0
  dsimp only at hw0
  go_enter Try.func13, Try.ntmps13
  go_wp2_with fail
  rw [show w.alloc (.cells #[.int .i64 0, .int .i64 0, .int .i64 0, .int .u64 0, .int .u64 0, .int .u64 0, .int .i64 0, .slice none 0 0, .int .i64 0, .slice none 0 0, .slice none 0 0, .int .u64 0] 29) = w0 from hw0]
  clear hw0
  refine HU.out.mono ?_
  rintro e w1 hp
  cases hu : unpackM shapeC bs with
  | none =>
    rw [hu] at hp
    obtain ⟨hb, ⟨v, lk, hno, -⟩ | ⟨-, rfl⟩⟩ := hp
    · cases hno
    · have HB1 := Lib.hid (bthen HB0.out hb)
      have HZ1 := Lib.hid (HZ0.out.below hb)
      have HTH := Lib.hid HZ1.out.there
      have HNN := Lib.hid (HN.out hu)
      clear hb hu
      go_wp2_with (refine wpList_store_mid rfl 29 _ _ rfl w.heap.size 0 #[.int .i64 0, .int .i64 0, .int .i64 0, .int .u64 0, .int .u64 0, .int .u64 0, .int .i64 0, .slice none 0 0, .int .i64 0, .slice none 0 0, .slice none 0 0, .int .u64 0] rfl rfl HTH.out Try.size29 (by simp [Value.oneCell']) ?_)
      have hx8 := HZ1.out.all zeroC zeroP
      have hb8 := below_setCells HB1.out (Nat.le_refl _) (callCells zeroC zeroP).toList 0
      rw [show (callCells zeroC zeroP).toList = [.int .i64 0, .int .i64 0, .int .i64 0, .int .u64 0, .int .u64 0, .int .u64 0, .int .i64 0, .slice none 0 0, .int .i64 0, .slice none 0 0, .slice none 0 0, .int .u64 0] from rfl] at hx8 hb8
      generalize w1.setCells w.heap.size 0 [.int .i64 0, .int .i64 0, .int .i64 0, .int .u64 0, .int .u64 0, .int .u64 0, .int .i64 0, .slice none 0 0, .int .i64 0, .slice none 0 0, .slice none 0 0, .int .u64 0] = w8 at *
      obtain ⟨k0, k1, k2, k3, k4, k5, k6, k7, k8, k9, k10, k11⟩ := hx8.cells
      dsimp only [zeroC, zeroP] at k0 k1 k2 k3 k4 k5 k6 k7 k8 k9 k10 k11
      refine bodyPost_ret (v := .tuple #[.agg #[.int .i64 0, .int .i64 0, .int .i64 0, .int .u64 0, .int .u64 0, .int .u64 0, .int .i64 0, .slice none 0 0, .int .i64 0, .slice none 0 0, .slice none 0 0, .int .u64 0], .int .i64 191]) ?_ rfl ⟨hb8, zeroC, zeroP, 191, rfl, rcall_zero _, by decide, by decide, .inr ⟨HNN.out, rfl, rfl⟩⟩
      simp [results, Try.f13, go_sem, k0, k1, k2, k3, k4, k5, k6, k7, k8, k9, k10, k11]
  | some vs =>
    rw [hu] at hp
    obtain ⟨a, nn, m, d, o, d2, x, y, z, t, rfl, hok, -⟩ := HSH.out _ hu
    obtain ⟨hb, g, o', c9, A6, n6, c6, A7, n7, c7, A8, n8, c8, rfl, hten, r6, r7, r8⟩ := unpack_ten hp
    have HB1 := Lib.hid (bthen HB0.out hb)
    have HZ1 := Lib.hid (HZ0.out.below hb)
    have HTT := Lib.hid (HT.out _ _ _ _ _ _ _ _ _ _ hu)
    have HOK := Lib.hid hok
    have HR6 := Lib.hid r6; have HR7 := Lib.hid r7; have HR8 := Lib.hid r8
    have HTEN := Lib.hid hten
    have HSZ1 : Hid (w.heap.size + 1 ≤ w1.heap.size) := Lib.hid (HS0.out ▸ hb.size)
    obtain ⟨hg, i0, i1, i2, i3, i4, i5, i6, i7, i8, i9⟩ := hten
    have HG : Hid (w.heap.size + 1 ≤ g) := Lib.hid (HS0.out ▸ hg)
    clear hp hu hok r6 r7 r8 hb hg
    have HL8 : Hid (z.length = n8) := Lib.hid HR8.out.1
    by_cases h8 : n8 ≤ 128
    · have q8 : decide ((128 : Int) < (n8 : Int)) = false := decide_eq_false (by omega)
      have v1 : IntKind.i64.wrap (a : Int) = (a : Int) := by have := HOK.out.a; simp [IntKind.wrap, IntKind.signed, IntKind.bits]; omega
      have v2 : IntKind.i64.wrap (nn : Int) = (nn : Int) := by have := HOK.out.n; simp [IntKind.wrap, IntKind.signed, IntKind.bits]; omega
      have v3 : IntKind.i64.wrap (m : Int) = (m : Int) := by have := HOK.out.m; simp [IntKind.wrap, IntKind.signed, IntKind.bits]; omega
      have HKA := Lib.hid (fun (ob : Obj) => And.intro (cell_al ob i0) (And.intro (cell_al ob i1) (And.intro (cell_al ob i2) (And.intro (cell_al ob i3) (And.intro (cell_al ob i4) (And.intro (cell_al ob i5) (And.intro (cell_al ob i8) (cell_al ob i9))))))))
      have hS0 := And.intro i0 (And.intro i1 (And.intro i2 (And.intro i3 (And.intro i4 (And.intro i5 (And.intro i8 i9))))))
      go_upto_region 4 with fail
      clear i0 i1 i2 i3 i4 i5 i6 i7 i8 i9
      go_region_held3 (fun W' => W'.cell? ⟨g, o', none⟩ = some (.int .u64 (a : Nat)) ∧ W'.cell? ⟨g, o' + 2, none⟩ = some (.int .u64 (nn : Nat)) ∧ W'.cell? ⟨g, o' + 4, none⟩ = some (.int .u64 (m : Nat)) ∧ W'.cell? ⟨g, o' + 6, none⟩ = some (.int .u64 (d : Nat)) ∧ W'.cell? ⟨g, o' + 8, none⟩ = some (.int .u64 (o : Nat)) ∧ W'.cell? ⟨g, o' + 10, none⟩ = some (.int .u64 (d2 : Nat)) ∧ W'.cell? ⟨g, o' + 16 + 1, none⟩ = some (.slice A8 n8 c8) ∧ W'.cell? ⟨g, o' + 18, none⟩ = some (.int .u64 (t : Nat))) (first | assumption | exact HKA.out _) (fail)
      go_upto_region 6 with fail
      obtain ⟨w2, hw2⟩ : ∃ w2, (w1.alloc (.cells #[.int .i64 a, .int .i64 nn, .int .i64 m, .int .u64 d, .int .u64 o, .int .u64 d2, .int .i64 0, .slice none 0 0, .int .i64 0, .slice none 0 0, .slice A8 n8 c8, .int .u64 t] 29)).drew = w2 := ⟨_, rfl⟩
      rw [hw2]
      have hb12 : Below w1.heap.size w1 w2 := by rw [← hw2]; exact (below_alloc _ _).drew
      have HX2 : Hid (Box12 w2 w1.heap.size ⟨a, nn, m, d, o, d2, ⟨0, []⟩, ⟨0, []⟩, z, t⟩ ⟨none, 0, 0, none, 0, 0, A8, n8, c8⟩) := Lib.hid (by rw [← hw2]; exact ⟨(Box12.new w1 ⟨a, nn, m, d, o, d2, ⟨0, []⟩, ⟨0, []⟩, z, t⟩ ⟨none, 0, 0, none, 0, 0, A8, n8, c8⟩).heap⟩)
      have HS2 : Hid (w2.heap.size = w1.heap.size + 1) := Lib.hid (by rw [← hw2]; show (w1.alloc _).heap.size = _; simp)
      have HB2 := Lib.hid (bthen HB1.out hb12)
      have HZ2 := Lib.hid (HZ1.out.below hb12)
      have HT2 := Lib.hid (HTEN.out.below hb12)
      have HB12 := Lib.hid hb12
      have HC6 := Lib.hid (labelOf_one (call_labelOf A6 n6 c6 x w2 (HR6.out.below hb12) (by have := HOK.out.x; have := HR6.out.1; omega)))
      have i6 := HT2.out.i6
      clear hb12 hw2
      go_wp2_with fail
      refine HC6.out.mono ?_
      rintro e w3 ⟨hb23, l6, B6, m6, e6, rfl, hown6, hl6, hq6⟩
      have HX3 := Lib.hid (HX2.out.below hb23); have HZ3 := Lib.hid (HZ2.out.below hb23); have HT3 := Lib.hid (HT2.out.below hb23); have HB3 := Lib.hid (bthen HB2.out hb23)
      have HB13 := Lib.hid (bthen HB12.out hb23)
      have HO3 : Hid (w3.ownsRow (w1.heap.size + 1) 65 2 (.slice B6 m6 e6) m6 (ccells l6.cats)) := Lib.hid (HS2.out ▸ hown6)
      have HL6 := Lib.hid hl6; have HQ6 := Lib.hid hq6
      have HS3 : Hid (w1.heap.size + 1 ≤ w3.heap.size) := Lib.hid (HS2.out ▸ hb23.size)
      obtain ⟨-, -, -, -, -, -, k6, k7, -, -, -, -⟩ := HX3.out.cells
      dsimp only at k6 k7
      have f6 := HX3.out.frozen 6
      have f7 := HX3.out.frozen 7
      clear hb23 hown6 hl6 hq6 i6
      go_upto_region 7 with fail
      obtain ⟨w4, hw4⟩ : ∃ w4, (w3.setCell ⟨w1.heap.size, 6, none⟩ (.int .i64 l6.dflt)).setCell ⟨w1.heap.size, 7, none⟩ (.slice B6 m6 e6) = w4 := ⟨_, rfl⟩
      rw [hw4]
      have HX4 : Hid (Box12 w4 w1.heap.size ⟨a, nn, m, d, o, d2, l6, ⟨0, []⟩, z, t⟩ ⟨B6, m6, e6, none, 0, 0, A8, n8, c8⟩) := Lib.hid (by
        rw [← hw4]
        exact ⟨heap_setCell_same _ _ _ _ _ _ (heap_setCell_same _ _ _ _ _ _ HX3.out.heap)⟩)
      have HZ4 : Hid (Box12 w4 w.heap.size zeroC zeroP) := Lib.hid (by rw [← hw4]; exact (HZ3.out.other (by have := HSZ1.out; omega) _).other (by have := HSZ1.out; omega) _)
      have HT4 := Lib.hid (hw4 ▸ ((HT3.out.set w1.heap.size 6 (.int .i64 l6.dflt) (by have := HTEN.out.lt; omega)).set w1.heap.size 7 (.slice B6 m6 e6) (by have := HTEN.out.lt; omega)))
      have HB4 : Hid (Below w.heap.size w w4) := Lib.hid (by rw [← hw4]; exact (HB3.out.setCell (p := ⟨w1.heap.size, 6, none⟩) (by show _ ≤ w1.heap.size; have := HSZ1.out; omega) _).setCell (p := ⟨w1.heap.size, 7, none⟩) (by show _ ≤ w1.heap.size; have := HSZ1.out; omega) _)
      have HO4 : Hid (w4.ownsRow (w1.heap.size + 1) 65 2 (.slice B6 m6 e6) m6 (ccells l6.cats)) := Lib.hid (by
        rw [← hw4]
        exact own_set (own_set HO3.out ⟨w1.heap.size, 6, none⟩ _ (fun e => by have h3 : w1.heap.size + 1 ≤ w1.heap.size := (HO3.out.lt _ e).1; omega)) ⟨w1.heap.size, 7, none⟩ _ (fun e => by have h3 : w1.heap.size + 1 ≤ w1.heap.size := (HO3.out.lt _ e).1; omega))
      have HB14 : Hid (Below w1.heap.size w1 w4) := Lib.hid (by rw [← hw4]; exact (HB13.out.setCell (p := ⟨w1.heap.size, 6, none⟩) (Nat.le_refl _) _).setCell (p := ⟨w1.heap.size, 7, none⟩) (Nat.le_refl _) _)
      have HR7d := Lib.hid (HR7.out.below HB14.out)
      have HS4 : Hid (w1.heap.size + 1 ≤ w4.heap.size) := Lib.hid (by rw [← hw4]; simpa [World.setCell] using HS3.out)
      have HC7 := Lib.hid (labelOf_one (call_labelOf A7 n7 c7 y w4 HR7d.out (by have := HOK.out.y; have := HR7.out.1; omega)))
      clear hw4 k6 k7 f6 f7
      have i7 := HT4.out.i7
      go_wp2_with fail
      refine HC7.out.mono ?_
      rintro e w5 ⟨hb45, l7, B7, m7, e7, rfl, hown7, hl7, hq7⟩
      have HX5 := Lib.hid (HX4.out.below hb45); have HZ5 := Lib.hid (HZ4.out.below hb45); have HB5 := Lib.hid (bthen HB4.out hb45)
      have HB15 := Lib.hid (bthen HB14.out hb45)
      have HO5 : Hid (w5.ownsRow (w1.heap.size + 1) 65 2 (.slice B7 m7 e7) m7 (ccells l7.cats)) := Lib.hid (own_mono hown7 HS4.out)
      have HO5' := Lib.hid (own_below HO4.out hb45)
      have HL7 := Lib.hid hl7; have HQ7 := Lib.hid hq7
      obtain ⟨-, -, -, -, -, -, -, -, k8, k9, -, -⟩ := HX5.out.cells
      dsimp only at k8 k9
      have f8 := HX5.out.frozen 8
      have f9 := HX5.out.frozen 9
      clear hb45 hown7 hl7 hq7 i7
      go_upto_region 8 with fail
      obtain ⟨w6, hw6⟩ : ∃ w6, (w5.setCell ⟨w1.heap.size, 8, none⟩ (.int .i64 l7.dflt)).setCell ⟨w1.heap.size, 9, none⟩ (.slice B7 m7 e7) = w6 := ⟨_, rfl⟩
      rw [hw6]
      have HX6 : Hid (Box12 w6 w1.heap.size ⟨a, nn, m, d, o, d2, l6, l7, z, t⟩ ⟨B6, m6, e6, B7, m7, e7, A8, n8, c8⟩) := Lib.hid (by
        rw [← hw6]
        exact ⟨heap_setCell_same _ _ _ _ _ _ (heap_setCell_same _ _ _ _ _ _ HX5.out.heap)⟩)
      have HZ6 : Hid (Box12 w6 w.heap.size zeroC zeroP) := Lib.hid (by rw [← hw6]; exact (HZ5.out.other (by have := HSZ1.out; omega) _).other (by have := HSZ1.out; omega) _)
      have HB6 : Hid (Below w.heap.size w w6) := Lib.hid (by rw [← hw6]; exact (HB5.out.setCell (p := ⟨w1.heap.size, 8, none⟩) (by show _ ≤ w1.heap.size; have := HSZ1.out; omega) _).setCell (p := ⟨w1.heap.size, 9, none⟩) (by show _ ≤ w1.heap.size; have := HSZ1.out; omega) _)
      have HO6 : Hid (w6.ownsRow (w1.heap.size + 1) 65 2 (.slice B6 m6 e6) m6 (ccells l6.cats)) := Lib.hid (by
        rw [← hw6]
        exact own_set (own_set HO5'.out ⟨w1.heap.size, 8, none⟩ _ (fun e => by have h3 : w1.heap.size + 1 ≤ w1.heap.size := (HO5'.out.lt _ e).1; omega)) ⟨w1.heap.size, 9, none⟩ _ (fun e => by have h3 : w1.heap.size + 1 ≤ w1.heap.size := (HO5'.out.lt _ e).1; omega))
      have HO7 : Hid (w6.ownsRow (w1.heap.size + 1) 65 2 (.slice B7 m7 e7) m7 (ccells l7.cats)) := Lib.hid (by
        rw [← hw6]
        exact own_set (own_set HO5.out ⟨w1.heap.size, 8, none⟩ _ (fun e => by have h3 : w1.heap.size + 1 ≤ w1.heap.size := (HO5.out.lt _ e).1; omega)) ⟨w1.heap.size, 9, none⟩ _ (fun e => by have h3 : w1.heap.size + 1 ≤ w1.heap.size := (HO5.out.lt _ e).1; omega))
      have HB16 : Hid (Below w1.heap.size w1 w6) := Lib.hid (by rw [← hw6]; exact (HB15.out.setCell (p := ⟨w1.heap.size, 8, none⟩) (Nat.le_refl _) _).setCell (p := ⟨w1.heap.size, 9, none⟩) (Nat.le_refl _) _)
      have HTH := Lib.hid HZ6.out.there
      clear hw6 k8 k9 f8 f9
      by_cases hx : LabB x
      · by_cases hy : LabB y
        · have z1 := decide_eq_true hx
          have z2 := decide_eq_true hy
          obtain rfl := HQ6.out hx
          obtain rfl := HQ7.out hy
          have HRM : Hid (readM bs = some ⟨a, nn, m, d, o, d2, labOf x, labOf y, z, t⟩) := Lib.hid (by rw [HTT.out, if_pos ⟨by rw [HL8.out]; exact h8, hx, hy⟩])
          obtain ⟨k0, k1, k2, k3, k4, k5, k6, k7, k8, k9, k10, k11⟩ := HX6.out.cells
          dsimp only at k0 k1 k2 k3 k4 k5 k6 k7 k8 k9 k10 k11
          have HLX := Lib.hid hx; have HLY := Lib.hid hy
          clear hx hy
          rw [z1, z2]
          clear z1 z2
          go_wp2_with (refine wpList_store_mid rfl 29 _ _ rfl w.heap.size 0 #[.int .i64 a, .int .i64 nn, .int .i64 m, .int .u64 d, .int .u64 o, .int .u64 d2, .int .i64 (labOf x).dflt, .slice B6 m6 e6, .int .i64 (labOf y).dflt, .slice B7 m7 e7, .slice A8 n8 c8, .int .u64 t] rfl rfl HTH.out Try.size29 (by simp [Value.oneCell']) ?_)
          have hx8 := HZ6.out.all ⟨a, nn, m, d, o, d2, labOf x, labOf y, z, t⟩ ⟨B6, m6, e6, B7, m7, e7, A8, n8, c8⟩
          have hb8 := below_setCells HB6.out (Nat.le_refl _) (callCells ⟨a, nn, m, d, o, d2, labOf x, labOf y, z, t⟩ ⟨B6, m6, e6, B7, m7, e7, A8, n8, c8⟩).toList 0
          have hg8 := grownBy_setCells w.heap.size (callCells ⟨a, nn, m, d, o, d2, labOf x, labOf y, z, t⟩ ⟨B6, m6, e6, B7, m7, e7, A8, n8, c8⟩).toList 0 w6
          have hr8 := (HR8.out.below HB16.out).set_box HZ6.out (callCells ⟨a, nn, m, d, o, d2, labOf x, labOf y, z, t⟩ ⟨B6, m6, e6, B7, m7, e7, A8, n8, c8⟩).toList
          rw [show (callCells ⟨a, nn, m, d, o, d2, labOf x, labOf y, z, t⟩ ⟨B6, m6, e6, B7, m7, e7, A8, n8, c8⟩).toList = [.int .i64 a, .int .i64 nn, .int .i64 m, .int .u64 d, .int .u64 o, .int .u64 d2, .int .i64 (labOf x).dflt, .slice B6 m6 e6, .int .i64 (labOf y).dflt, .slice B7 m7 e7, .slice A8 n8 c8, .int .u64 t] from rfl] at hx8 hb8 hg8 hr8
          generalize w6.setCells w.heap.size 0 [.int .i64 a, .int .i64 nn, .int .i64 m, .int .u64 d, .int .u64 o, .int .u64 d2, .int .i64 (labOf x).dflt, .slice B6 m6 e6, .int .i64 (labOf y).dflt, .slice B7 m7 e7, .slice A8 n8 c8, .int .u64 t] = w8 at *
          clear k0 k1 k2 k3 k4 k5 k6 k7 k8 k9 k10 k11
          obtain ⟨k0, k1, k2, k3, k4, k5, k6, k7, k8, k9, k10, k11⟩ := hx8.cells
          dsimp only at k0 k1 k2 k3 k4 k5 k6 k7 k8 k9 k10 k11
          have hp8 := HO6.out.kept hg8 (.inr fun e => by have h3 := (HO6.out.lt _ e).1; have := HSZ1.out; omega)
          have hq8 := HO7.out.kept hg8 (.inr fun e => by have h3 := (HO7.out.lt _ e).1; have := HSZ1.out; omega)
          refine bodyPost_ret (v := .tuple #[.agg #[.int .i64 a, .int .i64 nn, .int .i64 m, .int .u64 d, .int .u64 o, .int .u64 d2, .int .i64 (labOf x).dflt, .slice B6 m6 e6, .int .i64 (labOf y).dflt, .slice B7 m7 e7, .slice A8 n8 c8, .int .u64 t], .int .i64 0]) ?_ rfl ⟨hb8, ⟨a, nn, m, d, o, d2, labOf x, labOf y, z, t⟩, ⟨B6, m6, e6, B7, m7, e7, A8, n8, c8⟩, 0, rfl, ?_, by show m6 * 16 ≤ _; have := HL6.out; omega, by show m7 * 16 ≤ _; have := HL7.out; omega, .inl ⟨HRM.out, rfl⟩⟩
          · simp [results, Try.f13, go_sem, k0, k1, k2, k3, k4, k5, k6, k7, k8, k9, k10, k11]
          · obtain ⟨_, _, e1, r1⟩ := own_rcats hp8
            obtain ⟨_, _, e2, r2⟩ := own_rcats hq8
            injection e1 with e1 _ e1'
            injection e2 with e2 _ e2'
            subst e1 e1' e2 e2'
            have b6 := (at8 x 0).toNat_lt
            have b7 := (at8 y 0).toNat_lt
            have hz8 := HL8.out
            have h10 := HOK.out.z
            exact ⟨rlab_of r1, rlab_of r2, hr8, by show n8 ≤ _; omega, ⟨by show _ ≤ (a : Int); omega, by show (a : Int) ≤ _; have := HOK.out.a; omega⟩, ⟨by show _ ≤ (nn : Int); omega, by show (nn : Int) ≤ _; have := HOK.out.n; omega⟩, ⟨by show _ ≤ (m : Int); omega, by show (m : Int) ≤ _; have := HOK.out.m; omega⟩, ⟨by show _ ≤ (((at8 x 0).toNat : Nat) : Int); omega, by show (((at8 x 0).toNat : Nat) : Int) ≤ _; omega⟩, ⟨by show _ ≤ (((at8 y 0).toNat : Nat) : Int); omega, by show (((at8 y 0).toNat : Nat) : Int) ≤ _; omega⟩, ⟨HOK.out.d, HOK.out.o, HOK.out.d2, HOK.out.t⟩⟩
        · have HNN : Hid (readM bs = none) := Lib.hid (by rw [HTT.out, if_neg (by rintro ⟨_, _, h⟩; exact hy h)])
          rw [decide_eq_true hx, decide_eq_false hy]
          clear hx hy
          go_wp2_with (refine wpList_store_mid rfl 29 _ _ rfl w.heap.size 0 #[.int .i64 0, .int .i64 0, .int .i64 0, .int .u64 0, .int .u64 0, .int .u64 0, .int .i64 0, .slice none 0 0, .int .i64 0, .slice none 0 0, .slice none 0 0, .int .u64 0] rfl rfl HTH.out Try.size29 (by simp [Value.oneCell']) ?_)
          have hx8 := HZ6.out.all zeroC zeroP
          have hb8 := below_setCells HB6.out (Nat.le_refl _) (callCells zeroC zeroP).toList 0
          rw [show (callCells zeroC zeroP).toList = [.int .i64 0, .int .i64 0, .int .i64 0, .int .u64 0, .int .u64 0, .int .u64 0, .int .i64 0, .slice none 0 0, .int .i64 0, .slice none 0 0, .slice none 0 0, .int .u64 0] from rfl] at hx8 hb8
          generalize w6.setCells w.heap.size 0 [.int .i64 0, .int .i64 0, .int .i64 0, .int .u64 0, .int .u64 0, .int .u64 0, .int .i64 0, .slice none 0 0, .int .i64 0, .slice none 0 0, .slice none 0 0, .int .u64 0] = w8 at *
          obtain ⟨k0, k1, k2, k3, k4, k5, k6, k7, k8, k9, k10, k11⟩ := hx8.cells
          dsimp only [zeroC, zeroP] at k0 k1 k2 k3 k4 k5 k6 k7 k8 k9 k10 k11
          refine bodyPost_ret (v := .tuple #[.agg #[.int .i64 0, .int .i64 0, .int .i64 0, .int .u64 0, .int .u64 0, .int .u64 0, .int .i64 0, .slice none 0 0, .int .i64 0, .slice none 0 0, .slice none 0 0, .int .u64 0], .int .i64 191]) ?_ rfl ⟨hb8, zeroC, zeroP, 191, rfl, rcall_zero _, by decide, by decide, .inr ⟨HNN.out, rfl, rfl⟩⟩
          simp [results, Try.f13, go_sem, k0, k1, k2, k3, k4, k5, k6, k7, k8, k9, k10, k11]
      · have HNN : Hid (readM bs = none) := Lib.hid (by rw [HTT.out, if_neg (by rintro ⟨_, h, _⟩; exact hx h)])
        rw [decide_eq_false hx]
        clear hx
        go_wp2_with (refine wpList_store_mid rfl 29 _ _ rfl w.heap.size 0 #[.int .i64 0, .int .i64 0, .int .i64 0, .int .u64 0, .int .u64 0, .int .u64 0, .int .i64 0, .slice none 0 0, .int .i64 0, .slice none 0 0, .slice none 0 0, .int .u64 0] rfl rfl HTH.out Try.size29 (by simp [Value.oneCell']) ?_)
        have hx8 := HZ6.out.all zeroC zeroP
        have hb8 := below_setCells HB6.out (Nat.le_refl _) (callCells zeroC zeroP).toList 0
        rw [show (callCells zeroC zeroP).toList = [.int .i64 0, .int .i64 0, .int .i64 0, .int .u64 0, .int .u64 0, .int .u64 0, .int .i64 0, .slice none 0 0, .int .i64 0, .slice none 0 0, .slice none 0 0, .int .u64 0] from rfl] at hx8 hb8
        generalize w6.setCells w.heap.size 0 [.int .i64 0, .int .i64 0, .int .i64 0, .int .u64 0, .int .u64 0, .int .u64 0, .int .i64 0, .slice none 0 0, .int .i64 0, .slice none 0 0, .slice none 0 0, .int .u64 0] = w8 at *
        obtain ⟨k0, k1, k2, k3, k4, k5, k6, k7, k8, k9, k10, k11⟩ := hx8.cells
        dsimp only [zeroC, zeroP] at k0 k1 k2 k3 k4 k5 k6 k7 k8 k9 k10 k11
        refine bodyPost_ret (v := .tuple #[.agg #[.int .i64 0, .int .i64 0, .int .i64 0, .int .u64 0, .int .u64 0, .int .u64 0, .int .i64 0, .slice none 0 0, .int .i64 0, .slice none 0 0, .slice none 0 0, .int .u64 0], .int .i64 191]) ?_ rfl ⟨hb8, zeroC, zeroP, 191, rfl, rcall_zero _, by decide, by decide, .inr ⟨HNN.out, rfl, rfl⟩⟩
        simp [results, Try.f13, go_sem, k0, k1, k2, k3, k4, k5, k6, k7, k8, k9, k10, k11]
    · have q8 : decide ((128 : Int) < (n8 : Int)) = true := decide_eq_true (by omega)
      have HTH := Lib.hid HZ1.out.there
      have HNN : Hid (readM bs = none) := Lib.hid (by rw [HTT.out, if_neg (by rintro ⟨h, _⟩; rw [HL8.out] at h; exact h8 h)])
      go_wp2_with (refine wpList_store_mid rfl 29 _ _ rfl w.heap.size 0 #[.int .i64 0, .int .i64 0, .int .i64 0, .int .u64 0, .int .u64 0, .int .u64 0, .int .i64 0, .slice none 0 0, .int .i64 0, .slice none 0 0, .slice none 0 0, .int .u64 0] rfl rfl HTH.out Try.size29 (by simp [Value.oneCell']) ?_)
      have hx8 := HZ1.out.all zeroC zeroP
      have hb8 := below_setCells HB1.out (Nat.le_refl _) (callCells zeroC zeroP).toList 0
      rw [show (callCells zeroC zeroP).toList = [.int .i64 0, .int .i64 0, .int .i64 0, .int .u64 0, .int .u64 0, .int .u64 0, .int .i64 0, .slice none 0 0, .int .i64 0, .slice none 0 0, .slice none 0 0, .int .u64 0] from rfl] at hx8 hb8
      generalize w1.setCells w.heap.size 0 [.int .i64 0, .int .i64 0, .int .i64 0, .int .u64 0, .int .u64 0, .int .u64 0, .int .i64 0, .slice none 0 0, .int .i64 0, .slice none 0 0, .slice none 0 0, .int .u64 0] = w8 at *
      obtain ⟨k0, k1, k2, k3, k4, k5, k6, k7, k8, k9, k10, k11⟩ := hx8.cells
      dsimp only [zeroC, zeroP] at k0 k1 k2 k3 k4 k5 k6 k7 k8 k9 k10 k11
      refine bodyPost_ret (v := .tuple #[.agg #[.int .i64 0, .int .i64 0, .int .i64 0, .int .u64 0, .int .u64 0, .int .u64 0, .int .i64 0, .slice none 0 0, .int .i64 0, .slice none 0 0, .slice none 0 0, .int .u64 0], .int .i64 191]) ?_ rfl ⟨hb8, zeroC, zeroP, 191, rfl, rcall_zero _, by decide, by decide, .inr ⟨HNN.out, rfl, rfl⟩⟩
      simp [results, Try.f13, go_sem, k0, k1, k2, k3, k4, k5, k6, k7, k8, k9, k10, k11]
end Go.Proofs.Ytlofiinpgkclgaa

/- call.Write: a call as bytes. -/
namespace Go.Proofs.Ytlofiinpgkclgaa
open Go.RowKit

theorem writeM_none1 {x : CallD} (h : labBytes x.lab = none) : writeM x = none := by unfold writeM; rw [h]
theorem writeM_none2 {x : CallD} (h : labBytes x.clr = none) : writeM x = none := by unfold writeM; rw [h]; split <;> first | rfl | simp_all
theorem writeM_none3 {x : CallD} (h : ¬ CallOk x) : writeM x = none := by unfold writeM; split <;> first | rfl | exact if_neg h
theorem writeM_eq {x : CallD} {a b : List UInt8} (h1 : labBytes x.lab = some a) (h2 : labBytes x.clr = some b) (h : CallOk x) : writeM x = packL shapeC (valsC x a b) := by unfold writeM; rw [h1, h2]; exact if_pos h
/-- The k-th number (a name that the walk leaves alone). -/
def atN (l : List Nat) (k : Nat) : Nat := l.getD k 0
/-- The first k numbers as fields. -/
def numF (l : List Nat) (k : Nat) : List FieldD := (l.take k).map fun v => ⟨v, none, 0, 0, []⟩
theorem numF_succ (l : List Nat) (k : Nat) (h : k < l.length) : numF l (k + 1) = numF l k ++ [⟨atN l k, none, 0, 0, []⟩] := by
  unfold numF
  rw [List.take_succ_eq_append_getElem h, List.map_append]
  simp [atN, List.getD_eq_getElem?_getD, h]
theorem fcells_push (l : List FieldD) (f : FieldD) : fcells (l ++ [f]) = fcells l ++ fieldCells f := by simp [fcells]
theorem numF_length (l : List Nat) (k : Nat) (h : k ≤ l.length) : (numF l k).length = k := by simp [numF]; omega
set_option maxRecDepth 20000 in
set_option maxHeartbeats 3200000 in
theorem call_Write (x : CallD) (p : CallP) (w : World) (hr : RCall w x p) : Calls Try.prog 10 #[callV x p] w (WrPost w (writeM x)) := by
  have HR := Lib.hid hr
  have HB0 := Lib.hid (below_alloc w (.cells (callCells x p) 29))
  have HX := Lib.hid (Box12.new w x p)
  have HL1 := Lib.hid (fun w' (hb : Below w.heap.size w w') => call_labelBytes p.A1 p.n1 p.c1 x.lab w' (hr.lab.below hb) hr.ld)
  have HL2 := Lib.hid (fun w' (hb : Below w.heap.size w w') => call_labelBytes p.A2 p.n2 p.c2 x.clr w' (hr.clr.below hb) hr.cd)
  have HM1 := Lib.hid (@writeM_none1 x); have HM2 := Lib.hid (@writeM_none2 x); have HM3 := Lib.hid (@writeM_none3 x); have HM4 := Lib.hid (fun a b => @writeM_eq x a b)
  clear hr
  obtain ⟨op, nn, mm, dir, obj, dir2, lab, clr, data, bits⟩ := x
  obtain ⟨A1, n1, c1, A2, n2, c2, A3, n3, c3⟩ := p
  unfold callV callCells
  unfold callCells at HB0
  dsimp only at HB0 HL1 HL2 HM1 HM2 HM4 ⊢
  go_enter Try.func10, Try.ntmps10
  go_wp2_with fail
  refine (HL1.out _ HB0.out).mono ?_
  rintro e w2 ⟨hb2, hc2⟩
  have HB2 := Lib.hid (bthen HB0.out hb2)
  have HX2 := Lib.hid (HX.out.below hb2)
  obtain ⟨k0, k1, k2, k3, k4, k5, k6, k7, k8, k9, k10, k11⟩ := HX2.out.cells
  dsimp only at k0 k1 k2 k3 k4 k5 k6 k7 k8 k9 k10 k11
  clear hb2
  rcases hc2 with ⟨A4, c4, o4, hs4, rfl, hr4⟩ | ⟨hs4, rfl⟩
  · have HS4 := Lib.hid hs4; have HR4 := Lib.hid hr4
    clear hs4 hr4
    go_wp2_with fail
    refine (HL2.out _ HB2.out).mono ?_
    rintro e w3 ⟨hb3, hc3⟩
    have HB3 := Lib.hid (bthen HB2.out hb3)
    have HX3 := Lib.hid (HX2.out.below hb3)
    have HR4' := Lib.hid (HR4.out.below hb3)
    clear hb3 k0 k1 k2 k3 k4 k5 k6 k7 k8 k9 k10 k11
    obtain ⟨k0, k1, k2, k3, k4, k5, k6, k7, k8, k9, k10, k11⟩ := HX3.out.cells
    dsimp only at k0 k1 k2 k3 k4 k5 k6 k7 k8 k9 k10 k11
    rcases hc3 with ⟨A5, c5, o5, hs5, rfl, hr5⟩ | ⟨hs5, rfl⟩
    · have HS5 := Lib.hid hs5; have HR5 := Lib.hid hr5
      clear hs5 hr5
      by_cases ho : Oct op
      · have HOC := Lib.hid ho
        by_cases h1 : 0 ≤ nn
        · have q1 : decide (nn < 0) = false := decide_eq_false (by omega)
          by_cases h2 : 0 ≤ mm
          · have q2 : decide (mm < 0) = false := decide_eq_false (by omega)
            have HL3 : Hid (data.length = n3) := Lib.hid HR.out.data.1
            by_cases h3 : n3 ≤ 128
            · have q3 : decide ((128 : Int) < (n3 : Int)) = false := decide_eq_false (by omega)
              have HE := Lib.hid (HM4.out _ _ HS4.out HS5.out ⟨ho, h1, h2, by show data.length ≤ 128; rw [HL3.out]; exact h3⟩)
              obtain ⟨op, rfl⟩ := Int.eq_ofNat_of_zero_le ho.1
              obtain ⟨nn, rfl⟩ := Int.eq_ofNat_of_zero_le h1
              obtain ⟨mm, rfl⟩ := Int.eq_ofNat_of_zero_le h2
              have hopb : op ≤ 255 := by have := ho.2; omega
              have hnb : nn ≤ 9223372036854775807 := by have := HR.out.n.2; dsimp only at this; omega
              have hmb : mm ≤ 9223372036854775807 := by have := HR.out.m.2; dsimp only at this; omega
              have u1 := wrap_u64 op (by omega)
              have u2 := wrap_u64 nn (by omega)
              have u3 := wrap_u64 mm (by omega)
              clear ho h1 h2
              go_wp2_with fail
              refine (octet_yes HOC.out _).mono ?_
              rintro e w3 ⟨rfl, rfl⟩
              go_wp2_with fail
              obtain ⟨w4, hw4⟩ : ∃ w4, w3.alloc (.cells #[.int .u64 op, .int .u64 nn, .int .u64 mm, .int .u64 dir, .int .u64 obj, .int .u64 dir2] 23) = w4 := ⟨_, rfl⟩
              rw [hw4]
              have hb34 : Below w3.heap.size w3 w4 := by rw [← hw4]; exact below_alloc _ _
              have hcs : ∀ k, k < 6 → w4.cell? ⟨w3.heap.size, k, none⟩ = some (.int .u64 (atN [op, nn, mm, dir, obj, dir2] k : Nat)) := by
                intro k hk
                rw [← hw4, World.cell?_alloc_mark]
                match k, hk with
                | 0, _ => rfl
                | 1, _ => rfl
                | 2, _ => rfl
                | 3, _ => rfl
                | 4, _ => rfl
                | 5, _ => rfl
              have hs34 : w4.heap.size = w3.heap.size + 1 := by rw [← hw4]; simp
              have HB34 := Lib.hid hb34; have HCS := Lib.hid hcs
              obtain ⟨ns, HNS⟩ : ∃ ns, Hid (ns = [op, nn, mm, dir, obj, dir2]) := ⟨_, Lib.hid rfl⟩
              rw [← HNS.out] at HCS
              have HLN : Hid (ns.length = 6) := Lib.hid (by rw [HNS.out]; rfl)
              clear hb34 hcs hw4 k0 k1 k2 k3 k4 k5 k6 k7 k8 k9 k10 k11
              go_loopw [8, 70] (fun u i wr => ∃ k, k ≤ 6 ∧ i = .int .i64 (k : Nat) ∧ Hid (wr.ownsRow w4.heap.size 52 2 u k (fcells (numF ns k))) ∧ Hid (Below w4.heap.size w4 wr)) (fun _ i _ => 6 - (intOf i).toNat)
              case atStart => exact ⟨0, by omega, rfl, Lib.hid (World.ownsRow_nil _ _ _ _), Lib.hid (Below.refl _ _)⟩
              case round =>
                obtain ⟨k, hk, rfl, HV, HBL⟩ := hrel
                have hk0 : (0 : Int) ≤ (k : Int) := Int.natCast_nonneg _
                have hbw := (HB3.out.trans (HB34.out.mono HB3.out.size)).trans (HBL.out.mono (Nat.le_trans HB3.out.size HB34.out.size))
                have hb3w := HB34.out.trans (HBL.out.mono HB34.out.size)
                have HBW := Lib.hid hbw; have HB3W := Lib.hid hb3w
                clear hbw hb3w
                by_cases hlt : k < 6
                · have hk1 : (k : Int) < 6 := by omega
                  have hck := (HBL.out.cell (p := ⟨w3.heap.size, k, none⟩) (by show w3.heap.size < w4.heap.size; omega)).trans (HCS.out k hlt)
                  have HNF : Hid (fcells (numF ns (k + 1)) = fcells (numF ns k) ++ [.int .u64 (atN ns k : Nat), .slice none 0 0]) := Lib.hid (by rw [numF_succ ns k (by have := HLN.out; omega), fcells_push]; rfl)
                  generalize atN ns k = nk at *
                  have HVA := Lib.hid (HV.out.alloc (.cells #[.int .u64 (nk : Nat), .slice none 0 0] 52))
                  have HRD : Hid (Rd (wr.alloc (.cells #[.int .u64 (nk : Nat), .slice none 0 0] 52)) (some ⟨wr.heap.size, 0, none⟩) 1 2 [.int .u64 (nk : Nat), .slice none 0 0]) :=
                    Lib.hid ⟨rfl, fun _ => ⟨_, _, rfl, fun j u hj => by rw [World.cell?_alloc_mark, Nat.zero_add, ← hj]; simp⟩⟩
                  go_wp2_with (at_builtin; go_must (refine wpList_append_any (w0 := w4) w4.heap.size rfl _ _ 49 52 _ 2 32 rfl Try.underlying49 Try.info87 rfl (by decide) (by decide) u8 k _ (some ⟨wr.heap.size, 0, none⟩) 1 1 [.int .u64 (nk : Nat), .slice none 0 0] rfl rfl HVA.out HRD.out (by simp [Value.oneCell']) (by omega) (HBL.out.alloc HBL.out.size _) (by have := HBL.out.size; simp; omega) ?_; intro v4 w5 hown5 hb5 hg5 ha5; have HO5 := Lib.hid hown5; have HB5 := Lib.hid hb5; clear hown5 hb5 hg5 ha5))
                  go_roundw
                  case rel => exact ⟨k + 1, by omega, by go_num, Lib.hid (by rw [HNF.out]; exact HO5.out), HB5⟩
                  case measure => simp [intOf]; omega
                · obtain rfl : k = 6 := by omega
                  obtain ⟨k0, k1, k2, k3, k4, k5, k6, k7, k8, k9, k10, k11⟩ := (HX3.out.below HB3W.out).cells
                  dsimp only at k0 k1 k2 k3 k4 k5 k6 k7 k8 k9 k10 k11
                  have HVA := Lib.hid (HV.out.alloc (.cells #[.int .u64 0, .slice A4 o4.length c4, .int .u64 0, .slice A5 o5.length c5, .int .u64 0, .slice A3 n3 c3, .int .u64 bits, .slice none 0 0] 52))
                  have HRD : Hid (Rd (wr.alloc (.cells #[.int .u64 0, .slice A4 o4.length c4, .int .u64 0, .slice A5 o5.length c5, .int .u64 0, .slice A3 n3 c3, .int .u64 bits, .slice none 0 0] 52)) (some ⟨wr.heap.size, 0, none⟩) 4 2 [.int .u64 0, .slice A4 o4.length c4, .int .u64 0, .slice A5 o5.length c5, .int .u64 0, .slice A3 n3 c3, .int .u64 bits, .slice none 0 0]) :=
                    Lib.hid ⟨rfl, fun _ => ⟨_, _, rfl, fun j u hj => by rw [World.cell?_alloc_mark, Nat.zero_add, ← hj]; simp⟩⟩
                  go_wp2_with (at_builtin; go_must (refine wpList_append_any (w0 := w4) w4.heap.size rfl _ _ 49 52 _ 2 32 rfl Try.underlying49 Try.info87 rfl (by decide) (by decide) u8 6 _ (some ⟨wr.heap.size, 0, none⟩) 4 4 [.int .u64 0, .slice A4 o4.length c4, .int .u64 0, .slice A5 o5.length c5, .int .u64 0, .slice A3 n3 c3, .int .u64 bits, .slice none 0 0] rfl rfl HVA.out HRD.out (by simp [Value.oneCell']) (by omega) (HBL.out.alloc HBL.out.size _) (by have := HBL.out.size; simp; omega) ?_; intro v4 w5 hown5 hb5 hg5 ha5; have HO5 := Lib.hid hown5; have HB5 := Lib.hid hb5; clear hown5 hb5 hg5 ha5))
                  obtain ⟨L, HL⟩ : ∃ L : List FieldD, Hid (L = numF ns 6 ++ [⟨0, A4, o4.length, c4, o4⟩, ⟨0, A5, o5.length, c5, o5⟩, ⟨0, A3, n3, c3, data⟩, ⟨bits, none, 0, 0, []⟩]) := ⟨_, Lib.hid rfl⟩
                  have hLl : L.length = 10 := by rw [HL.out, List.length_append, numF_length ns 6 (by have := HLN.out; omega)]; rfl
                  have hown : w5.ownsRow w4.heap.size 52 2 v4 L.length (fcells L) := by
                    have e : fcells L = fcells (numF ns 6) ++ [.int .u64 0, .slice A4 o4.length c4, .int .u64 0, .slice A5 o5.length c5, .int .u64 0, .slice A3 n3 c3, .int .u64 bits, .slice none 0 0] := by
                      rw [HL.out]; simp [fcells, fieldCells]
                    rw [e, hLl]
                    exact HO5.out
                  have hb35 : Below w3.heap.size w3 w5 := HB34.out.trans (HB5.out.mono HB34.out.size)
                  have hb05 : Below w.heap.size w w5 := HB3.out.trans (hb35.mono HB3.out.size)
                  have hok : ∀ f ∈ L, FieldOk w5 f := by
                    intro f hf
                    rw [HL.out] at hf
                    rcases List.mem_append.1 hf with hf | hf
                    · unfold numF at hf
                      obtain ⟨v, hv, rfl⟩ := List.mem_map.1 hf
                      have hv := List.mem_of_mem_take hv
                      rw [HNS.out] at hv
                      simp only [List.mem_cons, List.not_mem_nil, or_false] at hv
                      obtain ⟨d1, d2, d3, d4⟩ := HR.out.big
                      refine ⟨?_, RB.nil _, Nat.zero_le _⟩
                      dsimp only at d1 d2 d3 ⊢
                      rcases hv with rfl | rfl | rfl | rfl | rfl | rfl <;> omega
                    · simp only [List.mem_cons, List.not_mem_nil, or_false] at hf
                      have l4 := labBytes_le HS4.out
                      have l5 := labBytes_le HS5.out
                      rcases hf with rfl | rfl | rfl | rfl
                      · exact ⟨by show 0 < _; omega, HR4'.out.below hb35, by show o4.length ≤ _; omega⟩
                      · exact ⟨by show 0 < _; omega, HR5.out.below hb35, by show o5.length ≤ _; omega⟩
                      · exact ⟨by show 0 < _; omega, HR.out.data.below hb05, HR.out.dlen⟩
                      · exact ⟨HR.out.big.2.2.2, RB.nil _, Nat.zero_le _⟩
                  obtain ⟨A6, c6, rfl, hrf⟩ := own_rfields hown hok
                  have hp := codec_Pack shapeC A6 L.length c6 L w5 hrf
                  rw [packM_eqL shapeC L (by decide) (by rw [hLl]; rfl), show vals L = valsC ⟨op, nn, mm, dir, obj, dir2, lab, clr, data, bits⟩ o4 o5 by rw [HL.out, HNS.out]; rfl, ← HE.out] at hp
                  have HB05 := Lib.hid hb05
                  clear hown hb35 hb05 hok hrf HVA HRD HV
                  refine hp.mono ?_
                  clear hp
                  rintro e w6 ⟨hb6, ⟨v, o, ho, rfl, hown6⟩ | ⟨hno, rfl⟩⟩
                  · obtain ⟨A7, c7, rfl, hr7⟩ := own_rb hown6
                    have HR7 := Lib.hid hr7; have HO := Lib.hid ho; have HB6 := Lib.hid (bthen HB05.out hb6)
                    clear hr7 ho hb6 hown6
                    go_wp2_with fail
                    go_ret2
                    exact ⟨HB6.out, .inl ⟨A7, c7, o, HO.out, rfl, HR7.out⟩⟩
                  · have HN := Lib.hid hno; have HB6 := Lib.hid (bthen HB05.out hb6)
                    clear hno hb6
                    go_wp2_with fail
                    go_ret2
                    exact ⟨HB6.out, .inr ⟨HN.out, rfl⟩⟩
            · have q3 : decide ((128 : Int) < (n3 : Int)) = true := decide_eq_true (by omega)
              have HN := Lib.hid (HM3.out (by rintro ⟨_, _, _, h⟩; have h : data.length ≤ 128 := h; rw [HL3.out] at h; exact h3 h))
              clear ho
              go_wp2_with fail
              refine (octet_yes HOC.out _).mono ?_
              rintro e w' ⟨rfl, rfl⟩
              go_wp2_with fail
              go_ret2
              exact ⟨HB3.out, .inr ⟨HN.out, rfl⟩⟩
          · have q2 : decide (mm < 0) = true := decide_eq_true (by omega)
            have HN := Lib.hid (HM3.out (by rintro ⟨_, _, h, _⟩; exact h2 h))
            clear ho
            go_wp2_with fail
            refine (octet_yes HOC.out _).mono ?_
            rintro e w' ⟨rfl, rfl⟩
            go_wp2_with fail
            go_ret2
            exact ⟨HB3.out, .inr ⟨HN.out, rfl⟩⟩
        · have q1 : decide (nn < 0) = true := decide_eq_true (by omega)
          have HN := Lib.hid (HM3.out (by rintro ⟨_, h, _, _⟩; exact h1 h))
          clear ho
          go_wp2_with fail
          refine (octet_yes HOC.out _).mono ?_
          rintro e w' ⟨rfl, rfl⟩
          go_wp2_with fail
          go_ret2
          exact ⟨HB3.out, .inr ⟨HN.out, rfl⟩⟩
      · have HOC := Lib.hid ho
        have HN := Lib.hid (HM3.out (by rintro ⟨h, _, _, _⟩; exact ho h))
        clear ho
        go_wp2_with fail
        refine (octet_no HOC.out _).mono ?_
        rintro e w' ⟨rfl, rfl⟩
        go_wp2_with fail
        go_ret2
        exact ⟨HB3.out, .inr ⟨HN.out, rfl⟩⟩
    · have HN := Lib.hid (HM2.out hs5)
      clear hs5
      go_wp2_with fail
      go_ret2
      exact ⟨HB3.out, .inr ⟨HN.out, rfl⟩⟩
  · have HN := Lib.hid (HM1.out hs4)
    clear hs4
    go_wp2_with fail
    refine (HL2.out _ HB2.out).mono ?_
    rintro e w3 ⟨hb3, hc3⟩
    have HB3 := Lib.hid (bthen HB2.out hb3)
    clear hb3 k0 k1 k2 k3 k4 k5 k6 k7 k8 k9 k10 k11
    rcases hc3 with ⟨A5, c5, o5, hs5, rfl, hr5⟩ | ⟨hs5, rfl⟩
    all_goals
      go_wp2_with fail
      go_ret2
      exact ⟨HB3.out, .inr ⟨HN.out, rfl⟩⟩
end Go.Proofs.Ytlofiinpgkclgaa
