/- The document's Read. -/
import Derived.Test.YtlofiinpgkclgaaMg9
import Derived.Test.YtlofiinpgkclgaaMg10
import Derived.Test.YtlofiinpgkclgaaMg11
import Derived.Deep.CutRange
namespace Go.Proofs.Ytlofiinpgkclgaa
open Go.RowKit

theorem Box12.not_row {W : World} {B : Nat} {x : CallD} {p : CallP} (h : Box12 W B x p) {e : TypeId} (hte : 29 ≠ e) {base size k : Nat} {v : Value} {xs : List Value} (hr : W.ownsRow base e size v k xs) : some B ≠ v.ownBlock := by
  rcases hr.2 with ⟨rfl, _⟩ | ⟨g, cap, cur, rfl, _, hgb, _⟩
  · simp [Value.ownBlock]
  · intro e'
    obtain rfl : B = g := by simpa [Value.ownBlock] using e'
    have := h.heap.symm.trans hgb
    simp at this
    exact hte this.2
set_option maxRecDepth 20000 in
set_option maxHeartbeats 6400000 in
theorem ref19_Read (A : Option Addr) (n c : Nat) (bs : List UInt8) (w : World) (hr : RB w A n c bs) : Calls Try.prog 14 #[.slice A n c] w (RdPost w (readM bs)) := by
  obtain ⟨w0, hw0⟩ : ∃ w0, w.alloc (.cells (callCells zeroC zeroP) 29) = w0 := ⟨_, rfl⟩
  have HB0 : Hid (Below w.heap.size w w0) := Lib.hid (by rw [← hw0]; exact below_alloc _ _)
  have HZ0 : Hid (Box12 w0 w.heap.size zeroC zeroP) := Lib.hid (by rw [← hw0]; exact Box12.new _ _ _)
  have HS0 : Hid (w0.heap.size = w.heap.size + 1) := Lib.hid (by rw [← hw0]; simp)
  have HU := Lib.hid (ref02_Unpack shapeC A n c bs w0 (hr.below (hw0 ▸ below_alloc w _)))
  have HN := Lib.hid (@readM_none bs)
  have HT := Lib.hid (fun a n m d o d2 x y z t => @read_doc bs a n m d o d2 x y z t)
  have HR := Lib.hid hr
  have HSH := Lib.hid (fun vs => @un_shape bs vs)
  clear hr
  unfold callCells zeroC zeroP at hw0
  dsimp only at hw0
  go_enter Try.func14, Try.ntmps14
  go_wp2_with fail
  rw [show w.alloc (.cells #[.int .i64 0, .int .i64 0, .int .i64 0, .int .u64 0, .int .u64 0, .int .u64 0, .int .i64 0, .slice none 0 0, .int .i64 0, .slice none 0 0, .slice none 0 0, .int .u64 0] 29) = w0 from hw0]
  clear hw0
  refine HU.out.mono ?_
  rintro e w1 hp
  cases hu : unpackM shapeC bs with
  | none =>
    rw [hu] at hp
    obtain ⟨hb, ⟨v, lk, hno, -⟩ | ⟨-, rfl⟩⟩ := hp
    · cases hno
    · have HB1 := Lib.hid (bthen HB0.out hb)
      have HZ1 := Lib.hid (HZ0.out.below hb)
      have HTH := Lib.hid HZ1.out.there
      have HNN := Lib.hid (HN.out hu)
      clear hb hu
      go_wp2_with (refine wpList_store_mid rfl 29 _ _ rfl w.heap.size 0 #[.int .i64 0, .int .i64 0, .int .i64 0, .int .u64 0, .int .u64 0, .int .u64 0, .int .i64 0, .slice none 0 0, .int .i64 0, .slice none 0 0, .slice none 0 0, .int .u64 0] rfl rfl HTH.out Try.size29 (by simp [Value.oneCell']) ?_)
      have hx8 := HZ1.out.all zeroC zeroP
      have hb8 := below_setCells HB1.out (Nat.le_refl _) (callCells zeroC zeroP).toList 0
      rw [show (callCells zeroC zeroP).toList = [.int .i64 0, .int .i64 0, .int .i64 0, .int .u64 0, .int .u64 0, .int .u64 0, .int .i64 0, .slice none 0 0, .int .i64 0, .slice none 0 0, .slice none 0 0, .int .u64 0] from rfl] at hx8 hb8
      generalize w1.setCells w.heap.size 0 [.int .i64 0, .int .i64 0, .int .i64 0, .int .u64 0, .int .u64 0, .int .u64 0, .int .i64 0, .slice none 0 0, .int .i64 0, .slice none 0 0, .slice none 0 0, .int .u64 0] = w8 at *
      obtain ⟨k0, k1, k2, k3, k4, k5, k6, k7, k8, k9, k10, k11⟩ := hx8.cells
      dsimp only [zeroC, zeroP] at k0 k1 k2 k3 k4 k5 k6 k7 k8 k9 k10 k11
      refine bodyPost_ret (v := .tuple #[.agg #[.int .i64 0, .int .i64 0, .int .i64 0, .int .u64 0, .int .u64 0, .int .u64 0, .int .i64 0, .slice none 0 0, .int .i64 0, .slice none 0 0, .slice none 0 0, .int .u64 0], .int .i64 191]) ?_ rfl ⟨hb8, zeroC, zeroP, 191, rfl, rcall_zero _, by decide, by decide, .inr ⟨HNN.out, rfl, rfl⟩⟩
      simp [results, Try.f14, go_sem, k0, k1, k2, k3, k4, k5, k6, k7, k8, k9, k10, k11]
  | some vs =>
    rw [hu] at hp
    obtain ⟨a, nn, m, d, o, d2, x, y, z, t, rfl, hok, -⟩ := HSH.out _ hu
    obtain ⟨hb, g, o', c9, A6, n6, c6, A7, n7, c7, A8, n8, c8, rfl, hten, r6, r7, r8⟩ := unpack_ten hp
    have HB1 := Lib.hid (bthen HB0.out hb)
    have HZ1 := Lib.hid (HZ0.out.below hb)
    have HTT := Lib.hid (HT.out _ _ _ _ _ _ _ _ _ _ hu hok)
    have HOK := Lib.hid hok
    have HR6 := Lib.hid r6; have HR7 := Lib.hid r7; have HR8 := Lib.hid r8
    have HTEN := Lib.hid hten
    have HSZ1 : Hid (w.heap.size + 1 ≤ w1.heap.size) := Lib.hid (HS0.out ▸ hb.size)
    have HKS := Lib.hid (fun (W' : World) (hbw : Below w1.heap.size w1 W') => (let h := hten.below hbw; ⟨hbw, h.i0, h.i1, h.i2, h.i3, h.i4, h.i5, h.i6, h.i7, h.i8, h.i9⟩ : Below w1.heap.size w1 W' ∧ W'.cell? ⟨g, o', none⟩ = some (.int .u64 (a : Nat)) ∧ W'.cell? ⟨g, o' + 2, none⟩ = some (.int .u64 (nn : Nat)) ∧ W'.cell? ⟨g, o' + 4, none⟩ = some (.int .u64 (m : Nat)) ∧ W'.cell? ⟨g, o' + 6, none⟩ = some (.int .u64 (d : Nat)) ∧ W'.cell? ⟨g, o' + 8, none⟩ = some (.int .u64 (o : Nat)) ∧ W'.cell? ⟨g, o' + 10, none⟩ = some (.int .u64 (d2 : Nat)) ∧ W'.cell? ⟨g, o' + 12 + 1, none⟩ = some (.slice A6 n6 c6) ∧ W'.cell? ⟨g, o' + 14 + 1, none⟩ = some (.slice A7 n7 c7) ∧ W'.cell? ⟨g, o' + 16 + 1, none⟩ = some (.slice A8 n8 c8) ∧ W'.cell? ⟨g, o' + 18, none⟩ = some (.int .u64 (t : Nat))))
    have HC6 := Lib.hid (fun (W' : World) (hbw : Below w1.heap.size w1 W') => ref19_unlabel A6 n6 c6 x W' (r6.below hbw) (by have := hok.x; have := r6.1; omega))
    have HC7 := Lib.hid (fun (W' : World) (hbw : Below w1.heap.size w1 W') => ref19_unlabel A7 n7 c7 y W' (r7.below hbw) (by have := hok.y; have := r7.1; omega))
    have hS0 := HKS.out w1.drew (Below.refl _ w1).drew
    have v1 : IntKind.i64.wrap (a : Int) = (a : Int) := by have := HOK.out.a; simp [IntKind.wrap, IntKind.signed, IntKind.bits]; omega
    have v2 : IntKind.i64.wrap (nn : Int) = (nn : Int) := by have := HOK.out.n; simp [IntKind.wrap, IntKind.signed, IntKind.bits]; omega
    have v3 : IntKind.i64.wrap (m : Int) = (m : Int) := by have := HOK.out.m; simp [IntKind.wrap, IntKind.signed, IntKind.bits]; omega
    clear hp hu hok r6 r7 r8 hb hten
    go_upto_region 4 with fail
    go_cut [6] from 17 to 62 (fun p wx => ∃ B B6 e6 B7 e7, p = .pointer (some ⟨B, 0, none⟩) ∧ Hid (Box12 wx B ⟨a, nn, m, d, o, d2, unlabM x, unlabM y, z, t⟩ ⟨B6, (unlabM x).cats.length, e6, B7, (unlabM y).cats.length, e7, A8, n8, c8⟩) ∧ Hid (w1.heap.size ≤ B) ∧ Hid (Below w1.heap.size w1 wx) ∧ Hid (wx.ownsRow w1.heap.size 65 2 (.slice B6 (unlabM x).cats.length e6) (unlabM x).cats.length (ccells (unlabM x).cats)) ∧ Hid (wx.ownsRow w1.heap.size 65 2 (.slice B7 (unlabM y).cats.length e7) (unlabM y).cats.length (ccells (unlabM y).cats)))
    case first =>
      go_region_held3 (fun W' => Below w1.heap.size w1 W' ∧ W'.cell? ⟨g, o', none⟩ = some (.int .u64 (a : Nat)) ∧ W'.cell? ⟨g, o' + 2, none⟩ = some (.int .u64 (nn : Nat)) ∧ W'.cell? ⟨g, o' + 4, none⟩ = some (.int .u64 (m : Nat)) ∧ W'.cell? ⟨g, o' + 6, none⟩ = some (.int .u64 (d : Nat)) ∧ W'.cell? ⟨g, o' + 8, none⟩ = some (.int .u64 (o : Nat)) ∧ W'.cell? ⟨g, o' + 10, none⟩ = some (.int .u64 (d2 : Nat)) ∧ W'.cell? ⟨g, o' + 12 + 1, none⟩ = some (.slice A6 n6 c6) ∧ W'.cell? ⟨g, o' + 14 + 1, none⟩ = some (.slice A7 n7 c7) ∧ W'.cell? ⟨g, o' + 16 + 1, none⟩ = some (.slice A8 n8 c8) ∧ W'.cell? ⟨g, o' + 18, none⟩ = some (.int .u64 (t : Nat))) (first | with_reducible assumption | with_reducible exact HKS.out _ HEND.out.2.2.1 | exact HKS.out _ (balloc (by with_reducible assumption : _ ∧ _).1 _)) (first
        | (have hB := HZ2
           have hq := (show Below w1.heap.size w1 w2 from (by with_reducible assumption : _ ∧ _).1)
           with_reducible refine (HC7.out w2 hq).mono ?_
           rintro e w3 ⟨hb3, v7, rfl, hown7⟩
           obtain ⟨B7, e7, rfl, -⟩ := own_rcats hown7
           have hS3 := HKS.out _ (bthen hq hb3)
           have hO7 := own_mono hown7 hq.size
           have hz3 := HZ2.out.below hb3
           have hO6 := own_below HO6.out hb3
           have hBB := Nat.le_refl w1.heap.size
           obtain ⟨k0, k1, k2, k3, k4, k5, k6, k7, k8, k9, k10, k11⟩ := hz3.cells
           dsimp only [zeroC, zeroP] at k0 k1 k2 k3 k4 k5 k6 k7 k8 k9 k10 k11
           have fz0 := hz3.frozen 0
           have fz1 := hz3.frozen 1
           have fz2 := hz3.frozen 2
           have fz3 := hz3.frozen 3
           have fz4 := hz3.frozen 4
           have fz5 := hz3.frozen 5
           have fz6 := hz3.frozen 6
           have fz7 := hz3.frozen 7
           have fz8 := hz3.frozen 8
           have fz9 := hz3.frozen 9
           have fz10 := hz3.frozen 10
           have fz11 := hz3.frozen 11
           have hend : Box12 (w3.setCells w1.heap.size 0 [.int .i64 a, .int .i64 nn, .int .i64 m, .int .u64 d, .int .u64 o, .int .u64 d2, .int .i64 (unlabM x).dflt, .slice B6 (unlabM x).cats.length e6, .int .i64 (unlabM y).dflt, .slice B7 (unlabM y).cats.length e7, .slice A8 n8 c8, .int .u64 t]) w1.heap.size ⟨a, nn, m, d, o, d2, unlabM x, unlabM y, z, t⟩ ⟨B6, (unlabM x).cats.length, e6, B7, (unlabM y).cats.length, e7, A8, n8, c8⟩ ∧ w1.heap.size ≤ w1.heap.size ∧ Below w1.heap.size w1 (w3.setCells w1.heap.size 0 [.int .i64 a, .int .i64 nn, .int .i64 m, .int .u64 d, .int .u64 o, .int .u64 d2, .int .i64 (unlabM x).dflt, .slice B6 (unlabM x).cats.length e6, .int .i64 (unlabM y).dflt, .slice B7 (unlabM y).cats.length e7, .slice A8 n8 c8, .int .u64 t]) ∧ (w3.setCells w1.heap.size 0 [.int .i64 a, .int .i64 nn, .int .i64 m, .int .u64 d, .int .u64 o, .int .u64 d2, .int .i64 (unlabM x).dflt, .slice B6 (unlabM x).cats.length e6, .int .i64 (unlabM y).dflt, .slice B7 (unlabM y).cats.length e7, .slice A8 n8 c8, .int .u64 t]).ownsRow w1.heap.size 65 2 (.slice B6 (unlabM x).cats.length e6) (unlabM x).cats.length (ccells (unlabM x).cats) ∧ (w3.setCells w1.heap.size 0 [.int .i64 a, .int .i64 nn, .int .i64 m, .int .u64 d, .int .u64 o, .int .u64 d2, .int .i64 (unlabM x).dflt, .slice B6 (unlabM x).cats.length e6, .int .i64 (unlabM y).dflt, .slice B7 (unlabM y).cats.length e7, .slice A8 n8 c8, .int .u64 t]).ownsRow w1.heap.size 65 2 (.slice B7 (unlabM y).cats.length e7) (unlabM y).cats.length (ccells (unlabM y).cats) := by
             have hg := grownBy_setCells w1.heap.size [.int .i64 a, .int .i64 nn, .int .i64 m, .int .u64 d, .int .u64 o, .int .u64 d2, .int .i64 (unlabM x).dflt, .slice B6 (unlabM x).cats.length e6, .int .i64 (unlabM y).dflt, .slice B7 (unlabM y).cats.length e7, .slice A8 n8 c8, .int .u64 t] 0 w3
             exact ⟨hz3.all ⟨a, nn, m, d, o, d2, unlabM x, unlabM y, z, t⟩ ⟨B6, (unlabM x).cats.length, e6, B7, (unlabM y).cats.length, e7, A8, n8, c8⟩, hBB, hS3.1.grown hg hS3.1.size (fun j e => by injection e with e; omega), hO6.kept hg (.inr (fun e => hz3.not_row (by decide) hO6 e.symm)), hO7.kept hg (.inr (fun e => hz3.not_row (by decide) hO7 e.symm))⟩
           simp only [World.setCells, Nat.reduceAdd] at hend
           have HEND := Lib.hid hend
           clear hend
           clear hz3 hO6 hO7 hBB
           clear hown7 hb3 hq)
        | (have hB := HV1
           have hq := (show Below w1.heap.size w1 (w2.alloc (.cells #[.int .i64 0, .int .i64 0, .int .i64 0, .int .u64 0, .int .u64 0, .int .u64 0, .int .i64 0, .slice none 0 0, .int .i64 0, .slice none 0 0, .slice none 0 0, .int .u64 0] 29)) from (by with_reducible assumption : _ ∧ _).1)
           with_reducible refine (HC7.out (w2.alloc (.cells #[.int .i64 0, .int .i64 0, .int .i64 0, .int .u64 0, .int .u64 0, .int .u64 0, .int .i64 0, .slice none 0 0, .int .i64 0, .slice none 0 0, .slice none 0 0, .int .u64 0] 29)) hq).mono ?_
           rintro e w3 ⟨hb3, v7, rfl, hown7⟩
           obtain ⟨B7, e7, rfl, -⟩ := own_rcats hown7
           have hS3 := HKS.out _ (bthen hq hb3)
           have hO7 := own_mono hown7 hq.size
           have hz3 := (show Box12 (w2.alloc (.cells #[.int .i64 0, .int .i64 0, .int .i64 0, .int .u64 0, .int .u64 0, .int .u64 0, .int .i64 0, .slice none 0 0, .int .i64 0, .slice none 0 0, .slice none 0 0, .int .u64 0] 29)) w2.heap.size zeroC zeroP from Box12.new w2 zeroC zeroP).below hb3
           have hO6 := own_below (HO6.out.alloc (.cells #[.int .i64 0, .int .i64 0, .int .i64 0, .int .u64 0, .int .u64 0, .int .u64 0, .int .i64 0, .slice none 0 0, .int .i64 0, .slice none 0 0, .slice none 0 0, .int .u64 0] 29)) hb3
           have hBB := hS2.1.size
           obtain ⟨k0, k1, k2, k3, k4, k5, k6, k7, k8, k9, k10, k11⟩ := hz3.cells
           dsimp only [zeroC, zeroP] at k0 k1 k2 k3 k4 k5 k6 k7 k8 k9 k10 k11
           have fz0 := hz3.frozen 0
           have fz1 := hz3.frozen 1
           have fz2 := hz3.frozen 2
           have fz3 := hz3.frozen 3
           have fz4 := hz3.frozen 4
           have fz5 := hz3.frozen 5
           have fz6 := hz3.frozen 6
           have fz7 := hz3.frozen 7
           have fz8 := hz3.frozen 8
           have fz9 := hz3.frozen 9
           have fz10 := hz3.frozen 10
           have fz11 := hz3.frozen 11
           have hend : Box12 (w3.setCells w2.heap.size 0 [.int .i64 a, .int .i64 nn, .int .i64 m, .int .u64 d, .int .u64 o, .int .u64 d2, .int .i64 (unlabM x).dflt, .slice B6 (unlabM x).cats.length e6, .int .i64 (unlabM y).dflt, .slice B7 (unlabM y).cats.length e7, .slice A8 n8 c8, .int .u64 t]) w2.heap.size ⟨a, nn, m, d, o, d2, unlabM x, unlabM y, z, t⟩ ⟨B6, (unlabM x).cats.length, e6, B7, (unlabM y).cats.length, e7, A8, n8, c8⟩ ∧ w1.heap.size ≤ w2.heap.size ∧ Below w1.heap.size w1 (w3.setCells w2.heap.size 0 [.int .i64 a, .int .i64 nn, .int .i64 m, .int .u64 d, .int .u64 o, .int .u64 d2, .int .i64 (unlabM x).dflt, .slice B6 (unlabM x).cats.length e6, .int .i64 (unlabM y).dflt, .slice B7 (unlabM y).cats.length e7, .slice A8 n8 c8, .int .u64 t]) ∧ (w3.setCells w2.heap.size 0 [.int .i64 a, .int .i64 nn, .int .i64 m, .int .u64 d, .int .u64 o, .int .u64 d2, .int .i64 (unlabM x).dflt, .slice B6 (unlabM x).cats.length e6, .int .i64 (unlabM y).dflt, .slice B7 (unlabM y).cats.length e7, .slice A8 n8 c8, .int .u64 t]).ownsRow w1.heap.size 65 2 (.slice B6 (unlabM x).cats.length e6) (unlabM x).cats.length (ccells (unlabM x).cats) ∧ (w3.setCells w2.heap.size 0 [.int .i64 a, .int .i64 nn, .int .i64 m, .int .u64 d, .int .u64 o, .int .u64 d2, .int .i64 (unlabM x).dflt, .slice B6 (unlabM x).cats.length e6, .int .i64 (unlabM y).dflt, .slice B7 (unlabM y).cats.length e7, .slice A8 n8 c8, .int .u64 t]).ownsRow w1.heap.size 65 2 (.slice B7 (unlabM y).cats.length e7) (unlabM y).cats.length (ccells (unlabM y).cats) := by
             have hg := grownBy_setCells w2.heap.size [.int .i64 a, .int .i64 nn, .int .i64 m, .int .u64 d, .int .u64 o, .int .u64 d2, .int .i64 (unlabM x).dflt, .slice B6 (unlabM x).cats.length e6, .int .i64 (unlabM y).dflt, .slice B7 (unlabM y).cats.length e7, .slice A8 n8 c8, .int .u64 t] 0 w3
             exact ⟨hz3.all ⟨a, nn, m, d, o, d2, unlabM x, unlabM y, z, t⟩ ⟨B6, (unlabM x).cats.length, e6, B7, (unlabM y).cats.length, e7, A8, n8, c8⟩, hBB, hS3.1.grown hg hS3.1.size (fun j e => by injection e with e; omega), hO6.kept hg (.inr (fun e => hz3.not_row (by decide) hO6 e.symm)), hO7.kept hg (.inr (fun e => hz3.not_row (by decide) hO7 e.symm))⟩
           simp only [World.setCells, Nat.reduceAdd] at hend
           have HEND := Lib.hid hend
           clear hend
           clear hz3 hO6 hO7 hBB
           clear hown7 hb3 hq)
        | (have hB := HV1
           have hq := (show Below w1.heap.size w1 w2 from (by with_reducible assumption : _ ∧ _).1)
           with_reducible refine (HC7.out w2 hq).mono ?_
           rintro e w3 ⟨hb3, v7, rfl, hown7⟩
           obtain ⟨B7, e7, rfl, -⟩ := own_rcats hown7
           have hS3 := HKS.out _ (bthen hq hb3)
           have hO7 := own_mono hown7 hq.size
           have hO6 := own_below HO6.out hb3
           have HEND : Hid (Box12 (w3.alloc (.cells #[.int .i64 a, .int .i64 nn, .int .i64 m, .int .u64 d, .int .u64 o, .int .u64 d2, .int .i64 (unlabM x).dflt, .slice B6 (unlabM x).cats.length e6, .int .i64 (unlabM y).dflt, .slice B7 (unlabM y).cats.length e7, .slice A8 n8 c8, .int .u64 t] 29)) w3.heap.size ⟨a, nn, m, d, o, d2, unlabM x, unlabM y, z, t⟩ ⟨B6, (unlabM x).cats.length, e6, B7, (unlabM y).cats.length, e7, A8, n8, c8⟩ ∧ w1.heap.size ≤ w3.heap.size ∧ Below w1.heap.size w1 (w3.alloc (.cells #[.int .i64 a, .int .i64 nn, .int .i64 m, .int .u64 d, .int .u64 o, .int .u64 d2, .int .i64 (unlabM x).dflt, .slice B6 (unlabM x).cats.length e6, .int .i64 (unlabM y).dflt, .slice B7 (unlabM y).cats.length e7, .slice A8 n8 c8, .int .u64 t] 29)) ∧ (w3.alloc (.cells #[.int .i64 a, .int .i64 nn, .int .i64 m, .int .u64 d, .int .u64 o, .int .u64 d2, .int .i64 (unlabM x).dflt, .slice B6 (unlabM x).cats.length e6, .int .i64 (unlabM y).dflt, .slice B7 (unlabM y).cats.length e7, .slice A8 n8 c8, .int .u64 t] 29)).ownsRow w1.heap.size 65 2 (.slice B6 (unlabM x).cats.length e6) (unlabM x).cats.length (ccells (unlabM x).cats) ∧ (w3.alloc (.cells #[.int .i64 a, .int .i64 nn, .int .i64 m, .int .u64 d, .int .u64 o, .int .u64 d2, .int .i64 (unlabM x).dflt, .slice B6 (unlabM x).cats.length e6, .int .i64 (unlabM y).dflt, .slice B7 (unlabM y).cats.length e7, .slice A8 n8 c8, .int .u64 t] 29)).ownsRow w1.heap.size 65 2 (.slice B7 (unlabM y).cats.length e7) (unlabM y).cats.length (ccells (unlabM y).cats)) := Lib.hid ⟨Box12.new w3 ⟨a, nn, m, d, o, d2, unlabM x, unlabM y, z, t⟩ ⟨B6, (unlabM x).cats.length, e6, B7, (unlabM y).cats.length, e7, A8, n8, c8⟩, hS3.1.size, balloc hS3.1 _, hO6.alloc _, hO7.alloc _⟩
           clear hO6 hO7
           clear hown7 hb3 hq)
        | (have hq := (show Below w1.heap.size w1 (w1.alloc (.cells #[.int .i64 0, .int .i64 0, .int .i64 0, .int .u64 0, .int .u64 0, .int .u64 0, .int .i64 0, .slice none 0 0, .int .i64 0, .slice none 0 0, .slice none 0 0, .int .u64 0] 29)).drew from (by with_reducible assumption : _ ∧ _).1)
           with_reducible refine (HC6.out (w1.alloc (.cells #[.int .i64 0, .int .i64 0, .int .i64 0, .int .u64 0, .int .u64 0, .int .u64 0, .int .i64 0, .slice none 0 0, .int .i64 0, .slice none 0 0, .slice none 0 0, .int .u64 0] 29)).drew hq).mono ?_
           rintro e w2 ⟨hb2, v6, rfl, hown6⟩
           obtain ⟨B6, e6, rfl, -⟩ := own_rcats hown6
           have hS2 := HKS.out _ (bthen hq hb2)
           have HO6 := Lib.hid (own_mono hown6 hq.size)
           have HZ2 := Lib.hid ((show Box12 (w1.alloc (.cells #[.int .i64 0, .int .i64 0, .int .i64 0, .int .u64 0, .int .u64 0, .int .u64 0, .int .i64 0, .slice none 0 0, .int .i64 0, .slice none 0 0, .slice none 0 0, .int .u64 0] 29)).drew w1.heap.size zeroC zeroP from ⟨(Box12.new w1 zeroC zeroP).heap⟩).below hb2)
           have HV1 : Hid True := Lib.hid trivial
           clear hown6 hb2 hq)
        | (have hq := (show Below w1.heap.size w1 w1.drew from (by with_reducible assumption : _ ∧ _).1)
           with_reducible refine (HC6.out w1.drew hq).mono ?_
           rintro e w2 ⟨hb2, v6, rfl, hown6⟩
           obtain ⟨B6, e6, rfl, -⟩ := own_rcats hown6
           have hS2 := HKS.out _ (bthen hq hb2)
           have HO6 := Lib.hid (own_mono hown6 hq.size)
           have HV1 : Hid True := Lib.hid trivial
           clear hown6 hb2 hq))
      all_goals
        go_wp2_with fail
        go_meet
        exact ⟨_, B6, e6, B7, e7, rfl, Lib.hid HEND.out.1, Lib.hid HEND.out.2.1, Lib.hid HEND.out.2.2.1, Lib.hid HEND.out.2.2.2.1, Lib.hid HEND.out.2.2.2.2⟩
    case rest =>
      obtain ⟨B, B6, e6, B7, e7, rfl, HX, HBB, HB1x, HO6, HO7⟩ := hcut
      obtain ⟨w4, hw4⟩ : ∃ w4, w4 = wc := ⟨wc, rfl⟩
      subst hw4
      have HB4 := Lib.hid (bthen HB1.out HB1x.out)
      have HZ4 := Lib.hid (HZ1.out.below HB1x.out)
      have hrc : RCall w4 ⟨a, nn, m, d, o, d2, unlabM x, unlabM y, z, t⟩ ⟨B6, (unlabM x).cats.length, e6, B7, (unlabM y).cats.length, e7, A8, n8, c8⟩ := by
        obtain ⟨_, _, q1, r1⟩ := own_rcats HO6.out
        obtain ⟨_, _, q2, r2⟩ := own_rcats HO7.out
        injection q1 with q1 _ q1'
        injection q2 with q2 _ q2'
        subst q1 q1' q2 q2'
        have h10 := HOK.out.z
        have h11 := HR8.out.1
        exact ⟨⟨r1, unlab_ids x⟩, ⟨r2, unlab_ids y⟩, HR8.out.below HB1x.out, by show n8 ≤ _; omega, ⟨by show _ ≤ (a : Int); omega, by show (a : Int) ≤ _; have := HOK.out.a; omega⟩, ⟨by show _ ≤ (nn : Int); omega, by show (nn : Int) ≤ _; have := HOK.out.n; omega⟩, ⟨by show _ ≤ (m : Int); omega, by show (m : Int) ≤ _; have := HOK.out.m; omega⟩, unlab_i64 x, unlab_i64 y, ⟨HOK.out.d, HOK.out.o, HOK.out.d2, HOK.out.t⟩⟩
      have HRC := Lib.hid hrc
      obtain ⟨k0, k1, k2, k3, k4, k5, k6, k7, k8, k9, k10, k11⟩ := HX.out.cells
      dsimp only at k0 k1 k2 k3 k4 k5 k6 k7 k8 k9 k10 k11
      clear hrc hS0
      go_wp2_with fail
      refine (ref19_Write ⟨a, nn, m, d, o, d2, unlabM x, unlabM y, z, t⟩ ⟨B6, (unlabM x).cats.length, e6, B7, (unlabM y).cats.length, e7, A8, n8, c8⟩ w4 HRC.out).mono ?_
      rintro e w5 ⟨hb5, hc5⟩
      have HB5 := Lib.hid (bthen HB4.out hb5)
      have HB15 := Lib.hid (bthen HB1x.out hb5)
      have HX5 := Lib.hid (HX.out.below hb5)
      have HZ5 := Lib.hid (HZ4.out.below hb5)
      have HTH := Lib.hid HZ5.out.there
      have HRC5 := Lib.hid (HRC.out.below hb5)
      have HRA := Lib.hid (HR.out.below HB5.out)
      have HO6' := Lib.hid (own_below HO6.out hb5)
      have HO7' := Lib.hid (own_below HO7.out hb5)
      clear hb5 k0 k1 k2 k3 k4 k5 k6 k7 k8 k9 k10 k11
      obtain ⟨k0, k1, k2, k3, k4, k5, k6, k7, k8, k9, k10, k11⟩ := HX5.out.cells
      dsimp only at k0 k1 k2 k3 k4 k5 k6 k7 k8 k9 k10 k11
      rcases hc5 with ⟨A9, c9', o9, ho9, rfl, hr9⟩ | ⟨hno, rfl⟩
      · have hs1 := hr9.string (P := Try.prog) (src := 27) (dst := 9) Try.underlying27 Try.underlying5 Try.underlying9
        have hs2 := HRA.out.string (P := Try.prog) (src := 27) (dst := 9) Try.underlying27 Try.underlying5 Try.underlying9
        by_cases hob : o9 = bs
        · subst hob
          have hq := str_eq o9
          have HRM : Hid (readM o9 = some ⟨a, nn, m, d, o, d2, unlabM x, unlabM y, z, t⟩) := Lib.hid (by rw [HTT.out]; exact if_pos ho9)
          clear ho9 hr9
          go_wp2_with (refine wpList_store_mid rfl 29 _ _ rfl w.heap.size 0 #[.int .i64 a, .int .i64 nn, .int .i64 m, .int .u64 d, .int .u64 o, .int .u64 d2, .int .i64 (unlabM x).dflt, .slice B6 (unlabM x).cats.length e6, .int .i64 (unlabM y).dflt, .slice B7 (unlabM y).cats.length e7, .slice A8 n8 c8, .int .u64 t] rfl rfl HTH.out Try.size29 (by simp [Value.oneCell']) ?_)
          have hx8 := HZ5.out.all ⟨a, nn, m, d, o, d2, unlabM x, unlabM y, z, t⟩ ⟨B6, (unlabM x).cats.length, e6, B7, (unlabM y).cats.length, e7, A8, n8, c8⟩
          have hb8 := below_setCells HB5.out (Nat.le_refl _) (callCells ⟨a, nn, m, d, o, d2, unlabM x, unlabM y, z, t⟩ ⟨B6, (unlabM x).cats.length, e6, B7, (unlabM y).cats.length, e7, A8, n8, c8⟩).toList 0
          have hg8 := grownBy_setCells w.heap.size (callCells ⟨a, nn, m, d, o, d2, unlabM x, unlabM y, z, t⟩ ⟨B6, (unlabM x).cats.length, e6, B7, (unlabM y).cats.length, e7, A8, n8, c8⟩).toList 0 w5
          have hr8 := (HR8.out.below HB15.out).set_box HZ5.out (callCells ⟨a, nn, m, d, o, d2, unlabM x, unlabM y, z, t⟩ ⟨B6, (unlabM x).cats.length, e6, B7, (unlabM y).cats.length, e7, A8, n8, c8⟩).toList
          rw [show (callCells ⟨a, nn, m, d, o, d2, unlabM x, unlabM y, z, t⟩ ⟨B6, (unlabM x).cats.length, e6, B7, (unlabM y).cats.length, e7, A8, n8, c8⟩).toList = [.int .i64 a, .int .i64 nn, .int .i64 m, .int .u64 d, .int .u64 o, .int .u64 d2, .int .i64 (unlabM x).dflt, .slice B6 (unlabM x).cats.length e6, .int .i64 (unlabM y).dflt, .slice B7 (unlabM y).cats.length e7, .slice A8 n8 c8, .int .u64 t] from rfl] at hx8 hb8 hg8 hr8
          generalize w5.setCells w.heap.size 0 [.int .i64 a, .int .i64 nn, .int .i64 m, .int .u64 d, .int .u64 o, .int .u64 d2, .int .i64 (unlabM x).dflt, .slice B6 (unlabM x).cats.length e6, .int .i64 (unlabM y).dflt, .slice B7 (unlabM y).cats.length e7, .slice A8 n8 c8, .int .u64 t] = w8 at *
          clear k0 k1 k2 k3 k4 k5 k6 k7 k8 k9 k10 k11
          obtain ⟨k0, k1, k2, k3, k4, k5, k6, k7, k8, k9, k10, k11⟩ := hx8.cells
          dsimp only at k0 k1 k2 k3 k4 k5 k6 k7 k8 k9 k10 k11
          have hp8 := HO6'.out.kept hg8 (.inr fun e => by have h3 := (HO6'.out.lt _ e).1; have := HSZ1.out; omega)
          have hq8 := HO7'.out.kept hg8 (.inr fun e => by have h3 := (HO7'.out.lt _ e).1; have := HSZ1.out; omega)
          refine bodyPost_ret (v := .tuple #[.agg #[.int .i64 a, .int .i64 nn, .int .i64 m, .int .u64 d, .int .u64 o, .int .u64 d2, .int .i64 (unlabM x).dflt, .slice B6 (unlabM x).cats.length e6, .int .i64 (unlabM y).dflt, .slice B7 (unlabM y).cats.length e7, .slice A8 n8 c8, .int .u64 t], .int .i64 0]) ?_ rfl ⟨hb8, ⟨a, nn, m, d, o, d2, unlabM x, unlabM y, z, t⟩, ⟨B6, (unlabM x).cats.length, e6, B7, (unlabM y).cats.length, e7, A8, n8, c8⟩, 0, rfl, ?_, by show (unlabM x).cats.length * 16 ≤ _; have := unlab_len x; have := HOK.out.x; omega, by show (unlabM y).cats.length * 16 ≤ _; have := unlab_len y; have := HOK.out.y; omega, .inl ⟨HRM.out, rfl⟩⟩
          · simp [results, Try.f14, go_sem, k0, k1, k2, k3, k4, k5, k6, k7, k8, k9, k10, k11]
          · obtain ⟨_, _, e1, r1⟩ := own_rcats hp8
            obtain ⟨_, _, e2, r2⟩ := own_rcats hq8
            injection e1 with e1 _ e1'
            injection e2 with e2 _ e2'
            subst e1 e1' e2 e2'
            obtain ⟨g1, g2, g3, g4, g5, g6, g7, g8, g9, g10⟩ := HRC5.out
            exact ⟨⟨r1, unlab_ids x⟩, ⟨r2, unlab_ids y⟩, hr8, g4, g5, g6, g7, g8, g9, g10⟩
        · have hq := str_ne hob
          have HNN : Hid (readM bs = none) := Lib.hid (by rw [HTT.out, if_neg (by intro h; have h2 := ho9.symm.trans h; injection h2 with h2; exact hob h2)])
          clear ho9 hr9 hob
          go_wp2_with (refine wpList_store_mid rfl 29 _ _ rfl w.heap.size 0 #[.int .i64 0, .int .i64 0, .int .i64 0, .int .u64 0, .int .u64 0, .int .u64 0, .int .i64 0, .slice none 0 0, .int .i64 0, .slice none 0 0, .slice none 0 0, .int .u64 0] rfl rfl HTH.out Try.size29 (by simp [Value.oneCell']) ?_)
          have hx8 := HZ5.out.all zeroC zeroP
          have hb8 := below_setCells HB5.out (Nat.le_refl _) (callCells zeroC zeroP).toList 0
          rw [show (callCells zeroC zeroP).toList = [.int .i64 0, .int .i64 0, .int .i64 0, .int .u64 0, .int .u64 0, .int .u64 0, .int .i64 0, .slice none 0 0, .int .i64 0, .slice none 0 0, .slice none 0 0, .int .u64 0] from rfl] at hx8 hb8
          generalize w5.setCells w.heap.size 0 [.int .i64 0, .int .i64 0, .int .i64 0, .int .u64 0, .int .u64 0, .int .u64 0, .int .i64 0, .slice none 0 0, .int .i64 0, .slice none 0 0, .slice none 0 0, .int .u64 0] = w8 at *
          clear k0 k1 k2 k3 k4 k5 k6 k7 k8 k9 k10 k11
          obtain ⟨k0, k1, k2, k3, k4, k5, k6, k7, k8, k9, k10, k11⟩ := hx8.cells
          dsimp only [zeroC, zeroP] at k0 k1 k2 k3 k4 k5 k6 k7 k8 k9 k10 k11
          refine bodyPost_ret (v := .tuple #[.agg #[.int .i64 0, .int .i64 0, .int .i64 0, .int .u64 0, .int .u64 0, .int .u64 0, .int .i64 0, .slice none 0 0, .int .i64 0, .slice none 0 0, .slice none 0 0, .int .u64 0], .int .i64 191]) ?_ rfl ⟨hb8, zeroC, zeroP, 191, rfl, rcall_zero _, by decide, by decide, .inr ⟨HNN.out, rfl, rfl⟩⟩
          simp [results, Try.f14, go_sem, k0, k1, k2, k3, k4, k5, k6, k7, k8, k9, k10, k11]
      · have HNN : Hid (readM bs = none) := Lib.hid (by rw [HTT.out, if_neg (by intro h; have h2 := hno.symm.trans h; cases h2)])
        clear hno
        go_wp2_with (refine wpList_store_mid rfl 29 _ _ rfl w.heap.size 0 #[.int .i64 0, .int .i64 0, .int .i64 0, .int .u64 0, .int .u64 0, .int .u64 0, .int .i64 0, .slice none 0 0, .int .i64 0, .slice none 0 0, .slice none 0 0, .int .u64 0] rfl rfl HTH.out Try.size29 (by simp [Value.oneCell']) ?_)
        have hx8 := HZ5.out.all zeroC zeroP
        have hb8 := below_setCells HB5.out (Nat.le_refl _) (callCells zeroC zeroP).toList 0
        rw [show (callCells zeroC zeroP).toList = [.int .i64 0, .int .i64 0, .int .i64 0, .int .u64 0, .int .u64 0, .int .u64 0, .int .i64 0, .slice none 0 0, .int .i64 0, .slice none 0 0, .slice none 0 0, .int .u64 0] from rfl] at hx8 hb8
        generalize w5.setCells w.heap.size 0 [.int .i64 0, .int .i64 0, .int .i64 0, .int .u64 0, .int .u64 0, .int .u64 0, .int .i64 0, .slice none 0 0, .int .i64 0, .slice none 0 0, .slice none 0 0, .int .u64 0] = w8 at *
        clear k0 k1 k2 k3 k4 k5 k6 k7 k8 k9 k10 k11
        obtain ⟨k0, k1, k2, k3, k4, k5, k6, k7, k8, k9, k10, k11⟩ := hx8.cells
        dsimp only [zeroC, zeroP] at k0 k1 k2 k3 k4 k5 k6 k7 k8 k9 k10 k11
        refine bodyPost_ret (v := .tuple #[.agg #[.int .i64 0, .int .i64 0, .int .i64 0, .int .u64 0, .int .u64 0, .int .u64 0, .int .i64 0, .slice none 0 0, .int .i64 0, .slice none 0 0, .slice none 0 0, .int .u64 0], .int .i64 191]) ?_ rfl ⟨hb8, zeroC, zeroP, 191, rfl, rcall_zero _, by decide, by decide, .inr ⟨HNN.out, rfl, rfl⟩⟩
        simp [results, Try.f14, go_sem, k0, k1, k2, k3, k4, k5, k6, k7, k8, k9, k10, k11]
end Go.Proofs.Ytlofiinpgkclgaa
