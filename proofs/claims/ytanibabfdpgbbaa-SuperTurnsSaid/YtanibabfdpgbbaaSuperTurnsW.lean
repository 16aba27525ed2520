/- The walk of SuperTurns. -/
import Derived.Test.YtanibabfdpgbbaaSuperKeepsW
import Derived.Test.YtanibabfdpgbbaaSuperTM
import Derived.Test.YtanibabfdpgbbaaOpenV
import Derived.Test.YtanibabfdpgbbaaOpenX
import Derived.Test.YtanibabfdpgbbaaDiskW6
namespace Go.Proofs.Ytanibabfdpgbbaa
open Go.RowKit
attribute [local go_sem ↓] loadAt37

/-- Where the loop of SuperTurns stands. -/
def TurnInv (w1 wr : World) (p s g : Nat) : Prop :=
  ∃ v d now, DiskAt wr w1.heap.size p s v d ∧ TI d now ∧ RowAt wr g 24 now.cells ∧ Below w1.heap.size w1 wr
theorem foot_not_super {w : World} {base p s g : Nat} {v : Value} {d : Dk} {cs : List Value} (h : DiskAt w base p s v d) (hg : RowAt w g 24 cs) : ¬ foot p s v g := by
  rintro (rfl | rfl | e)
  · exact ne_of_types h.obj hg (by decide) rfl
  · exact ne_of_types h.sta hg (by decide) rfl
  · exact own_ne h.pen hg (by decide) e
theorem Try.infoBool' : (Try.prog.info? 4).map (fun i => (i.zero, i.size, i.bytes)) = some (some (.bool false), 1, 1) := by kernel_rfl
theorem foot_fresh {W w1 : World} {base p s : Nat} {v : Value} {d : Dk} (h : DiskAt W base p s v d) {A : Option Addr} {n c : Nat} {e : TypeId} {bs : List Bool} (hown : w1.ownsRow W.heap.size e 1 (.slice A n c) n (blv bs)) : ∀ b o, A = some ⟨b, o, none⟩ → 0 < n → ¬ foot p s v b := by
  rintro b o rfl _ hf
  have h1 := h.foot_lt b hf
  have h2 := (hown.lt b rfl).1
  omega
set_option maxRecDepth 20000 in
set_option maxHeartbeats 6400000 in
theorem superTurns_main (A : Option Addr) (n c : Nat) (f : Nat → SD) (B : Option Addr) (nb cb : Nat) (fb : Nat → { y : Int × Int // y.1 ≤ 9223372036854775807 }) (C : Option Addr) (nk ck : Nat) (keep : List Bool) (w : World)
    (hA : RElems SD.cells 6 w A n c f) (hB : RElems (fun y => pairCells y.1) 2 w B nb cb fb) (hC : RBl w C nk ck keep) (hnk : nk ≤ 140737488351232) (hn : n ≤ 50) :
    Calls Try.prog 7 #[.slice A n c, .slice B nb cb, .slice C nk ck] w fun e w' => e = .returned (.bool true) ∧ Below w.heap.size w w' := by
  have HA := Lib.hid hA; have HBK := Lib.hid hB; have HC := Lib.hid hC; have HNK := Lib.hid hnk
  clear hA hB hC hnk
  go_enter Try.func7, Try.ntmps7
  go_wp2_with fail
  refine (superAlive_true _).mono ?_
  rintro e w1 ⟨rfl, hb1⟩
  have HA1 := Lib.hid (HA.out.below hb1); have HBK1 := Lib.hid (HBK.out.below hb1); have HC1 := Lib.hid (HC.out.below hb1); have HB1 := Lib.hid hb1
  clear hb1 HA HBK HC
  go_wp2_with fail
  refine (disk_New 2 w1).mono ?_
  rintro e w2 ⟨p, s, rfl, hd2, hb2⟩
  have HD2 := Lib.hid (hd2.below (below_alloc w2 (.cells ([.int .u64 5, .int .i64 9, .int .i64 0, .int .i64 0, .int .i64 0, .int .i64 0] : List Value).toArray 24)))
  have HB2 := Lib.hid (balloc hb2 (.cells ([.int .u64 5, .int .i64 9, .int .i64 0, .int .i64 0, .int .i64 0, .int .i64 0] : List Value).toArray 24))
  have HX2 := Lib.hid (RowAt.new w2 24 [.int .u64 5, .int .i64 9, .int .i64 0, .int .i64 0, .int .i64 0, .int .i64 0])
  clear hd2 hb2
  go_wp2_with (first
    | (refine stN 24 [.int .u64 5, .int .i64 9, .int .i64 0, .int .i64 0, .int .i64 0, .int .i64 0] rfl _ _ rfl _ _ rfl (by simp) rfl (by simp [Value.oneCell']) Try.sizeSuper rfl ?_)
    | (refine ldN 24 [.int .u64 5, .int .i64 9, .int .i64 0, .int .i64 0, .int .i64 0, .int .i64 0] rfl _ rfl w2.heap.size 0 rfl HX2.out.range Try.underlying24 rfl Try.sizeSuper ?_))
  generalize hw3 : w2.alloc (.cells ([.int .u64 5, .int .i64 9, .int .i64 0, .int .i64 0, .int .i64 0, .int .i64 0] : List Value).toArray 24) = w3 at *
  clear hw3
  generalize hg8 : w2.heap.size = g8 at *
  clear hg8
  refine (super_Write 5 9 0 0 0 0 (by omega) (by omega) (by omega) (by omega) (by omega) (by omega) (by omega) HD2.out HB2.out.size ⟨rfl, rfl⟩ (by simp [newDk]) (by decide : 2 ≤ (newDk 2).stable.length)).mono ?_
  rintro e w4 ⟨d4, rfl, hd4, -, hp4, hn4, hr4, hk4⟩
  have HTI := Lib.hid (TI.first hp4 hn4 hr4)
  have HX4 := Lib.hid (HX2.out.kp hk4 (foot_not_super HD2.out HX2.out))
  have HB4 := Lib.hid (HB2.out.trans (hk4.below HB2.out.size (fun k hk => HD2.out.foot_base k hk)))
  have HD4 := Lib.hid hd4
  clear hd4 hp4 hn4 hr4 hk4 HD2 HB2 HX2
  have HG9 : Hid (w1.heap.size ≤ w4.heap.size) := Lib.hid HB4.out.size
  have h9 : Hid (TurnInv w1 (w4.alloc (.cells ([.int .u64 5, .int .i64 9, .int .i64 0, .int .i64 0, .int .i64 0, .int .i64 0] : List Value).toArray 24)) p s w4.heap.size) := Lib.hid ⟨_, _, ⟨5, 9, 0, 0, 0, 0⟩, HD4.out.below (below_alloc _ _), HTI.out, RowAt.new w4 24 [.int .u64 5, .int .i64 9, .int .i64 0, .int .i64 0, .int .i64 0, .int .i64 0], balloc HB4.out _⟩
  clear HTI HD4 HB4
  go_wp2_with (first
    | (refine stN 24 [.int .u64 5, .int .i64 9, .int .i64 0, .int .i64 0, .int .i64 0, .int .i64 0] rfl _ _ rfl _ _ rfl (by simp) rfl (by simp [Value.oneCell']) Try.sizeSuper rfl ?_)
    | (refine ldN 24 [.int .u64 5, .int .i64 9, .int .i64 0, .int .i64 0, .int .i64 0, .int .i64 0] rfl _ rfl g8 0 rfl HX4.out.range Try.underlying24 rfl Try.sizeSuper ?_))
  generalize hw5 : w4.alloc (.cells ([.int .u64 5, .int .i64 9, .int .i64 0, .int .i64 0, .int .i64 0, .int .i64 0] : List Value).toArray 24) = w5 at *
  clear hw5
  generalize hg9 : w4.heap.size = g9 at *
  clear hg9 HX4
  go_loopw [30] (fun i wr => ∃ k : Nat, k ≤ n ∧ i = .int .i64 k ∧ Hid (TurnInv w1 wr p s g9)) (fun i _ => n - (intOf i).toNat)
  case atStart => exact ⟨0, by omega, rfl, h9⟩
  case round =>
    clear h9
    obtain ⟨k, hk, rfl, HT⟩ := hrel
    by_cases hlt : k < n
    · have hk0 : (0 : Int) ≤ (k : Int) := Int.natCast_nonneg _
      have hk1 : (k : Int) < (n : Int) := by omega
      obtain ⟨v, d, ⟨ng, nr, nbo, nq, nc, ne⟩, hd, hti, hrow, hbl⟩ := HT.out
      obtain ⟨b, o, rfl, hel⟩ := (HA1.out.below hbl).2.2 (by omega)
      have hrg := hel k hlt
      generalize f k = x at *
      obtain ⟨xg, xr, xb, xq, xc, xe⟩ := x
      have HRG := Lib.hid hrg; have HD := Lib.hid hd; have HTI := Lib.hid hti; have HROW := Lib.hid hrow; have HBL := Lib.hid hbl
      have hng : ng ≤ 281474976710655 := hti.right.g2
      obtain ⟨g, hg⟩ : ∃ g, ng + 1 = g := ⟨_, rfl⟩
      have hwn : IntKind.u64.wrap ((ng : Int) + 1) = (g : Int) := by rw [← hg]; exact wrap_u64 (ng + 1) (by omega)
      have HG := Lib.hid hg; have HNG := Lib.hid hng
      have c9 := (hrow.below (below_alloc wr (.cells ([.int .u64 (xg : Nat), .int .i64 xr, .int .i64 xb, .int .i64 xq, .int .i64 xc, .int .i64 xe] : List Value).toArray 24))).cell 0 _ rfl
      clear hd hti hrow hbl hrg hel HT hg hng
      go_wp2_with (first
        | (refine stN 24 [.int .u64 (xg : Nat), .int .i64 xr, .int .i64 xb, .int .i64 xq, .int .i64 xc, .int .i64 xe] rfl _ _ rfl _ _ rfl (by simp) rfl (by simp [Value.oneCell']) Try.sizeSuper rfl ?_)
        | (refine ldN 24 [.int .u64 (xg : Nat), .int .i64 xr, .int .i64 xb, .int .i64 xq, .int .i64 xc, .int .i64 xe] rfl _ rfl b (o + k * 6) rfl HRG.out Try.underlying24 rfl Try.sizeSuper ?_))
      have HS6 := Lib.hid (RowAt.new wr 24 [.int .u64 (g : Nat), .int .i64 xr, .int .i64 xb, .int .i64 xq, .int .i64 xc, .int .i64 xe])
      have HB6 := Lib.hid (balloc HBL.out (.cells ([.int .u64 (g : Nat), .int .i64 xr, .int .i64 xb, .int .i64 xq, .int .i64 xc, .int .i64 xe] : List Value).toArray 24))
      have HR6 := Lib.hid (HROW.out.below (below_alloc wr (.cells ([.int .u64 (g : Nat), .int .i64 xr, .int .i64 xb, .int .i64 xq, .int .i64 xc, .int .i64 xe] : List Value).toArray 24)))
      have HD6 := Lib.hid (HD.out.below (below_alloc wr (.cells ([.int .u64 (g : Nat), .int .i64 xr, .int .i64 xb, .int .i64 xq, .int .i64 xc, .int .i64 xe] : List Value).toArray 24)))
      clear HD HROW HBL HRG c9 hwn
      generalize hw6 : wr.alloc (.cells #[.int .u64 (g : Nat), .int .i64 xr, .int .i64 xb, .int .i64 xq, .int .i64 xc, .int .i64 xe] 24) = w6 at *
      clear hw6
      generalize hg11 : wr.heap.size = g11 at *
      clear hg11
      refine (super_Right ⟨g, xr, xb, xq, xc, xe⟩ _).mono ?_
      by_cases hright : (⟨g, xr, xb, xq, xc, xe⟩ : SD).right
      · rw [decide_eq_true hright]
        rintro e w7 ⟨rfl, hb7⟩
        have HS7 := Lib.hid (HS6.out.below hb7); have HR7 := Lib.hid (HR6.out.below hb7); have HD7 := Lib.hid (HD6.out.below hb7)
        have HB7 := Lib.hid (bthen HB6.out hb7)
        obtain ⟨r, b', q', c', e', hs, h1, h2, h3, h4, h5⟩ := right_nats hright
        dsimp only at hs
        injection hs with _ hs1 hs2 hs3 hs4 hs5
        subst hs1 hs2 hs3 hs4 hs5
        have HRI := Lib.hid hright
        have HN : Hid (r ≤ 1024 ∧ b' ≤ 255 ∧ q' ≤ 48 ∧ c' ≤ 1024 ∧ e' ≤ 65535) := Lib.hid ⟨h1, h2, h3, h4, h5⟩
        clear hb7 HS6 HR6 HD6 HB6 hright h1 h2 h3 h4 h5
        by_cases hkb : k < nb
        case' pos =>
          have hkb1 : (k : Int) < (nb : Int) := by omega
          obtain ⟨bb, ob, rfl, helb⟩ := HBK1.out.2.2 (by omega)
          have hrb := helb k hkb
          generalize fb k = y at *
          obtain ⟨⟨y0, y1⟩, hy⟩ := y
          have hy0 : w7.cell? ⟨bb, ob + k * 2, none⟩ = some (.int .i64 y0) := by simpa using range_belowF hrb HB7.out 0 _ rfl
          have HRB := Lib.hid hrb
          have HBRK := Lib.hid (disk_Break HD7.out y0 hy)
          clear hrb helb
          go_wp2_with fail
          refine HBRK.out.mono ?_
          clear HBRK
          rintro e w8 ⟨rfl, hd8, hk8⟩
          have HB8 := Lib.hid (HB7.out.trans (hk8.below HB7.out.size (fun i hi => HD7.out.foot_base i (.inl hi))))
          have HS8 := Lib.hid (HS7.out.kp hk8 (fun e => foot_not_super HD7.out HS7.out (.inl e)))
          have HR8 := Lib.hid (HR7.out.kp hk8 (fun e => foot_not_super HD7.out HR7.out (.inl e)))
          have hti8 := HTI.out.same (d' := { d with fuel := max y0 (-1) }) HTI.out.pend rfl
          generalize ({ d with fuel := max y0 (-1) } : Dk) = d8 at *
          have HD8 := Lib.hid hd8; have HTI8 := Lib.hid hti8
          have hy1 : w8.cell? ⟨bb, ob + k * 2 + 1, none⟩ = some (.int .i64 y1) := range_belowF HRB.out HB8.out 1 _ rfl
          obtain ⟨cut, hcut⟩ : ∃ cut : Int, cut = y1 := ⟨_, rfl⟩
          have HCT := Lib.hid hcut
          clear hd8 hk8 hti8 HD7 HTI HS7 HR7 HB7 hcut
        case' neg =>
          obtain ⟨w8, hw8⟩ : ∃ w8, w8 = w7 := ⟨_, rfl⟩
          rw [← hw8]
          have HB8 := hw8 ▸ HB7; have HS8 := hw8 ▸ HS7; have HR8 := hw8 ▸ HR7; have HD8 := hw8 ▸ HD7
          obtain ⟨d8, hd8⟩ : ∃ d8, d8 = d := ⟨_, rfl⟩
          have HTI8 := hd8 ▸ HTI
          rw [← hd8] at HD8
          obtain ⟨cut, hcut⟩ : ∃ cut : Int, cut = 0 := ⟨_, rfl⟩
          have HCT := Lib.hid hcut
          clear hd8 hw8 HB7 HS7 HR7 HD7 HTI hcut
        all_goals
          have HWR := Lib.hid (super_Write_any g r b' q' c' e' HRI.out.g1 HRI.out.g2 HN.out.1 HN.out.2.1 HN.out.2.2.1 HN.out.2.2.2.1 HN.out.2.2.2.2 HD8.out HB8.out.size HTI8.out.pend (by rw [HTI8.out.len]; omega))
          go_wp2_with (refine ldN 24 [.int .u64 (g : Nat), .int .i64 r, .int .i64 b', .int .i64 q', .int .i64 c', .int .i64 e'] rfl _ rfl g11 0 rfl HS8.out.range Try.underlying24 rfl Try.sizeSuper ?_)
          refine HWR.out.mono ?_
          clear HWR
          rintro e w9 ⟨ev, v9, d9, rfl, hd9, hcs, hk9⟩
          have HTR := Lib.hid (HTI8.out.round_g HG.out r b' q' c' e' HRI.out.g2 HN.out.1 HN.out.2.1 HN.out.2.2.1 HN.out.2.2.2.1 HN.out.2.2.2.2 hcs keep cut)
          have hpl : d9.pend.length ≤ 1000000 := by rcases hcs with ⟨_, h, _⟩ | ⟨_, h, _⟩ | ⟨_, h, _⟩ <;> rw [h] <;> simp
          have HPL := Lib.hid hpl; have HD9 := Lib.hid hd9
          have HB9 := Lib.hid (HB8.out.trans (hk9.below HB8.out.size (fun i hi => HD8.out.foot_base i hi)))
          have HS9 := Lib.hid (HS8.out.kp hk9 (foot_not_super HD8.out HS8.out))
          have HR9 := Lib.hid (HR8.out.kp hk9 (foot_not_super HD8.out HR8.out))
          have HC9 := Lib.hid (HC1.out.below HB9.out)
          clear hd9 hcs hk9 hpl HD8 HB8 HS8 HR8 HTI8 HRI HN
          go_wp2_with (at_builtin; refine wpList_copy_bools (W := w9) rfl _ _ 49 4 rfl Try.underlying49 Try.infoBool' C nk ck keep w9.heap.size rfl rfl rfl HC9.out (Nat.le_trans HNK.out (by omega)) ?_; intro A10 c10 w10 hown10 hrb10 hb10; have HOW := Lib.hid (foot_fresh HD9.out hown10); have HRB10 := Lib.hid hrb10; have HB10 := Lib.hid hb10; clear hown10 hrb10 hb10)
          refine (disk_Crash (HD9.out.below HB10.out) HPL.out A10 nk c10 keep HRB10.out HOW.out 0 _).mono ?_
          rintro e w11 ⟨rfl, hd11, hk11⟩
          have hd11' : DiskAt w11 w1.heap.size p s (.slice none 0 0) (d9.crashed keep 0 cut) := by rw [HCT.out]; exact hd11
          have HB11 := Lib.hid ((HB9.out.trans (HB10.out.mono HB9.out.size)).trans (hk11.below (Nat.le_trans HB9.out.size HB10.out.size) (fun i hi => HD9.out.foot_base i hi)))
          have HS11 := Lib.hid ((HS9.out.below HB10.out).kp hk11 (foot_not_super (HD9.out.below HB10.out) (HS9.out.below HB10.out)))
          have HR11 := Lib.hid ((HR9.out.below HB10.out).kp hk11 (foot_not_super (HD9.out.below HB10.out) (HR9.out.below HB10.out)))
          have HD11 := Lib.hid hd11'
          clear hd11 hd11' hk11 HD9 HB9 HS9 HR9 HC9 HOW HRB10 HB10 HPL
          generalize d9.crashed keep 0 cut = d11 at *
          clear HCT
          unfold SD.cells at HR11
          dsimp only at HR11
          rcases HTR.out with ⟨hev, ht⟩ | ht
          · have HT11 := Lib.hid ht
            have HRD := Lib.hid (super_Read HD11.out (by rw [ht.pend]; simp) (by rw [ht.len]; omega))
            rw [ht.counts] at HRD
            subst hev
            clear ht HTR
            go_wp2_with fail
            refine HRD.out.mono ?_
            clear HRD
            rintro e w12 ⟨rfl, hb12⟩
            unfold SD.v
            dsimp only
            have HX12 := Lib.hid (RowAt.new w12 24 [.int .u64 (ng : Nat), .int .i64 nr, .int .i64 nbo, .int .i64 nq, .int .i64 nc, .int .i64 ne])
            have HB12 := Lib.hid (balloc (HB11.out.trans (hb12.mono HB11.out.size)) (.cells ([.int .u64 (ng : Nat), .int .i64 nr, .int .i64 nbo, .int .i64 nq, .int .i64 nc, .int .i64 ne] : List Value).toArray 24))
            have HS12 := Lib.hid ((HS11.out.below hb12).below (below_alloc w12 (.cells ([.int .u64 (ng : Nat), .int .i64 nr, .int .i64 nbo, .int .i64 nq, .int .i64 nc, .int .i64 ne] : List Value).toArray 24)))
            have HR12 := Lib.hid ((HR11.out.below hb12).below (below_alloc w12 (.cells ([.int .u64 (ng : Nat), .int .i64 nr, .int .i64 nbo, .int .i64 nq, .int .i64 nc, .int .i64 ne] : List Value).toArray 24)))
            have HD12 := Lib.hid ((HD11.out.below hb12).below (below_alloc w12 (.cells ([.int .u64 (ng : Nat), .int .i64 nr, .int .i64 nbo, .int .i64 nq, .int .i64 nc, .int .i64 ne] : List Value).toArray 24)))
            have a0 := HS12.out.cell 0 _ rfl
            have a1 := HS12.out.cell 1 _ rfl
            have a2 := HS12.out.cell 2 _ rfl
            have a3 := HS12.out.cell 3 _ rfl
            have a4 := HS12.out.cell 4 _ rfl
            have a5 := HS12.out.cell 5 _ rfl
            have b0 := HR12.out.cell 0 _ rfl
            have b1 := HR12.out.cell 1 _ rfl
            have b2 := HR12.out.cell 2 _ rfl
            have b3 := HR12.out.cell 3 _ rfl
            have b4 := HR12.out.cell 4 _ rfl
            have b5 := HR12.out.cell 5 _ rfl
            have hne : ¬ ((ng : Int) = (g : Int)) := by have := HG.out; omega
            clear hb12 HB11 HS11 HR11 HD11
            go_upto_region 22 with (refine stN 24 [.int .u64 (ng : Nat), .int .i64 nr, .int .i64 nbo, .int .i64 nq, .int .i64 nc, .int .i64 ne] rfl _ _ rfl _ _ rfl rfl rfl (by simp [Value.oneCell']) Try.sizeSuper rfl ?_)
            go_upto_region 24 with fail
            go_wp2_with (first
              | (refine ldN 24 [.int .u64 (ng : Nat), .int .i64 nr, .int .i64 nbo, .int .i64 nq, .int .i64 nc, .int .i64 ne] rfl _ rfl w12.heap.size 0 rfl HX12.out.range Try.underlying24 rfl Try.sizeSuper ?_)
              | (refine stN_at 24 [.int .u64 (ng : Nat), .int .i64 nr, .int .i64 nbo, .int .i64 nq, .int .i64 nc, .int .i64 ne] _ rfl _ _ rfl g9 rfl HR12.out rfl (by simp [Value.oneCell']) Try.sizeSuper rfl ?_; intro w13 hrow13 hk13; have HROW13 := Lib.hid hrow13; have HK13 := Lib.hid hk13; clear hrow13 hk13))
            go_roundw
            case rel => exact ⟨k + 1, by omega, by go_num, Lib.hid ⟨_, d11, _, HD12.out.kept HK13.out (fun i hf e => by subst e; exact foot_not_super HD12.out HR12.out hf), HT11.out, HROW13.out, HB12.out.trans (HK13.out.below HB12.out.size (fun i e => by subst e; exact HG9.out))⟩⟩
            case measure => simp [intOf]; omega
          · have HT11 := Lib.hid ht
            have HRD := Lib.hid (super_Read HD11.out (by rw [ht.pend]; simp) (by rw [ht.len]; omega))
            rw [ht.counts] at HRD
            clear ht HTR
            go_wp2_with fail
            refine HRD.out.mono ?_
            clear HRD
            rintro e w12 ⟨rfl, hb12⟩
            unfold SD.v
            dsimp only
            have HX12 := Lib.hid (RowAt.new w12 24 [.int .u64 (g : Nat), .int .i64 r, .int .i64 b', .int .i64 q', .int .i64 c', .int .i64 e'])
            have HB12 := Lib.hid (balloc (HB11.out.trans (hb12.mono HB11.out.size)) (.cells ([.int .u64 (g : Nat), .int .i64 r, .int .i64 b', .int .i64 q', .int .i64 c', .int .i64 e'] : List Value).toArray 24))
            have HS12 := Lib.hid ((HS11.out.below hb12).below (below_alloc w12 (.cells ([.int .u64 (g : Nat), .int .i64 r, .int .i64 b', .int .i64 q', .int .i64 c', .int .i64 e'] : List Value).toArray 24)))
            have HR12 := Lib.hid ((HR11.out.below hb12).below (below_alloc w12 (.cells ([.int .u64 (g : Nat), .int .i64 r, .int .i64 b', .int .i64 q', .int .i64 c', .int .i64 e'] : List Value).toArray 24)))
            have HD12 := Lib.hid ((HD11.out.below hb12).below (below_alloc w12 (.cells ([.int .u64 (g : Nat), .int .i64 r, .int .i64 b', .int .i64 q', .int .i64 c', .int .i64 e'] : List Value).toArray 24)))
            have a0 := HS12.out.cell 0 _ rfl
            have a1 := HS12.out.cell 1 _ rfl
            have a2 := HS12.out.cell 2 _ rfl
            have a3 := HS12.out.cell 3 _ rfl
            have a4 := HS12.out.cell 4 _ rfl
            have a5 := HS12.out.cell 5 _ rfl
            have b0 := HR12.out.cell 0 _ rfl
            have b1 := HR12.out.cell 1 _ rfl
            have b2 := HR12.out.cell 2 _ rfl
            have b3 := HR12.out.cell 3 _ rfl
            have b4 := HR12.out.cell 4 _ rfl
            have b5 := HR12.out.cell 5 _ rfl
            have hne : ¬ ((ng : Int) = (g : Int)) := by have := HG.out; omega
            clear hb12 HB11 HS11 HR11 HD11
            go_upto_region 22 with (refine stN 24 [.int .u64 (g : Nat), .int .i64 r, .int .i64 b', .int .i64 q', .int .i64 c', .int .i64 e'] rfl _ _ rfl _ _ rfl rfl rfl (by simp [Value.oneCell']) Try.sizeSuper rfl ?_)
            go_upto_region 24 with fail
            go_wp2_with (first
              | (refine ldN 24 [.int .u64 (g : Nat), .int .i64 r, .int .i64 b', .int .i64 q', .int .i64 c', .int .i64 e'] rfl _ rfl w12.heap.size 0 rfl HX12.out.range Try.underlying24 rfl Try.sizeSuper ?_)
              | (refine stN_at 24 [.int .u64 (g : Nat), .int .i64 r, .int .i64 b', .int .i64 q', .int .i64 c', .int .i64 e'] _ rfl _ _ rfl g9 rfl HR12.out rfl (by simp [Value.oneCell']) Try.sizeSuper rfl ?_; intro w13 hrow13 hk13; have HROW13 := Lib.hid hrow13; have HK13 := Lib.hid hk13; clear hrow13 hk13))
            go_roundw
            case rel => exact ⟨k + 1, by omega, by go_num, Lib.hid ⟨_, d11, _, HD12.out.kept HK13.out (fun i hf e => by subst e; exact foot_not_super HD12.out HR12.out hf), HT11.out, HROW13.out, HB12.out.trans (HK13.out.below HB12.out.size (fun i e => by subst e; exact HG9.out))⟩⟩
            case measure => simp [intOf]; omega
      · rw [decide_eq_false hright]
        rintro e w7 ⟨rfl, hb7⟩
        have hti : TurnInv w1 w7 p s g9 := ⟨v, d, _, HD6.out.below hb7, HTI.out, HR6.out.below hb7, bthen HB6.out hb7⟩
        have HTZ := Lib.hid hti
        clear hti hb7 HS6 HR6 HD6 HB6
        go_wp2_with fail
        go_roundw
        case rel => exact ⟨k + 1, by omega, by go_num, HTZ⟩
        case measure => simp [intOf]; omega
    · obtain rfl : k = n := by omega
      obtain ⟨v, d, now, hd, hti, hrow, hbl⟩ := HT.out
      have HBZ := Lib.hid (bthen HB1.out hbl)
      clear hd hti hrow hbl HT
      go_wp2_with fail
      go_ret
      exact ⟨rfl, HBZ.out⟩
set_option maxRecDepth 20000 in
theorem superTurns_early (A : Option Addr) (n c : Nat) (b k : Value) (w : World) (h : 50 < n) :
    Calls Try.prog 7 #[.slice A n c, b, k] w fun e w' => e = .returned (.bool true) ∧ Below w.heap.size w w' := by
  go_enter Try.func7, Try.ntmps7
  go_wp2_with fail
  refine (superAlive_true _).mono ?_
  rintro e w1 ⟨rfl, hb1⟩
  have HB1 := Lib.hid hb1
  clear hb1
  go_wp2_with fail
  go_ret
  exact ⟨rfl, HB1.out⟩
set_option maxRecDepth 100000 in
theorem superTurns_walk {H : Type} {enc : TypeId × Value → H} {W : World} {base : Nat} {v0 v1 v2 : Value} {d0 d1 d2 : DataW H} {p0 p1 p2 : List MemPlace}
    (o0 : Value.okWide Try.prog W .any base 47 v0) (r0 : DataW.Trod enc Try.prog W 0 (fun _ => true) true 47 v0 d0 p0) (_z0 : ∀ n ∈ d0.weights Try.prog 47, n ≤ reachBytes)
    (o1 : Value.okWide Try.prog W .any base 48 v1) (r1 : DataW.Trod enc Try.prog W 0 (fun _ => true) true 48 v1 d1 p1) (_z1 : ∀ n ∈ d1.weights Try.prog 48, n ≤ reachBytes)
    (o2 : Value.okWide Try.prog W .any base 49 v2) (r2 : DataW.Trod enc Try.prog W 0 (fun _ => true) true 49 v2 d2 p2) (z2 : ∀ n ∈ d2.weights Try.prog 49, n ≤ reachBytes) :
    Calls Try.prog 7 #[v0, v1, v2] W fun e w' => e = .returned (.bool true) ∧ Below W.heap.size W w' := by
  haveI : Inhabited SD := ⟨SD.z⟩
  haveI : Inhabited { y : Int × Int // y.1 ≤ 9223372036854775807 } := ⟨⟨(0, 0), by decide⟩⟩
  obtain ⟨A, n, c, f, rfl, hA⟩ := open_elems SD.cells 6 Try.underlying47 (by kernel_rfl) (fun a => by unfold SD.cells; simp) (fun _ _ _ h => trod_super h) o0 r0
  obtain ⟨B, nb, cb, fb, rfl, hB⟩ := open_elems (fun y : { y : Int × Int // y.1 ≤ 9223372036854775807 } => pairCells y.1) 2 Try.underlying48 (by kernel_rfl) (fun a => by unfold pairCells; simp) (fun _ _ _ h => trod_pair h) o1 r1
  obtain ⟨C, nk, ck, keep, rfl, hC, hnk⟩ := open_bools o2 r2 z2
  by_cases hn : 50 < n
  · exact superTurns_early A n c _ _ W hn
  · exact superTurns_main A n c f B nb cb fb C nk ck keep W hA hB hC hnk (by omega)
end Go.Proofs.Ytanibabfdpgbbaa
