/- The walk of DiskRuns: the rounds. -/
import Derived.Test.YtoghmakbdhepfaaDiskW8
import Derived.Test.YtoghmakbdhepfaaDiskRunsP
import Derived.Deep.QuietTactic
import Derived.BigQuiet
namespace Go.Proofs.Ytoghmakbdhepfaa
open Go.RowKit
attribute [local go_sem ↓] build37 loadAt37

def RunInv (w1 wr : World) (p s g k : Nat) : Prop := ∃ v A c B kk d, Two w1 wr p s g v A c B kk d ∧ d.pend.length ≤ k
theorem quiet_leftD {P : Program} {f : FuncId} {args : Array Value} {w : World} {n : Nat} {v : Value}
    (h : Calls P f args (w.drewN n) fun e w' => e = .returned v ∧ w.drewN n = w') : Calls P f args (w.drewN n) fun e w'' => e = .returned v ∧ ∃ m, w'' = w.drewN m :=
  h.mono fun _ _ ⟨he, hm⟩ => ⟨he, n, hm.symm⟩
theorem DiskAt.drewN {w : World} {base p s : Nat} {v : Value} {d : Dk} (h : DiskAt w base p s v d) (n : Nat) : DiskAt (w.drewN n) base p s v d :=
  h.kept ((Kp.refl (fun _ => False) w).drewN n) (fun _ _ hf => hf)
theorem below_dN (w : World) (n : Nat) : Below w.heap.size w (w.drewN n) := ((Kp.refl (fun _ => False) w).drewN n).below (Nat.le_refl _) (fun _ hf => hf.elim)

set_option maxRecDepth 20000 in
set_option maxHeartbeats 12800000 in
theorem diskRuns_main (A0 : Option Addr) (q n c0 : Nat) (l : List ActD) (sectors : Int) (w : World) (hl : RActs w A0 q c0 l) (hq : q ≤ 200) :
    Calls Try.prog 7 #[.int .i64 sectors, .slice A0 q c0] w fun e w' => e = .returned (.bool true) ∧ Below w.heap.size w w' := by
  have b0 := run_bldSec0
  have HL := Lib.hid hl
  clear hl
  go_enter Try.func7, Try.ntmps7
  go_wp2_with fail
  refine (diskAlive_true _).mono ?_
  rintro e w1 ⟨rfl, hb1⟩
  have HL1 := Lib.hid (HL.out.below hb1)
  have HB1 := Lib.hid hb1
  clear hb1 HL
  go_wp2_with fail
  refine (disk_New sectors w1).mono ?_
  rintro e w2 ⟨p, s, rfl, hd0, hb0⟩
  have HD0 := Lib.hid hd0; have HB0 := Lib.hid hb0
  clear hd0 hb0
  go_wp2_with fail
  refine (ref_New sectors w2).mono ?_
  rintro e w3 ⟨A, c, rfl, hr3, hb3, hf3⟩
  have hrow3 := RowAt.new w3 49 (rdC A c none 0 (newDk sectors))
  have htwo : Two w1 (w3.alloc (.cells (rdC A c none 0 (newDk sectors)).toArray 49)) p s w3.heap.size (.slice none 0 0) A c none 0 (newDk sectors) :=
    ⟨(HD0.out.below hb3).below (below_alloc _ _), hrow3, hr3.below (below_alloc _ _), (ApB.new HD0.out hf3).up (by simp) (fun _ e => .inl e), (fun b o e => by cases e), (fun b o e => by have := (hf3 b o e).2; omega), (fun b o e => by cases e), balloc (HB0.out.trans (hb3.mono HB0.out.size)) _⟩
  have HI : Hid (RunInv w1 (w3.alloc (.cells (rdC A c none 0 (newDk sectors)).toArray 49)) p s w3.heap.size 0) := Lib.hid ⟨_, _, _, _, _, _, htwo, by simp [newDk]⟩
  have HG : Hid (w1.heap.size ≤ w3.heap.size) := Lib.hid (Nat.le_trans HB0.out.size hb3.size)
  clear hr3 hb3 hf3 hrow3 htwo HD0 HB0
  go_wp2_with (refine stN 49 (rdC A c none 0 (newDk sectors)) rfl _ _ rfl _ _ rfl rfl rfl (rdC_one _ _ _ _ _) Try.sizeRD rfl ?_)
  generalize hw4 : w3.alloc (.cells (rdC A c none 0 (newDk sectors)).toArray 49) = w4 at *
  clear hw4
  generalize hg : w3.heap.size = g at *
  clear hg
  go_loopw [33] (fun i wr => ∃ k : Nat, k ≤ q ∧ i = .int .i64 k ∧ Hid (RunInv w1 wr p s g k)) (fun i _ => q - (intOf i).toNat)
  case atStart => exact ⟨0, by omega, rfl, HI⟩
  case round =>
    clear HI
    obtain ⟨k, hk, rfl, HR⟩ := hrel
    by_cases hlt : k < q
    · have hk0 : (0 : Int) ≤ (k : Int) := Int.natCast_nonneg _
      have hk1 : (k : Int) < (q : Int) := by omega
      obtain ⟨v, A, c, B, kk, d, htwo, hpl⟩ := HR.out
      obtain ⟨b, o, rfl, hacts⟩ := (HL1.out.below htwo.bl).2.2.2 (by omega)
      obtain ⟨hrg, hok⟩ := hacts k hlt
      have hokf : ∀ w', Below w1.heap.size w1 w' → ActOk w' (actAt l k) := fun w' hb => by
        obtain ⟨_, _, _, h⟩ := (HL1.out.below hb).2.2.2 (by omega)
        exact (h k hlt).2
      generalize actAt l k = y at *
      have HOKF := Lib.hid hokf
      have HRG := Lib.hid hrg
      have hdl : y.data.length = 128 := hok.data
      have HDL := Lib.hid hdl
      -- the act in its box, two sectors of zeros
      have hbx := ((Box.new wr (actCells y) 31).old (.cells Try.zeroCells28 28)).old (.cells Try.zeroCells28 28)
      have hz9 := (zsec_new' (wr.alloc (.cells (actCells y).toArray 31)) (wr.heap.size + 1) (by simp)).below (below_alloc _ (.cells Try.zeroCells28 28))
      have hz10 := zsec_new' ((wr.alloc (.cells (actCells y).toArray 31)).alloc (.cells Try.zeroCells28 28)) (wr.heap.size + 1 + 1) (by simp)
      have hbW := ((below_alloc2 wr (.cells (actCells y).toArray 31) (.cells Try.zeroCells28 28)).alloc (by simp; omega) (.cells Try.zeroCells28 28))
      have htwoW := htwo.below hbW
      have HLA := Lib.hid htwo.ltA; have HPL := Lib.hid hpl; have HFT : Hid (∀ i, foot p s v i → i < wr.heap.size) := Lib.hid (fun i hi => htwo.disk.foot_lt i hi)
      have HGR : Hid (g < wr.heap.size) := Lib.hid (lt_of_heap htwo.row)
      have HWS : Hid (w1.heap.size ≤ wr.heap.size) := Lib.hid htwo.bl.size
      have HBX := Lib.hid hbx; have HZ9 := Lib.hid hz9; have HZ10 := Lib.hid hz10; have HTW := Lib.hid htwoW
      clear HR hrg hok hdl hbx hz9 hz10 hbW htwo htwoW hacts hpl hokf
      go_wp2_with (first
        | (refine ld40 rfl _ rfl b (o + k * 132) rfl y HRG.out HDL.out ?_)
        | (refine st40 rfl _ _ rfl _ _ rfl rfl y rfl HDL.out rfl ?_)
        | (refine st37_at rfl (.tmp 9) (.tmp 37) rfl (wr.heap.size + 1) zsec rfl HZ9.out zsec rfl zsec_length ?_; intro w5 hs5 hk5; have HBX5 := Lib.hid (HBX.out.kp hk5 (by omega)); have HZ95 := Lib.hid hs5; have HZ105 := Lib.hid (HZ10.out.kp hk5 (by omega)); have HK5 := Lib.hid hk5; clear hs5 hk5)
        | (refine st37_at rfl (.tmp 10) (.tmp 38) rfl (wr.heap.size + 1 + 1) zsec rfl HZ105.out zsec rfl zsec_length ?_; intro w6 hs6 hk6; have HBX6 := Lib.hid (HBX5.out.kp hk6 (by omega)); have HZ96 := Lib.hid (HZ95.out.kp hk6 (by omega)); have HZ106 := Lib.hid hs6; have HK6 := Lib.hid hk6; clear hs6 hk6)
        | (refine ld40 rfl _ rfl wr.heap.size 0 rfl y HBX6.out.range HDL.out ?_))
      have TW6 := Lib.hid ((HTW.out.box HK5.out (by have := HWS.out; omega) (fun hf => by have := HFT.out _ hf; omega) (by have := HGR.out; omega) (fun b o e => by have := HLA.out.1 b o e; omega) (fun b o e => by have := HLA.out.2 b o e; omega)).box HK6.out (by have := HWS.out; omega) (fun hf => by have := HFT.out _ hf; omega) (by have := HGR.out; omega) (fun b o e => by have := HLA.out.1 b o e; omega) (fun b o e => by have := HLA.out.2 b o e; omega))
      have hpl6 : d.pend.length ≤ 1000000 := by have := HPL.out; omega
      have HP6 := Lib.hid hpl6
      clear HTW HK5 HK6 HBX HZ9 HZ10 HBX5 HZ95 HZ105 hpl6
      have hkinds : y.kind = 0 ∨ y.kind = 1 ∨ y.kind = 2 ∨ y.kind = 3 ∨ y.kind = 4 ∨ (y.kind ≠ 0 ∧ y.kind ≠ 1 ∧ y.kind ≠ 2 ∧ y.kind ≠ 3 ∧ y.kind ≠ 4) := by omega
      rcases hkinds with hkd | hkd | hkd | hkd | hkd | hkd
      case' inl =>
        obtain ⟨r, err, hrl, hdo, href⟩ := pair_read TW6.out.disk HP6.out hkd
        have HKD := Lib.hid hkd; have HDO := Lib.hid hdo; have HREF := Lib.hid href; have HRL := Lib.hid hrl
        clear hkd hdo href hrl
        refine HDO.out.mono ?_
        clear HDO
        rintro e w7 ⟨v7, rfl, hd7, hk7, hv7⟩
        have hh := TW6.out.acted hd7 hk7 hv7
        have hf7 : ∀ i, foot p s v7 i → i < wr.heap.size ∨ w6.heap.size ≤ i := fun i hi => by
          rcases hi with h | h | h
          · exact .inl (HFT.out _ (.inl h))
          · exact .inl (HFT.out _ (.inr (.inl h)))
          · rcases hv7 i h with h | h
            · exact .inl (HFT.out _ (.inr (.inr h)))
            · exact .inr h
        have hbx7 := HBX6.out.kp hk7 (fun hf => by have := HFT.out _ hf; omega)
        have hz97 := HZ96.out.kp hk7 (fun hf => by have := HFT.out _ hf; omega)
        have hz107 := HZ106.out.kp hk7 (fun hf => by have := HFT.out _ hf; omega)
        have hl6 : wr.heap.size + 1 + 1 < w6.heap.size := lt_of_heap HZ106.out.1
        have HH7 := Lib.hid hh; have HF7 := Lib.hid hf7; have HBX7 := Lib.hid hbx7; have HZ97 := Lib.hid hz97; have HZ107 := Lib.hid hz107; have HL6 := Lib.hid hl6
        clear hd7 hk7 hv7 hh hf7 hbx7 hz97 hz107 hl6 TW6 HBX6 HZ96 HZ106
        go_wp2_with (first
          | (refine st37_at rfl (.tmp 9) (.tmp 43) rfl (wr.heap.size + 1) zsec rfl HZ97.out r rfl HRL.out ?_; intro w8 hs8 hk8; have HH8 := Lib.hid (HH7.out.box hk8 (by have := HWS.out; omega) (fun hf => by have := HF7.out _ hf; have := HL6.out; omega) (by have := HGR.out; omega) (fun b o e => by have := HLA.out.1 b o e; omega) (fun b o e => by have := HLA.out.2 b o e; omega)); have hbx8 := HBX7.out.kp hk8 (by omega); have n0 := hbx8.cell 0 _ rfl; have n1 := hbx8.cell 1 _ rfl; have HBX8 := Lib.hid hbx8; have HZ98 := Lib.hid hs8; have HZ108 := Lib.hid (HZ107.out.kp hk8 (by omega)); rw [HKD.out] at n0; clear hs8 hk8 hbx8)
          | (refine ldRD rfl (.tmp 6) rfl g rfl HH8.out.row ?_))
        refine (HREF.out w8 A c B kk HH8.out.rd).mono ?_
        rintro e w9 ⟨rfl, hb9⟩
        have HZ99 := Lib.hid (HZ98.out.below hb9); have HZ109 := Lib.hid (HZ108.out.below hb9)
        have HT9 : Hid (Two w1 w9 p s g v7 A c B kk d) := Lib.hid (Two.below ⟨HH8.out.disk, HH8.out.row, HH8.out.rd, HH8.out.apA, HH8.out.apB, HH8.out.gA, HH8.out.gB, HH8.out.bl⟩ hb9)
        clear hb9 n0 n1
        go_wp2_with (refine st37_at rfl (.tmp 10) (.tmp 54) rfl (wr.heap.size + 1 + 1) zsec rfl HZ109.out r rfl HRL.out ?_; intro w10 hs10 hk10; have HT10 := Lib.hid (HT9.out.box hk10 (by have := HWS.out; omega) (fun hf => by have := HF7.out _ hf; have := HL6.out; omega) (by have := HGR.out; omega) (fun b o e => by have := HLA.out.1 b o e; omega) (fun b o e => by have := HLA.out.2 b o e; omega)); have HS9 := Lib.hid (HZ99.out.kp hk10 (by omega)); have HS10 := Lib.hid hs10; clear hs10 hk10)
        have HPK : Hid (d.pend.length ≤ k + 1) := Lib.hid (by have := HPL.out; omega)
        obtain ⟨A', hA'⟩ : ∃ A', A' = A := ⟨_, rfl⟩
        obtain ⟨B', hB'⟩ : ∃ B', B' = B := ⟨_, rfl⟩
        obtain ⟨c', hc'⟩ : ∃ c', c' = c := ⟨_, rfl⟩
        obtain ⟨k', hk'⟩ : ∃ k', k' = kk := ⟨_, rfl⟩
        obtain ⟨dN, hdN⟩ : ∃ dN, dN = d := ⟨_, rfl⟩
        rw [← hA', ← hB', ← hc', ← hk', ← hdN] at HT10
        rw [← hdN] at HPK
        clear hA' hB' hc' hk' hdN HT9 HREF HZ99 HZ109 HKD HH8 HH7 HBX8 HZ98 HZ108 HF7 HBX7 HZ97 HZ107 HL6
      case' inr.inl =>
        obtain ⟨err, dN, hdo, hpn, href⟩ := pair_write TW6.out.disk TW6.out.bl.size HP6.out HDL.out hkd
        have HKD := Lib.hid hkd; have HDO := Lib.hid hdo; have HREF := Lib.hid href; have HPN := Lib.hid hpn
        clear hkd hdo href hpn
        refine HDO.out.mono ?_
        clear HDO
        rintro e w7 ⟨v7, rfl, hd7, hk7, hv7⟩
        have hh := TW6.out.acted hd7 hk7 hv7
        have hf7 : ∀ i, foot p s v7 i → i < wr.heap.size ∨ w6.heap.size ≤ i := fun i hi => by
          rcases hi with h | h | h
          · exact .inl (HFT.out _ (.inl h))
          · exact .inl (HFT.out _ (.inr (.inl h)))
          · rcases hv7 i h with h | h
            · exact .inl (HFT.out _ (.inr (.inr h)))
            · exact .inr h
        have hbx7 := HBX6.out.kp hk7 (fun hf => by have := HFT.out _ hf; omega)
        have hz97 := HZ96.out.kp hk7 (fun hf => by have := HFT.out _ hf; omega)
        have hz107 := HZ106.out.kp hk7 (fun hf => by have := HFT.out _ hf; omega)
        have hl6 : wr.heap.size + 1 + 1 < w6.heap.size := lt_of_heap HZ106.out.1
        have HH7 := Lib.hid hh; have HF7 := Lib.hid hf7; have HBX7 := Lib.hid hbx7; have HZ97 := Lib.hid hz97; have HZ107 := Lib.hid hz107; have HL6 := Lib.hid hl6
        clear hd7 hk7 hv7 hh hf7 hbx7 hz97 hz107 hl6 TW6 HBX6 HZ96 HZ106
        go_wp2_with (first
          | (refine st37_at rfl (.tmp 9) (.tmp 43) rfl (wr.heap.size + 1) zsec rfl HZ97.out zsec rfl zsec_length ?_; intro w8 hs8 hk8; have HH8 := Lib.hid (HH7.out.box hk8 (by have := HWS.out; omega) (fun hf => by have := HF7.out _ hf; have := HL6.out; omega) (by have := HGR.out; omega) (fun b o e => by have := HLA.out.1 b o e; omega) (fun b o e => by have := HLA.out.2 b o e; omega)); have hbx8 := HBX7.out.kp hk8 (by omega); have n0 := hbx8.cell 0 _ rfl; have n1 := hbx8.cell 1 _ rfl; have HBX8 := Lib.hid hbx8; have HZ98 := Lib.hid hs8; have HZ108 := Lib.hid (HZ107.out.kp hk8 (by omega)); rw [HKD.out] at n0; clear hs8 hk8 hbx8)
          | (refine ldRD rfl (.tmp 6) rfl g rfl HH8.out.row ?_)
          | (refine ld37 rfl _ rfl wr.heap.size 3 rfl y.data (act_data HBX8.out) HDL.out ?_))
        refine (HREF.out w8 A c B kk HH8.out.rd).mono ?_
        rintro e w9 ⟨A', c', B', k', rfl, hr9, hb9, hA9, hB9⟩
        have HR9 := Lib.hid hr9; have HB9 := Lib.hid hb9; have HA9 := Lib.hid hA9; have HBB9 := Lib.hid hB9; have HZ99 := Lib.hid (HZ98.out.below hb9); have HZ109 := Lib.hid (HZ108.out.below hb9); have HROW9 := Lib.hid (HH8.out.row.below hb9)
        clear hr9 hb9 hA9 hB9 n0 n1
        unfold withErr
        go_wp2_with (refine stRD rfl (.tmp 6) (.tmp 65) rfl g rfl HROW9.out rfl rfl ?_; intro w10 hs10 hk10; have HT10 := Lib.hid (HH8.out.done HR9.out HB9.out HA9.out HBB9.out hk10 hs10 HG.out); have HS9 := Lib.hid (HZ99.out.kp hk10 (by have := HGR.out; omega)); have HS10 := Lib.hid (HZ109.out.kp hk10 (by have := HGR.out; omega)); clear hs10 hk10)
        have HPK : Hid (dN.pend.length ≤ k + 1) := Lib.hid (by have := HPN.out; have := HPL.out; omega)
        obtain ⟨r, hr⟩ : ∃ r, r = zsec := ⟨_, rfl⟩
        have HRL : Hid (r.length = 128) := Lib.hid (by rw [hr]; exact zsec_length)
        rw [← hr] at HS9 HS10
        clear hr HREF HPN HR9 HB9 HA9 HBB9 HZ99 HZ109 HROW9 HKD HH8 HH7 HBX8 HZ98 HZ108 HF7 HBX7 HZ97 HZ107 HL6
      case' inr.inr.inl =>
        obtain ⟨err, dN, hdo, hpn, href⟩ := pair_flush TW6.out.disk HP6.out hkd
        have HKD := Lib.hid hkd; have HDO := Lib.hid hdo; have HREF := Lib.hid href; have HPN := Lib.hid hpn
        clear hkd hdo href hpn
        refine HDO.out.mono ?_
        clear HDO
        rintro e w7 ⟨v7, rfl, hd7, hk7, hv7⟩
        have hh := TW6.out.acted hd7 hk7 hv7
        have hf7 : ∀ i, foot p s v7 i → i < wr.heap.size ∨ w6.heap.size ≤ i := fun i hi => by
          rcases hi with h | h | h
          · exact .inl (HFT.out _ (.inl h))
          · exact .inl (HFT.out _ (.inr (.inl h)))
          · rcases hv7 i h with h | h
            · exact .inl (HFT.out _ (.inr (.inr h)))
            · exact .inr h
        have hbx7 := HBX6.out.kp hk7 (fun hf => by have := HFT.out _ hf; omega)
        have hz97 := HZ96.out.kp hk7 (fun hf => by have := HFT.out _ hf; omega)
        have hz107 := HZ106.out.kp hk7 (fun hf => by have := HFT.out _ hf; omega)
        have hl6 : wr.heap.size + 1 + 1 < w6.heap.size := lt_of_heap HZ106.out.1
        have HH7 := Lib.hid hh; have HF7 := Lib.hid hf7; have HBX7 := Lib.hid hbx7; have HZ97 := Lib.hid hz97; have HZ107 := Lib.hid hz107; have HL6 := Lib.hid hl6
        clear hd7 hk7 hv7 hh hf7 hbx7 hz97 hz107 hl6 TW6 HBX6 HZ96 HZ106
        go_wp2_with (first
          | (refine st37_at rfl (.tmp 9) (.tmp 43) rfl (wr.heap.size + 1) zsec rfl HZ97.out zsec rfl zsec_length ?_; intro w8 hs8 hk8; have HH8 := Lib.hid (HH7.out.box hk8 (by have := HWS.out; omega) (fun hf => by have := HF7.out _ hf; have := HL6.out; omega) (by have := HGR.out; omega) (fun b o e => by have := HLA.out.1 b o e; omega) (fun b o e => by have := HLA.out.2 b o e; omega)); have hbx8 := HBX7.out.kp hk8 (by omega); have n0 := hbx8.cell 0 _ rfl; have n1 := hbx8.cell 1 _ rfl; have HBX8 := Lib.hid hbx8; have HZ98 := Lib.hid hs8; have HZ108 := Lib.hid (HZ107.out.kp hk8 (by omega)); rw [HKD.out] at n0; clear hs8 hk8 hbx8)
          | (refine ldRD rfl (.tmp 6) rfl g rfl HH8.out.row ?_))
        refine (HREF.out w8 A c B kk HH8.out.rd).mono ?_
        rintro e w9 ⟨A', c', B', k', rfl, hr9, hb9, hA9, hB9⟩
        have HR9 := Lib.hid hr9; have HB9 := Lib.hid hb9; have HA9 := Lib.hid hA9; have HBB9 := Lib.hid hB9; have HZ99 := Lib.hid (HZ98.out.below hb9); have HZ109 := Lib.hid (HZ108.out.below hb9); have HROW9 := Lib.hid (HH8.out.row.below hb9)
        clear hr9 hb9 hA9 hB9 n0 n1
        unfold withErr
        go_wp2_with (refine stRD rfl (.tmp 6) (.tmp 72) rfl g rfl HROW9.out rfl rfl ?_; intro w10 hs10 hk10; have HT10 := Lib.hid (HH8.out.done HR9.out HB9.out HA9.out HBB9.out hk10 hs10 HG.out); have HS9 := Lib.hid (HZ99.out.kp hk10 (by have := HGR.out; omega)); have HS10 := Lib.hid (HZ109.out.kp hk10 (by have := HGR.out; omega)); clear hs10 hk10)
        have HPK : Hid (dN.pend.length ≤ k + 1) := Lib.hid (by have := HPN.out; have := HPL.out; omega)
        obtain ⟨r, hr⟩ : ∃ r, r = zsec := ⟨_, rfl⟩
        have HRL : Hid (r.length = 128) := Lib.hid (by rw [hr]; exact zsec_length)
        rw [← hr] at HS9 HS10
        clear hr HREF HPN HR9 HB9 HA9 HBB9 HZ99 HZ109 HROW9 HKD HH8 HH7 HBX8 HZ98 HZ108 HF7 HBX7 HZ97 HZ107 HL6
      case' inr.inr.inr.inl =>
        have hat := (HOKF.out w6 TW6.out.bl).at_.2
        have HDO := Lib.hid (do_break (y := y) TW6.out.disk hkd hat)
        have HKD := Lib.hid hkd
        obtain ⟨dN, hdN⟩ : ∃ dN : Dk, dN = { d with fuel := max y.at_ (-1) } := ⟨_, rfl⟩
        rw [← hdN] at HDO
        have HREF : Hid (∀ (w' : World) A c B k, RDk w' A c B k d → Calls Try.prog 23 #[.agg (rdC A c B k d).toArray, .int .i64 y.at_] w' (RefPost justIt w' A B dN)) := Lib.hid (fun w' A c B k hr => by rw [hdN]; exact pair_break y.at_ hat w' hr)
        have HPN : Hid (dN.pend.length ≤ d.pend.length + 1) := Lib.hid (by rw [hdN]; show d.pend.length ≤ _; omega)
        clear hkd hdN hat
        refine HDO.out.mono ?_
        clear HDO
        rintro e w7 ⟨v7, rfl, hd7, hk7, hv7⟩
        have hh := TW6.out.acted hd7 hk7 hv7
        have hf7 : ∀ i, foot p s v7 i → i < wr.heap.size ∨ w6.heap.size ≤ i := fun i hi => by
          rcases hi with h | h | h
          · exact .inl (HFT.out _ (.inl h))
          · exact .inl (HFT.out _ (.inr (.inl h)))
          · rcases hv7 i h with h | h
            · exact .inl (HFT.out _ (.inr (.inr h)))
            · exact .inr h
        have hbx7 := HBX6.out.kp hk7 (fun hf => by have := HFT.out _ hf; omega)
        have hz97 := HZ96.out.kp hk7 (fun hf => by have := HFT.out _ hf; omega)
        have hz107 := HZ106.out.kp hk7 (fun hf => by have := HFT.out _ hf; omega)
        have hl6 : wr.heap.size + 1 + 1 < w6.heap.size := lt_of_heap HZ106.out.1
        have HH7 := Lib.hid hh; have HF7 := Lib.hid hf7; have HBX7 := Lib.hid hbx7; have HZ97 := Lib.hid hz97; have HZ107 := Lib.hid hz107; have HL6 := Lib.hid hl6
        clear hd7 hk7 hv7 hh hf7 hbx7 hz97 hz107 hl6 TW6 HBX6 HZ96 HZ106
        go_wp2_with (first
          | (refine st37_at rfl (.tmp 9) (.tmp 43) rfl (wr.heap.size + 1) zsec rfl HZ97.out zsec rfl zsec_length ?_; intro w8 hs8 hk8; have HH8 := Lib.hid (HH7.out.box hk8 (by have := HWS.out; omega) (fun hf => by have := HF7.out _ hf; have := HL6.out; omega) (by have := HGR.out; omega) (fun b o e => by have := HLA.out.1 b o e; omega) (fun b o e => by have := HLA.out.2 b o e; omega)); have hbx8 := HBX7.out.kp hk8 (by omega); have n0 := hbx8.cell 0 _ rfl; have n1 := hbx8.cell 1 _ rfl; have HBX8 := Lib.hid hbx8; have HZ98 := Lib.hid hs8; have HZ108 := Lib.hid (HZ107.out.kp hk8 (by omega)); rw [HKD.out] at n0; clear hs8 hk8 hbx8)
          | (refine ldRD rfl (.tmp 6) rfl g rfl HH8.out.row ?_))
        refine (HREF.out w8 A c B kk HH8.out.rd).mono ?_
        rintro e w9 ⟨A', c', B', k', rfl, hr9, hb9, hA9, hB9⟩
        have HR9 := Lib.hid hr9; have HB9 := Lib.hid hb9; have HA9 := Lib.hid hA9; have HBB9 := Lib.hid hB9; have HZ99 := Lib.hid (HZ98.out.below hb9); have HZ109 := Lib.hid (HZ108.out.below hb9); have HROW9 := Lib.hid (HH8.out.row.below hb9)
        clear hr9 hb9 hA9 hB9 n0 n1
        unfold justIt
        go_wp2_with (refine stRD rfl (.tmp 6) (.tmp 79) rfl g rfl HROW9.out rfl rfl ?_; intro w10 hs10 hk10; have HT10 := Lib.hid (HH8.out.done HR9.out HB9.out HA9.out HBB9.out hk10 hs10 HG.out); have HS9 := Lib.hid (HZ99.out.kp hk10 (by have := HGR.out; omega)); have HS10 := Lib.hid (HZ109.out.kp hk10 (by have := HGR.out; omega)); clear hs10 hk10)
        have HPK : Hid (dN.pend.length ≤ k + 1) := Lib.hid (by have := HPN.out; have := HPL.out; omega)
        obtain ⟨r, hr⟩ : ∃ r, r = zsec := ⟨_, rfl⟩
        have HRL : Hid (r.length = 128) := Lib.hid (by rw [hr]; exact zsec_length)
        rw [← hr] at HS9 HS10
        clear hr HREF HPN HR9 HB9 HA9 HBB9 HZ99 HZ109 HROW9 HKD HH8 HH7 HBX8 HZ98 HZ108 HF7 HBX7 HZ97 HZ107 HL6
      case' inr.inr.inr.inr.inl =>
        have HDO := Lib.hid (do_crash (y := y) TW6.out.disk (HOKF.out w6 TW6.out.bl) hkd HP6.out)
        have HKD := Lib.hid hkd
        obtain ⟨dN, hdN⟩ : ∃ dN : Dk, dN = d.crashed y.keep y.at_ y.cut := ⟨_, rfl⟩
        rw [← hdN] at HDO
        have HREF : Hid (∀ (w' : World) A c B k, RDk w' A c B k d → RBl w' y.ka y.kn y.kc y.keep → Calls Try.prog 24 #[.agg (rdC A c B k d).toArray, .slice y.ka y.kn y.kc, .int .i64 y.at_, .int .i64 y.cut] w' (RefPost justIt w' A B dN)) := Lib.hid (fun w' A c B k hr hk => by rw [hdN]; exact pair_crash HP6.out _ _ _ _ _ _ w' hr hk)
        have HPN : Hid (dN.pend.length ≤ d.pend.length + 1) := Lib.hid (by rw [hdN]; simp [Dk.crashed])
        clear hkd hdN
        refine HDO.out.mono ?_
        clear HDO
        rintro e w7 ⟨v7, rfl, hd7, hk7, hv7⟩
        have hh := TW6.out.acted hd7 hk7 hv7
        have hf7 : ∀ i, foot p s v7 i → i < wr.heap.size ∨ w6.heap.size ≤ i := fun i hi => by
          rcases hi with h | h | h
          · exact .inl (HFT.out _ (.inl h))
          · exact .inl (HFT.out _ (.inr (.inl h)))
          · rcases hv7 i h with h | h
            · exact .inl (HFT.out _ (.inr (.inr h)))
            · exact .inr h
        have hbx7 := HBX6.out.kp hk7 (fun hf => by have := HFT.out _ hf; omega)
        have hz97 := HZ96.out.kp hk7 (fun hf => by have := HFT.out _ hf; omega)
        have hz107 := HZ106.out.kp hk7 (fun hf => by have := HFT.out _ hf; omega)
        have hl6 : wr.heap.size + 1 + 1 < w6.heap.size := lt_of_heap HZ106.out.1
        have HH7 := Lib.hid hh; have HF7 := Lib.hid hf7; have HBX7 := Lib.hid hbx7; have HZ97 := Lib.hid hz97; have HZ107 := Lib.hid hz107; have HL6 := Lib.hid hl6
        clear hd7 hk7 hv7 hh hf7 hbx7 hz97 hz107 hl6 TW6 HBX6 HZ96 HZ106
        go_wp2_with (first
          | (refine st37_at rfl (.tmp 9) (.tmp 43) rfl (wr.heap.size + 1) zsec rfl HZ97.out zsec rfl zsec_length ?_; intro w8 hs8 hk8; have HH8 := Lib.hid (HH7.out.box hk8 (by have := HWS.out; omega) (fun hf => by have := HF7.out _ hf; have := HL6.out; omega) (by have := HGR.out; omega) (fun b o e => by have := HLA.out.1 b o e; omega) (fun b o e => by have := HLA.out.2 b o e; omega)); have hbx8 := HBX7.out.kp hk8 (by omega); have n0 := hbx8.cell 0 _ rfl; have n1 := hbx8.cell 1 _ rfl; have HBX8 := Lib.hid hbx8; have HZ98 := Lib.hid hs8; have HZ108 := Lib.hid (HZ107.out.kp hk8 (by omega)); have n2 := hbx8.cell 2 _ rfl; have n3 := act_keep hbx8 HDL.out; rw [HKD.out] at n0; clear hs8 hk8 hbx8)
          | (refine ldRD rfl (.tmp 6) rfl g rfl HH8.out.row ?_))
        refine (HREF.out w8 A c B kk HH8.out.rd (HOKF.out w8 HH8.out.bl).keep).mono ?_
        rintro e w9 ⟨A', c', B', k', rfl, hr9, hb9, hA9, hB9⟩
        have HR9 := Lib.hid hr9; have HB9 := Lib.hid hb9; have HA9 := Lib.hid hA9; have HBB9 := Lib.hid hB9; have HZ99 := Lib.hid (HZ98.out.below hb9); have HZ109 := Lib.hid (HZ108.out.below hb9); have HROW9 := Lib.hid (HH8.out.row.below hb9)
        clear hr9 hb9 hA9 hB9 n0 n1
        unfold justIt
        go_wp2_with (refine stRD rfl (.tmp 6) (.tmp 89) rfl g rfl HROW9.out rfl rfl ?_; intro w10 hs10 hk10; have HT10 := Lib.hid (HH8.out.done HR9.out HB9.out HA9.out HBB9.out hk10 hs10 HG.out); have HS9 := Lib.hid (HZ99.out.kp hk10 (by have := HGR.out; omega)); have HS10 := Lib.hid (HZ109.out.kp hk10 (by have := HGR.out; omega)); clear hs10 hk10)
        have HPK : Hid (dN.pend.length ≤ k + 1) := Lib.hid (by have := HPN.out; have := HPL.out; omega)
        obtain ⟨r, hr⟩ : ∃ r, r = zsec := ⟨_, rfl⟩
        have HRL : Hid (r.length = 128) := Lib.hid (by rw [hr]; exact zsec_length)
        rw [← hr] at HS9 HS10
        clear hr HREF HPN HR9 HB9 HA9 HBB9 HZ99 HZ109 HROW9 HKD HH8 HH7 HBX8 HZ98 HZ108 HF7 HBX7 HZ97 HZ107 HL6 n2 n3
      case' inr.inr.inr.inr.inr =>
        obtain ⟨h0, h1, h2, h3, h4⟩ := hkd
        have HDO := Lib.hid (do_none (y := y) TW6.out.disk h0 h1 h2 h3 h4)
        have q0 : (y.kind == 0) = false := by rw [beq_eq_false_iff_ne]; exact h0
        have q1 : (y.kind == 1) = false := by rw [beq_eq_false_iff_ne]; exact h1
        have q2 : (y.kind == 2) = false := by rw [beq_eq_false_iff_ne]; exact h2
        have q3 : (y.kind == 3) = false := by rw [beq_eq_false_iff_ne]; exact h3
        have q4 : (y.kind == 4) = false := by rw [beq_eq_false_iff_ne]; exact h4
        clear h0 h1 h2 h3 h4
        refine HDO.out.mono ?_
        clear HDO
        rintro e w7 ⟨v7, rfl, hd7, hk7, hv7⟩
        have hh := TW6.out.acted hd7 hk7 hv7
        have hf7 : ∀ i, foot p s v7 i → i < wr.heap.size ∨ w6.heap.size ≤ i := fun i hi => by
          rcases hi with h | h | h
          · exact .inl (HFT.out _ (.inl h))
          · exact .inl (HFT.out _ (.inr (.inl h)))
          · rcases hv7 i h with h | h
            · exact .inl (HFT.out _ (.inr (.inr h)))
            · exact .inr h
        have hbx7 := HBX6.out.kp hk7 (fun hf => by have := HFT.out _ hf; omega)
        have hz97 := HZ96.out.kp hk7 (fun hf => by have := HFT.out _ hf; omega)
        have hz107 := HZ106.out.kp hk7 (fun hf => by have := HFT.out _ hf; omega)
        have hl6 : wr.heap.size + 1 + 1 < w6.heap.size := lt_of_heap HZ106.out.1
        have HH7 := Lib.hid hh; have HF7 := Lib.hid hf7; have HBX7 := Lib.hid hbx7; have HZ97 := Lib.hid hz97; have HZ107 := Lib.hid hz107; have HL6 := Lib.hid hl6
        clear hd7 hk7 hv7 hh hf7 hbx7 hz97 hz107 hl6 TW6 HBX6 HZ96 HZ106
        go_wp2_with (refine st37_at rfl (.tmp 9) (.tmp 43) rfl (wr.heap.size + 1) zsec rfl HZ97.out zsec rfl zsec_length ?_; intro w8 hs8 hk8; have HH8 := Lib.hid (HH7.out.box hk8 (by have := HWS.out; omega) (fun hf => by have := HF7.out _ hf; have := HL6.out; omega) (by have := HGR.out; omega) (fun b o e => by have := HLA.out.1 b o e; omega) (fun b o e => by have := HLA.out.2 b o e; omega)); have hbx8 := HBX7.out.kp hk8 (by omega); have n0 := hbx8.cell 0 _ rfl; have n1 := hbx8.cell 1 _ rfl; have HBX8 := Lib.hid hbx8; have HZ98 := Lib.hid hs8; have HZ108 := Lib.hid (HZ107.out.kp hk8 (by omega)); clear hs8 hk8 hbx8)
        have HT10 : Hid (Two w1 w8 p s g v7 A c B kk d) := Lib.hid ⟨HH8.out.disk, HH8.out.row, HH8.out.rd, HH8.out.apA, HH8.out.apB, HH8.out.gA, HH8.out.gB, HH8.out.bl⟩
        have HPK : Hid (d.pend.length ≤ k + 1) := Lib.hid (by have := HPL.out; omega)
        obtain ⟨A', hA'⟩ : ∃ A', A' = A := ⟨_, rfl⟩
        obtain ⟨B', hB'⟩ : ∃ B', B' = B := ⟨_, rfl⟩
        obtain ⟨c', hc'⟩ : ∃ c', c' = c := ⟨_, rfl⟩
        obtain ⟨k', hk'⟩ : ∃ k', k' = kk := ⟨_, rfl⟩
        obtain ⟨dN, hdN⟩ : ∃ dN, dN = d := ⟨_, rfl⟩
        rw [← hA', ← hB', ← hc', ← hk', ← hdN] at HT10
        rw [← hdN] at HPK
        obtain ⟨r, hr⟩ : ∃ r, r = zsec := ⟨_, rfl⟩
        have HRL : Hid (r.length = 128) := Lib.hid (by rw [hr]; exact zsec_length)
        have HS9 := HZ98; have HS10 := HZ108
        rw [← hr] at HS9 HS10
        clear hr hA' hB' hc' hk' hdN q0 q1 q2 q3 q4 n0 n1 HH8 HH7 HBX8 HZ98 HZ108 HF7 HBX7 HZ97 HZ107 HL6
      all_goals
        refine (disk_Pending HT10.out.disk (by have := HPK.out; omega)).mono ?_
        rintro e w11 ⟨v11, rfl, hown11, hb11⟩
        obtain ⟨A11, c11, rfl⟩ := own_form hown11
        have ht11 := HT10.out.below hb11
        obtain ⟨e0, e1, -, e3⟩ := rd_cells ht11.row
        have hld9 := fun q => run_ldSec (w := w11.drewN q) (b := wr.heap.size + 1) (o := 0) (HS9.out.below hb11).range HRL.out
        have hld10 := fun q => run_ldSec (w := w11.drewN q) (b := wr.heap.size + 1 + 1) (o := 0) (HS10.out.below hb11).range HRL.out
        have heq : ∀ q, (Op.equalIn 10000 28 (.agg (bv r).toArray) (.agg (bv r).toArray)).run Try.prog (w11.drewN q) = .ok true (w11.drewN q) := fun q => by
          have := eq37 (w11.drewN q) r r HRL.out HRL.out
          rwa [decide_eq_true rfl] at this
        try have hee : (err != err) = false := by simp
        have hdd : (dN.dead != dN.dead) = false := by simp
        have hll : ((dN.stable.length : Int) != (dN.stable.length : Int)) = false := by simp
        have hpp : ((dN.pend.length : Int) != (dN.pend.length : Int)) = false := by simp
        have HT11 := Lib.hid ht11; have HO11 := Lib.hid hown11
        clear hb11 hown11 ht11
        go_wp2_with fail
        go_quiet ((first | (go_at_call 17; exact quiet_leftD (disk_Dead (HT11.out.disk.drewN _))) | (go_at_call 10; exact quiet_leftD (disk_Len (HT11.out.disk.drewN _)))))
        go_wp2_with fail
        go_loopw [125] (fun i wx => ∃ j qq : Nat, j ≤ dN.pend.length ∧ i = .int .i64 j ∧ wx = w11.drewN qq) (fun i _ => dN.pend.length - (intOf i).toNat)
        case atStart => exact ⟨0, _, by omega, rfl, rfl⟩
        case round =>
          obtain ⟨j, qq, hj, rfl, rfl⟩ := hrel
          have hplN : dN.pend.length ≤ 1000000 := by have := HPK.out; omega
          by_cases hjl : j < dN.pend.length
          · obtain ⟨g11, rfl⟩ : ∃ g11, A11 = some ⟨g11, 0, none⟩ := by
              rcases HO11.out.2 with ⟨_, h0⟩ | ⟨g, _, _, he, _⟩
              · omega
              · injection he with e1 _ _
                exact ⟨g, e1⟩
            obtain ⟨bq, oq, rfl, hpr⟩ := HT11.out.rd.penR j hjl
            have p0 := hpr 0 _ rfl
            have l0 := HO11.out.cellAt j (by omega)
            have hiv : (ivs (dN.pend.map fun x => (x.1 : Int)))[j]? = some (.int .i64 ((penAt dN.pend j).1 : Int)) := by
              simp [ivs, penAt, List.getD_eq_getElem?_getD, hjl]
            rw [hiv] at l0
            rw [Nat.add_zero] at p0
            have hj0 : (0 : Int) ≤ (j : Int) := Int.natCast_nonneg _
            have hj1 : (j : Int) < (dN.pend.length : Int) := by omega
            generalize (penAt dN.pend j).1 = x1 at *
            have hxx : ((x1 : Int) != (x1 : Int)) = false := by simp
            clear hpr hiv heq hld9 hld10
            go_wp2_with fail
            go_quiet (fail)
            go_wp2_with fail
            go_roundw
            case rel => exact ⟨j + 1, _, by omega, by go_num, rfl⟩
            case measure => simp [intOf]; omega
          · obtain rfl : j = dN.pend.length := by omega
            clear heq hld9 hld10
            have HTN : Hid (RunInv w1 (w11.drewN qq) p s g (k + 1)) := Lib.hid ⟨_, _, _, _, _, _, HT11.out.below (below_dN w11 qq), HPK.out⟩
            go_wp2_with fail
            go_roundw
            case rel => exact ⟨k + 1, by omega, by go_num, HTN⟩
            case measure => simp [intOf]; omega
    · obtain rfl : k = q := by omega
      obtain ⟨v, A, c, B, kk, d, htwo, hpl⟩ := HR.out
      obtain ⟨e0, -, -, -⟩ := rd_cells htwo.row
      have hlen := htwo.disk.len
      have HT := Lib.hid htwo
      clear HR htwo hpl
      go_wp2_with fail
      go_loopw [15] (fun i wx => ∃ z : Int, -1 ≤ z ∧ z ≤ 40 ∧ z ≤ d.stable.length + 1 ∧ i = .int .i64 z ∧ Hid (Two w1 wx p s g v A c B kk d)) (fun i _ => (41 - intOf i).toNat)
      case atStart => exact ⟨-1, by omega, by omega, by omega, rfl, HT⟩
      case round =>
        clear HT e0
        obtain ⟨z, hz1, hz2, hz3, rfl, HT⟩ := hrel
        obtain ⟨e0, e1, e2, e3⟩ := rd_cells HT.out.row
        have hl0 : (0 : Int) ≤ (d.stable.length : Int) := Int.natCast_nonneg _
        by_cases hg1 : z ≤ d.stable.length
        · by_cases hg2 : z < 40
          · have htw := HT.out
            have htd := htw.below ((Below.refl _ _).drew)
            by_cases hin : 0 ≤ z ∧ z < d.stable.length
            · obtain ⟨m, rfl⟩ := Int.eq_ofNat_of_zero_le hin.1
              have hm : m < d.stable.length := by omega
              have heq : ∀ w, (Op.equalIn 10000 28 (.agg (bv (secAt d.stable m)).toArray) (.agg (bv (secAt d.stable m)).toArray)).run Try.prog w = .ok true w := fun w => by
                have := eq37 w (secAt d.stable m) (secAt d.stable m) (htw.rd.secL m hm) (htw.rd.secL m hm)
                rwa [decide_eq_true rfl] at this
              clear hin HT
              go_wp2_with fail
              go_region_held3 (fun w' => w'.cell? ⟨g, 0, none⟩ = some (.slice A d.stable.length c) ∧ w'.cell? ⟨g, 1, none⟩ = some (.slice B d.pend.length kk) ∧ w'.cell? ⟨g, 2, none⟩ = some (.int .i64 d.fuel) ∧ w'.cell? ⟨g, 3, none⟩ = some (.bool d.dead) ∧ Two w1 w' p s g v A c B kk d) (first | go_keep | exact ⟨(rd_cells (Two.row (by assumption))).1, (rd_cells (Two.row (by assumption))).2.1, (rd_cells (Two.row (by assumption))).2.2.1, (rd_cells (Two.row (by assumption))).2.2.2, by assumption⟩ | exact ⟨by assumption, by assumption, by assumption, by assumption, by assumption⟩)
                (first
                  | (go_at_call 16; refine (disk_Stable_yes (Two.disk (by assumption)) m hm).mono ?_; rintro e w5 ⟨rfl, hb5⟩; unfold secV; have ht5 : Two w1 w5 p s g v A c B kk d := Two.below (by assumption) hb5; have q50 := (rd_cells ht5.row).1; have q51 := (rd_cells ht5.row).2.1; have q52 := (rd_cells ht5.row).2.2.1; have q53 := (rd_cells ht5.row).2.2.2; clear hb5)
                  | (go_at_call 26; refine (ref_At_yes (Two.rd (by assumption)) m hm).mono ?_; rintro e w6 ⟨rfl, hb6⟩; unfold secV; have ht6 : Two w1 w6 p s g v A c B kk d := Two.below (by assumption) hb6; have q60 := (rd_cells ht6.row).1; have q61 := (rd_cells ht6.row).2.1; have q62 := (rd_cells ht6.row).2.2.1; have q63 := (rd_cells ht6.row).2.2.2; clear hb6))
              all_goals
                go_wp2_with fail
                go_roundw
                case rel => exact ⟨(m : Int) + 1, by omega, by omega, by omega, rfl, Lib.hid (by assumption)⟩
                case measure => simp [intOf]; omega
            · have hout : z < 0 ∨ (d.stable.length : Int) ≤ z := by omega
              have heq : ∀ w, (Op.equalIn 10000 28 (.agg (bv zsec).toArray) (.agg (bv zsec).toArray)).run Try.prog w = .ok true w := fun w => by
                have := eq37 w zsec zsec zsec_length zsec_length
                rwa [decide_eq_true rfl] at this
              have HOUT := Lib.hid hout
              clear hin HT hout
              go_wp2_with fail
              go_region_held3 (fun w' => w'.cell? ⟨g, 0, none⟩ = some (.slice A d.stable.length c) ∧ w'.cell? ⟨g, 1, none⟩ = some (.slice B d.pend.length kk) ∧ w'.cell? ⟨g, 2, none⟩ = some (.int .i64 d.fuel) ∧ w'.cell? ⟨g, 3, none⟩ = some (.bool d.dead) ∧ Two w1 w' p s g v A c B kk d) (first | go_keep | exact ⟨(rd_cells (Two.row (by assumption))).1, (rd_cells (Two.row (by assumption))).2.1, (rd_cells (Two.row (by assumption))).2.2.1, (rd_cells (Two.row (by assumption))).2.2.2, by assumption⟩ | exact ⟨by assumption, by assumption, by assumption, by assumption, by assumption⟩)
                (first
                  | (go_at_call 16; refine (disk_Stable_no (Two.disk (by assumption)) z HOUT.out).mono ?_; rintro e w5 ⟨rfl, hb5⟩; unfold secV; have ht5 : Two w1 w5 p s g v A c B kk d := Two.below (by assumption) hb5; have q50 := (rd_cells ht5.row).1; have q51 := (rd_cells ht5.row).2.1; have q52 := (rd_cells ht5.row).2.2.1; have q53 := (rd_cells ht5.row).2.2.2; clear hb5)
                  | (go_at_call 26; refine (ref_At_no z HOUT.out _).mono ?_; rintro e w6 ⟨rfl, hb6⟩; unfold secV; have ht6 : Two w1 w6 p s g v A c B kk d := Two.below (by assumption) hb6; have q60 := (rd_cells ht6.row).1; have q61 := (rd_cells ht6.row).2.1; have q62 := (rd_cells ht6.row).2.2.1; have q63 := (rd_cells ht6.row).2.2.2; clear hb6))
              all_goals
                go_wp2_with fail
                go_roundw
                case rel => exact ⟨z + 1, by omega, by omega, by omega, rfl, Lib.hid (by assumption)⟩
                case measure => simp [intOf]; omega
          · have HBZ := Lib.hid (bthen HB1.out HT.out.bl)
            clear HT e1 e2 e3
            go_wp2_with fail
            go_ret
            exact ⟨rfl, HBZ.out⟩
        · have HBZ := Lib.hid (bthen HB1.out HT.out.bl)
          clear HT e1 e2 e3
          go_wp2_with fail
          go_ret
          exact ⟨rfl, HBZ.out⟩
end Go.Proofs.Ytoghmakbdhepfaa
