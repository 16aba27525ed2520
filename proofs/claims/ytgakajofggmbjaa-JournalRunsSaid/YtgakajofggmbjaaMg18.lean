/- The document's Add to a journal. -/
import Derived.Test.YtgakajofggmbjaaMg17
import Derived.Test.YtgakajofggmbjaaMg13
import Derived.Deep.RegionHeld3
import Derived.Deep.Cut
import Derived.Deep.CutRange
import Derived.Deep.CutBlock
import Derived.Deep.RegionLaw
import Derived.BigQuiet
import Derived.Deep.QuietTactic
import Derived.Test.YtgakajofggmbjaaMg1
import Derived.Test.YtgakajofggmbjaaMg2
namespace Go.Proofs.Ytgakajofggmbjaa
open Go.RowKit
attribute [local go_sem ↓] loadAt37 build37 loadAtD loadAtJ storeAtD storeAtJ

theorem ri_start (w : World) {A : Option Addr} {c : Nat} {B : Option Addr} {kk : Nat} {d : Dk} (h : RDk w A c B kk d) (first gen count : Nat) :
    RI w ((((w.alloc (.cells (rdC A c B kk d).toArray 30)).alloc (.cells (rjC first gen count).toArray 36)).alloc (.cells rdZ.toArray 30)).alloc (.cells (rjC 0 0 0).toArray 36)) A B first gen count A c B kk d := by
  have h1 := below_alloc w (.cells (rdC A c B kk d).toArray 30)
  have r0 := RowAt.new w 30 (rdC A c B kk d)
  have r1 := RowAt.new' (w.alloc (.cells (rdC A c B kk d).toArray 30)) 36 (rjC first gen count) (w.heap.size + 1) (by simp)
  have r2 := RowAt.new' ((w.alloc (.cells (rdC A c B kk d).toArray 30)).alloc (.cells (rjC first gen count).toArray 36)) 30 rdZ (w.heap.size + 1 + 1) (by simp)
  have r3 := RowAt.new' (((w.alloc (.cells (rdC A c B kk d).toArray 30)).alloc (.cells (rjC first gen count).toArray 36)).alloc (.cells rdZ.toArray 30)) 36 (rjC 0 0 0) (w.heap.size + 1 + 1 + 1) (by simp)
  have hb := balloc (balloc (balloc h1 (.cells (rjC first gen count).toArray 36)) (.cells rdZ.toArray 30)) (.cells (rjC 0 0 0).toArray 36)
  exact ⟨((r0.below (below_alloc _ _)).below (below_alloc _ _)).below (below_alloc _ _), (r1.below (below_alloc _ _)).below (below_alloc _ _), r2.below (below_alloc _ _), r3, h.below hb, .inl rfl, .inl rfl, hb, by simp⟩
/-- One byte more of a piece. -/
theorem piece_step (xs : List UInt8) (i : Nat) (hi : i < xs.length) (h : xs.length ≤ 128) : (xs.take i ++ zsec.drop i).set i (at8 xs i) = xs.take (i + 1) ++ zsec.drop (i + 1) := by
  have hl : (xs.take i).length = i := by simp; omega
  have hz : zsec.drop i = 0 :: zsec.drop (i + 1) := by
    unfold zsec
    rw [List.drop_replicate, List.drop_replicate, show 128 - i = (128 - (i + 1)) + 1 by omega, List.replicate_succ]
  rw [List.set_append, hl, if_neg (by omega), Nat.sub_self, hz, List.set_cons_zero, List.take_succ_eq_append_getElem hi, List.append_assoc, at8, List.getD_eq_getElem?_getD, List.getElem?_eq_getElem hi]
  rfl
theorem ref_head_Pack (b : List UInt8) (n : Nat) (hn : b.length = n) (h : n ≤ 384) (w : World) (g : Nat) (hg : g = w.heap.size) :
    Calls Try.prog 35 #[.string (strOf [50, 52]), .slice (some ⟨g, 0, none⟩) 2 2] (w.alloc (.cells #[.int .u64 (n : Int), .slice none 0 0, .int .u64 (((crcAdd 0#32 b).toNat : Nat) : Int), .slice none 0 0] 78)) fun e w' =>
      ∃ A1 c1, e = .returned (.tuple #[.slice A1 6 c1, .int .i64 0]) ∧ RB w' A1 6 c1 (hdBody b) ∧ Below w.heap.size w w' := by
  subst hn hg
  have hc : (crcAdd 0#32 b).toNat < 4294967296 := (crcAdd 0#32 b).isLt
  have hf := rfields_new (w := w) [⟨b.length, none, 0, 0, []⟩, ⟨(crcAdd 0#32 b).toNat, none, 0, 0, []⟩] 78 w.heap.size rfl #[.int .u64 (b.length : Int), .slice none 0 0, .int .u64 (((crcAdd 0#32 b).toNat : Nat) : Int), .slice none 0 0] rfl (by show 2 ≤ _; omega) (by
    intro f hf
    simp only [List.mem_cons, List.not_mem_nil, or_false] at hf
    rcases hf with rfl | rfl
    · exact ⟨by show b.length < _; omega, RB.nil _, Nat.zero_le _⟩
    · exact ⟨by show (crcAdd 0#32 b).toNat < _; omega, RB.nil _, Nat.zero_le _⟩)
  have hp := ref02_Pack [50, 52] _ _ _ _ _ hf
  rw [pack24 b h] at hp
  refine hp.mono ?_
  rintro e w3 ⟨hb3, ⟨v, o3, ho, rfl, hown3⟩ | ⟨hno, -⟩⟩
  · injection ho with ho
    subst ho
    obtain ⟨A3, c3, rfl, hrb3⟩ := own_rb hown3
    rw [hdBody_length] at hrb3 ⊢
    exact ⟨A3, c3, rfl, hrb3, bthen (below_alloc w _) hb3⟩
  · cases hno
theorem wrap_gen (gen : Nat) (h : gen < 281474976710656) : IntKind.u64.wrap ((gen : Int) * 256) = (gen : Int) * 256 := by simp [IntKind.wrap, IntKind.signed, IntKind.bits]; omega
theorem wrap_cnt (count : Nat) (h : count ≤ 4) : IntKind.u64.wrap ((count : Int) + 1) = (count : Int) + 1 := by simp [IntKind.wrap, IntKind.signed, IntKind.bits]; omega
theorem wrap_mk (gen count mk : Nat) (h : gen < 281474976710656) (hc : count ≤ 4) (hm : mk = gen * 256 + (count + 1)) : IntKind.u64.wrap ((gen : Int) * 256 + ((count : Int) + 1)) = (mk : Int) := by
  subst hm
  simp [IntKind.wrap, IntKind.signed, IntKind.bits]
  omega
theorem wrap64_cnt (count : Nat) (h : count ≤ 4) : wrap64 ((count : Int) + 1) = (count : Int) + 1 := by simp [wrap64]; omega
theorem wrap64_two (a q : Nat) (h : a + 1 + q < 1000000) : wrap64 (wrap64 ((a : Int) + 1) + (q : Int)) = ((a + 1 + q : Nat) : Int) := by
  rw [show (a : Int) + 1 = ((a + 1 : Nat) : Int) from rfl, wrap64_nat (a + 1) (by omega), ← Int.natCast_add, wrap64_nat _ h]
theorem wrap64_at (a k : Nat) (h : a + 4 * k < 1000000) : wrap64 ((a : Int) + 4 * (k : Int)) = ((a + 4 * k : Nat) : Int) := by
  have := wrap64_nat (a + 4 * k) h
  rw [← this]
  congr 1
set_option maxRecDepth 20000 in
set_option maxHeartbeats 25600000 in
theorem ref06_Add {w : World} {A : Option Addr} {c : Nat} {B : Option Addr} {kk : Nat} {d : Dk} (h : RDk w A c B kk d) (hA : ∀ b o, A = some ⟨b, o, none⟩ → b < w.heap.size) (hB : ∀ b o, B = some ⟨b, o, none⟩ → b < w.heap.size) (first gen count : Nat) (C : Option Addr) (n cb : Nat) (b : List UInt8) (hr : RB w C n cb b)
    (hgen : gen < 281474976710656) (hcount : count ≤ 4) (hfit : first + 16 ≤ d.stable.length) (hpl : d.pend.length ≤ 1000) (hn : n ≤ 140737488351232) :
    Calls Try.prog 14 #[.agg (rdC A c B kk d).toArray, .agg (rjC first gen count).toArray, .slice C n cb] w (AddRefPost w A B first gen (addM d first gen count b)) := by
  obtain ⟨W0, hW0⟩ : ∃ W0, W0 = (((w.alloc (.cells (rdC A c B kk d).toArray 30)).alloc (.cells #[.int .i64 (first : Int), .int .u64 (gen : Int), .int .i64 (count : Int)] 36)).alloc (.cells #[.slice none 0 0, .slice none 0 0, .int .i64 0, .bool false] 30)).alloc (.cells #[.int .i64 0, .int .u64 0, .int .i64 0] 36) := ⟨_, rfl⟩
  have hs : RI w W0 A B first gen count A c B kk d := hW0 ▸ ri_start w h first gen count
  have HS := Lib.hid h.len
  have HHA := Lib.hid hA; have HHB := Lib.hid hB; have HR := Lib.hid hr; have HG := Lib.hid hgen; have HC := Lib.hid hcount; have HF := Lib.hid hfit; have HP := Lib.hid hpl; have HLB : Hid (b.length = n) := Lib.hid hr.1
  have cc2 := hs.bj.cell 2 _ rfl
  have cc0 := hs.bj.cell 0 _ rfl
  have HRI := Lib.hid hs; have HW0 := Lib.hid hW0
  clear h hA hB hr hgen hfit hpl hs hW0
  have hun : rjC first gen count = [.int .i64 (first : Int), .int .u64 (gen : Int), .int .i64 (count : Int)] := rfl
  rw [hun]
  clear hun
  go_enter Try.func14, Try.ntmps14
  go_upto_region 1 with fail
  rw [← HW0.out]
  clear HW0
  by_cases hbig : 384 < n
  · have q1 : decide ((384 : Int) < (n : Int)) = true := decide_eq_true (by omega)
    have HM : Hid (addM d first gen count b = (d, count, 63)) := Lib.hid (by rw [addM_not d first gen count b (.inl (by rw [HLB.out]; exact hbig)), if_pos (by rw [HLB.out]; exact hbig)])
    go_wp2_with fail
    have hex := HRI.out.below (Below.refl _ W0).drew
    obtain ⟨hef, -, hr2⟩ := hex.exits HHA.out HHB.out
    have hl0 := hef.l0; have hl1 := hef.l1; have hs0 := hef.s0; have ht1 := hef.t1; have hm1 := hef.m1
    have HR2 := Lib.hid hr2
    clear hex hef hr2
    go_region_law (fail)
    all_goals
      go_wp2_with fail
      exact HR2.out.body 63 HM.out rfl rfl rfl
  · have q1 : decide ((384 : Int) < (n : Int)) = false := decide_eq_false (by omega)
    by_cases hfull : 4 ≤ count
    · have q2 : decide ((4 : Int) ≤ (count : Int)) = true := decide_eq_true (by omega)
      have HM : Hid (addM d first gen count b = (d, count, 62)) := Lib.hid (by rw [addM_not d first gen count b (.inr hfull), if_neg (by rw [HLB.out]; exact hbig)])
      go_wp2_with fail
      have hex := HRI.out.below (Below.refl _ W0).drew
      obtain ⟨hef, -, hr2⟩ := hex.exits HHA.out HHB.out
      have hl0 := hef.l0; have hl1 := hef.l1; have hs0 := hef.s0; have ht1 := hef.t1; have hm1 := hef.m1
      have HR2 := Lib.hid hr2
      clear hex hef hr2
      go_region_law (fail)
      all_goals
        go_wp2_with fail
        exact HR2.out.body 62 HM.out rfl rfl rfl
    · have q2 : decide ((4 : Int) ≤ (count : Int)) = false := decide_eq_false (by omega)
      go_wp2_with fail
      obtain ⟨at', hat⟩ : ∃ at', at' = first + 4 * count := ⟨_, rfl⟩
      rw [wrap64_at first count (by have := HS.out; have := HF.out; omega), ← hat]
      obtain ⟨q, HQ⟩ : ∃ q, Hid (q = (n + 127) / 128) := ⟨_, Lib.hid rfl⟩
      have HAT := Lib.hid hat
      have HN3 : Hid (n ≤ 384) := Lib.hid (by omega)
      have HC4 : Hid (count < 4) := Lib.hid (by omega)
      have HA4 : Hid (at' + 4 ≤ d.stable.length) := Lib.hid (by have := HF.out; omega)
      have hmdef : addM d first gen count b = (if (putsL d (at' + 1) b (List.range q)).2.2 = false then ((putsL d (at' + 1) b (List.range q)).1, count, 42)
          else if (putsL d (at' + 1) b (List.range q)).1.flush.2 = false then ((putsL d (at' + 1) b (List.range q)).1.flush.1, count, 42)
          else if (putsL d (at' + 1) b (List.range q)).1.flush.1.power.2 = false then ((putsL d (at' + 1) b (List.range q)).1.flush.1.power.1, count, 42)
          else if ((putsL d (at' + 1) b (List.range q)).1.flush.1.power.1.push at' (sealL (gen * 256 + (count + 1)) (hdBody b))).flush.2 = false then (((putsL d (at' + 1) b (List.range q)).1.flush.1.power.1.push at' (sealL (gen * 256 + (count + 1)) (hdBody b))).flush.1, count, 42) else (((putsL d (at' + 1) b (List.range q)).1.flush.1.power.1.push at' (sealL (gen * 256 + (count + 1)) (hdBody b))).flush.1, count + 1, 0)) := by
        unfold addM
        rw [if_neg (by rw [HLB.out]; omega), if_neg hfull, hat, HQ.out, ← HLB.out]
      have HMD := Lib.hid hmdef
      clear hat hmdef q1 q2 hbig hfull cc0 cc2
      go_loopw [10, 11] (fun u i wr => ∃ (k : Nat) (A' : Option Addr) (c' : Nat) (B' : Option Addr) (k' : Nat), k ≤ q ∧ u = .int .i64 0 ∧ i = .int .i64 k ∧ Hid (RI w wr A B first gen count A' c' B' k' (putsL d (at' + 1) b (List.range k)).1) ∧ Hid ((putsL d (at' + 1) b (List.range k)).2.2 = true)) (fun _ i _ => q - (intOf i).toNat)
      case atStart => exact ⟨0, _, _, _, _, by omega, rfl, rfl, HRI, Lib.hid rfl⟩
      case round =>
        clear HRI
        obtain ⟨k, A', c', B', k', hk, rfl, rfl, HI, HOK⟩ := hrel
        have hk0 : (0 : Int) ≤ (k : Int) := Int.natCast_nonneg _
        by_cases hlt : k < q
        · have hkn : 128 * k < n := by have := HQ.out; omega
          have hd1 : decide ((128 : Int) * (k : Int) < (n : Int)) = true := decide_eq_true (by omega)
          have hk3 : (k : Int) ≤ 2 := by have := HN3.out; omega
          have hwk : wrap64 ((128 : Int) * (k : Int)) = (128 : Int) * (k : Int) := by simp [wrap64]; omega
          have HKN := Lib.hid hkn; have HLT := Lib.hid hlt
          have b0 := run_bldSec0
          have HRW := Lib.hid (HR.out.below HI.out.bl)
          clear hkn hlt
          go_upto_block 2 with (refine st37 rfl _ _ rfl _ _ rfl rfl zsec rfl zsec_length rfl ?_)
          have HSEC0 := Lib.hid (SecAt.new wr zsec zsec_length)
          have HBL0 := Lib.hid (below_alloc wr (.cells (bv zsec).toArray 55))
          obtain ⟨xs, hxs⟩ : ∃ xs, xs = (b.drop (128 * k)).take 128 := ⟨_, rfl⟩
          have hxl : xs.length = min 128 (n - 128 * k) := by rw [hxs, List.length_take, List.length_drop, HLB.out]
          have HXL := Lib.hid hxl; have HXS := Lib.hid hxs
          clear hxl hxs
          generalize wr.alloc (.cells (bv zsec).toArray 55) = wz at *
          generalize hgs : wr.heap.size = gs at *
          have HGS := Lib.hid hgs
          clear hgs
          go_cut [13] from 42 to 63 (fun _ wx => Hid (SecAt wx gs (pieceS b k)) ∧ Hid (Below gs wr wx))
          case first =>
            go_wp2_with fail
            go_loopw [13] (fun i wx => ∃ m : Nat, m ≤ xs.length ∧ i = .int .i64 m ∧ Hid (SecAt wx gs (xs.take m ++ zsec.drop m)) ∧ Hid (Below gs wr wx)) (fun i _ => xs.length - (intOf i).toNat)
            case atStart => exact ⟨0, by omega, rfl, by simpa using HSEC0, HBL0⟩
            case round =>
              obtain ⟨m, hm, rfl, HSM, HBM⟩ := hrel
              obtain ⟨wx, rfl⟩ : ∃ wx : World, wx = wr := ⟨_, rfl⟩
              have hm0 : (0 : Int) ≤ (m : Int) := Int.natCast_nonneg _
              have hm128 : (m : Int) ≤ 128 := by have := HXL.out; omega
              by_cases hml : m < xs.length
              · have hm1 : (m : Int) < 128 := by have := HXL.out; omega
                obtain ⟨jj, hjj⟩ : ∃ jj, jj = 128 * k + m := ⟨_, rfl⟩
                have hjn : jj < n := by have := HXL.out; omega
                have hje : (128 : Int) * (k : Int) + (m : Int) = (jj : Int) := by omega
                have hwj : wrap64 (jj : Int) = (jj : Int) := wrap64_nat jj (by have := HN3.out; omega)
                have hj0 : (0 : Int) ≤ (jj : Int) := Int.natCast_nonneg _
                have hj1 : (jj : Int) < (n : Int) := by omega
                have hm2 : decide ((jj : Int) < (n : Int)) = true := decide_eq_true hj1
                obtain ⟨bC, oC, rfl, hcC⟩ := (HRW.out.below (by have := HBM.out; rw [← HGS.out] at this; exact this)).2.2.2 (by omega)
                have hcell := hcC jj hjn
                have hsc := HSM.out.cell m (by omega)
                have hfz := frozen_of_row wx gs m _ _ HSM.out.1
                have hset := HSM.out.set m (at8 xs m)
                rw [piece_step xs m hml (by have := HXL.out; omega)] at hset
                have hat8 : at8 xs m = at8 b jj := by
                  rw [HXS.out, hjj]
                  simp only [at8, List.getD_eq_getElem?_getD]
                  rw [List.getElem?_take_of_lt (by omega), List.getElem?_drop]
                rw [hat8] at hset
                have HST := Lib.hid hset
                have HBS : Hid (Below gs _ (wx.setCell ⟨gs, m, none⟩ (.int .u8 ((at8 b jj).toNat : Int)))) := Lib.hid (HBM.out.setCell (Nat.le_refl _) _)
                have HML := Lib.hid hml
                clear hcC hset hat8 hjj hjn hml
                generalize at8 b jj = bt at *
                go_wp2_with fail
                go_roundw
                case rel => exact ⟨m + 1, HML.out, by go_num, HST, HBS⟩
                case measure => have := HML.out; simp [intOf]; omega
              · obtain rfl : m = xs.length := by omega
                by_cases hfull : xs.length = 128
                · have hm1 : decide (((xs.length : Nat) : Int) < 128) = false := decide_eq_false (by omega)
                  have hm3 : decide (xs.length < 128) = false := decide_eq_false (by omega)
                  have hfin := HSM.out
                  rw [List.take_of_length_le (Nat.le_refl _), HXS.out, ← pieceS_eq] at hfin
                  have HFN := Lib.hid hfin
                  clear hfin hfull
                  go_wp2_with fail
                  go_meet
                  exact ⟨HFN, HBM⟩
                · have hm1 : decide (((xs.length : Nat) : Int) < 128) = true := decide_eq_true (by omega)
                  have hm3 : decide (xs.length < 128) = true := decide_eq_true (by have := HXL.out; omega)
                  have hje : (128 : Int) * (k : Int) + ((xs.length : Nat) : Int) = (n : Int) := by have := HXL.out; have := HKN.out; omega
                  have hwj : wrap64 (n : Int) = (n : Int) := wrap64_nat n (by have := HN3.out; omega)
                  have hm2 : decide ((n : Int) < (n : Int)) = false := decide_eq_false (by omega)
                  have hfin := HSM.out
                  rw [List.take_of_length_le (Nat.le_refl _), HXS.out, ← pieceS_eq] at hfin
                  have HFN := Lib.hid hfin
                  clear hfin hfull
                  go_wp2_with fail
                  go_meet
                  exact ⟨HFN, HBM⟩
          case rest =>
            obtain ⟨HSP, HBP⟩ := hcut
            clear HSEC0 HBL0
            obtain ⟨f1, f2, f3⟩ := putsL_true d (at' + 1) b (List.range k) d (at' + 1) HOK.out
            have hq3 : q ≤ 3 := by have := HQ.out; have := HN3.out; omega
            have hk4 : k < q := HLT.out
            have hst : (putsL d (at' + 1) b (List.range k)).1.stable = d.stable := f2
            have hpn : (putsL d (at' + 1) b (List.range k)).1.pend.length = d.pend.length + k := by rw [show (putsL d (at' + 1) b (List.range k)).1.pend.length = _ from f3, List.length_range]
            have h21 : (putsL d (at' + 1) b (List.range k)).2.1 = at' + 1 + k := by rw [show (putsL d (at' + 1) b (List.range k)).2.1 = _ from f1, List.length_range]
            have hI := HI.out.below (by have := HBP.out; rw [← HGS.out] at this; exact this)
            have hsn : putsL d (at' + 1) b (List.range (k + 1)) = putStep b (putsL d (at' + 1) b (List.range k)) k := by rw [List.range_succ, putsL_snoc]
            have hrs := range_split (k + 1) q hk4
            have HIW := Lib.hid hI; have HPN := Lib.hid hpn; have HST2 := Lib.hid hst; have H21 := Lib.hid h21; have HSN := Lib.hid hsn; have HRS := Lib.hid hrs
            have HQ3 := Lib.hid hq3
            clear f1 f2 f3 hI hsn hrs hst hpn h21 hq3 hk4 HI HRW
            go_wp2_with (first | (refine ldRD rfl _ rfl w.heap.size rfl HIW.out.bd ?_) | (refine ld37 rfl _ rfl gs 0 rfl (pieceS b k) HSP.out.range (pieceS_length b k) ?_))
            rw [wrap64_two at' k (by have := HA4.out; have := HS.out; have := HLT.out; have := HQ3.out; omega)]
            obtain ⟨D, hD⟩ : ∃ D, D = (putsL d (at' + 1) b (List.range k)).1 := ⟨_, rfl⟩
            rw [← hD] at HIW HPN HST2 ⊢
            have HDE := Lib.hid hD
            clear hD
            by_cases hpw : D.power.2 = true
            · refine (ref_Put_yes HIW.out.rd (at' + 1 + k) (by rw [HST2.out]; have := HA4.out; have := HLT.out; have := HQ3.out; omega) (pieceS b k) (pieceS_length b k) hpw (by rw [HPN.out]; have := HP.out; have := HLT.out; have := HQ3.out; omega)).mono ?_
              rintro e w5 ⟨B5, k5, rfl, hr5, hb5, hf5⟩
              have hsn1 : (putsL d (at' + 1) b (List.range (k + 1))).1 = { D.power.1 with pend := D.pend ++ [(at' + 1 + k, pieceS b k)] } ∧ (putsL d (at' + 1) b (List.range (k + 1))).2.2 = true := by
                rw [HSN.out]
                unfold putStep
                rw [← HDE.out, if_pos HOK.out, if_pos hpw, H21.out]
                exact ⟨by simp only [Dk.push, power_pend], rfl⟩
              obtain ⟨D5, hD5⟩ : ∃ D5, D5 = ({ D.power.1 with pend := D.pend ++ [(at' + 1 + k, pieceS b k)] } : Dk) := ⟨_, rfl⟩
              rw [← hD5] at hr5 hsn1 ⊢
              have HS1 := Lib.hid hsn1.1; have HS2 := Lib.hid hsn1.2
              clear hD5
              have HR5 := Lib.hid hr5; have HB5 := Lib.hid hb5; have HF5 := Lib.hid hf5
              have HD5 := Lib.hid (HIW.out.bd.below hb5)
              clear hsn1 hr5 hb5 hf5 hpw
              go_wp2_with (refine stRD rfl _ _ rfl w.heap.size rfl HD5.out rfl rfl ?_; intro w6 hs6 hk6; have HI6 := Lib.hid (HIW.out.put HHA.out HHB.out HB5.out HR5.out (.inl rfl) (.inr HF5.out) hs6 hk6); clear hs6 hk6)
              go_roundw
              case rel => exact ⟨k + 1, _, _, _, _, HLT.out, rfl, by go_num, Lib.hid (by rw [HS1.out]; exact HI6.out), HS2⟩
              case measure => have := HLT.out; simp [intOf]; omega
            · have hpf : D.power.2 = false := by simpa using hpw
              refine (ref_Put_dead HIW.out.rd (at' + 1 + k) (by rw [HST2.out]; have := HA4.out; have := HLT.out; have := HQ3.out; omega) (pieceS b k) (pieceS_length b k) hpf).mono ?_
              rintro e w5 ⟨rfl, hb5⟩
              have hno : (putsL d (at' + 1) b (List.range (k + 1))).2.2 = false ∧ (putsL d (at' + 1) b (List.range (k + 1))).1 = D.power.1 := by
                rw [HSN.out]
                unfold putStep
                rw [← HDE.out, if_pos HOK.out, if_neg hpw]
                exact ⟨rfl, rfl⟩
              have HM : Hid (addM d first gen count b = (D.power.1, count, 42)) := Lib.hid (by
                obtain ⟨r, hr⟩ := HRS.out
                have e : putsL d (at' + 1) b (List.range q) = putsL d (at' + 1) b (List.range (k + 1)) := by rw [hr, putsL_false _ _ _ _ _ hno.1]
                rw [HMD.out, e, if_pos hno.1, hno.2])
              have HR5 := Lib.hid (HIW.out.rd.power.below hb5); have HB5 := Lib.hid hb5
              have HD5 := Lib.hid (HIW.out.bd.below hb5)
              clear hno hb5 hpf hpw
              go_wp2_with (refine stRD rfl _ _ rfl w.heap.size rfl HD5.out rfl rfl ?_; intro w6 hs6 hk6; have HI6 := Lib.hid (HIW.out.put HHA.out HHB.out HB5.out HR5.out (.inl rfl) (.inl rfl) hs6 hk6); clear hs6 hk6)
              have hex := HI6.out.below (Below.refl _ w6).drew
              obtain ⟨hef, -, hr2⟩ := hex.exits HHA.out HHB.out
              have hl0 := hef.l0; have hl1 := hef.l1; have hs0 := hef.s0; have ht1 := hef.t1; have hm1 := hef.m1
              have HR2 := Lib.hid hr2
              clear hex hef hr2
              go_region_law (fail)
              all_goals
                go_wp2_with fail
                exact HR2.out.body 42 HM.out rfl rfl rfl
        · obtain rfl : k = q := by omega
          have hd1 : decide ((128 : Int) * (k : Int) < (n : Int)) = false := decide_eq_false (by have := HQ.out; omega)
          have hk3 : (k : Int) ≤ 3 := by have := HQ.out; have := HN3.out; omega
          have hwk : wrap64 ((128 : Int) * (k : Int)) = (128 : Int) * (k : Int) := by simp [wrap64]; omega
          obtain ⟨f1, f2, f3⟩ := putsL_true d (at' + 1) b (List.range k) d (at' + 1) HOK.out
          have hmd := HMD.out
          rw [if_neg (by rw [HOK.out]; decide)] at hmd
          obtain ⟨D, hD⟩ : ∃ D, D = (putsL d (at' + 1) b (List.range k)).1 := ⟨_, rfl⟩
          have hst : D.stable = d.stable := by rw [hD]; exact f2
          have hpn : D.pend.length ≤ 1003 := by rw [hD, show (putsL d (at' + 1) b (List.range k)).1.pend.length = _ from f3, List.length_range]; have := HP.out; omega
          rw [← hD] at HI hmd
          have HMD2 := Lib.hid hmd; have HST := Lib.hid hst; have HPN := Lib.hid hpn
          have HSE : Hid (D.flush.1.stable.length = d.stable.length) := Lib.hid (by rw [flush_len, hst])
          have HFP : Hid (D.flush.1.pend.length ≤ 1003) := Lib.hid (Nat.le_trans (flush_pend D) hpn)
          clear f1 f2 f3 hmd hst hpn hD HMD HOK
          go_wp2_with (refine ldRD rfl _ rfl w.heap.size rfl HI.out.bd ?_)
          by_cases hfl : D.power.2 = true
          · have efl : D.flush = (D.power.1.flushed, true) := by unfold Dk.flush; rw [if_pos hfl]
            refine (ref_Flush_yes HI.out.rd hfl (by have := HPN.out; omega)).mono ?_
            rintro e w5 ⟨A5, c5, rfl, hr5, hb5, hf5⟩
            have HM2 : Hid (addM d first gen count b = (if D.power.1.flushed.power.2 = false then (D.power.1.flushed.power.1, count, 42)
                else if (D.power.1.flushed.power.1.push at' (sealL (gen * 256 + (count + 1)) (hdBody b))).flush.2 = false then ((D.power.1.flushed.power.1.push at' (sealL (gen * 256 + (count + 1)) (hdBody b))).flush.1, count, 42) else ((D.power.1.flushed.power.1.push at' (sealL (gen * 256 + (count + 1)) (hdBody b))).flush.1, count + 1, 0))) := Lib.hid (by rw [HMD2.out, efl, if_neg (show ¬ ((true : Bool) = false) by decide)])
            rw [efl] at HSE HFP
            simp only at HSE HFP
            obtain ⟨D2, hD2⟩ : ∃ D2, D2 = D.power.1.flushed := ⟨_, rfl⟩
            rw [← hD2] at hr5 HM2 HSE HFP ⊢
            have HR5 := Lib.hid hr5; have HB5 := Lib.hid hb5; have HF5 := Lib.hid hf5
            have HD5 := Lib.hid (HI.out.bd.below hb5)
            have hwn : IntKind.u64.wrap (n : Int) = (n : Int) := by have := HN3.out; simp [IntKind.wrap, IntKind.signed, IntKind.bits]; omega
            have hcl : (crcAdd 0#32 b).toNat < 4294967296 := (crcAdd 0#32 b).isLt
            have hwc : IntKind.u64.wrap (((crcAdd 0#32 b).toNat : Nat) : Int) = (((crcAdd 0#32 b).toNat : Nat) : Int) := by simp only [IntKind.wrap, IntKind.signed, IntKind.bits]; simp; omega
            clear hr5 hb5 hf5 hfl efl hD2 HMD2
            go_wp2_with (refine stRD rfl _ _ rfl w.heap.size rfl HD5.out rfl rfl ?_; intro w6 hs6 hk6; have HI6 := Lib.hid (HI.out.put HHA.out HHB.out HB5.out HR5.out (.inr HF5.out) (.inr (FrA.none _ _)) hs6 hk6); clear hs6 hk6)
            clear HI HD5
            refine (ref03_Sum 0#32 C n cb b w6 (HR.out.below HI6.out.bl)).mono ?_
            rintro e w7 ⟨rfl, rfl⟩
            go_wp2_with fail
            refine (ref_head_Pack b n HLB.out HN3.out w6 w6.heap.size rfl).mono ?_
            rintro e w8 ⟨A8, c8, rfl, hr8, hb8⟩
            have HI8 := Lib.hid (HI6.out.below hb8); have HR8 := Lib.hid hr8
            obtain ⟨mk, hmk⟩ : ∃ mk, mk = gen * 256 + (count + 1) := ⟨_, rfl⟩
            have hmlt : mk < 18446744073709551616 := by have := HG.out; have := HC.out; omega
            have hm0 : mk ≠ 0 := by omega
            have cj1 := HI8.out.bj.cell 1 _ rfl
            have cj2 := HI8.out.bj.cell 2 _ rfl
            have hwg1 := wrap_gen gen HG.out
            have hwg2 := wrap64_cnt count HC.out
            have hwg3 := wrap_cnt count HC.out
            have hwg4 := wrap_mk gen count mk HG.out HC.out hmk
            rw [← hmk] at HM2
            have HMK := Lib.hid hmlt; have HM0 := Lib.hid hm0
            clear hr8 hb8 hmk hmlt hm0 hwn hwc hcl HI6
            go_wp2_with fail
            refine (ref05_Make mk HMK.out A8 6 c8 (hdBody b) w8 HR8.out (by omega)).mono ?_
            have hmk2 : makeM mk (hdBody b) = some (sealL mk (hdBody b)) := by unfold makeM; rw [if_neg (by have := HM0.out; have := hdBody_length b; omega)]
            rw [hmk2]
            rintro e w9 ⟨sl, ev, rfl, hsl, hb9, ⟨h1, rfl⟩ | ⟨h1, -⟩⟩
            · injection h1 with h1
              subst h1
              have HI9 := Lib.hid ((HI8.out.below hb9).below (below_alloc w9 (.cells (bv (sealL mk (hdBody b))).toArray 55)))
              have HSL := Lib.hid hsl
              have HSC9 := Lib.hid (SecAt.new w9 (sealL mk (hdBody b)) hsl)
              clear hb9 hsl hmk2 cj1 cj2 hwg1 hwg2 hwg3 hwg4 HI8 HR8
              generalize hgs : sealL mk (hdBody b) = sl at *
              clear hgs
              go_wp2_with (first | (refine st37 rfl _ _ rfl _ _ rfl rfl sl rfl HSL.out rfl ?_) | (refine ldRD rfl _ rfl w.heap.size rfl HI9.out.bd ?_) | (refine ld37 rfl _ rfl w9.heap.size 0 rfl sl HSC9.out.range HSL.out ?_))
              generalize hw10 : w9.alloc (.cells (bv sl).toArray 55) = w10 at *
              clear hw10
              by_cases hpw : D2.power.2 = true
              · refine (ref_Put_yes HI9.out.rd at' (by rw [HSE.out]; have := HA4.out; omega) sl HSL.out hpw (by have := HFP.out; omega)).mono ?_
                rintro e w11 ⟨B11, k11, rfl, hr11, hb11, hf11⟩
                obtain ⟨D3, hD3⟩ : ∃ D3, D3 = ({ D2.power.1 with pend := D2.pend ++ [(at', sl)] } : Dk) := ⟨_, rfl⟩
                have hD3' : D2.power.1.push at' sl = D3 := by rw [hD3]; simp only [Dk.push, power_pend]
                have hp3 : D3.pend.length ≤ 1004 := by rw [hD3]; have := HFP.out; simp only [List.length_append, List.length_cons, List.length_nil]; omega
                rw [← hD3] at hr11 ⊢
                rw [if_neg (by rw [hpw]; decide), hD3'] at HM2
                have HR11 := Lib.hid hr11; have HB11 := Lib.hid hb11; have HF11 := Lib.hid hf11; have HP3 := Lib.hid hp3
                have HD11 := Lib.hid (HI9.out.bd.below hb11)
                clear hr11 hb11 hf11 hD3 hD3' hp3 hpw
                go_wp2_with (first
                  | (refine stRD rfl _ _ rfl w.heap.size rfl HD11.out rfl rfl ?_; intro w12 hs12 hk12; have HI12 := Lib.hid (HI9.out.put HHA.out HHB.out HB11.out HR11.out (.inl rfl) (.inr HF11.out) hs12 hk12); clear hs12 hk12)
                  | (refine ldRD rfl _ rfl w.heap.size rfl HI12.out.bd ?_))
                clear HI9 HD11
                by_cases hfl : D3.power.2 = true
                · have efl : D3.flush = (D3.power.1.flushed, true) := by unfold Dk.flush; rw [if_pos hfl]
                  refine (ref_Flush_yes HI12.out.rd hfl (by have := HP3.out; omega)).mono ?_
                  rintro e w13 ⟨A13, c13, rfl, hr13, hb13, hf13⟩
                  have HM : Hid (addM d first gen count b = (D3.power.1.flushed, count + 1, 0)) := Lib.hid (by rw [HM2.out, efl, if_neg (show ¬ ((true : Bool) = false) by decide)])
                  obtain ⟨D4, hD4⟩ : ∃ D4, D4 = D3.power.1.flushed := ⟨_, rfl⟩
                  rw [← hD4] at hr13 HM ⊢
                  have HR13 := Lib.hid hr13; have HB13 := Lib.hid hb13; have HF13 := Lib.hid hf13
                  have HD13 := Lib.hid (HI12.out.bd.below hb13)
                  clear hr13 hb13 hf13 hfl efl hD4 HM2
                  go_wp2_with (refine stRD rfl _ _ rfl w.heap.size rfl HD13.out rfl rfl ?_; intro w14 hs14 hk14; have hi14 := HI12.out.put HHA.out HHB.out HB13.out HR13.out (.inr HF13.out) (.inr (FrA.none _ _)) hs14 hk14; have cj2 := hi14.bj.cell 2 _ rfl; have zj2 := frozen_of_row w14 (w.heap.size + 1) 2 _ _ hi14.bj; have hwg2 := wrap64_cnt count HC.out; have HI14 := Lib.hid (hi14.bump HHA.out HHB.out (count + 1)); clear hs14 hk14 hi14)
                  rw [show (count : Int) + 1 = ((count + 1 : Nat) : Int) from rfl]
                  generalize w14.setCell ⟨w.heap.size + 1, 2, none⟩ (.int .i64 ((count + 1 : Nat) : Int)) = w15 at *
                  have hex := HI14.out.below (Below.refl _ w15).drew
                  obtain ⟨hef, -, hr2⟩ := hex.exits HHA.out HHB.out
                  have hl0 := hef.l0; have hl1 := hef.l1; have hs0 := hef.s0; have ht1 := hef.t1; have hm1 := hef.m1
                  have HR2 := Lib.hid hr2
                  clear hex hef hr2
                  go_region_law (fail)
                  all_goals
                    go_wp2_with fail
                    exact HR2.out.body 0 HM.out rfl rfl rfl
                · have hpf : D3.power.2 = false := by simpa using hfl
                  have efl : D3.flush = (D3.power.1, false) := by unfold Dk.flush; rw [if_neg hfl]
                  refine (ref_Flush_dead HI12.out.rd hpf).mono ?_
                  rintro e w13 ⟨rfl, hb13⟩
                  have HM : Hid (addM d first gen count b = (D3.power.1, count, 42)) := Lib.hid (by rw [HM2.out, efl, if_pos rfl])
                  have HR13 := Lib.hid (HI12.out.rd.power.below hb13); have HB13 := Lib.hid hb13
                  have HD13 := Lib.hid (HI12.out.bd.below hb13)
                  clear hb13 hpf hfl efl
                  go_wp2_with (refine stRD rfl _ _ rfl w.heap.size rfl HD13.out rfl rfl ?_; intro w14 hs14 hk14; have HI14 := Lib.hid (HI12.out.put HHA.out HHB.out HB13.out HR13.out (.inl rfl) (.inl rfl) hs14 hk14); clear hs14 hk14)
                  have hex := HI14.out.below (Below.refl _ w14).drew
                  obtain ⟨hef, -, hr2⟩ := hex.exits HHA.out HHB.out
                  have hl0 := hef.l0; have hl1 := hef.l1; have hs0 := hef.s0; have ht1 := hef.t1; have hm1 := hef.m1
                  have HR2 := Lib.hid hr2
                  clear hex hef hr2
                  go_region_law (fail)
                  all_goals
                    go_wp2_with fail
                    exact HR2.out.body 42 HM.out rfl rfl rfl
              · have hpf : D2.power.2 = false := by simpa using hpw
                refine (ref_Put_dead HI9.out.rd at' (by rw [HSE.out]; have := HA4.out; omega) sl HSL.out hpf).mono ?_
                rintro e w11 ⟨rfl, hb11⟩
                have HM : Hid (addM d first gen count b = (D2.power.1, count, 42)) := Lib.hid (by rw [HM2.out, if_pos hpf])
                have HR11 := Lib.hid (HI9.out.rd.power.below hb11); have HB11 := Lib.hid hb11
                have HD11 := Lib.hid (HI9.out.bd.below hb11)
                clear hb11 hpf hpw
                go_wp2_with (refine stRD rfl _ _ rfl w.heap.size rfl HD11.out rfl rfl ?_; intro w12 hs12 hk12; have HI12 := Lib.hid (HI9.out.put HHA.out HHB.out HB11.out HR11.out (.inl rfl) (.inl rfl) hs12 hk12); clear hs12 hk12)
                have hex := HI12.out.below (Below.refl _ w12).drew
                obtain ⟨hef, -, hr2⟩ := hex.exits HHA.out HHB.out
                have hl0 := hef.l0; have hl1 := hef.l1; have hs0 := hef.s0; have ht1 := hef.t1; have hm1 := hef.m1
                have HR2 := Lib.hid hr2
                clear hex hef hr2
                go_region_law (fail)
                all_goals
                  go_wp2_with fail
                  exact HR2.out.body 42 HM.out rfl rfl rfl
            · cases h1
          · have hpf : D.power.2 = false := by simpa using hfl
            have efl : D.flush = (D.power.1, false) := by unfold Dk.flush; rw [if_neg hfl]
            refine (ref_Flush_dead HI.out.rd hpf).mono ?_
            rintro e w5 ⟨rfl, hb5⟩
            have HM : Hid (addM d first gen count b = (D.power.1, count, 42)) := Lib.hid (by rw [HMD2.out, efl, if_pos rfl])
            have HR5 := Lib.hid (HI.out.rd.power.below hb5); have HB5 := Lib.hid hb5
            have HD5 := Lib.hid (HI.out.bd.below hb5)
            clear hb5 hpf hfl efl
            go_wp2_with (refine stRD rfl _ _ rfl w.heap.size rfl HD5.out rfl rfl ?_; intro w6 hs6 hk6; have HI6 := Lib.hid (HI.out.put HHA.out HHB.out HB5.out HR5.out (.inl rfl) (.inl rfl) hs6 hk6); clear hs6 hk6)
            have hex := HI6.out.below (Below.refl _ w6).drew
            obtain ⟨hef, -, hr2⟩ := hex.exits HHA.out HHB.out
            have hl0 := hef.l0; have hl1 := hef.l1; have hs0 := hef.s0; have ht1 := hef.t1; have hm1 := hef.m1
            have HR2 := Lib.hid hr2
            clear hex hef hr2
            go_region_law (fail)
            all_goals
              go_wp2_with fail
              exact HR2.out.body 42 HM.out rfl rfl rfl
end Go.Proofs.Ytgakajofggmbjaa

/- Slices of structs that came in, by a law on one of them. -/
namespace Go.Proofs.Ytgakajofggmbjaa
open Go.ChangeShapes Go.WideShapes Go.ChangeAt Go.RowKit

/-- The slice's elements are read: the k-th is f k. -/
def RElems {α : Type} (cells : α → List Value) (m : Nat) (w : World) (A : Option Addr) (n c : Nat) (f : Nat → α) : Prop :=
  n ≤ c ∧ c ≤ 9223372036854775807 ∧ (0 < n → ∃ b o, A = some ⟨b, o, none⟩ ∧ ∀ k, k < n → w.rangeAt b (o + k * m) (cells (f k)))
theorem RElems.below {α : Type} {cells : α → List Value} {m : Nat} {w w' : World} {A : Option Addr} {n c : Nat} {f : Nat → α} (h : RElems cells m w A n c f) (hb : Below w.heap.size w w') : RElems cells m w' A n c f := by
  obtain ⟨h1, h2, h3⟩ := h
  refine ⟨h1, h2, fun hp => ?_⟩
  obtain ⟨b, o, e, hc⟩ := h3 hp
  exact ⟨b, o, e, fun k hk => range_belowF (hc k hk) hb⟩
section
variable {H : Type} {enc : TypeId × Value → H} {P : Program} {W : World} {base : Nat} {t e : TypeId} {v : Value} {d : DataW H} {p : List MemPlace}
theorem open_elems {α : Type} [Inhabited α] (cells : α → List Value) (m : Nat) (hu : P.underlying t = some (.slice e)) (hce : P.cellsOf e = m) (hm : ∀ a, 0 < (cells a).length)
    (el : ∀ fuel cs (x : DataW H × List MemPlace), DataW.trod enc P W 0 (fun _ => true) true fuel e cs = some x → ∃ a, cs = cells a)
    (o : Value.okWide P W .any base t v) (r : DataW.Trod enc P W 0 (fun _ => true) true t v d p) :
    ∃ A n c f, v = .slice A n c ∧ RElems cells m W A n c f := by
  obtain ⟨A0, len0, cap0, rfl⟩ := okWide_slice hu o
  obtain ⟨fuel, hf⟩ := r
  rcases Go.Deep.open_slice hu hf with ⟨hcs, _⟩ | ⟨a, len, cap, m0, n, D, Pl, hcs, _, hl, hm0, hmm, hx, hel⟩
  · simp [Value.cells] at hcs
    obtain ⟨rfl, rfl, rfl⟩ := hcs
    exact ⟨none, 0, 0, fun _ => default, rfl, Nat.le_refl _, by omega, fun hp => absurd hp (by omega)⟩
  · simp [Value.cells] at hcs
    obtain ⟨rfl, rfl, rfl⟩ := hcs
    simp only [if_true] at hmm
    subst hmm
    have hget : ∀ i, i < len0 → ∃ ac : α, ∀ j u, (cells ac)[j]? = some u → W.cell? ((a.add (i * m)).add j) = some u := by
      intro i hi
      obtain ⟨cs', h1, h2⟩ := hel i (by omega)
      rw [hce] at h1
      obtain ⟨ac, rfl⟩ := el _ _ _ h2
      exact ⟨ac, (cells_range h1).2⟩
    obtain ⟨f, hf2⟩ : ∃ f : Nat → α, ∀ i, i < len0 → ∀ j u, (cells (f i))[j]? = some u → W.cell? ((a.add (i * m)).add j) = some u := by
      refine ⟨fun i => if h : i < len0 then (hget i h).choose else default, fun i hi => ?_⟩
      show ∀ j u, (cells (if h : i < len0 then (hget i h).choose else default))[j]? = some u → W.cell? ((a.add (i * m)).add j) = some u
      rw [dif_pos hi]
      exact (hget i hi).choose_spec
    refine ⟨some a, len0, m0, f, rfl, hl, by simpa [maxLen] using hm0, fun hp => ?_⟩
    obtain ⟨b, off, spot⟩ := a
    have h0 := hf2 0 hp 0 _ (List.getElem?_eq_getElem (hm _))
    rw [Nat.zero_mul, add_add, Nat.add_zero] at h0
    have hs : spot = none := by simpa [Addr.add] using World.cell?_spot h0
    subst hs
    refine ⟨b, off, rfl, fun k hk => ?_⟩
    intro j u hj
    have := hf2 k hk j u hj
    rwa [add_add, add_none, ← Nat.add_assoc] at this
end
section
variable {H : Type} {enc : TypeId × Value → H} {W : World}
def pairCells (x : Int × Int) : List Value := [.int .i64 x.1, .int .i64 x.2]
set_option maxRecDepth 100000 in
theorem trod_pair {fuel : Nat} {cs : List Value} {x : DataW H × List MemPlace} (hf : DataW.trod enc Try.prog W 0 (fun _ => true) true fuel 60 cs = some x) : ∃ y : { y : Int × Int // y.1 ≤ 9223372036854775807 }, cs = pairCells y.1 := by
  have hct : Try.prog.cellsOf 60 = 2 := by kernel_rfl
  have hc : Try.prog.cellsOf 3 = 1 := by kernel_rfl
  obtain ⟨xs, m, _, _, hl, hxl, hfe⟩ := DataW.trod_array Try.underlying60 hf
  rw [hct] at hl
  have f0 := hfe 0 (by omega)
  have f1 := hfe 1 (by omega)
  rw [hc, List.getElem?_eq_getElem (by omega)] at f0 f1
  obtain ⟨n0, e0, _, w0⟩ := DataW.trod_int Try.underlying3 f0
  obtain ⟨n1, e1, _, _⟩ := DataW.trod_int Try.underlying3 f1
  refine ⟨⟨(n0, n1), (i64_wf w0).2⟩, ?_⟩
  have g0 := take1F e0
  have g1 := take1F e1
  match cs, hl, g0, g1 with
  | [x, y], _, g0, g1 =>
    simp at g0 g1
    subst g0 g1
    rfl
end
set_option maxRecDepth 100000 in
/-- A slice of bools that came in. -/
theorem open_bools {H : Type} {enc : TypeId × Value → H} {W : World} {base : Nat} {v : Value} {d : DataW H} {p : List MemPlace} (o : Value.okWide Try.prog W .any base 38 v) (r : DataW.Trod enc Try.prog W 0 (fun _ => true) true 38 v d p) (z : ∀ n ∈ d.weights Try.prog 38, n ≤ reachBytes) :
    ∃ A n c keep, v = .slice A n c ∧ RBl W A n c keep ∧ n ≤ 140737488351232 := by
  obtain ⟨A0, n0, c0, rfl⟩ := okWide_slice Try.underlying38 o
  obtain ⟨fuel, hf⟩ := r
  obtain ⟨A, n, c, keep, h1, h2, h3⟩ := trod_bools Try.underlying38 Try.underlying4 (by kernel_rfl) (by kernel_rfl) hf z
  simp [Value.cells] at h1
  obtain ⟨rfl, rfl, rfl⟩ := h1
  exact ⟨_, _, _, keep, rfl, h2, h3⟩
end Go.Proofs.Ytgakajofggmbjaa
