/- JournalRuns: the walk over its rounds. -/
import Derived.Test.YtgakajofggmbjaaMg19
import Derived.Test.YtgakajofggmbjaaMg15
import Derived.Test.YtgakajofggmbjaaMg20
import Derived.Outline
namespace Go.Proofs.Ytgakajofggmbjaa
open Go.RowKit

/-- What is known of the rounds' state beside what lies in memory. -/
structure RB5 (d : Dk) (k gen cnt : Nat) : Prop where
  pl : d.pend.length ≤ 5 * k
  len : d.stable.length = 24
  cnt : cnt ≤ 4
  g1 : 1 ≤ gen
  g2 : gen < 281474976710656
theorem rb5_add {d : Dk} {k gen cnt first : Nat} (h : RB5 d k gen cnt) (b : List UInt8) : RB5 (addM d first gen cnt b).1 (k + 1) gen (addM d first gen cnt b).2.1 := by
  obtain ⟨h1, h2, h3⟩ := addM_pend d first gen cnt b
  exact ⟨by have := h.pl; omega, h2.trans h.len, h3 h.cnt, h.g1, h.g2⟩
theorem RJ.loads {w1 wr : World} {p s g g10 j : Nat} {v : Value} {A : Option Addr} {c : Nat} {B : Option Addr} {kk : Nat} {d : Dk} {first gen cnt : Nat} (h : RJ w1 wr p s g g10 j v A c B kk d first gen cnt) :
    wr.cell? ⟨g10, 1, none⟩ = some (.int .u64 (gen : Int)) ∧ wr.cell? ⟨g10, 2, none⟩ = some (.int .i64 (cnt : Int)) ∧ (ldD (.pointer (some ⟨g, 0, none⟩))).run Try.prog wr = .ok (.agg (rdC A c B kk d).toArray) wr :=
  ⟨h.kb.cell 1 _ rfl, h.kb.cell 2 _ rfl, run_ldD h.two.row⟩
attribute [local go_sem ↓] loadAtD
/-- What the switch leaves. -/
def SW (w1 wx : World) (p s g g10 g12 j f0 gen k : Nat) (y : ActJ) : Prop :=
  ∃ v A c B kk d cnt, RJ w1 wx p s g g10 j v A c B kk d f0 gen cnt ∧ RB5 d (k + 1) gen cnt ∧ RowAt wx g12 40 (actJ y)
theorem RB5.next {d : Dk} {k gen cnt : Nat} (h : RB5 d k gen cnt) : RB5 d (k + 1) gen cnt := ⟨by have := h.pl; omega, h.len, h.cnt, h.g1, h.g2⟩
theorem act_not {w1 wr : World} {p s g g10 j g12 : Nat} {v : Value} {A : Option Addr} {c : Nat} {B : Option Addr} {kk : Nat} {d : Dk} {first gen cnt : Nat} {y : ActJ} (h : RJ w1 wr p s g g10 j v A c B kk d first gen cnt) (hx : RowAt wr g12 40 (actJ y)) :
    ¬ (foot p s v g12 ∨ g12 = j) ∧ g12 ≠ g ∧ g12 ≠ g10 :=
  ⟨fun e => e.elim (foot_not h.two.disk hx (by decide) (by decide) (by decide)) (ne_of_types hx h.jr (by decide)), ne_of_types hx h.two.row (by decide), ne_of_types hx h.kb (by decide)⟩
set_option maxRecDepth 20000 in
set_option maxHeartbeats 25600000 in
theorem journalRuns_main (first : Int) (gen0 : Nat) (A0 : Option Addr) (n c0 : Nat) (f : Nat → ActJ) (w : World) (hfi : -9223372036854775808 ≤ first ∧ first ≤ 9223372036854775807) (hge : gen0 < 18446744073709551616) (hA : RActJ w A0 n c0 f) :
    Calls Try.prog 3 #[.int .i64 first, .int .u64 (gen0 : Int), .slice A0 n c0] w fun e w' => e = .returned (.bool true) ∧ Below w.heap.size w w' := by
  have HA := Lib.hid hA; have HFI := Lib.hid hfi; have HGE := Lib.hid hge
  clear hA hfi hge
  go_enter Try.func3, Try.ntmps3
  go_wp2_with fail
  refine (journalAlive_true _).mono ?_
  rintro e w1 ⟨rfl, hb1⟩
  have HA1 := Lib.hid (HA.out.below hb1); have HB1 := Lib.hid hb1
  clear hb1 HA
  go_wp2_with fail
  refine (disk_New ((24 : Nat) : Int) w1).mono ?_
  rintro e w2 ⟨p, s, rfl, hd2, hb2⟩
  have HD2 := Lib.hid hd2; have HB2 := Lib.hid hb2
  clear hd2 hb2
  go_wp2_with fail
  refine (ref_New ((24 : Nat) : Int) w2).mono ?_
  rintro e w3 ⟨A, c, rfl, hr3, hb3, hf3⟩
  have htwo := Two.start HD2.out HB2.out hr3 hb3 hf3
  have HLN : Hid ((newDk ((24 : Nat) : Int)).stable.length = 24) := Lib.hid (newDk_len 24 (by omega))
  have HPN : Hid ((newDk ((24 : Nat) : Int)).pend = []) := Lib.hid rfl
  have HTW := Lib.hid htwo
  have HG : Hid (w1.heap.size ≤ w3.heap.size) := Lib.hid (Nat.le_trans HB2.out.size hb3.size)
  clear hr3 hb3 hf3 htwo HD2 HB2
  go_wp2_with (first
    | (refine stN 30 (rdC A c none 0 (newDk ((24 : Nat) : Int))) rfl _ _ rfl _ _ rfl rfl rfl (rdC_one _ _ _ _ _) Try.sizeRD rfl ?_)
    | (refine ldRD rfl _ rfl w3.heap.size rfl HTW.out.row ?_))
  generalize newDk ((24 : Nat) : Int) = d0 at *
  generalize hw4 : w3.alloc (.cells (rdC A c none 0 d0).toArray 30) = w4 at *
  clear hw4
  generalize hg : w3.heap.size = g at *
  clear hg
  refine (ref06_Right A c none 0 d0 (by rw [HLN.out]; omega) first gen0 HFI.out HGE.out).mono ?_
  rintro e w5 ⟨rb, rfl, hb5, hrt⟩
  have HT5 := Lib.hid (HTW.out.below hb5)
  have HRT := Lib.hid hrt
  clear hb5 hrt HTW
  cases rb with
  | false =>
    go_wp2_with fail
    go_ret
    exact ⟨rfl, bthen HB1.out HT5.out.bl⟩
  | true =>
    obtain ⟨hf0, hf1, hg1, hg2⟩ := HRT.out rfl
    obtain ⟨f0, rfl⟩ := Int.eq_ofNat_of_zero_le hf0
    have HF16 : Hid (f0 + 16 ≤ 24) := Lib.hid (by rw [HLN.out] at hf1; omega)
    have HG1 := Lib.hid hg1; have HG2 := Lib.hid hg2
    clear hf0 hf1 hg1 hg2 HRT HFI HGE
    by_cases hn : 60 < n
    · have q60 : decide ((60 : Int) < (n : Int)) = true := decide_eq_true (by omega)
      go_wp2_with fail
      go_ret
      exact ⟨rfl, bthen HB1.out HT5.out.bl⟩
    · have q60 : decide ((60 : Int) < (n : Int)) = false := decide_eq_false (by omega)
      have HN60 : Hid (n ≤ 60) := Lib.hid (by omega)
      clear hn
      go_wp2_with fail
      refine (journal_Start p (f0 : Int) gen0 w5).mono ?_
      rintro e w6 ⟨rfl, rfl⟩
      have HT7 := Lib.hid ((HT5.out.below (below_alloc w5 (.cells (jC p (f0 : Int) gen0 0).toArray 68))).below (below_alloc _ (.cells (rjC f0 gen0 0).toArray 36)))
      have HJ7 : Hid (JAt ((w5.alloc (.cells (jC p (f0 : Int) gen0 0).toArray 68)).alloc (.cells (rjC f0 gen0 0).toArray 36)) w5.heap.size p (f0 : Int) gen0 0) := Lib.hid ((RowAt.new w5 _ _).below (below_alloc _ _))
      have HK7 := Lib.hid (RowAt.new' (w5.alloc (.cells (jC p (f0 : Int) gen0 0).toArray 68)) 36 (rjC f0 gen0 0) (w5.heap.size + 1) (by simp))
      have HRJ : Hid (RJ w1 ((w5.alloc (.cells (jC p (f0 : Int) gen0 0).toArray 68)).alloc (.cells (rjC f0 gen0 0).toArray 36)) p s g (w5.heap.size + 1) w5.heap.size (.slice none 0 0) A c none 0 d0 f0 gen0 0) := Lib.hid ⟨HT7.out, HJ7.out, HK7.out, HT5.out.bl.size, Nat.le_succ_of_le HT5.out.bl.size, (fun b o e => by have := HT5.out.ltA.1 b o e; omega), (fun b o e => by cases e)⟩
      have HR5 : Hid (RB5 d0 0 gen0 0) := Lib.hid ⟨by rw [HPN.out]; exact Nat.le_refl _, HLN.out, by omega, HG1.out, HG2.out⟩
      clear HT7 HJ7 HK7 HT5 HLN HPN HG1 HG2
      go_wp2_with (refine stN 36 (rjC f0 gen0 0) rfl _ _ rfl _ _ rfl (by simp) rfl (rjC_one _ _ _) Try.sizeRJ rfl ?_)
      generalize (w5.alloc (.cells (jC p (f0 : Int) gen0 0).toArray 68)).alloc (.cells (rjC f0 gen0 0).toArray 36) = w7 at *
      generalize hg10 : w5.heap.size + 1 = g10 at *
      clear hg10
      generalize w5.heap.size = j0 at *
      go_loopw [9, 40] (fun jp i wr => ∃ (k j : Nat) (v : Value) (A : Option Addr) (c : Nat) (B : Option Addr) (kk : Nat) (d : Dk) (gen cnt : Nat), k ≤ n ∧ jp = .pointer (some ⟨j, 0, none⟩) ∧ i = .int .i64 k ∧ Hid (RJ w1 wr p s g g10 j v A c B kk d f0 gen cnt) ∧ Hid (RB5 d k gen cnt)) (fun _ i _ => n - (intOf i).toNat)
      case atStart => exact ⟨0, _, _, _, _, _, _, _, _, _, by omega, rfl, rfl, HRJ, HR5⟩
      case round =>
        clear HRJ HR5
        obtain ⟨k, j, v, A, c, B, kk, d, gen, cnt, hk, rfl, rfl, HR, H5⟩ := hrel
        by_cases hlt : k < n
        · have hk0 : (0 : Int) ≤ (k : Int) := Int.natCast_nonneg _
          have hk1 : (k : Int) < (n : Int) := by omega
          obtain ⟨bx, ox, rfl, hel⟩ := HA1.out.2.2 (by omega)
          obtain ⟨hrg1, hok1⟩ := hel k hlt
          have hrg : wr.rangeAt bx (ox + k * 5) (actJ (f k)) := (range_belowF hrg1 HR.out.two.bl)
          generalize f k = y at *
          obtain ⟨ykind, yat, ycut, yta, ytn, ytc, ytext, yka, ykn, ykc, ykeep⟩ := y
          have HOK := Lib.hid hok1
          have cx0 : wr.cell? ⟨bx, ox + k * 5, none⟩ = some (.int .i64 ykind) := hrg 0 _ rfl
          have cx1 : wr.cell? ⟨bx, ox + k * 5 + 1, none⟩ = some (.int .i64 yat) := hrg 1 _ rfl
          have cx2 : wr.cell? ⟨bx, ox + k * 5 + 2, none⟩ = some (.int .i64 ycut) := hrg 2 _ rfl
          have cx3 : wr.cell? ⟨bx, ox + k * 5 + 3, none⟩ = some (.slice yta ytn ytc) := hrg 3 _ rfl
          have cx4 : wr.cell? ⟨bx, ox + k * 5 + 4, none⟩ = some (.slice yka ykn ykc) := hrg 4 _ rfl
          clear hel hrg hrg1 hok1
          go_upto_block 2 with fail
          have HX12 := Lib.hid (RowAt.new wr 40 (actJ ⟨ykind, yat, ycut, yta, ytn, ytc, ytext, yka, ykn, ykc, ykeep⟩))
          have HR12 := Lib.hid (HR.out.below (below_alloc wr (.cells (actJ ⟨ykind, yat, ycut, yta, ytn, ytc, ytext, yka, ykn, ykc, ykeep⟩).toArray 40)))
          clear cx0 cx1 cx2 cx3 cx4 HR
          generalize hy : (⟨ykind, yat, ycut, yta, ytn, ytc, ytext, yka, ykn, ykc, ykeep⟩ : ActJ) = y at *
          have hyc : actJ y = [.int .i64 ykind, .int .i64 yat, .int .i64 ycut, .slice yta ytn ytc, .slice yka ykn ykc] := by rw [← hy]; rfl
          have HYC := Lib.hid hyc
          have htx := HOK.out.text; have hkp := HOK.out.keep; have hat0 := HOK.out.at_; have htn := HOK.out.textn; have hkn := HOK.out.keepn
          rw [← hy] at htx hkp hat0 htn hkn
          dsimp only at htx hkp hat0 htn hkn
          have htx2 : RB w1 yta ytn ytc y.text := by rw [← hy]; exact htx
          have hkp2 : RBl w1 yka ykn ykc y.keep := by rw [← hy]; exact hkp
          have HTX := Lib.hid htx2; have HKP := Lib.hid hkp2; have HAT := Lib.hid hat0; have HTN := Lib.hid htn; have HKN := Lib.hid hkn
          rw [← hyc]
          clear htx hkp htx2 hkp2 hat0 htn hkn hy hyc HOK
          generalize wr.alloc (.cells (actJ y).toArray 40) = wb at *
          generalize wr.heap.size = g12 at *
          go_cut [13, 14, 15] from 46 to 99 (fun e f _ wx => ∃ err : Int, e = .int .i64 err ∧ f = .int .i64 err ∧ Hid (SW w1 wx p s g g10 g12 j f0 gen k y))
          case first =>
            have hxr := HX12.out
            rw [HYC.out] at hxr
            have n1 := hxr.cell 1 _ rfl
            have n2 := hxr.cell 2 _ rfl
            have n3 := hxr.cell 3 _ rfl
            have n4 := hxr.cell 4 _ rfl
            clear hxr
            obtain ⟨hna, hng, hnk⟩ := act_not HR12.out HX12.out
            have HNA := Lib.hid hna; have HNG := Lib.hid hng; have HNK := Lib.hid hnk
            have HFB : Hid (∀ w', RowAt w' g12 40 (actJ y) → w'.cell? ⟨g12, 1, none⟩ = some (.int .i64 yat) ∧ w'.cell? ⟨g12, 2, none⟩ = some (.int .i64 ycut) ∧ w'.cell? ⟨g12, 3, none⟩ = some (.slice yta ytn ytc) ∧ w'.cell? ⟨g12, 4, none⟩ = some (.slice yka ykn ykc)) := Lib.hid fun w' h => by
              rw [HYC.out] at h
              exact ⟨h.cell 1 _ rfl, h.cell 2 _ rfl, h.cell 3 _ rfl, h.cell 4 _ rfl⟩
            clear hna hng hnk
            by_cases h0 : ykind = 0
            · subst h0
              have m3 : (wb.alloc (.cells #[] 5)).cell? ⟨g12, 3, none⟩ = some (.slice yta ytn ytc) := cell_blJ n3 (below_alloc wb _)
              clear n1 n2 n4
              go_wp2_with (at_builtin; refine wpList_copy_bytes (W := wb) rfl _ _ 37 5 rfl Try.underlying37 Try.infoU8' yta ytn ytc y.text wb.heap.size rfl rfl rfl (HTX.out.below HR12.out.two.bl) (by have := HTN.out; omega) ?_; intro A2 c2 w4 hown4 hr4 hb4)
              have HR4 := Lib.hid (HR12.out.below hb4); have HX4 := Lib.hid (HX12.out.below hb4); have HRB4 := Lib.hid hr4
              have HRA := Lib.hid (recAt_own HR12.out.two.disk hown4)
              have HA2 : Hid (∀ b o, A2 = some ⟨b, o, none⟩ → b ≠ j ∧ b ≠ g ∧ b ≠ g10) := Lib.hid (fun b o e => by
                subst e
                have h1 := (hown4.lt b rfl).1
                have h2 := HR12.out.jr.lt
                have h3 := lt_of_heap HR12.out.two.row
                have h4 := lt_of_heap HR12.out.kb
                exact ⟨by omega, by omega, by omega⟩)
              clear hown4 hr4 hb4 n3 m3
              refine (journal_Add HR4.out.two.disk HR4.out.jr A2 ytn c2 y.text HRB4.out HRA.out H5.out.g2 H5.out.cnt (by rw [H5.out.len]; exact HF16.out) (by have := H5.out.pl; have := HN60.out; omega) HTN.out HR4.out.two.bl.size).mono ?_
              rintro e w5 ⟨v5, rfl, hd5, hj5, hk5, ho5⟩
              have h5n := rb5_add (first := f0) H5.out y.text
              have HADD := Lib.hid (fun (w' : World) (hr : RDk w' A c B kk d) (h1 : ∀ b o, A = some ⟨b, o, none⟩ → b < w'.heap.size) (h2 : ∀ b o, B = some ⟨b, o, none⟩ → b < w'.heap.size) (h3 : RB w' yta ytn ytc y.text) => ref06_Add hr h1 h2 f0 gen cnt yta ytn ytc y.text h3 H5.out.g2 H5.out.cnt (by rw [H5.out.len]; exact HF16.out) (by have := H5.out.pl; have := HN60.out; omega) (by have := HTN.out; omega))
              obtain ⟨⟨d6, cnt6, err6⟩, hr6e⟩ : ∃ r, r = addM d f0 gen cnt y.text := ⟨_, rfl⟩
              rw [← hr6e] at hd5 hj5 HADD h5n ⊢
              dsimp only at hd5 hj5 h5n ⊢
              have HH5 := Lib.hid (HR4.out.acted hd5 hj5 hk5 ho5)
              have HX5 := Lib.hid (HX4.out.kp hk5 (act_not HR4.out HX4.out).1)
              have HRB5 := Lib.hid (HRB4.out.kpF hk5 (fun b o e hf => hf.elim (HRA.out b o e).2 (HA2.out b o e).1))
              have H5N := Lib.hid h5n
              obtain ⟨n1, n2, n3, n4⟩ := HFB.out w5 HX5.out
              clear hd5 hj5 hk5 ho5 h5n hr6e n1 n2 n4
              go_wp2_with (first
                | (refine ldRD rfl _ rfl g rfl HH5.out.half.row ?_)
                | (refine ldN 36 (rjC f0 gen cnt) rfl _ rfl g10 0 rfl HH5.out.kb.range Try.underlying36 rfl Try.sizeRJ ?_))
              refine (HADD.out w5 HH5.out.half.rd (fun b o e => (HH5.out.half.apA b o e).1) (fun b o e => (HH5.out.half.apB b o e).1) (HTX.out.below HH5.out.half.bl)).mono ?_
              rintro e w6 ⟨A6, c6, B6, k6, rfl, hr6, hb6, hA6, hB6⟩
              dsimp only at hr6 ⊢
              have HR6 := Lib.hid hr6; have HB6 := Lib.hid hb6; have HA6 := Lib.hid hA6; have HBB6 := Lib.hid hB6; have HG6 := Lib.hid (HH5.out.half.row.below hb6)
              have HX6 := Lib.hid (HX5.out.below hb6); have HRB6 := Lib.hid (HRB5.out.below hb6)
              clear hr6 hb6 hA6 hB6 n3
              go_wp2_with (first
                | (refine stRD rfl _ _ rfl g rfl HG6.out rfl rfl ?_; intro w7 hs7 hk7; have HD7 := Lib.hid (HH5.out.disk HR6.out HB6.out HA6.out HBB6.out hk7 hs7 HG.out); have HX7 := Lib.hid (HX6.out.kp hk7 HNG.out); have HRB7 := Lib.hid (HRB6.out.kpF hk7 (fun b o e => (HA2.out b o e).2.1)); clear hs7 hk7)
                | (refine stN_at 36 (rjC f0 gen cnt6) (rjC f0 gen cnt) rfl _ _ rfl g10 rfl HD7.out.2.2.1 rfl (rjC_one _ _ _) Try.sizeRJ rfl ?_; intro w8 hs8 hk8; have HS8 := Lib.hid hs8; have HD8 := Lib.hid (RJ.of HD7.out.1 HD7.out.2.1 HD7.out.2.2.1 HH5.out.jb HH5.out.gb HD7.out.2.2.2.1 HD7.out.2.2.2.2 hk8 hs8); have HX8 := Lib.hid (HX7.out.kp hk8 HNK.out); have HRB8 := Lib.hid (HRB7.out.kpF hk8 (fun b o e => (HA2.out b o e).2.2)); have hs1 := HRB8.out.string (P := Try.prog) (src := 37) (dst := 9) Try.underlying37 Try.underlying5 Try.underlying9; have hs2 := (HTX.out.below HD8.out.1.bl).string (P := Try.prog) (src := 37) (dst := 9) Try.underlying37 Try.underlying5 Try.underlying9; have hq2 := str_eq y.text; obtain ⟨n1, n2, n3, n4⟩ := HFB.out w8 HX8.out; clear hs8 hk8))
              go_meet
              exact ⟨err6, rfl, rfl, Lib.hid ⟨_, _, _, _, _, _, cnt6, ⟨HD8.out.1, HD8.out.2, HS8.out, HH5.out.jb, HH5.out.gb, HD7.out.2.2.2.1, HD7.out.2.2.2.2⟩, H5N.out, HX8.out⟩⟩
            · have q0 : (ykind == 0) = false := by simpa using h0
              by_cases h1 : ykind = 1
              · subst h1
                clear h0
                go_wp2_with fail
                refine (disk_Break HR12.out.two.disk yat HAT.out).mono ?_
                rintro e w5 ⟨rfl, hd5, hk5⟩
                have hkf : Kp (fun i => foot p s v i ∨ i = j) wb w5 := hk5.imp (fun i _ e => .inl (.inl e))
                have HH5 := Lib.hid (HR12.out.acted (cnt' := cnt) hd5 (RowAt.kp HR12.out.jr hk5 (fun e => HR12.out.jr.not_foot HR12.out.two.disk (.inl e))) hkf (fun q hq => .inl hq))
                have HX5 := Lib.hid (HX12.out.kp hkf HNA.out)
                obtain ⟨n1, n2, n3, n4⟩ := HFB.out w5 HX5.out
                clear hd5 hk5 hkf
                go_wp2_with (refine ldRD rfl _ rfl g rfl HH5.out.half.row ?_)
                refine (pair_break yat HAT.out w5 HH5.out.half.rd).mono ?_
                rintro e w6 ⟨A6, c6, B6, k6, rfl, hr6, hb6, hA6, hB6⟩
                unfold justIt
                have HR6 := Lib.hid hr6; have HB6 := Lib.hid hb6; have HA6 := Lib.hid hA6; have HBB6 := Lib.hid hB6; have HG6 := Lib.hid (HH5.out.half.row.below hb6)
                have HX6 := Lib.hid (HX5.out.below hb6)
                clear hr6 hb6 hA6 hB6
                go_wp2_with (refine stRD rfl _ _ rfl g rfl HG6.out rfl rfl ?_; intro w7 hs7 hk7; have HD7 := Lib.hid (HH5.out.disk HR6.out HB6.out HA6.out HBB6.out hk7 hs7 HG.out); have HX7 := Lib.hid (HX6.out.kp hk7 HNG.out); clear hs7 hk7)
                go_meet
                exact ⟨0, rfl, rfl, Lib.hid ⟨_, _, _, _, _, _, cnt, ⟨HD7.out.1, HD7.out.2.1, HD7.out.2.2.1, HH5.out.jb, HH5.out.gb, HD7.out.2.2.2.1, HD7.out.2.2.2.2⟩, ⟨by have := H5.out.pl; show d.pend.length ≤ _; omega, H5.out.len, H5.out.cnt, H5.out.g1, H5.out.g2⟩, HX7.out⟩⟩
              · have q1 : (ykind == 1) = false := by simpa using h1
                by_cases h2 : ykind = 2
                · subst h2
                  clear h0 h1
                  go_wp2_with fail
                  have n1d : wb.drew.cell? ⟨g12, 1, none⟩ = some (.int .i64 yat) := n1
                  have n2d : wb.drew.cell? ⟨g12, 2, none⟩ = some (.int .i64 ycut) := n2
                  have n4d : wb.drew.cell? ⟨g12, 4, none⟩ = some (.slice yka ykn ykc) := n4
                  have m1 : (wb.alloc (.cells #[] 4)).drew.cell? ⟨g12, 1, none⟩ = some (.int .i64 yat) := cell_blJ n1 (below_alloc wb _).drew
                  have m2 : (wb.alloc (.cells #[] 4)).drew.cell? ⟨g12, 2, none⟩ = some (.int .i64 ycut) := cell_blJ n2 (below_alloc wb _).drew
                  have m4 : (wb.alloc (.cells #[] 4)).drew.cell? ⟨g12, 4, none⟩ = some (.slice yka ykn ykc) := cell_blJ n4 (below_alloc wb _).drew
                  have HKW := Lib.hid (HKP.out.below HR12.out.two.bl)
                  have HPL : Hid (d.pend.length ≤ 1000000) := Lib.hid (by have := H5.out.pl; have := HN60.out; omega)
                  clear n1 n2 n3 n4
                  go_region_held3 (fun w' => w'.cell? ⟨g12, 1, none⟩ = some (.int .i64 yat) ∧ w'.cell? ⟨g12, 2, none⟩ = some (.int .i64 ycut) ∧ w'.cell? ⟨g12, 4, none⟩ = some (.slice yka ykn ykc)) (first | go_keep | exact ⟨by assumption, by assumption, by assumption⟩)
                    (first
                      | (refine step_append_any (by rfl) _ _ 38 4 (.bool false) 1 1 (by rfl) Try.underlying38 Try.infoBool' rfl (by decide) (by decide) wb.heap.size (.slice (some ⟨wb.heap.size, 0, none⟩) 0 0) 0 [] yka ykn ykc (blv y.keep) (by rfl) (by rfl) ((own_empty wb wb.heap.size 4 1 (Nat.le_refl _)).drew) ((HKW.out.below (((Below.refl _ _).alloc (Nat.le_refl _) _).drew)).rd) (blv_one _) (by have := HKN.out; omega) (by simp) ?_
                         intro v7 w7 hown7 hg7 ha7
                         rw [Nat.zero_add, List.nil_append] at hown7
                         obtain ⟨A7, c7, rfl, hrb7⟩ := own_rbl hown7
                         have hb7 : Below wb.heap.size wb w7 := Below.grown (((Below.refl _ _).alloc (Nat.le_refl _) _).drew) hg7 (by simp) (fun k hk => by cases hk; exact Nat.le_refl _)
                         obtain ⟨n1, n2, n3, n4⟩ := HFB.out w7 (HX12.out.below hb7)
                         have HOWN := Lib.hid hown7; have HRB7 := Lib.hid hrb7; have HB7 := Lib.hid hb7
                         clear hown7 hg7 ha7 hrb7 hb7)
                      | (go_at_call 17; refine (disk_Crash (HR12.out.two.disk.below HB7.out) HPL.out A7 ykn c7 y.keep HRB7.out (foot_freshJ HR12.out.two.disk HOWN.out) yat ycut).mono ?_; rintro e w8 ⟨rfl, hd8, hk8⟩; obtain ⟨n1, n2, n3, n4⟩ := HFB.out w8 ((HX12.out.below HB7.out).kp hk8 (fun hf => HNA.out (.inl hf))); have HDD8 := Lib.hid hd8; have HK8 := Lib.hid hk8; clear hd8 hk8))
                  have hkf : Kp (fun i => foot p s v i ∨ i = j) wb w8 := ((Kp.of_below (S := foot p s v) HB7.out).trans HK8.out (fun i _ hi => hi)).imp (fun i _ e => .inl e)
                  have hj8 : JAt w8 j p (f0 : Int) gen cnt := RowAt.kp (RowAt.below HR12.out.jr HB7.out) HK8.out (HR12.out.jr.not_foot HR12.out.two.disk)
                  have HH5 := Lib.hid (HR12.out.acted (cnt' := cnt) HDD8.out hj8 hkf (fun q hq => by cases hq))
                  have HX5 := Lib.hid (HX12.out.kp hkf HNA.out)
                  have HKC := Lib.hid (HKP.out.below HH5.out.half.bl)
                  clear hkf hj8 m1 m2 m4 HKW HRB7 HOWN HB7 HK8 HDD8
                  clear n1 n2 n3 n4
                  obtain ⟨n1, n2, n3, n4⟩ := HFB.out w8 HX5.out
                  go_wp2_with (refine ldRD rfl _ rfl g rfl HH5.out.half.row ?_)
                  refine (pair_crash HPL.out yka ykn ykc y.keep yat ycut w8 HH5.out.half.rd HKC.out).mono ?_
                  rintro e w6 ⟨A6, c6, B6, k6, rfl, hr6, hb6, hA6, hB6⟩
                  unfold justIt
                  have HCL : Hid ((d.crashed y.keep yat ycut).pend = [] ∧ (d.crashed y.keep yat ycut).stable.length = 24) := Lib.hid ⟨rfl, by show (crashTo _ _ _ _ _ _).length = 24; rw [crashTo_length]; exact H5.out.len⟩
                  have HR6 := Lib.hid hr6; have HB6 := Lib.hid hb6; have HA6 := Lib.hid hA6; have HBB6 := Lib.hid hB6; have HG6 := Lib.hid (HH5.out.half.row.below hb6)
                  have HX6 := Lib.hid (HX5.out.below hb6)
                  clear hr6 hb6 hA6 hB6
                  generalize d.crashed y.keep yat ycut = d6 at *
                  go_wp2_with (refine stRD rfl _ _ rfl g rfl HG6.out rfl rfl ?_; intro w7' hs7 hk7; have HD7 := Lib.hid (HH5.out.disk HR6.out HB6.out HA6.out HBB6.out hk7 hs7 HG.out); have HX7 := Lib.hid (HX6.out.kp hk7 HNG.out); clear hs7 hk7)
                  go_meet
                  exact ⟨0, rfl, rfl, Lib.hid ⟨_, _, _, _, _, _, cnt, ⟨HD7.out.1, HD7.out.2.1, HD7.out.2.2.1, HH5.out.jb, HH5.out.gb, HD7.out.2.2.2.1, HD7.out.2.2.2.2⟩, ⟨by rw [HCL.out.1]; exact Nat.zero_le _, HCL.out.2, H5.out.cnt, H5.out.g1, H5.out.g2⟩, HX7.out⟩⟩
                · have q2 : (ykind == 2) = false := by simpa using h2
                  clear h0 h1 h2
                  go_wp2_with fail
                  go_meet
                  exact ⟨0, rfl, rfl, Lib.hid ⟨_, _, _, _, _, _, cnt, HR12.out, H5.out.next, HX12.out⟩⟩
          case rest =>
            obtain ⟨err, rfl, rfl, HSW⟩ := hcut
            clear HR12 H5 HX12 HTX HKP
            obtain ⟨v2, A2, c2, B2, kk2, d2, cnt2, hrj, h5, hx⟩ := HSW.out
            have HR2 := Lib.hid hrj; have H52 := Lib.hid h5
            rw [HYC.out] at hx
            have n0 := hx.cell 0 _ rfl
            clear HSW hrj h5 hx
            obtain ⟨wa, rfl⟩ : ∃ wa : World, wa = wc := ⟨_, rfl⟩
            go_upto_region 26 with fail
            go_cut [111] from 100 to 110 (fun b wx => ∃ cb, b = .bool cb ∧ wx = wa)
            case first =>
              by_cases h2 : ykind = 2
              · have q2 : (ykind == 2) = true := by simpa using h2
                clear h2
                go_wp2_with fail
                go_meet
                exact ⟨_, rfl, rfl⟩
              · have q2 : (ykind == 2) = false := by simpa using h2
                by_cases h3 : ykind = 3
                · have q3 : (ykind == 3) = true := by simpa using h3
                  clear h2 h3
                  go_wp2_with fail
                  go_meet
                  exact ⟨_, rfl, rfl⟩
                · have q3 : (ykind == 3) = false := by simpa using h3
                  clear h2 h3
                  go_wp2_with fail
                  go_meet
                  exact ⟨_, rfl, rfl⟩
            case rest =>
              obtain ⟨cb, rfl, rfl⟩ := hcut
              clear n0
              go_upto_if 111 with fail
              go_cut [9] from 112 to 124 (fun jp wx => ∃ (j : Nat) (v : Value) (A : Option Addr) (c : Nat) (B : Option Addr) (kk : Nat) (d : Dk) (gen cnt : Nat), jp = .pointer (some ⟨j, 0, none⟩) ∧ Hid (RJ w1 wx p s g g10 j v A c B kk d f0 gen cnt) ∧ Hid (RB5 d (k + 1) gen cnt))
              case first =>
                cases cb with
                | false =>
                  go_wp2_with fail
                  go_meet
                  exact ⟨_, _, _, _, _, _, _, _, _, rfl, HR2, H52⟩
                | true =>
                  have kx1 := HR2.out.kb.cell 1 _ rfl
                  by_cases hgb : 281474976710000 < gen
                  · have q1 : decide ((281474976710000 : Int) < (gen : Int)) = true := decide_eq_true (by omega)
                    have HBZ := Lib.hid (bthen HB1.out HR2.out.two.bl)
                    go_wp2_with fail
                    go_ret
                    exact ⟨rfl, HBZ.out⟩
                  · have q1 : decide ((281474976710000 : Int) < (gen : Int)) = false := decide_eq_false (by omega)
                    have hwg : IntKind.u64.wrap ((gen : Int) + 1) = ((gen + 1 : Nat) : Int) := by simp [IntKind.wrap, IntKind.signed, IntKind.bits]; omega
                    have HGB := Lib.hid hgb
                    clear hgb
                    go_wp2_with (refine stN_at 36 (rjC f0 (gen + 1) 0) (rjC f0 gen cnt2) rfl _ _ rfl g10 rfl HR2.out.kb rfl (rjC_one _ _ _) Try.sizeRJ rfl ?_; intro w8 hs8 hk8; have HS8 := Lib.hid hs8; have HK8 := Lib.hid hk8; have ky1 := hs8.cell 1 _ rfl; clear hs8 hk8)
                    rw [show (gen : Int) + 1 = ((gen + 1 : Nat) : Int) from rfl]
                    refine (journal_Start p (f0 : Int) (gen + 1) w8).mono ?_
                    rintro e w9 ⟨rfl, rfl⟩
                    have nf : ¬ foot p s v2 g10 := foot_not HR2.out.two.disk HR2.out.kb (by decide) (by decide) (by decide)
                    have ng : g ≠ g10 := HR2.out.nj.2.2
                    have ht8 := HR2.out.two.box HK8.out HR2.out.gb nf (fun e => ng e.symm) (fun b o e => (HR2.out.hA b o e).2) (fun b o e => (HR2.out.hB b o e).2)
                    have HR9 : Hid (RJ w1 (w8.alloc (.cells (jC p (f0 : Int) (gen + 1) 0).toArray 68)) p s g g10 w8.heap.size v2 A2 c2 B2 kk2 d2 f0 (gen + 1) 0) := Lib.hid ⟨ht8.below (below_alloc _ _), RowAt.new w8 _ _, HS8.out.below (below_alloc _ _), ht8.bl.size, HR2.out.gb, (fun b o e => ⟨by have := ht8.ltA.1 b o e; omega, (HR2.out.hA b o e).2⟩), (fun b o e => ⟨by have := ht8.ltA.2 b o e; omega, (HR2.out.hB b o e).2⟩)⟩
                    have H59 : Hid (RB5 d2 (k + 1) (gen + 1) 0) := Lib.hid ⟨H52.out.pl, H52.out.len, by omega, by omega, by have := HGB.out; omega⟩
                    clear nf ng ht8 ky1 kx1 hwg
                    go_wp2_with fail
                    go_meet
                    exact ⟨_, _, _, _, _, _, _, _, _, rfl, HR9, H59⟩
              case rest =>
                obtain ⟨j3, v3, A3, c3, B3, kk3, d3, gen3, cnt3, rfl, HR3, H53⟩ := hcut
                clear HR2 H52
                obtain ⟨wd, rfl⟩ : ∃ wd : World, wd = wc := ⟨_, rfl⟩
                go_upto_region 31 with fail
                have hpl3 : d3.pend.length ≤ 1000000 := by have := H53.out.pl; have := HN60.out; omega
                have hft3 : f0 + 16 ≤ d3.stable.length := by rw [H53.out.len]; exact HF16.out
                have hgl3 : gen3 < 281474976710656 * 2 := by have := H53.out.g2; omega
                obtain ⟨L1, hL1⟩ : ∃ L1, L1 = scanM d3.read f0 gen3 := ⟨_, rfl⟩
                have HL := Lib.hid (show ∀ W', RJ w1 W' p s g g10 j3 v3 A3 c3 B3 kk3 d3 f0 gen3 cnt3 → Calls Try.prog 19 #[.pointer (some ⟨j3, 0, none⟩)] W' (fun e w'' => e = .returned (.int .i64 (cnt3 : Int)) ∧ Below W'.heap.size W' w'') from fun W' h => (journal_Len W' h.jr).mono fun e w'' ⟨he, hw⟩ => ⟨he, hw ▸ Below.refl _ _⟩)
                have HS1 := Lib.hid (show ∀ W', RJ w1 W' p s g g10 j3 v3 A3 c3 B3 kk3 d3 f0 gen3 cnt3 → Calls Try.prog 21 #[.pointer (some ⟨p, 0, none⟩), .int .i64 (f0 : Int), .int .u64 (gen3 : Int)] W' (fun e w'' => ∃ A c, e = .returned (.slice A L1.length c) ∧ RRB w'' A L1.length c L1 ∧ Below W'.heap.size W' w'') from fun W' h => by rw [hL1]; exact journal_Scan h.two.disk hpl3 f0 gen3 hft3 hgl3)
                have HT1 := Lib.hid (show ∀ W', RJ w1 W' p s g g10 j3 v3 A3 c3 B3 kk3 d3 f0 gen3 cnt3 → Calls Try.prog 22 #[.agg (rdC A3 c3 B3 kk3 d3).toArray, .int .i64 (f0 : Int), .int .u64 (gen3 : Int)] W' (fun e w'' => ∃ A c, e = .returned (.slice A L1.length c) ∧ RRB w'' A L1.length c L1 ∧ Below W'.heap.size W' w'') from fun W' h => by rw [hL1]; exact ref06_Scan h.two.rd hpl3 f0 gen3 hft3 hgl3)
                have hee : (err != err) = false := by simp
                have hwk1 : wrap64 ((k : Int) + 1) = ((k + 1 : Nat) : Int) := wrap64_nat (k + 1) (by have := HN60.out; omega)
                have hcc : ((cnt3 : Int) != (cnt3 : Int)) = false := by simp
                have htd : RJ w1 wd.drew p s g g10 j3 v3 A3 c3 B3 kk3 d3 f0 gen3 cnt3 := HR3.out.below (Below.refl _ _).drew
                obtain ⟨q1, q2, q3⟩ := htd.loads
                obtain ⟨gp, hgp⟩ : ∃ gp, gen3 = gp + 1 := ⟨gen3 - 1, by have := H53.out.g1; omega⟩
                by_cases hg1 : 1 < gen3
                · have qg : decide ((1 : Int) < (gen3 : Int)) = true := decide_eq_true (by omega)
                  have hwg : IntKind.u64.wrap ((gen3 : Int) - 1) = (gp : Int) := by rw [hgp]; simp [IntKind.wrap, IntKind.signed, IntKind.bits]; omega
                  obtain ⟨L2, hL2⟩ : ∃ L2, L2 = scanM d3.read f0 gp := ⟨_, rfl⟩
                  have HS2 := Lib.hid (show ∀ W', RJ w1 W' p s g g10 j3 v3 A3 c3 B3 kk3 d3 f0 gen3 cnt3 → Calls Try.prog 21 #[.pointer (some ⟨p, 0, none⟩), .int .i64 (f0 : Int), .int .u64 (gp : Int)] W' (fun e w'' => ∃ A c, e = .returned (.slice A L2.length c) ∧ RRB w'' A L2.length c L2 ∧ Below W'.heap.size W' w'') from fun W' h => by rw [hL2]; exact journal_Scan h.two.disk hpl3 f0 gp hft3 (by omega))
                  have HT2 := Lib.hid (show ∀ W', RJ w1 W' p s g g10 j3 v3 A3 c3 B3 kk3 d3 f0 gen3 cnt3 → Calls Try.prog 22 #[.agg (rdC A3 c3 B3 kk3 d3).toArray, .int .i64 (f0 : Int), .int .u64 (gp : Int)] W' (fun e w'' => ∃ A c, e = .returned (.slice A L2.length c) ∧ RRB w'' A L2.length c L2 ∧ Below W'.heap.size W' w'') from fun W' h => by rw [hL2]; exact ref06_Scan h.two.rd hpl3 f0 gp hft3 (by omega))
                  clear hL1 hL2 hgp hg1 hpl3 hft3 hgl3 HR3
                  go_region_held3 (fun W' => W'.cell? ⟨g10, 1, none⟩ = some (.int .u64 (gen3 : Int)) ∧ W'.cell? ⟨g10, 2, none⟩ = some (.int .i64 (cnt3 : Int)) ∧ (ldD (.pointer (some ⟨g, 0, none⟩))).run Try.prog W' = .ok (.agg (rdC A3 c3 B3 kk3 d3).toArray) W' ∧ RJ w1 W' p s g g10 j3 v3 A3 c3 B3 kk3 d3 f0 gen3 cnt3) (first | go_keep | exact ⟨by assumption, by assumption, by assumption, by assumption⟩)
                    (first
                      | (go_at_call 19; with_reducible refine (HL.out _ (by assumption)).mono ?_; rintro e w20 ⟨rfl, hb20⟩; have ht20 : RJ w1 w20 p s g g10 j3 v3 A3 c3 B3 kk3 d3 f0 gen3 cnt3 := RJ.below (by assumption) hb20; obtain ⟨qa20, qb20, qc20⟩ := ht20.loads; clear hb20)
                      | (go_at_call 21; with_reducible refine (HS1.out _ (by assumption)).mono ?_; rintro e w21 ⟨A21, c21, rfl, hS1, hb21⟩; have ht21 : RJ w1 w21 p s g g10 j3 v3 A3 c3 B3 kk3 d3 f0 gen3 cnt3 := RJ.below (by assumption) hb21; obtain ⟨qa21, qb21, qc21⟩ := ht21.loads; (try replace hT1 := RRB.below hT1 hb21); clear hb21)
                      | (go_at_call 22; with_reducible refine (HT1.out _ (by assumption)).mono ?_; rintro e w22 ⟨A22, c22, rfl, hT1, hb22⟩; have ht22 : RJ w1 w22 p s g g10 j3 v3 A3 c3 B3 kk3 d3 f0 gen3 cnt3 := RJ.below (by assumption) hb22; obtain ⟨qa22, qb22, qc22⟩ := ht22.loads; (try replace hS1 := RRB.below hS1 hb22); clear hb22)
                      | (go_at_call 20; refine (ref06_Same _ _ _ _ _ _ L1 L1 _ hS1 hT1).mono ?_; rw [decide_eq_true rfl]; rintro e w23 ⟨rfl, hb23⟩; have ht23 : RJ w1 w23 p s g g10 j3 v3 A3 c3 B3 kk3 d3 f0 gen3 cnt3 := RJ.below (by assumption) hb23; obtain ⟨qa23, qb23, qc23⟩ := ht23.loads; clear hb23 hS1 hT1)
                      | (go_at_call 21; with_reducible refine (HS2.out _ (by assumption)).mono ?_; rintro e w24 ⟨A24, c24, rfl, hS2, hb24⟩; have ht24 : RJ w1 w24 p s g g10 j3 v3 A3 c3 B3 kk3 d3 f0 gen3 cnt3 := RJ.below (by assumption) hb24; obtain ⟨qa24, qb24, qc24⟩ := ht24.loads; (try replace hT2 := RRB.below hT2 hb24); clear hb24)
                      | (go_at_call 22; with_reducible refine (HT2.out _ (by assumption)).mono ?_; rintro e w25 ⟨A25, c25, rfl, hT2, hb25⟩; have ht25 : RJ w1 w25 p s g g10 j3 v3 A3 c3 B3 kk3 d3 f0 gen3 cnt3 := RJ.below (by assumption) hb25; obtain ⟨qa25, qb25, qc25⟩ := ht25.loads; (try replace hS2 := RRB.below hS2 hb25); clear hb25)
                      | (go_at_call 20; refine (ref06_Same _ _ _ _ _ _ L2 L2 _ hS2 hT2).mono ?_; rw [decide_eq_true rfl]; rintro e w26 ⟨rfl, hb26⟩; have ht26 : RJ w1 w26 p s g g10 j3 v3 A3 c3 B3 kk3 d3 f0 gen3 cnt3 := RJ.below (by assumption) hb26; obtain ⟨qa26, qb26, qc26⟩ := ht26.loads; clear hb26 hS2 hT2))
                  all_goals
                    go_wp2_with fail
                    go_roundw
                    case rel => exact ⟨k + 1, j3, _, _, _, _, _, _, _, _, by omega, rfl, by rw [hwk1], Lib.hid (by assumption), H53⟩
                    case measure =>
                      rw [hwk1]
                      simp only [intOf, Int.toNat_natCast]
                      omega
                · have qg : decide ((1 : Int) < (gen3 : Int)) = false := decide_eq_false (by omega)
                  have qgn : decide (1 < gen3) = false := decide_eq_false (by omega)
                  clear hL1 hgp hg1 hpl3 hft3 hgl3 HR3
                  refine wp_region_only (S := fun W' => W'.cell? ⟨g10, 1, none⟩ = some (.int .u64 (gen3 : Int)) ∧ W'.cell? ⟨g10, 2, none⟩ = some (.int .i64 (cnt3 : Int)) ∧ (ldD (.pointer (some ⟨g, 0, none⟩))).run Try.prog W' = .ok (.agg (rdC A3 c3 B3 kk3 d3).toArray) W' ∧ RJ w1 W' p s g g10 j3 v3 A3 c3 B3 kk3 d3 f0 gen3 cnt3) (by kernel_rfl) (⟨q1, q2, q3, htd⟩ : wd.drew.cell? ⟨g10, 1, none⟩ = some (.int .u64 (gen3 : Int)) ∧ wd.drew.cell? ⟨g10, 2, none⟩ = some (.int .i64 (cnt3 : Int)) ∧ (ldD (.pointer (some ⟨g, 0, none⟩))).run Try.prog wd.drew = .ok (.agg (rdC A3 c3 B3 kk3 d3).toArray) wd.drew ∧ RJ w1 wd.drew p s g g10 j3 v3 A3 c3 B3 kk3 d3 f0 gen3 cnt3) (fun hS => ?_)
                  clear q1 q2 q3 htd
                  refine wpAnyH_take (i := 0) (v := ?_) (by simp only [List.getElem?_toArray, List.getElem?_cons_succ, List.getElem?_cons_zero]; rfl) (by kernel_rfl) (by kernel_rfl) (by kernel_rfl) (fun _ _ _ h => h) (Or.inl ⟨by rfl, ?_⟩) hS ?_
                  rotate_left
                  · intro w hSw
                    obtain ⟨y1, y2, y3, -⟩ := hSw
                    go_simp
                    try with_reducible rfl
                  try simp only [Act.put, List.setIfInBounds_toArray, List.set_cons_zero, List.set_cons_succ]
                  refine wpAnyH_take (i := 1) (v := ?_) (by simp only [List.getElem?_toArray, List.getElem?_cons_succ, List.getElem?_cons_zero]; rfl) (by kernel_rfl) (by kernel_rfl) (by kernel_rfl) (fun _ _ _ h => h) (Or.inl ⟨by rfl, ?_⟩) hS ?_
                  rotate_left
                  · intro w hSw
                    obtain ⟨y1, y2, y3, -⟩ := hSw
                    go_simp
                    try with_reducible rfl
                  try simp only [Act.put, List.setIfInBounds_toArray, List.set_cons_zero, List.set_cons_succ]
                  refine wpAnyH_take (i := 2) (v := ?_) (by simp only [List.getElem?_toArray, List.getElem?_cons_succ, List.getElem?_cons_zero]; rfl) (by kernel_rfl) (by kernel_rfl) (by kernel_rfl) (fun _ _ _ h => h) (Or.inl ⟨by rfl, ?_⟩) hS ?_
                  rotate_left
                  · intro w hSw
                    obtain ⟨y1, y2, y3, -⟩ := hSw
                    go_simp
                    try with_reducible rfl
                  try simp only [Act.put, List.setIfInBounds_toArray, List.set_cons_zero, List.set_cons_succ]
                  refine wpAnyH_take (i := 3) (v := ?_) (by simp only [List.getElem?_toArray, List.getElem?_cons_succ, List.getElem?_cons_zero]; rfl) (by kernel_rfl) (by kernel_rfl) (by kernel_rfl) (fun _ _ _ h => h) (Or.inl ⟨by rfl, ?_⟩) hS ?_
                  rotate_left
                  · intro w hSw
                    obtain ⟨y1, y2, y3, -⟩ := hSw
                    go_simp
                    try with_reducible rfl
                  try simp only [Act.put, List.setIfInBounds_toArray, List.set_cons_zero, List.set_cons_succ]
                  refine wpAnyH_take (i := 4) (v := ?_) (by simp only [List.getElem?_toArray, List.getElem?_cons_succ, List.getElem?_cons_zero]; rfl) (by kernel_rfl) (by kernel_rfl) (by kernel_rfl) (fun _ _ _ h => h) (Or.inl ⟨by rfl, ?_⟩) hS ?_
                  rotate_left
                  · intro w hSw
                    obtain ⟨y1, y2, y3, -⟩ := hSw
                    go_simp
                    try with_reducible rfl
                  try simp only [Act.put, List.setIfInBounds_toArray, List.set_cons_zero, List.set_cons_succ]
                  refine wpAnyH_take (i := 5) (v := ?_) (by simp only [List.getElem?_toArray, List.getElem?_cons_succ, List.getElem?_cons_zero]; rfl) (by kernel_rfl) (by kernel_rfl) (by kernel_rfl) (fun _ _ _ h => h) (Or.inl ⟨by rfl, ?_⟩) hS ?_
                  rotate_left
                  · intro w hSw
                    obtain ⟨y1, y2, y3, -⟩ := hSw
                    go_simp
                    try with_reducible rfl
                  try simp only [Act.put, List.setIfInBounds_toArray, List.set_cons_zero, List.set_cons_succ]
                  refine wpAnyH_take (i := 6) (v := ?_) (by simp only [List.getElem?_toArray, List.getElem?_cons_succ, List.getElem?_cons_zero]; rfl) (by kernel_rfl) (by kernel_rfl) (by kernel_rfl) (fun _ _ _ h => h) (Or.inl ⟨by rfl, ?_⟩) hS ?_
                  rotate_left
                  · intro w hSw
                    obtain ⟨y1, y2, y3, -⟩ := hSw
                    go_simp
                    try with_reducible rfl
                  try simp only [Act.put, List.setIfInBounds_toArray, List.set_cons_zero, List.set_cons_succ]
                  refine wpAnyH_take (i := 7) (v := ?_) (by simp only [List.getElem?_toArray, List.getElem?_cons_succ, List.getElem?_cons_zero]; rfl) (by kernel_rfl) (by kernel_rfl) (by kernel_rfl) (fun _ _ _ h => h) (Or.inl ⟨by rfl, ?_⟩) hS ?_
                  rotate_left
                  · intro w hSw
                    obtain ⟨y1, y2, y3, -⟩ := hSw
                    go_simp
                    try with_reducible rfl
                  try simp only [Act.put, List.setIfInBounds_toArray, List.set_cons_zero, List.set_cons_succ]
                  refine wpAnyH_take (i := 8) (v := ?_) (by simp only [List.getElem?_toArray, List.getElem?_cons_succ, List.getElem?_cons_zero]; rfl) (by kernel_rfl) (by kernel_rfl) (by kernel_rfl) (fun _ _ _ h => h) (Or.inl ⟨by rfl, ?_⟩) hS ?_
                  rotate_left
                  · intro w hSw
                    obtain ⟨y1, y2, y3, -⟩ := hSw
                    go_simp
                    try with_reducible rfl
                  try simp only [Act.put, List.setIfInBounds_toArray, List.set_cons_zero, List.set_cons_succ]
                  refine wpAnyH_take (i := 10) (v := ?_) (by simp only [List.getElem?_toArray, List.getElem?_cons_succ, List.getElem?_cons_zero]; rfl) (by kernel_rfl) (by kernel_rfl) (by kernel_rfl) (fun _ _ _ h => h) (Or.inl ⟨by rfl, ?_⟩) hS ?_
                  rotate_left
                  · intro w hSw
                    obtain ⟨y1, y2, y3, -⟩ := hSw
                    go_simp
                    try with_reducible rfl
                  try simp only [Act.put, List.setIfInBounds_toArray, List.set_cons_zero, List.set_cons_succ]
                  refine wpAnyH_take (i := 11) (v := ?_) (by simp only [List.getElem?_toArray, List.getElem?_cons_succ, List.getElem?_cons_zero]; rfl) (by kernel_rfl) (by kernel_rfl) (by kernel_rfl) (fun _ _ _ h => h) (Or.inl ⟨by rfl, ?_⟩) hS ?_
                  rotate_left
                  · intro w hSw
                    obtain ⟨y1, y2, y3, -⟩ := hSw
                    go_simp
                    try with_reducible rfl
                  try simp only [Act.put, List.setIfInBounds_toArray, List.set_cons_zero, List.set_cons_succ]
                  refine wpAnyH_ready (rs := [9]) (by kernel_rfl) (by simp) (AllReadyH.cons (by simp only [List.getElem?_toArray, List.getElem?_cons_succ, List.getElem?_cons_zero]; rfl) (fun K hK => ?_) (AllReadyH.nil))
                  go_simp
                  have hrj := hS.2.2.2
                  clear hS
                  refine (HL.out _ hrj).mono ?_
                  rintro e w20 ⟨rfl, hb20⟩
                  have ht20 : RJ w1 w20 p s g g10 j3 v3 A3 c3 B3 kk3 d3 f0 gen3 cnt3 := RJ.below hrj hb20
                  have hz : w20.cell? ⟨g10, 1, none⟩ = some (.int .u64 (gen3 : Int)) ∧ w20.cell? ⟨g10, 2, none⟩ = some (.int .i64 (cnt3 : Int)) ∧ (ldD (.pointer (some ⟨g, 0, none⟩))).run Try.prog w20 = .ok (.agg (rdC A3 c3 B3 kk3 d3).toArray) w20 ∧ RJ w1 w20 p s g g10 j3 v3 A3 c3 B3 kk3 d3 f0 gen3 cnt3 := ⟨ht20.loads.1, ht20.loads.2.1, ht20.loads.2.2, ht20⟩
                  clear hrj ht20 hb20
                  try simp only [Act.put, List.setIfInBounds_toArray, List.set_cons_zero, List.set_cons_succ]
                  refine hK.out _ _ hz (fun hS => ?_)
                  clear hK K hz
                  try simp only [Act.put, List.setIfInBounds_toArray, List.set_cons_zero, List.set_cons_succ]
                  refine wpAnyH_take (i := 12) (v := ?_) (by simp only [List.getElem?_toArray, List.getElem?_cons_succ, List.getElem?_cons_zero]; rfl) (by kernel_rfl) (by kernel_rfl) (by kernel_rfl) (fun _ _ _ h => h) (Or.inl ⟨by rfl, ?_⟩) hS ?_
                  rotate_left
                  · intro w hSw
                    obtain ⟨y1, y2, y3, -⟩ := hSw
                    go_simp
                    try with_reducible rfl
                  try simp only [Act.put, List.setIfInBounds_toArray, List.set_cons_zero, List.set_cons_succ]
                  refine wpAnyH_take (i := 13) (v := ?_) (by simp only [List.getElem?_toArray, List.getElem?_cons_succ, List.getElem?_cons_zero]; rfl) (by kernel_rfl) (by kernel_rfl) (by kernel_rfl) (fun _ _ _ h => h) (Or.inl ⟨by rfl, ?_⟩) hS ?_
                  rotate_left
                  · intro w hSw
                    obtain ⟨y1, y2, y3, -⟩ := hSw
                    go_simp
                    try with_reducible rfl
                  try simp only [Act.put, List.setIfInBounds_toArray, List.set_cons_zero, List.set_cons_succ]
                  refine wpAnyH_take (i := 14) (v := ?_) (by simp only [List.getElem?_toArray, List.getElem?_cons_succ, List.getElem?_cons_zero]; rfl) (by kernel_rfl) (by kernel_rfl) (by kernel_rfl) (fun _ _ _ h => h) (Or.inl ⟨by rfl, ?_⟩) hS ?_
                  rotate_left
                  · intro w hSw
                    obtain ⟨y1, y2, y3, -⟩ := hSw
                    go_simp
                    try with_reducible rfl
                  try simp only [Act.put, List.setIfInBounds_toArray, List.set_cons_zero, List.set_cons_succ]
                  refine wpAnyH_take (i := 15) (v := ?_) (by simp only [List.getElem?_toArray, List.getElem?_cons_succ, List.getElem?_cons_zero]; rfl) (by kernel_rfl) (by kernel_rfl) (by kernel_rfl) (fun _ _ _ h => h) (Or.inl ⟨by rfl, ?_⟩) hS ?_
                  rotate_left
                  · intro w hSw
                    obtain ⟨y1, y2, y3, -⟩ := hSw
                    go_simp
                    try with_reducible rfl
                  try simp only [Act.put, List.setIfInBounds_toArray, List.set_cons_zero, List.set_cons_succ]
                  refine wpAnyH_take (i := 16) (v := ?_) (by simp only [List.getElem?_toArray, List.getElem?_cons_succ, List.getElem?_cons_zero]; rfl) (by kernel_rfl) (by kernel_rfl) (by kernel_rfl) (fun _ _ _ h => h) (Or.inl ⟨by rfl, ?_⟩) hS ?_
                  rotate_left
                  · intro w hSw
                    obtain ⟨y1, y2, y3, -⟩ := hSw
                    go_simp
                    try with_reducible rfl
                  try simp only [Act.put, List.setIfInBounds_toArray, List.set_cons_zero, List.set_cons_succ]
                  refine wpAnyH_take (i := 17) (v := ?_) (by simp only [List.getElem?_toArray, List.getElem?_cons_succ, List.getElem?_cons_zero]; rfl) (by kernel_rfl) (by kernel_rfl) (by kernel_rfl) (fun _ _ _ h => h) (Or.inl ⟨by rfl, ?_⟩) hS ?_
                  rotate_left
                  · intro w hSw
                    obtain ⟨y1, y2, y3, -⟩ := hSw
                    go_simp
                    try with_reducible rfl
                  try simp only [Act.put, List.setIfInBounds_toArray, List.set_cons_zero, List.set_cons_succ]
                  refine wpAnyH_take (i := 18) (v := ?_) (by simp only [List.getElem?_toArray, List.getElem?_cons_succ, List.getElem?_cons_zero]; rfl) (by kernel_rfl) (by kernel_rfl) (by kernel_rfl) (fun _ _ _ h => h) (Or.inl ⟨by rfl, ?_⟩) hS ?_
                  rotate_left
                  · intro w hSw
                    obtain ⟨y1, y2, y3, -⟩ := hSw
                    go_simp
                    try with_reducible rfl
                  try simp only [Act.put, List.setIfInBounds_toArray, List.set_cons_zero, List.set_cons_succ]
                  refine wpAnyH_take (i := 20) (v := ?_) (by simp only [List.getElem?_toArray, List.getElem?_cons_succ, List.getElem?_cons_zero]; rfl) (by kernel_rfl) (by kernel_rfl) (by kernel_rfl) (fun _ _ _ h => h) (Or.inl ⟨by rfl, ?_⟩) hS ?_
                  rotate_left
                  · intro w hSw
                    obtain ⟨y1, y2, y3, -⟩ := hSw
                    go_simp
                    try with_reducible rfl
                  try simp only [Act.put, List.setIfInBounds_toArray, List.set_cons_zero, List.set_cons_succ]
                  refine wpAnyH_take (i := 21) (v := ?_) (by simp only [List.getElem?_toArray, List.getElem?_cons_succ, List.getElem?_cons_zero]; rfl) (by kernel_rfl) (by kernel_rfl) (by kernel_rfl) (fun _ _ _ h => h) (Or.inl ⟨by rfl, ?_⟩) hS ?_
                  rotate_left
                  · intro w hSw
                    obtain ⟨y1, y2, y3, -⟩ := hSw
                    go_simp
                    try with_reducible rfl
                  try simp only [Act.put, List.setIfInBounds_toArray, List.set_cons_zero, List.set_cons_succ]
                  refine wpAnyH_take (i := 22) (v := ?_) (by simp only [List.getElem?_toArray, List.getElem?_cons_succ, List.getElem?_cons_zero]; rfl) (by kernel_rfl) (by kernel_rfl) (by kernel_rfl) (fun _ _ _ h => h) (Or.inl ⟨by rfl, ?_⟩) hS ?_
                  rotate_left
                  · intro w hSw
                    obtain ⟨y1, y2, y3, -⟩ := hSw
                    go_simp
                    try with_reducible rfl
                  try simp only [Act.put, List.setIfInBounds_toArray, List.set_cons_zero, List.set_cons_succ]
                  refine wpAnyH_take (i := 23) (v := ?_) (by simp only [List.getElem?_toArray, List.getElem?_cons_succ, List.getElem?_cons_zero]; rfl) (by kernel_rfl) (by kernel_rfl) (by kernel_rfl) (fun _ _ _ h => h) (Or.inl ⟨by rfl, ?_⟩) hS ?_
                  rotate_left
                  · intro w hSw
                    obtain ⟨y1, y2, y3, -⟩ := hSw
                    go_simp
                    try with_reducible rfl
                  try simp only [Act.put, List.setIfInBounds_toArray, List.set_cons_zero, List.set_cons_succ]
                  refine wpAnyH_ready (rs := [19]) (by kernel_rfl) (by simp) (AllReadyH.cons (by simp only [List.getElem?_toArray, List.getElem?_cons_succ, List.getElem?_cons_zero]; rfl) (fun K hK => ?_) (AllReadyH.nil))
                  go_simp
                  have hrj := hS.2.2.2
                  clear hS
                  refine (HS1.out _ hrj).mono ?_
                  rintro e w21 ⟨A21, c21, rfl, hS1, hb21⟩
                  have ht21 : RJ w1 w21 p s g g10 j3 v3 A3 c3 B3 kk3 d3 f0 gen3 cnt3 := RJ.below hrj hb21
                  (try replace hT1 := RRB.below hT1 hb21)
                  have hz : w21.cell? ⟨g10, 1, none⟩ = some (.int .u64 (gen3 : Int)) ∧ w21.cell? ⟨g10, 2, none⟩ = some (.int .i64 (cnt3 : Int)) ∧ (ldD (.pointer (some ⟨g, 0, none⟩))).run Try.prog w21 = .ok (.agg (rdC A3 c3 B3 kk3 d3).toArray) w21 ∧ RJ w1 w21 p s g g10 j3 v3 A3 c3 B3 kk3 d3 f0 gen3 cnt3 := ⟨ht21.loads.1, ht21.loads.2.1, ht21.loads.2.2, ht21⟩
                  clear hrj ht21 hb21
                  try simp only [Act.put, List.setIfInBounds_toArray, List.set_cons_zero, List.set_cons_succ]
                  refine hK.out _ _ hz (fun hS => ?_)
                  clear hK K hz
                  try simp only [Act.put, List.setIfInBounds_toArray, List.set_cons_zero, List.set_cons_succ]
                  refine wpAnyH_ready (rs := [24]) (by kernel_rfl) (by simp) (AllReadyH.cons (by simp only [List.getElem?_toArray, List.getElem?_cons_succ, List.getElem?_cons_zero]; rfl) (fun K hK => ?_) (AllReadyH.nil))
                  go_simp
                  have hrj := hS.2.2.2
                  clear hS
                  refine (HT1.out _ hrj).mono ?_
                  rintro e w22 ⟨A22, c22, rfl, hT1, hb22⟩
                  have ht22 : RJ w1 w22 p s g g10 j3 v3 A3 c3 B3 kk3 d3 f0 gen3 cnt3 := RJ.below hrj hb22
                  (try replace hS1 := RRB.below hS1 hb22)
                  have hz : w22.cell? ⟨g10, 1, none⟩ = some (.int .u64 (gen3 : Int)) ∧ w22.cell? ⟨g10, 2, none⟩ = some (.int .i64 (cnt3 : Int)) ∧ (ldD (.pointer (some ⟨g, 0, none⟩))).run Try.prog w22 = .ok (.agg (rdC A3 c3 B3 kk3 d3).toArray) w22 ∧ RJ w1 w22 p s g g10 j3 v3 A3 c3 B3 kk3 d3 f0 gen3 cnt3 := ⟨ht22.loads.1, ht22.loads.2.1, ht22.loads.2.2, ht22⟩
                  clear hrj ht22 hb22
                  try simp only [Act.put, List.setIfInBounds_toArray, List.set_cons_zero, List.set_cons_succ]
                  refine hK.out _ _ hz (fun hS => ?_)
                  clear hK K hz
                  try simp only [Act.put, List.setIfInBounds_toArray, List.set_cons_zero, List.set_cons_succ]
                  refine wpAnyH_ready (rs := [25]) (by kernel_rfl) (by simp) (AllReadyH.cons (by simp only [List.getElem?_toArray, List.getElem?_cons_succ, List.getElem?_cons_zero]; rfl) (fun K hK => ?_) (AllReadyH.nil))
                  go_simp
                  have hrj := hS.2.2.2
                  clear hS
                  refine (ref06_Same _ _ _ _ _ _ L1 L1 _ hS1 hT1).mono ?_
                  rintro e w23 ⟨he, hb23⟩
                  have ht23 : RJ w1 w23 p s g g10 j3 v3 A3 c3 B3 kk3 d3 f0 gen3 cnt3 := RJ.below hrj hb23
                  rw [decide_eq_true rfl] at he
                  subst he
                  clear hS1 hT1
                  have hz : w23.cell? ⟨g10, 1, none⟩ = some (.int .u64 (gen3 : Int)) ∧ w23.cell? ⟨g10, 2, none⟩ = some (.int .i64 (cnt3 : Int)) ∧ (ldD (.pointer (some ⟨g, 0, none⟩))).run Try.prog w23 = .ok (.agg (rdC A3 c3 B3 kk3 d3).toArray) w23 ∧ RJ w1 w23 p s g g10 j3 v3 A3 c3 B3 kk3 d3 f0 gen3 cnt3 := ⟨ht23.loads.1, ht23.loads.2.1, ht23.loads.2.2, ht23⟩
                  clear hrj ht23 hb23
                  try simp only [Act.put, List.setIfInBounds_toArray, List.set_cons_zero, List.set_cons_succ]
                  refine hK.out _ _ hz (fun hS => ?_)
                  clear hK K hz
                  try simp only [Act.put, List.setIfInBounds_toArray, List.set_cons_zero, List.set_cons_succ]
                  refine wpAnyH_take (i := 26) (v := ?_) (by simp only [List.getElem?_toArray, List.getElem?_cons_succ, List.getElem?_cons_zero]; rfl) (by kernel_rfl) (by kernel_rfl) (by kernel_rfl) (fun _ _ _ h => h) (Or.inl ⟨by rfl, ?_⟩) hS ?_
                  rotate_left
                  · intro w hSw
                    obtain ⟨y1, y2, y3, -⟩ := hSw
                    go_simp
                    try with_reducible rfl
                  try simp only [Act.put, List.setIfInBounds_toArray, List.set_cons_zero, List.set_cons_succ]
                  refine wpAnyH_take (i := 27) (v := ?_) (by simp only [List.getElem?_toArray, List.getElem?_cons_succ, List.getElem?_cons_zero]; rfl) (by kernel_rfl) (by kernel_rfl) (by kernel_rfl) (fun _ _ _ h => h) (Or.inl ⟨by rfl, ?_⟩) hS ?_
                  rotate_left
                  · intro w hSw
                    obtain ⟨y1, y2, y3, -⟩ := hSw
                    go_simp
                    try with_reducible rfl
                  try simp only [Act.put, List.setIfInBounds_toArray, List.set_cons_zero, List.set_cons_succ]
                  refine wpAnyH_take (i := 28) (v := ?_) (by simp only [List.getElem?_toArray, List.getElem?_cons_succ, List.getElem?_cons_zero]; rfl) (by kernel_rfl) (by kernel_rfl) (by kernel_rfl) (fun _ _ _ h => h) (Or.inl ⟨by rfl, ?_⟩) hS ?_
                  rotate_left
                  · intro w hSw
                    obtain ⟨y1, y2, y3, -⟩ := hSw
                    go_simp
                    try with_reducible rfl
                  try simp only [Act.put, List.setIfInBounds_toArray, List.set_cons_zero, List.set_cons_succ]
                  refine wpAnyH_take (i := 29) (v := ?_) (by simp only [List.getElem?_toArray, List.getElem?_cons_succ, List.getElem?_cons_zero]; rfl) (by kernel_rfl) (by kernel_rfl) (by kernel_rfl) (fun _ _ _ h => h) (Or.inl ⟨by rfl, ?_⟩) hS ?_
                  rotate_left
                  · intro w hSw
                    obtain ⟨y1, y2, y3, -⟩ := hSw
                    go_simp
                    try with_reducible rfl
                  try simp only [Act.put, List.setIfInBounds_toArray, List.set_cons_zero, List.set_cons_succ]
                  refine wpAnyH_take (i := 30) (v := ?_) (by simp only [List.getElem?_toArray, List.getElem?_cons_succ, List.getElem?_cons_zero]; rfl) (by kernel_rfl) (by kernel_rfl) (by kernel_rfl) (fun _ _ _ h => h) (Or.inl ⟨by rfl, ?_⟩) hS ?_
                  rotate_left
                  · intro w hSw
                    obtain ⟨y1, y2, y3, -⟩ := hSw
                    go_simp
                    try with_reducible rfl
                  try simp only [Act.put, List.setIfInBounds_toArray, List.set_cons_zero, List.set_cons_succ]
                  refine wpAnyH_take (i := 31) (v := ?_) (by simp only [List.getElem?_toArray, List.getElem?_cons_succ, List.getElem?_cons_zero]; rfl) (by kernel_rfl) (by kernel_rfl) (by kernel_rfl) (fun _ _ _ h => h) (Or.inl ⟨by rfl, ?_⟩) hS ?_
                  rotate_left
                  · intro w hSw
                    obtain ⟨y1, y2, y3, -⟩ := hSw
                    go_simp
                    try with_reducible rfl
                  try simp only [Act.put, List.setIfInBounds_toArray, List.set_cons_zero, List.set_cons_succ]
                  refine wpAnyH_take (i := 32) (v := ?_) (by simp only [List.getElem?_toArray, List.getElem?_cons_succ, List.getElem?_cons_zero]; rfl) (by kernel_rfl) (by kernel_rfl) (by kernel_rfl) (fun _ _ _ h => h) (Or.inl ⟨by rfl, ?_⟩) hS ?_
                  rotate_left
                  · intro w hSw
                    obtain ⟨y1, y2, y3, -⟩ := hSw
                    go_simp
                    try with_reducible rfl
                  try simp only [Act.put, List.setIfInBounds_toArray, List.set_cons_zero, List.set_cons_succ]
                  refine wpAnyH_take (i := 33) (v := undef) (by simp only [List.getElem?_toArray, List.getElem?_cons_succ, List.getElem?_cons_zero]; rfl) (by kernel_rfl) (by kernel_rfl) (by kernel_rfl) (fun _ _ _ h => h) (Or.inr ⟨by rfl, rfl⟩) hS ?_
                  try simp only [Act.put, List.setIfInBounds_toArray, List.set_cons_zero, List.set_cons_succ]
                  refine wpAnyH_take (i := 34) (v := undef) (by simp only [List.getElem?_toArray, List.getElem?_cons_succ, List.getElem?_cons_zero]; rfl) (by kernel_rfl) (by kernel_rfl) (by kernel_rfl) (fun _ _ _ h => h) (Or.inr ⟨by rfl, rfl⟩) hS ?_
                  try simp only [Act.put, List.setIfInBounds_toArray, List.set_cons_zero, List.set_cons_succ]
                  refine wpAnyH_take (i := 35) (v := undef) (by simp only [List.getElem?_toArray, List.getElem?_cons_succ, List.getElem?_cons_zero]; rfl) (by kernel_rfl) (by kernel_rfl) (by kernel_rfl) (fun _ _ _ h => h) (Or.inr ⟨by rfl, rfl⟩) hS ?_
                  try simp only [Act.put, List.setIfInBounds_toArray, List.set_cons_zero, List.set_cons_succ]
                  refine wpAnyH_take (i := 36) (v := undef) (by simp only [List.getElem?_toArray, List.getElem?_cons_succ, List.getElem?_cons_zero]; rfl) (by kernel_rfl) (by kernel_rfl) (by kernel_rfl) (fun _ _ _ h => h) (Or.inr ⟨by rfl, rfl⟩) hS ?_
                  try simp only [Act.put, List.setIfInBounds_toArray, List.set_cons_zero, List.set_cons_succ]
                  refine wpAnyH_take (i := 37) (v := undef) (by simp only [List.getElem?_toArray, List.getElem?_cons_succ, List.getElem?_cons_zero]; rfl) (by kernel_rfl) (by kernel_rfl) (by kernel_rfl) (fun _ _ _ h => h) (Or.inr ⟨by rfl, rfl⟩) hS ?_
                  try simp only [Act.put, List.setIfInBounds_toArray, List.set_cons_zero, List.set_cons_succ]
                  refine wpAnyH_take (i := 38) (v := undef) (by simp only [List.getElem?_toArray, List.getElem?_cons_succ, List.getElem?_cons_zero]; rfl) (by kernel_rfl) (by kernel_rfl) (by kernel_rfl) (fun _ _ _ h => h) (Or.inr ⟨by rfl, rfl⟩) hS ?_
                  try simp only [Act.put, List.setIfInBounds_toArray, List.set_cons_zero, List.set_cons_succ]
                  refine wpAnyH_take (i := 39) (v := undef) (by simp only [List.getElem?_toArray, List.getElem?_cons_succ, List.getElem?_cons_zero]; rfl) (by kernel_rfl) (by kernel_rfl) (by kernel_rfl) (fun _ _ _ h => h) (Or.inr ⟨by rfl, rfl⟩) hS ?_
                  try simp only [Act.put, List.setIfInBounds_toArray, List.set_cons_zero, List.set_cons_succ]
                  refine wpAnyH_take (i := 40) (v := undef) (by simp only [List.getElem?_toArray, List.getElem?_cons_succ, List.getElem?_cons_zero]; rfl) (by kernel_rfl) (by kernel_rfl) (by kernel_rfl) (fun _ _ _ h => h) (Or.inr ⟨by rfl, rfl⟩) hS ?_
                  try simp only [Act.put, List.setIfInBounds_toArray, List.set_cons_zero, List.set_cons_succ]
                  refine wpAnyH_take (i := 41) (v := undef) (by simp only [List.getElem?_toArray, List.getElem?_cons_succ, List.getElem?_cons_zero]; rfl) (by kernel_rfl) (by kernel_rfl) (by kernel_rfl) (fun _ _ _ h => h) (Or.inr ⟨by rfl, rfl⟩) hS ?_
                  try simp only [Act.put, List.setIfInBounds_toArray, List.set_cons_zero, List.set_cons_succ]
                  refine wpAnyH_take (i := 42) (v := undef) (by simp only [List.getElem?_toArray, List.getElem?_cons_succ, List.getElem?_cons_zero]; rfl) (by kernel_rfl) (by kernel_rfl) (by kernel_rfl) (fun _ _ _ h => h) (Or.inr ⟨by rfl, rfl⟩) hS ?_
                  try simp only [Act.put, List.setIfInBounds_toArray, List.set_cons_zero, List.set_cons_succ]
                  refine wpAnyH_take (i := 43) (v := undef) (by simp only [List.getElem?_toArray, List.getElem?_cons_succ, List.getElem?_cons_zero]; rfl) (by kernel_rfl) (by kernel_rfl) (by kernel_rfl) (fun _ _ _ h => h) (Or.inr ⟨by rfl, rfl⟩) hS ?_
                  try simp only [Act.put, List.setIfInBounds_toArray, List.set_cons_zero, List.set_cons_succ]
                  refine wpAnyH_take (i := 44) (v := undef) (by simp only [List.getElem?_toArray, List.getElem?_cons_succ, List.getElem?_cons_zero]; rfl) (by kernel_rfl) (by kernel_rfl) (by kernel_rfl) (fun _ _ _ h => h) (Or.inr ⟨by rfl, rfl⟩) hS ?_
                  try simp only [Act.put, List.setIfInBounds_toArray, List.set_cons_zero, List.set_cons_succ]
                  refine wpAnyH_take (i := 45) (v := undef) (by simp only [List.getElem?_toArray, List.getElem?_cons_succ, List.getElem?_cons_zero]; rfl) (by kernel_rfl) (by kernel_rfl) (by kernel_rfl) (fun _ _ _ h => h) (Or.inr ⟨by rfl, rfl⟩) hS ?_
                  try simp only [Act.put, List.setIfInBounds_toArray, List.set_cons_zero, List.set_cons_succ]
                  refine wpAnyH_take (i := 46) (v := undef) (by simp only [List.getElem?_toArray, List.getElem?_cons_succ, List.getElem?_cons_zero]; rfl) (by kernel_rfl) (by kernel_rfl) (by kernel_rfl) (fun _ _ _ h => h) (Or.inr ⟨by rfl, rfl⟩) hS ?_
                  try simp only [Act.put, List.setIfInBounds_toArray, List.set_cons_zero, List.set_cons_succ]
                  refine wpAnyH_take (i := 47) (v := ?_) (by simp only [List.getElem?_toArray, List.getElem?_cons_succ, List.getElem?_cons_zero]; rfl) (by kernel_rfl) (by kernel_rfl) (by kernel_rfl) (fun _ _ _ h => h) (Or.inl ⟨by rfl, ?_⟩) hS ?_
                  rotate_left
                  · intro w hSw
                    obtain ⟨y1, y2, y3, -⟩ := hSw
                    go_simp
                    try with_reducible rfl
                  try simp only [Act.put, List.setIfInBounds_toArray, List.set_cons_zero, List.set_cons_succ]
                  refine wpAnyH_take (i := 48) (v := ?_) (by simp only [List.getElem?_toArray, List.getElem?_cons_succ, List.getElem?_cons_zero]; rfl) (by kernel_rfl) (by kernel_rfl) (by kernel_rfl) (fun _ _ _ h => h) (Or.inl ⟨by rfl, ?_⟩) hS ?_
                  rotate_left
                  · intro w hSw
                    obtain ⟨y1, y2, y3, -⟩ := hSw
                    go_simp
                    try with_reducible rfl
                  try simp only [Act.put, List.setIfInBounds_toArray, List.set_cons_zero, List.set_cons_succ]
                  refine wpAnyH_done (by kernel_rfl) ?_ _
                  dsimp only [OnlyN]
                  go_wp2_with fail
                  go_roundw
                  case rel => exact ⟨k + 1, j3, _, _, _, _, _, _, _, _, by omega, rfl, by rw [hwk1], Lib.hid hS.2.2.2, H53⟩
                  case measure =>
                    rw [hwk1]
                    simp only [intOf, Int.toNat_natCast]
                    omega
        · obtain rfl : k = n := by omega
          have hkk : ¬ ((k : Int) < (k : Int)) := by omega
          have htwo := HR.out.two
          have HT := Lib.hid htwo
          have HL24 : Hid (d.stable.length = 24) := Lib.hid H5.out.len
          clear HR H5 htwo hlt
          go_wp2_with fail
          go_loopw [16] (fun i wx => ∃ z : Nat, z ≤ 24 ∧ i = .int .i64 z ∧ Hid (Two w1 wx p s g v A c B kk d)) (fun i _ => (24 - intOf i).toNat)
          case atStart => exact ⟨0, by omega, rfl, HT⟩
          case round =>
            clear HT
            obtain ⟨m, hm0, rfl, HT⟩ := hrel
            by_cases hm : m < 24
            · have qm : decide ((m : Int) < (24 : Int)) = true := decide_eq_true (by omega)
              have qmn : decide (m < 24) = true := decide_eq_true hm
              have hml : m < d.stable.length := by have := HL24.out; omega
              have htw := HT.out
              have htd := htw.below ((Below.refl _ _).drew)
              have q1 := run_ldD htd.row
              have heq : ∀ w, (Op.equalIn 10000 55 (.agg (bv (secAt d.stable m)).toArray) (.agg (bv (secAt d.stable m)).toArray)).run Try.prog w = .ok true w := fun w => by
                have := eq37 w (secAt d.stable m) (secAt d.stable m) (htw.rd.secL m hml) (htw.rd.secL m hml)
                rwa [decide_eq_true rfl] at this
              clear HT htw
              go_wp2_with fail
              go_region_held3 (fun w' => (ldD (.pointer (some ⟨g, 0, none⟩))).run Try.prog w' = .ok (.agg (rdC A c B kk d).toArray) w' ∧ Two w1 w' p s g v A c B kk d) (first | go_keep | exact ⟨run_ldD (Two.row (by assumption)), by assumption⟩)
                (first
                  | (go_at_call 23; refine (disk_Stable_yes (Two.disk (by assumption)) m hml).mono ?_; rintro e w5 ⟨rfl, hb5⟩; unfold secV; have ht5 : Two w1 w5 p s g v A c B kk d := Two.below (by assumption) hb5; have q50 := run_ldD ht5.row; clear hb5)
                  | (go_at_call 24; refine (ref_At_yes (Two.rd (by assumption)) m hml).mono ?_; rintro e w6 ⟨rfl, hb6⟩; unfold secV; have ht6 : Two w1 w6 p s g v A c B kk d := Two.below (by assumption) hb6; have q60 := run_ldD ht6.row; clear hb6))
              all_goals
                go_wp2_with fail
                go_roundw
                case rel => exact ⟨m + 1, by omega, congrArg (Value.int .i64) (by omega), Lib.hid (by assumption)⟩
                case measure =>
                  simp only [intOf]
                  omega
            · have qm : decide ((m : Int) < (24 : Int)) = false := decide_eq_false (by omega)
              have qmn : decide (m < 24) = false := decide_eq_false hm
              have HBZ := Lib.hid (bthen HB1.out HT.out.bl)
              clear HT
              go_wp2_with fail
              go_ret
              exact ⟨rfl, HBZ.out⟩
end Go.Proofs.Ytgakajofggmbjaa
