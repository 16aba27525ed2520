/- The reference's Pack. -/
import Derived.Test.YtccofdmnljbegaaRef02W2
import Derived.Test.YtccofdmnljbegaaOwn
import Derived.Test.YtccofdmnljbegaaRef02W1
namespace Go.Proofs.Ytccofdmnljbegaa
open Go.RowKit

theorem letterI_none {c : UInt8} (h : letterW c = none) : letterI c = -1 := by simp [letterI, h]
theorem letterI_some {c : UInt8} {k : Nat} (h : letterW c = some k) : letterI c = (k : Int) := by simp [letterI, h]
set_option maxRecDepth 20000 in
set_option maxHeartbeats 3200000 in
theorem ref02_pack_main (sh : List UInt8) (A : Option Addr) (n c : Nat) (l : List FieldD) (w : World) (hl : RFields w A n c l) (hs : sh.length = n) (hn : n ≤ 200) :
    Calls Try.prog 13 #[.string (strOf sh), .slice A n c] w (PackedPost w (packTo sh l n)) := by
  have HL := Lib.hid hl
  have hsz : (strOf sh).size = n := by simp [strOf, hs, ByteArray.size]
  have hd : decide ((200 : Int) < (n : Int)) = false := decide_eq_false (by omega)
  clear hl
  go_enter Try.func13, Try.ntmps13
  go_wp2_with fail
  go_loopw [6, 27] (fun u i wr => ∃ k o, k ≤ n ∧ i = .int .i64 (k : Nat) ∧ Hid (packTo sh l k = some o) ∧ Hid (wr.ownsRow w.heap.size 5 1 u o.length (bv o)) ∧ Hid (Below w.heap.size w wr) ∧ Hid (o.length ≤ k * 2000)) (fun _ i _ => n - (intOf i).toNat)
  case atStart => exact ⟨0, [], by omega, rfl, Lib.hid rfl, Lib.hid (own_empty w _ _ _ (Nat.le_refl _)), Lib.hid (below_alloc _ _), Lib.hid (by simp)⟩
  case round =>
    obtain ⟨k, o, hk, rfl, HP, HV, HB, HK⟩ := hrel
    by_cases hlt : k < n
    · have hk0 : (0 : Int) ≤ (k : Int) := Int.natCast_nonneg _
      have hk1 : (k : Int) < (n : Int) := by omega
      obtain ⟨b, o', rfl, hfs⟩ := (HL.out.below HB.out).2.2.2 (by omega)
      obtain ⟨hrg, hok⟩ := hfs k hlt
      have hokw : FieldOk w (fieldAt l k) := by
        obtain ⟨_, _, _, h⟩ := HL.out.2.2.2 (by omega)
        exact (h k hlt).2
      generalize hf : fieldAt l k = f at *
      obtain ⟨num, fA, fn, fc, fb⟩ := f
      have hst := packTo_step HP.out
      rw [hf] at hst
      have hg := strOf_get sh k
      have HRG := Lib.hid hrg
      have HOK := Lib.hid hok
      have HOW := Lib.hid hokw
      clear hf hrg hok hfs hokw
      have HNO : Hid (packTo sh l (k + 1) = none → packTo sh l n = none) := Lib.hid fun h => packTo_none sh l (k + 1) h n (by omega)
      generalize at8 sh k = ch at hst hg
      have HBW := Lib.hid (HB.out.alloc HB.out.size (.cells #[.int .u64 (num : Int), .slice fA fn fc] 40))
      have HVW := Lib.hid (HV.out.alloc (.cells #[.int .u64 (num : Int), .slice fA fn fc] 40))
      rcases letterW_cases ch with hlw | ⟨hlw, rfl⟩ | ⟨wd, hlw, hcw⟩
      · have HST : Hid (packTo sh l (k + 1) = none) := Lib.hid (by rw [hst, encF, hlw]; rfl)
        have HW := Lib.hid (ref02_width ch)
        rw [letterI_none hlw] at HW
        clear hst hlw
        go_wp2_with (first | (refine ld2 40 rfl _ rfl b (o' + k * 2) rfl (.int .u64 num) (.slice fA fn fc) HRG.out Try.underlying40 rfl Try.size87 ?_) | (refine st2 40 rfl _ _ rfl _ _ rfl rfl (.int .u64 num) (.slice fA fn fc) rfl rfl rfl Try.size87 rfl ?_))
        refine (HW.out _).mono ?_
        rintro e w' ⟨rfl, rfl⟩
        go_wp2_with fail
        go_ret2
        exact ⟨HBW.out, .inr ⟨HNO.out HST.out, rfl⟩⟩
      · have hfb : fb.length = fn := HOK.out.rb.1
        have HW := Lib.hid (ref02_width 98)
        rw [letterI_some hlw] at HW
        by_cases h1024 : 1024 < fn
        · have HST : Hid (packTo sh l (k + 1) = none) := Lib.hid (by rw [hst, encF, hlw]; simp only []; rw [if_pos (by rw [hfb]; exact h1024)]; rfl)
          have hd1 : decide ((1024 : Int) < (fn : Int)) = true := decide_eq_true (by omega)
          clear hst hlw h1024 hfb
          go_wp2_with (first | (refine ld2 40 rfl _ rfl b (o' + k * 2) rfl (.int .u64 num) (.slice fA fn fc) HRG.out Try.underlying40 rfl Try.size87 ?_) | (refine st2 40 rfl _ _ rfl _ _ rfl rfl (.int .u64 num) (.slice fA fn fc) rfl rfl rfl Try.size87 rfl ?_))
          refine (HW.out _).mono ?_
          rintro e w' ⟨rfl, rfl⟩
          go_wp2_with fail
          go_ret2
          exact ⟨HBW.out, .inr ⟨HNO.out HST.out, rfl⟩⟩
        · have HST : Hid (packTo sh l (k + 1) = some (o ++ (be fn 2 ++ fb))) := Lib.hid (by rw [hst, encF, hlw]; simp only []; rw [if_neg (by rw [hfb]; exact h1024), hfb]; rfl)
          have hd1 : decide ((1024 : Int) < (fn : Int)) = false := decide_eq_false (by omega)
          have HN := Lib.hid (ref02_Number fn 2 (by omega) (by omega) (by omega))
          have HH : Hid (fn ≤ 1024) := Lib.hid (by omega)
          have hfn0 : (0 : Int) ≤ (fn : Int) := Int.natCast_nonneg _
          have hfn1 : (fn : Int) ≤ 1024 := by omega
          have HWR : Hid (IntKind.u64.wrap (fn : Int) = (fn : Int)) := Lib.hid (wrap_u64 fn (by omega))
          have hub : u6.ownBlock ≠ some wr.heap.size := fun e => by have := (HV.out.lt _ e).2; omega
          have HU := Lib.hid hub
          have HFB := Lib.hid hfb
          clear hst hlw h1024 hfb hub
          go_wp2_with (first | (refine ld2 40 rfl _ rfl b (o' + k * 2) rfl (.int .u64 num) (.slice fA fn fc) HRG.out Try.underlying40 rfl Try.size87 ?_) | (refine st2 40 rfl _ _ rfl _ _ rfl rfl (.int .u64 num) (.slice fA fn fc) rfl rfl rfl Try.size87 rfl ?_))
          refine (HW.out _).mono ?_
          rintro e w' ⟨rfl, rfl⟩
          go_wp2_with fail
          refine (HN.out _).mono ?_
          rintro e w2 ⟨v, rfl, hown2, hb2⟩
          obtain ⟨A2, c2, rfl, hrb2⟩ := own_rb hown2
          have hb2' := bthen HBW.out hb2
          have hv2 := own_below HVW.out hb2
          have hcl : w2.cell? ⟨wr.heap.size, 1, none⟩ = some (.slice fA fn fc) := (World.cell?_of_block (hb2.block wr.heap.size (by simp))).trans (by simp [go_sem])
          have hlt2 := World.block_lt_of_cell? w2 _ hcl
          have HB2 := Lib.hid hb2'; have HV2 := Lib.hid hv2; have HR2 := Lib.hid hrb2; have HC2 := Lib.hid hcl; have HL2 := Lib.hid hlt2
          clear hown2 hb2 hrb2 hb2' hv2 hcl hlt2
          go_wp2_with (at_builtin; first
            | (refine wpList_append_any (w0 := w) w.heap.size rfl _ _ 22 5 (.int .u8 0) 1 1 rfl Try.underlying22 Try.infoU8' rfl (by decide) (by decide) u6 o.length _ A2 2 c2 (bv (be fn 2)) rfl rfl HV2.out HR2.out.rd (bv_one _) (by have := HK.out; omega) HB2.out HB2.out.size ?_
               intro v3 w3 hown3 hb3 hg3 ha3
               have hc3 : w3.cell? ⟨wr.heap.size, 1, none⟩ = some (.slice fA fn fc) := (hg3.cell_far _ HL2.out (fun e => HU.out e.symm)).trans HC2.out
               have HO3 := Lib.hid hown3; have HB3 := Lib.hid hb3
               clear hown3 hb3 hg3 ha3)
            | (refine wpList_append_any (w0 := w) w.heap.size rfl _ _ 22 5 (.int .u8 0) 1 1 rfl Try.underlying22 Try.infoU8' rfl (by decide) (by decide) v3 (o.length + 2) _ fA fn fc (bv fb) rfl rfl HO3.out ((HOW.out.rb.below HB3.out).rd) (bv_one _) (by have := HK.out; have := HH.out; omega) HB3.out HB3.out.size ?_
               intro v4 w4 hown4 hb4 hg4 ha4
               have HO4 := Lib.hid hown4; have HB4 := Lib.hid hb4
               clear hown4 hb4 hg4 ha4))
          go_roundw
          case rel => exact ⟨k + 1, _, by omega, by go_num, HST, by
            have := HO4.out
            rw [← bv_append, ← bv_append, show o.length + 2 + fn = (o ++ (be fn 2 ++ fb)).length by rw [List.length_append, List.length_append, be_length, HFB.out]; omega, List.append_assoc] at this
            exact this, HB4, by
            have := HK.out
            have := HH.out
            show (o ++ (be fn 2 ++ fb)).length ≤ (k + 1) * 2000
            rw [List.length_append, List.length_append, be_length, HFB.out]
            omega⟩
          case measure => simp [intOf]; omega
      · have HW := Lib.hid (ref02_width ch)
        rw [letterI_some hlw] at HW
        have hw8 : wd + 1 ≤ 8 := by omega
        have hw0 : ((wd + 1 : Nat) : Int) ≠ 0 := by omega
        have hw1 : decide (((wd + 1 : Nat) : Int) < 0) = false := decide_eq_false (by omega)
        have hw2 : (((wd + 1 : Nat) : Int) == 0) = false := by rw [beq_eq_false_iff_ne]; omega
        have HN := Lib.hid (ref02_Number num (wd + 1) HOK.out.num (by omega) hw8)
        by_cases hfit : num < 256 ^ (wd + 1)
        · have HST : Hid (packTo sh l (k + 1) = some (o ++ be num (wd + 1))) := Lib.hid (by rw [hst, encF, hlw]; simp only []; rw [if_pos hfit]; rfl)
          rw [decide_eq_true hfit] at HN
          clear hst hlw hcw hfit
          generalize hwd : wd + 1 = wi at *
          go_wp2_with (first | (refine ld2 40 rfl _ rfl b (o' + k * 2) rfl (.int .u64 num) (.slice fA fn fc) HRG.out Try.underlying40 rfl Try.size87 ?_) | (refine st2 40 rfl _ _ rfl _ _ rfl rfl (.int .u64 num) (.slice fA fn fc) rfl rfl rfl Try.size87 rfl ?_))
          refine (HW.out _).mono ?_
          rintro e w' ⟨rfl, rfl⟩
          go_wp2_with fail
          refine (HN.out _).mono ?_
          rintro e w2 ⟨v, rfl, hown2, hb2⟩
          obtain ⟨A2, c2, rfl, hrb2⟩ := own_rb hown2
          have hb2' := bthen HBW.out hb2
          have hv2 := own_below HVW.out hb2
          have HB2 := Lib.hid hb2'; have HV2 := Lib.hid hv2; have HR2 := Lib.hid hrb2
          clear hown2 hb2 hrb2 hb2' hv2
          go_wp2_with (at_builtin; go_must (refine wpList_append_any (w0 := w) w.heap.size rfl _ _ 22 5 (.int .u8 0) 1 1 rfl Try.underlying22 Try.infoU8' rfl (by decide) (by decide) u6 o.length _ A2 wi c2 (bv (be num wi)) rfl rfl HV2.out HR2.out.rd (bv_one _) (by have := HK.out; omega) HB2.out HB2.out.size ?_; intro v3 w3 hown3 hb3 hg3 ha3; have HO3 := Lib.hid hown3; have HB3 := Lib.hid hb3; clear hown3 hb3 hg3 ha3))
          go_roundw
          case rel => exact ⟨k + 1, _, by omega, by go_num, HST, by
            have := HO3.out
            rw [← bv_append, show o.length + wi = (o ++ be num wi).length by rw [List.length_append, be_length]] at this
            exact this, HB3, by
            have := HK.out
            show (o ++ be num wi).length ≤ (k + 1) * 2000
            rw [List.length_append, be_length]
            omega⟩
          case measure => simp [intOf]; omega
        · have HST : Hid (packTo sh l (k + 1) = none) := Lib.hid (by rw [hst, encF, hlw]; simp only []; rw [if_neg hfit]; rfl)
          rw [decide_eq_false hfit] at HN
          clear hst hlw hcw hfit
          generalize hwd : wd + 1 = wi at *
          go_wp2_with (first | (refine ld2 40 rfl _ rfl b (o' + k * 2) rfl (.int .u64 num) (.slice fA fn fc) HRG.out Try.underlying40 rfl Try.size87 ?_) | (refine st2 40 rfl _ _ rfl _ _ rfl rfl (.int .u64 num) (.slice fA fn fc) rfl rfl rfl Try.size87 rfl ?_))
          refine (HW.out _).mono ?_
          rintro e w' ⟨rfl, rfl⟩
          go_wp2_with fail
          refine (HN.out _).mono ?_
          rintro e w2 ⟨v, rfl, hown2, hb2⟩
          have hb2' := bthen HBW.out hb2
          have HB2 := Lib.hid hb2'
          clear hown2 hb2 hb2'
          go_wp2_with fail
          go_ret2
          exact ⟨HB2.out, .inr ⟨HNO.out HST.out, rfl⟩⟩
    · obtain rfl : k = n := by omega
      go_wp2_with fail
      go_ret2
      exact ⟨HB.out, .inl ⟨u6, o, HP.out, rfl, HV.out⟩⟩
set_option maxRecDepth 20000 in
set_option maxHeartbeats 1600000 in
theorem ref02_pack_bad (sh : List UInt8) (A : Option Addr) (n c : Nat) (w : World) (h : 200 < sh.length ∨ (sh.length ≤ 200 ∧ sh.length ≠ n)) :
    Calls Try.prog 13 #[.string (strOf sh), .slice A n c] w fun e w' => e = .returned (.tuple #[.slice none 0 0, .int .i64 21]) ∧ w = w' := by
  have hsz : (strOf sh).size = sh.length := by simp [strOf, ByteArray.size]
  generalize sh.length = m at *
  rcases h with h | ⟨h, h'⟩
  · have hd : decide ((200 : Int) < (m : Int)) = true := decide_eq_true (by omega)
    go_enter Try.func13, Try.ntmps13
    go_wp2_with fail
    go_ret2
    exact ⟨rfl, rfl⟩
  · have hd : decide ((200 : Int) < (m : Int)) = false := decide_eq_false (by omega)
    have hq : ((m : Int) != (n : Int)) = true := by rw [bne_iff_ne]; omega
    go_enter Try.func13, Try.ntmps13
    go_wp2_with fail
    go_ret2
    exact ⟨rfl, rfl⟩
/-- The reference's Pack. -/
theorem ref02_Pack (sh : List UInt8) (A : Option Addr) (n c : Nat) (l : List FieldD) (w : World) (hl : RFields w A n c l) :
    Calls Try.prog 13 #[.string (strOf sh), .slice A n c] w (PackedPost w (packM sh l)) := by
  have hn : l.length = n := hl.1
  unfold packM
  by_cases h : 200 < sh.length ∨ sh.length ≠ l.length
  · rw [if_pos h]
    refine (ref02_pack_bad sh A n c w (by omega)).mono fun e w' ⟨he, hw⟩ => ⟨hw ▸ Below.refl _ _, .inr ⟨rfl, he⟩⟩
  · rw [if_neg h, hn]
    exact ref02_pack_main sh A n c l w hl (by omega) (by omega)
end Go.Proofs.Ytccofdmnljbegaa
