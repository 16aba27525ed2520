/- The reference's Unpack. -/
import Derived.Test.YtccofdmnljbegaaCodecR3
import Derived.Test.YtccofdmnljbegaaRef02W3
import Derived.Test.YtccofdmnljbegaaCut
namespace Go.Proofs.Ytccofdmnljbegaa
open Go.RowKit

theorem cutA_ne {A : Option Addr} {c l : Nat} (h : ¬ c = l) : Option.map (fun x => x.add l) A = cutA A c l := by unfold cutA; rw [if_neg h]
set_option maxRecDepth 20000 in
set_option maxHeartbeats 3200000 in
theorem ref02_unpack_main (sh : List UInt8) (A : Option Addr) (n c : Nat) (bs : List UInt8) (w : World) (hr : RB w A n c bs) (hs : sh.length ≤ 200) :
    Calls Try.prog 15 #[.string (strOf sh), .slice A n c] w (UnpackedPost w (unpackM sh bs)) := by
  have HR := Lib.hid hr
  have hlen : bs.length = n := hr.1
  have hnc : n ≤ c := hr.2.1
  have hcm : c ≤ 9223372036854775807 := hr.2.2.1
  generalize hm : sh.length = m at *
  have hsz : (strOf sh).size = m := by simp [strOf, hm, ByteArray.size]
  have hd : decide ((200 : Int) < (m : Int)) = false := decide_eq_false (by omega)
  have HM := Lib.hid hm
  have HLEN := Lib.hid hlen
  clear hr hm hlen
  go_enter Try.func15, Try.ntmps15
  go_wp2_with fail
  go_loopw [6, 7, 8] (fun u a i wr => ∃ k p lk, k ≤ m ∧ i = .int .i64 (k : Nat) ∧ a = .int .i64 (p : Nat) ∧ Hid (unTo sh bs k = some (vals lk, p)) ∧ Hid (OFields wr w.heap.size u lk) ∧ Hid (lk.length = k) ∧ Hid (Below w.heap.size w wr) ∧ p ≤ n) (fun _ _ i _ => m - (intOf i).toNat)
  case atStart => exact ⟨0, 0, [], by omega, rfl, rfl, Lib.hid rfl, Lib.hid ⟨own_empty w _ _ _ (Nat.le_refl _), by simp, by simp, by simp⟩, Lib.hid rfl, Lib.hid (below_alloc _ _), Nat.zero_le _⟩
  case round =>
    obtain ⟨k, p, lk, hk, rfl, rfl, HP, HO, HK, HB, hpn⟩ := hrel
    by_cases hlt : k < m
    · have hk0 : (0 : Int) ≤ (k : Int) := Int.natCast_nonneg _
      have hk1 : (k : Int) < (m : Int) := by omega
      have hp0 : (0 : Int) ≤ (p : Int) := Int.natCast_nonneg _
      have hst := unTo_step HP.out
      have hg := strOf_get sh k
      have HNO : Hid (unTo sh bs (k + 1) = none → unpackM sh bs = none) := Lib.hid fun h => unpackM_none h (by rw [HM.out]; omega)
      obtain ⟨r, hrp⟩ : ∃ r : Nat, n = p + r := ⟨n - p, by omega⟩
      have hsub : (n : Int) - (p : Int) = (r : Int) := by omega
      have hcr : p + r ≤ c := by omega
      have hbl : (bs.drop p).length = r := by rw [List.length_drop, HLEN.out]; omega
      generalize hys : bs.drop p = ys at *
      generalize at8 sh k = ch at hst hg
      have HW := Lib.hid (ref02_width ch)
      rcases letterW_cases ch with hlw | ⟨hlw, rfl⟩ | ⟨wd, hlw, hcw⟩
      · have HST : Hid (unTo sh bs (k + 1) = none) := Lib.hid (by rw [hst, decF, hlw]; rfl)
        rw [letterI_none hlw] at HW
        clear hst hlw
        go_wp2_with fail
        refine (HW.out _).mono ?_
        rintro e w' ⟨rfl, rfl⟩
        go_wp2_with fail
        go_ret2
        exact ⟨HB.out, .inr ⟨HNO.out HST.out, rfl⟩⟩
      · rw [letterI_some hlw] at HW
        by_cases h2 : r < 2
        · have HST : Hid (unTo sh bs (k + 1) = none) := Lib.hid (by rw [hst, decF, hlw]; simp only []; rw [if_pos (by rw [hbl]; exact h2)]; rfl)
          have hd2 : decide ((r : Int) < 2) = true := decide_eq_true (by omega)
          clear hst hlw
          go_wp2_with fail
          refine (HW.out _).mono ?_
          rintro e w' ⟨rfl, rfl⟩
          go_wp2_with fail
          go_ret2
          exact ⟨HB.out, .inr ⟨HNO.out HST.out, rfl⟩⟩
        · have hd2 : decide ((r : Int) < 2) = false := decide_eq_false (by omega)
          have hcp : ¬ c = p := by omega
          have hcut := HR.out.cut p 2 (by omega)
          rw [hys] at hcut
          have HNUM := Lib.hid (fun W (hb : Below w.heap.size w W) => ref02_number (cutA A c p) 2 (c - p) (ys.take 2) W (hcut.below hb) (by omega))
          have hsm := numOf_lt ys 2
          have hp2 : (p : Int) + 2 ≤ (c : Int) := by omega
          have hAd := cutA_ne (A := A) hcp
          clear hcut
          by_cases h1024 : 1024 < numOf (ys.take 2)
          · have HST : Hid (unTo sh bs (k + 1) = none) := Lib.hid (by rw [hst, decF, hlw]; simp only []; rw [if_neg (by rw [hbl]; exact h2), if_pos h1024]; rfl)
            generalize numOf (ys.take 2) = v at *
            have hd1 : decide ((1024 : Int) < (v : Int)) = true := decide_eq_true (by omega)
            clear hst hlw
            go_wp2_with fail
            refine (HW.out _).mono ?_
            rintro e w' ⟨rfl, rfl⟩
            go_wp2_with fail
            refine (HNUM.out _ HB.out).mono ?_
            rintro e w' ⟨rfl, rfl⟩
            go_wp2_with fail
            go_ret2
            exact ⟨HB.out, .inr ⟨HNO.out HST.out, rfl⟩⟩
          · have hdec : decF 98 ys = if ys.length - 2 < numOf (ys.take 2) then none else some ((0, (ys.drop 2).take (numOf (ys.take 2))), 2 + numOf (ys.take 2)) := by
              rw [decF, hlw]; simp only []; rw [if_neg (by rw [hbl]; exact h2), if_neg h1024]
            generalize numOf (ys.take 2) = v at *
            have hv0 : (0 : Int) ≤ (v : Int) := Int.natCast_nonneg _
            have hd1 : decide ((1024 : Int) < (v : Int)) = false := decide_eq_false (by omega)
            obtain ⟨r2, hr2⟩ : ∃ r2 : Nat, r = 2 + r2 := ⟨r - 2, by omega⟩
            have hsub2 : (n : Int) - ((p : Int) + 2) = (r2 : Int) := by omega
            have hwr : IntKind.u64.wrap (r2 : Int) = (r2 : Int) := wrap_u64 r2 (by omega)
            have hwv : IntKind.i64.wrap (v : Int) = (v : Int) := by simp [IntKind.wrap, IntKind.signed, IntKind.bits]; omega
            by_cases hfit : r2 < v
            · have HST : Hid (unTo sh bs (k + 1) = none) := Lib.hid (by rw [hst, hdec, if_pos (by rw [hbl]; omega)]; rfl)
              have hd3 : decide (r2 < v) = true := decide_eq_true hfit
              have HX := Lib.hid hrp; have HX2 := Lib.hid hr2
              clear hst hlw hdec hfit hrp hr2
              go_wp2_with fail
              refine (HW.out _).mono ?_
              rintro e w' ⟨rfl, rfl⟩
              go_wp2_with fail
              refine (HNUM.out _ HB.out).mono ?_
              rintro e w' ⟨rfl, rfl⟩
              go_wp2_with fail
              go_ret2
              exact ⟨HB.out, .inr ⟨HNO.out HST.out, rfl⟩⟩
            · have HST : Hid (unTo sh bs (k + 1) = some (vals lk ++ [(0, (ys.drop 2).take v)], p + (2 + v))) := Lib.hid (by rw [hst, hdec, if_neg (by rw [hbl]; omega)]; rfl)
              have hd3 : decide (r2 < v) = false := decide_eq_false hfit
              have HX := Lib.hid hrp; have HX2 := Lib.hid hr2; have HX3 := Lib.hid hfit
              have hcut2 := HR.out.cut (p + 2) v (by omega)
              rw [← List.drop_drop, hys] at hcut2
              have hpv : (p : Int) + 2 + (v : Int) ≤ (c : Int) := by omega
              have hlen3 : Hid (((ys.drop 2).take v).length = v) := Lib.hid hcut2.1
              have HPV : Hid (p + (2 + v) ≤ n ∧ v ≤ 1024) := Lib.hid ⟨by omega, by omega⟩
              generalize hzs : (ys.drop 2).take v = zs at *
              have HC2 := Lib.hid hcut2
              have HYS := Lib.hid hys
              have HZS := Lib.hid hzs
              clear hst hlw hdec hfit hrp hr2 hcut2 hys hzs
              go_wp2_with fail
              refine (HW.out _).mono ?_
              rintro e w' ⟨rfl, rfl⟩
              go_wp2_with fail
              refine (HNUM.out _ HB.out).mono ?_
              rintro e w' ⟨rfl, rfl⟩
              clear HW HNUM
              go_wp2_with (first
                | (refine wpList_cut rfl _ _ _ rfl A n c (p + 2) v rfl rfl _ rfl (by omega) (by have := HPV.out; omega) ?_)
                | (at_builtin; refine wpList_copy_bytes (W := wr) rfl _ _ 22 5 rfl Try.underlying22 Try.infoU8' (cutA A c (p + 2)) v (c - (p + 2)) zs wr.heap.size rfl rfl rfl (HC2.out.below HB.out) (by have := HPV.out; omega) ?_
                   intro A1 c1 w4 hown4 hrb4 hb4
                   have HO4 := Lib.hid (own_mono hown4 HB.out.size)
                   have HB4 := Lib.hid (bthen HB.out hb4)
                   have ho4 := Lib.hid (HO.out.below hb4)
                   clear hown4 hrb4 hb4)
                | (at_builtin; refine wpList_append_any (w0 := w4.alloc (.cells #[.int .u64 0, .slice A1 v c1] 40)) w.heap.size rfl _ _ 26 40 (.agg #[.int .u64 0, .slice none 0 0]) 2 32 rfl Try.underlying26 Try.info87 rfl (by decide) (by decide) u6 lk.length (fcells lk) (some ⟨w4.heap.size, 0, none⟩) 1 1 [.int .u64 0, .slice A1 v c1] rfl rfl (ho4.out.alloc _).row ⟨rfl, fun _ => ⟨_, _, rfl, fun j v hj => by rw [World.cell?_alloc_mark, Nat.zero_add]; simpa using hj⟩⟩ (by simp [Value.oneCell']) (by rw [HK.out]; omega) (Below.refl _ _) (by have := HB4.out.size; simp; omega) ?_
                   intro v5 w5 hown5 hb5 hg5 ha5
                   have h5 : Hid (Below w.heap.size w w5) := Lib.hid ((HB4.out.alloc HB4.out.size _).trans hb5)
                   have ho5 : Hid (OFields w5 w.heap.size v5 (lk ++ [⟨0, A1, v, c1, zs⟩])) := Lib.hid ((ho4.out.alloc _).push ⟨0, A1, v, c1, zs⟩ (by simp) (by have := HPV.out; simp; omega) (HO4.out.alloc _) hg5 hown5)
                   clear hown5 hb5 hg5 ha5))
              go_roundw
              case rel => exact ⟨k + 1, p + (2 + v), lk ++ [⟨0, A1, v, c1, zs⟩], by omega, by go_num, by go_num, Lib.hid (by rw [HST.out]; simp [vals]), ho5, Lib.hid (by rw [List.length_append, HK.out]; rfl), h5, HPV.out.1⟩
              case measure => simp [intOf]; omega
      · rw [letterI_some hlw] at HW
        have hw8 : wd + 1 ≤ 8 := by omega
        have hw0 : (0 : Int) < ((wd + 1 : Nat) : Int) := by omega
        have hw1 : decide (((wd + 1 : Nat) : Int) < 0) = false := decide_eq_false (by omega)
        have hw2 : (((wd + 1 : Nat) : Int) == 0) = false := by rw [beq_eq_false_iff_ne]; omega
        have HX := Lib.hid hrp
        by_cases h2 : r < wd + 1
        · have HST : Hid (unTo sh bs (k + 1) = none) := Lib.hid (by rw [hst, decF, hlw]; simp only []; rw [if_pos (by rw [hbl]; exact h2)]; rfl)
          have hd2 : decide (r < wd + 1) = true := decide_eq_true h2
          clear hst hlw hcw hrp
          generalize hwi : wd + 1 = wi at *
          clear hwi
          go_wp2_with fail
          refine (HW.out _).mono ?_
          rintro e w' ⟨rfl, rfl⟩
          go_wp2_with fail
          go_ret2
          exact ⟨HB.out, .inr ⟨HNO.out HST.out, rfl⟩⟩
        · have hd2 : decide (r < wd + 1) = false := decide_eq_false h2
          have HST : Hid (unTo sh bs (k + 1) = some (vals lk ++ [(numOf (ys.take (wd + 1)), [])], p + (wd + 1))) := Lib.hid (by rw [hst, decF, hlw]; simp only []; rw [if_neg (by rw [hbl]; exact h2)]; rfl)
          clear hst hlw hcw
          generalize hwi : wd + 1 = wi at *
          clear hwi
          have hcut := HR.out.cut p wi (by omega)
          rw [hys] at hcut
          have HNUM := Lib.hid (fun W (hb : Below w.heap.size w W) => ref02_number (cutA A c p) wi (c - p) (ys.take wi) W (hcut.below hb) (by omega))
          have hsm := numOf_small ys wi (by omega)
          have HSM := Lib.hid hsm
          have HPW : Hid (p + wi ≤ n) := Lib.hid (by omega)
          have hpw : (p : Int) + (wi : Int) ≤ 9223372036854775807 := by omega
          generalize numOf (ys.take wi) = v at *
          clear hcut hrp hsm
          go_wp2_with fail
          refine (HW.out _).mono ?_
          rintro e w' ⟨rfl, rfl⟩
          go_wp2_with (refine wpList_cut rfl _ _ _ rfl A n c p wi rfl rfl _ rfl (by first | rfl | omega) (by have := HPW.out; omega) ?_)
          refine (HNUM.out _ HB.out).mono ?_
          rintro e w' ⟨rfl, rfl⟩
          go_wp2_with (at_builtin; refine wpList_append_any (w0 := wr.alloc (.cells #[.int .u64 v, .slice none 0 0] 40)) w.heap.size rfl _ _ 26 40 (.agg #[.int .u64 0, .slice none 0 0]) 2 32 rfl Try.underlying26 Try.info87 rfl (by decide) (by decide) u6 lk.length (fcells lk) (some ⟨wr.heap.size, 0, none⟩) 1 1 [.int .u64 v, .slice none 0 0] rfl rfl (HO.out.alloc _).row ⟨rfl, fun _ => ⟨_, _, rfl, fun j v hj => by rw [World.cell?_alloc_mark, Nat.zero_add]; simpa using hj⟩⟩ (by simp [Value.oneCell']) (by rw [HK.out]; omega) (Below.refl _ _) (by have := HB.out.size; simp; omega) ?_; intro v5 w5 hown5 hb5 hg5 ha5; have h5 : Hid (Below w.heap.size w w5) := Lib.hid ((HB.out.alloc HB.out.size _).trans hb5); have ho5 : Hid (OFields w5 w.heap.size v5 (lk ++ [⟨v, none, 0, 0, []⟩])) := Lib.hid ((HO.out.alloc _).push ⟨v, none, 0, 0, []⟩ HSM.out (by simp) (World.ownsRow_nil _ _ _ _) hg5 hown5); clear hown5 hb5 hg5 ha5)
          go_roundw
          case rel => exact ⟨k + 1, p + wi, lk ++ [⟨v, none, 0, 0, []⟩], by omega, by go_num, by go_num, Lib.hid (by rw [HST.out]; simp [vals]), ho5, Lib.hid (by rw [List.length_append, HK.out]; rfl), h5, HPW.out⟩
          case measure => simp [intOf]; omega
    · obtain rfl : k = m := by omega
      have hun : unpackM sh bs = if p = bs.length then some (vals lk) else none := unpackM_done (by rw [HM.out]; exact HP.out) (by rw [HM.out]; exact hs)
      rw [HLEN.out] at hun
      by_cases h0 : p = n
      · have HN : Hid (unpackM sh bs = some (vals lk)) := Lib.hid (by rw [hun, if_pos h0])
        have hq : ((p : Int) != (n : Int)) = false := by rw [h0]; simp
        clear hun h0
        go_wp2_with fail
        go_ret2
        exact ⟨HB.out, .inl ⟨u6, lk, HN.out, rfl, HO.out⟩⟩
      · have HN : Hid (unpackM sh bs = none) := Lib.hid (by rw [hun, if_neg h0])
        have hq : ((p : Int) != (n : Int)) = true := by rw [bne_iff_ne]; omega
        clear hun h0
        go_wp2_with fail
        go_ret2
        exact ⟨HB.out, .inr ⟨HN.out, rfl⟩⟩
/-- The reference's Unpack. -/
theorem ref02_Unpack (sh : List UInt8) (A : Option Addr) (n c : Nat) (bs : List UInt8) (w : World) (hr : RB w A n c bs) :
    Calls Try.prog 15 #[.string (strOf sh), .slice A n c] w (UnpackedPost w (unpackM sh bs)) := by
  by_cases hs : sh.length ≤ 200
  · exact ref02_unpack_main sh A n c bs w hr hs
  · rw [unpackM_long (by omega)]
    have hsz : (strOf sh).size = sh.length := by simp [strOf, ByteArray.size]
    generalize sh.length = m at *
    have hd : decide ((200 : Int) < (m : Int)) = true := decide_eq_true (by omega)
    go_enter Try.func15, Try.ntmps15
    go_wp2_with fail
    go_ret2
    exact ⟨Below.refl _ _, .inr ⟨rfl, rfl⟩⟩
end Go.Proofs.Ytccofdmnljbegaa
