/- The reference's Unpack. -/
import Derived.Test.YtgakajofggmbjaaMg11
import Derived.Test.YtgakajofggmbjaaMg15
import Derived.Test.YtgakajofggmbjaaMg3
import Derived.Test.YtgakajofggmbjaaMg5
import Derived.Test.YtgakajofggmbjaaMg12
import Derived.Test.YtgakajofggmbjaaMg9
import Derived.Test.YtgakajofggmbjaaMg13
import Derived.BigQuiet
import Derived.Deep.QuietTactic
import Derived.Test.YtgakajofggmbjaaMg2
namespace Go.Proofs.Ytgakajofggmbjaa
open Go.RowKit

set_option maxRecDepth 20000 in
set_option maxHeartbeats 1600000 in
/-- The reference's number. -/
theorem ref02_number (A : Option Addr) (n c : Nat) (xs : List UInt8) (w : World) (hr : RB w A n c xs) (hn8 : n ≤ 8) :
    Calls Try.prog 58 #[.slice A n c] w fun e w' => e = .returned (.int .u64 (numOf xs)) ∧ w = w' := by
  have HR := Lib.hid hr
  clear hr
  go_enter Try.func58, Try.ntmps58
  go_wp2_with fail
  go_loopw [3, 4] (fun u i wr => ∃ j, j ≤ n ∧ i = .int .i64 (j : Nat) ∧ u = .int .u64 (numOf (xs.take j)) ∧ wr = w) (fun _ i _ => n - (intOf i).toNat)
  case atStart => exact ⟨0, by omega, rfl, rfl, rfl⟩
  case round =>
    obtain ⟨j, hj, rfl, rfl, rfl⟩ := hrel
    by_cases hlt : j < n
    · have hj0 : (0 : Int) ≤ (j : Int) := Int.natCast_nonneg _
      have hj1 : (j : Int) < (n : Int) := by omega
      obtain ⟨b, o, rfl, hcells⟩ := HR.out.2.2.2 (by omega)
      have hcell := hcells j (by omega)
      have hnt := numOf_take xs j (by rw [HR.out.1]; omega)
      have hsm := numOf_small xs (j + 1) (by omega)
      rw [hnt] at hsm
      have hx := (at8 xs j).toNat_lt
      have HT := Lib.hid hnt
      clear hcells hnt
      generalize numOf (xs.take j) = m at *
      generalize at8 xs j = x at *
      go_wp2_with fail
      go_roundw
      case rel => exact ⟨j + 1, by omega, by go_num, by rw [HT.out]; go_num, trivial⟩
      case measure => simp [intOf]; omega
    · obtain rfl : j = n := by omega
      have e : xs.take j = xs := List.take_of_length_le (by rw [HR.out.1]; exact Nat.le_refl _)
      rw [e]
      go_wp2_with fail
      go_ret
      exact ⟨rfl, rfl⟩
theorem cutA_ne {A : Option Addr} {c l : Nat} (h : ¬ c = l) : Option.map (fun x => x.add l) A = cutA A c l := by unfold cutA; rw [if_neg h]
set_option maxRecDepth 20000 in
set_option maxHeartbeats 3200000 in
theorem ref02_unpack_main (sh : List UInt8) (A : Option Addr) (n c : Nat) (bs : List UInt8) (w : World) (hr : RB w A n c bs) (hs : sh.length ≤ 200) :
    Calls Try.prog 43 #[.string (strOf sh), .slice A n c] w (UnpackedPost w (unpackM sh bs)) := by
  have HR := Lib.hid hr
  have hlen : bs.length = n := hr.1
  have hnc : n ≤ c := hr.2.1
  have hcm : c ≤ 9223372036854775807 := hr.2.2.1
  generalize hm : sh.length = m at *
  have hsz : (strOf sh).size = m := by simp [strOf, hm, ByteArray.size]
  have hd : decide ((200 : Int) < (m : Int)) = false := decide_eq_false (by omega)
  have HM := Lib.hid hm
  have HLEN := Lib.hid hlen
  clear hr hm hlen
  go_enter Try.func43, Try.ntmps43
  go_wp2_with fail
  go_loopw [6, 7, 8] (fun u a i wr => ∃ k p lk, k ≤ m ∧ i = .int .i64 (k : Nat) ∧ a = .int .i64 (p : Nat) ∧ Hid (unTo sh bs k = some (vals lk, p)) ∧ Hid (OFields wr w.heap.size u lk) ∧ Hid (lk.length = k) ∧ Hid (Below w.heap.size w wr) ∧ p ≤ n) (fun _ _ i _ => m - (intOf i).toNat)
  case atStart => exact ⟨0, 0, [], by omega, rfl, rfl, Lib.hid rfl, Lib.hid ⟨own_empty w _ _ _ (Nat.le_refl _), by simp, by simp, by simp⟩, Lib.hid rfl, Lib.hid (below_alloc _ _), Nat.zero_le _⟩
  case round =>
    obtain ⟨k, p, lk, hk, rfl, rfl, HP, HO, HK, HB, hpn⟩ := hrel
    by_cases hlt : k < m
    · have hk0 : (0 : Int) ≤ (k : Int) := Int.natCast_nonneg _
      have hk1 : (k : Int) < (m : Int) := by omega
      have hp0 : (0 : Int) ≤ (p : Int) := Int.natCast_nonneg _
      have hst := unTo_step HP.out
      have hg := strOf_get sh k
      have HNO : Hid (unTo sh bs (k + 1) = none → unpackM sh bs = none) := Lib.hid fun h => unpackM_none h (by rw [HM.out]; omega)
      obtain ⟨r, hrp⟩ : ∃ r : Nat, n = p + r := ⟨n - p, by omega⟩
      have hsub : (n : Int) - (p : Int) = (r : Int) := by omega
      have hcr : p + r ≤ c := by omega
      have hbl : (bs.drop p).length = r := by rw [List.length_drop, HLEN.out]; omega
      generalize hys : bs.drop p = ys at *
      generalize at8 sh k = ch at hst hg
      have HW := Lib.hid (ref02_width ch)
      rcases letterW_cases ch with hlw | ⟨hlw, rfl⟩ | ⟨wd, hlw, hcw⟩
      · have HST : Hid (unTo sh bs (k + 1) = none) := Lib.hid (by rw [hst, decF, hlw]; rfl)
        rw [letterI_none hlw] at HW
        clear hst hlw
        go_wp2_with fail
        refine (HW.out _).mono ?_
        rintro e w' ⟨rfl, rfl⟩
        go_wp2_with fail
        go_ret2
        exact ⟨HB.out, .inr ⟨HNO.out HST.out, rfl⟩⟩
      · rw [letterI_some hlw] at HW
        by_cases h2 : r < 2
        · have HST : Hid (unTo sh bs (k + 1) = none) := Lib.hid (by rw [hst, decF, hlw]; simp only []; rw [if_pos (by rw [hbl]; exact h2)]; rfl)
          have hd2 : decide ((r : Int) < 2) = true := decide_eq_true (by omega)
          clear hst hlw
          go_wp2_with fail
          refine (HW.out _).mono ?_
          rintro e w' ⟨rfl, rfl⟩
          go_wp2_with fail
          go_ret2
          exact ⟨HB.out, .inr ⟨HNO.out HST.out, rfl⟩⟩
        · have hd2 : decide ((r : Int) < 2) = false := decide_eq_false (by omega)
          have hcp : ¬ c = p := by omega
          have hcut := HR.out.cut p 2 (by omega)
          rw [hys] at hcut
          have HNUM := Lib.hid (fun W (hb : Below w.heap.size w W) => ref02_number (cutA A c p) 2 (c - p) (ys.take 2) W (hcut.below hb) (by omega))
          have hsm := numOf_lt ys 2
          have hp2 : (p : Int) + 2 ≤ (c : Int) := by omega
          have hAd := cutA_ne (A := A) hcp
          clear hcut
          by_cases h1024 : 1024 < numOf (ys.take 2)
          · have HST : Hid (unTo sh bs (k + 1) = none) := Lib.hid (by rw [hst, decF, hlw]; simp only []; rw [if_neg (by rw [hbl]; exact h2), if_pos h1024]; rfl)
            generalize numOf (ys.take 2) = v at *
            have hd1 : decide ((1024 : Int) < (v : Int)) = true := decide_eq_true (by omega)
            clear hst hlw
            go_wp2_with fail
            refine (HW.out _).mono ?_
            rintro e w' ⟨rfl, rfl⟩
            go_wp2_with fail
            refine (HNUM.out _ HB.out).mono ?_
            rintro e w' ⟨rfl, rfl⟩
            go_wp2_with fail
            go_ret2
            exact ⟨HB.out, .inr ⟨HNO.out HST.out, rfl⟩⟩
          · have hdec : decF 98 ys = if ys.length - 2 < numOf (ys.take 2) then none else some ((0, (ys.drop 2).take (numOf (ys.take 2))), 2 + numOf (ys.take 2)) := by
              rw [decF, hlw]; simp only []; rw [if_neg (by rw [hbl]; exact h2), if_neg h1024]
            generalize numOf (ys.take 2) = v at *
            have hv0 : (0 : Int) ≤ (v : Int) := Int.natCast_nonneg _
            have hd1 : decide ((1024 : Int) < (v : Int)) = false := decide_eq_false (by omega)
            obtain ⟨r2, hr2⟩ : ∃ r2 : Nat, r = 2 + r2 := ⟨r - 2, by omega⟩
            have hsub2 : (n : Int) - ((p : Int) + 2) = (r2 : Int) := by omega
            have hwr : IntKind.u64.wrap (r2 : Int) = (r2 : Int) := wrap_u64 r2 (by omega)
            have hwv : IntKind.i64.wrap (v : Int) = (v : Int) := by simp [IntKind.wrap, IntKind.signed, IntKind.bits]; omega
            by_cases hfit : r2 < v
            · have HST : Hid (unTo sh bs (k + 1) = none) := Lib.hid (by rw [hst, hdec, if_pos (by rw [hbl]; omega)]; rfl)
              have hd3 : decide (r2 < v) = true := decide_eq_true hfit
              have HX := Lib.hid hrp; have HX2 := Lib.hid hr2
              clear hst hlw hdec hfit hrp hr2
              go_wp2_with fail
              refine (HW.out _).mono ?_
              rintro e w' ⟨rfl, rfl⟩
              go_wp2_with fail
              refine (HNUM.out _ HB.out).mono ?_
              rintro e w' ⟨rfl, rfl⟩
              go_wp2_with fail
              go_ret2
              exact ⟨HB.out, .inr ⟨HNO.out HST.out, rfl⟩⟩
            · have HST : Hid (unTo sh bs (k + 1) = some (vals lk ++ [(0, (ys.drop 2).take v)], p + (2 + v))) := Lib.hid (by rw [hst, hdec, if_neg (by rw [hbl]; omega)]; rfl)
              have hd3 : decide (r2 < v) = false := decide_eq_false hfit
              have HX := Lib.hid hrp; have HX2 := Lib.hid hr2; have HX3 := Lib.hid hfit
              have hcut2 := HR.out.cut (p + 2) v (by omega)
              rw [← List.drop_drop, hys] at hcut2
              have hpv : (p : Int) + 2 + (v : Int) ≤ (c : Int) := by omega
              have hlen3 : Hid (((ys.drop 2).take v).length = v) := Lib.hid hcut2.1
              have HPV : Hid (p + (2 + v) ≤ n ∧ v ≤ 1024) := Lib.hid ⟨by omega, by omega⟩
              generalize hzs : (ys.drop 2).take v = zs at *
              have HC2 := Lib.hid hcut2
              have HYS := Lib.hid hys
              have HZS := Lib.hid hzs
              clear hst hlw hdec hfit hrp hr2 hcut2 hys hzs
              go_wp2_with fail
              refine (HW.out _).mono ?_
              rintro e w' ⟨rfl, rfl⟩
              go_wp2_with fail
              refine (HNUM.out _ HB.out).mono ?_
              rintro e w' ⟨rfl, rfl⟩
              clear HW HNUM
              go_wp2_with (first
                | (refine wpList_cut rfl _ _ _ rfl A n c (p + 2) v rfl rfl _ rfl (by omega) (by have := HPV.out; omega) ?_)
                | (at_builtin; refine wpList_copy_bytes (W := wr) rfl _ _ 37 5 rfl Try.underlying37 Try.infoU8' (cutA A c (p + 2)) v (c - (p + 2)) zs wr.heap.size rfl rfl rfl (HC2.out.below HB.out) (by have := HPV.out; omega) ?_
                   intro A1 c1 w4 hown4 hrb4 hb4
                   have HO4 := Lib.hid (own_mono hown4 HB.out.size)
                   have HB4 := Lib.hid (bthen HB.out hb4)
                   have ho4 := Lib.hid (HO.out.below hb4)
                   clear hown4 hrb4 hb4)
                | (at_builtin; refine wpList_append_any (w0 := w4.alloc (.cells #[.int .u64 0, .slice A1 v c1] 78)) w.heap.size rfl _ _ 90 78 (.agg #[.int .u64 0, .slice none 0 0]) 2 32 rfl Try.underlying90 Try.info87 rfl (by decide) (by decide) u6 lk.length (fcells lk) (some ⟨w4.heap.size, 0, none⟩) 1 1 [.int .u64 0, .slice A1 v c1] rfl rfl (ho4.out.alloc _).row ⟨rfl, fun _ => ⟨_, _, rfl, fun j v hj => by rw [World.cell?_alloc_mark, Nat.zero_add]; simpa using hj⟩⟩ (by simp [Value.oneCell']) (by rw [HK.out]; omega) (Below.refl _ _) (by have := HB4.out.size; simp; omega) ?_
                   intro v5 w5 hown5 hb5 hg5 ha5
                   have h5 : Hid (Below w.heap.size w w5) := Lib.hid ((HB4.out.alloc HB4.out.size _).trans hb5)
                   have ho5 : Hid (OFields w5 w.heap.size v5 (lk ++ [⟨0, A1, v, c1, zs⟩])) := Lib.hid ((ho4.out.alloc _).push ⟨0, A1, v, c1, zs⟩ (by simp) (by have := HPV.out; simp; omega) (HO4.out.alloc _) hg5 hown5)
                   clear hown5 hb5 hg5 ha5))
              go_roundw
              case rel => exact ⟨k + 1, p + (2 + v), lk ++ [⟨0, A1, v, c1, zs⟩], by omega, by go_num, by go_num, Lib.hid (by rw [HST.out]; simp [vals]), ho5, Lib.hid (by rw [List.length_append, HK.out]; rfl), h5, HPV.out.1⟩
              case measure => simp [intOf]; omega
      · rw [letterI_some hlw] at HW
        have hw8 : wd + 1 ≤ 8 := by omega
        have hw0 : (0 : Int) < ((wd + 1 : Nat) : Int) := by omega
        have hw1 : decide (((wd + 1 : Nat) : Int) < 0) = false := decide_eq_false (by omega)
        have hw2 : (((wd + 1 : Nat) : Int) == 0) = false := by rw [beq_eq_false_iff_ne]; omega
        have HX := Lib.hid hrp
        by_cases h2 : r < wd + 1
        · have HST : Hid (unTo sh bs (k + 1) = none) := Lib.hid (by rw [hst, decF, hlw]; simp only []; rw [if_pos (by rw [hbl]; exact h2)]; rfl)
          have hd2 : decide (r < wd + 1) = true := decide_eq_true h2
          clear hst hlw hcw hrp
          generalize hwi : wd + 1 = wi at *
          clear hwi
          go_wp2_with fail
          refine (HW.out _).mono ?_
          rintro e w' ⟨rfl, rfl⟩
          go_wp2_with fail
          go_ret2
          exact ⟨HB.out, .inr ⟨HNO.out HST.out, rfl⟩⟩
        · have hd2 : decide (r < wd + 1) = false := decide_eq_false h2
          have HST : Hid (unTo sh bs (k + 1) = some (vals lk ++ [(numOf (ys.take (wd + 1)), [])], p + (wd + 1))) := Lib.hid (by rw [hst, decF, hlw]; simp only []; rw [if_neg (by rw [hbl]; exact h2)]; rfl)
          clear hst hlw hcw
          generalize hwi : wd + 1 = wi at *
          clear hwi
          have hcut := HR.out.cut p wi (by omega)
          rw [hys] at hcut
          have HNUM := Lib.hid (fun W (hb : Below w.heap.size w W) => ref02_number (cutA A c p) wi (c - p) (ys.take wi) W (hcut.below hb) (by omega))
          have hsm := numOf_small ys wi (by omega)
          have HSM := Lib.hid hsm
          have HPW : Hid (p + wi ≤ n) := Lib.hid (by omega)
          have hpw : (p : Int) + (wi : Int) ≤ 9223372036854775807 := by omega
          generalize numOf (ys.take wi) = v at *
          clear hcut hrp hsm
          go_wp2_with fail
          refine (HW.out _).mono ?_
          rintro e w' ⟨rfl, rfl⟩
          go_wp2_with (refine wpList_cut rfl _ _ _ rfl A n c p wi rfl rfl _ rfl (by first | rfl | omega) (by have := HPW.out; omega) ?_)
          refine (HNUM.out _ HB.out).mono ?_
          rintro e w' ⟨rfl, rfl⟩
          go_wp2_with (at_builtin; refine wpList_append_any (w0 := wr.alloc (.cells #[.int .u64 v, .slice none 0 0] 78)) w.heap.size rfl _ _ 90 78 (.agg #[.int .u64 0, .slice none 0 0]) 2 32 rfl Try.underlying90 Try.info87 rfl (by decide) (by decide) u6 lk.length (fcells lk) (some ⟨wr.heap.size, 0, none⟩) 1 1 [.int .u64 v, .slice none 0 0] rfl rfl (HO.out.alloc _).row ⟨rfl, fun _ => ⟨_, _, rfl, fun j v hj => by rw [World.cell?_alloc_mark, Nat.zero_add]; simpa using hj⟩⟩ (by simp [Value.oneCell']) (by rw [HK.out]; omega) (Below.refl _ _) (by have := HB.out.size; simp; omega) ?_; intro v5 w5 hown5 hb5 hg5 ha5; have h5 : Hid (Below w.heap.size w w5) := Lib.hid ((HB.out.alloc HB.out.size _).trans hb5); have ho5 : Hid (OFields w5 w.heap.size v5 (lk ++ [⟨v, none, 0, 0, []⟩])) := Lib.hid ((HO.out.alloc _).push ⟨v, none, 0, 0, []⟩ HSM.out (by simp) (World.ownsRow_nil _ _ _ _) hg5 hown5); clear hown5 hb5 hg5 ha5)
          go_roundw
          case rel => exact ⟨k + 1, p + wi, lk ++ [⟨v, none, 0, 0, []⟩], by omega, by go_num, by go_num, Lib.hid (by rw [HST.out]; simp [vals]), ho5, Lib.hid (by rw [List.length_append, HK.out]; rfl), h5, HPW.out⟩
          case measure => simp [intOf]; omega
    · obtain rfl : k = m := by omega
      have hun : unpackM sh bs = if p = bs.length then some (vals lk) else none := unpackM_done (by rw [HM.out]; exact HP.out) (by rw [HM.out]; exact hs)
      rw [HLEN.out] at hun
      by_cases h0 : p = n
      · have HN : Hid (unpackM sh bs = some (vals lk)) := Lib.hid (by rw [hun, if_pos h0])
        have hq : ((p : Int) != (n : Int)) = false := by rw [h0]; simp
        clear hun h0
        go_wp2_with fail
        go_ret2
        exact ⟨HB.out, .inl ⟨u6, lk, HN.out, rfl, HO.out⟩⟩
      · have HN : Hid (unpackM sh bs = none) := Lib.hid (by rw [hun, if_neg h0])
        have hq : ((p : Int) != (n : Int)) = true := by rw [bne_iff_ne]; omega
        clear hun h0
        go_wp2_with fail
        go_ret2
        exact ⟨HB.out, .inr ⟨HN.out, rfl⟩⟩
/-- The reference's Unpack. -/
theorem ref02_Unpack (sh : List UInt8) (A : Option Addr) (n c : Nat) (bs : List UInt8) (w : World) (hr : RB w A n c bs) :
    Calls Try.prog 43 #[.string (strOf sh), .slice A n c] w (UnpackedPost w (unpackM sh bs)) := by
  by_cases hs : sh.length ≤ 200
  · exact ref02_unpack_main sh A n c bs w hr hs
  · rw [unpackM_long (by omega)]
    have hsz : (strOf sh).size = sh.length := by simp [strOf, ByteArray.size]
    generalize sh.length = m at *
    have hd : decide ((200 : Int) < (m : Int)) = true := decide_eq_true (by omega)
    go_enter Try.func43, Try.ntmps43
    go_wp2_with fail
    go_ret2
    exact ⟨Below.refl _ _, .inr ⟨rfl, rfl⟩⟩
end Go.Proofs.Ytgakajofggmbjaa

/- The document's Scan of a journal. -/
namespace Go.Proofs.Ytgakajofggmbjaa
open Go.RowKit
attribute [local go_sem ↓] loadAt37

/-- A byte of a place's sectors. -/
theorem recAll_at (rd : Nat → List UInt8) (at' : Nat) (hl : ∀ k, k < 3 → (rd (at' + 1 + k)).length = 128) (i : Nat) (hi : i < 384) : at8 (recAll rd at' 3) i = at8 (rd (at' + 1 + i / 128)) (i % 128) := by
  have h0 := hl 0 (by omega)
  have h1 := hl 1 (by omega)
  have h2 := hl 2 (by omega)
  have e : recAll rd at' 3 = rd (at' + 1 + 0) ++ (rd (at' + 1 + 1) ++ rd (at' + 1 + 2)) := by simp [recAll]
  rw [e]
  unfold at8
  rw [List.getD_eq_getElem?_getD, List.getD_eq_getElem?_getD]
  congr 1
  by_cases c0 : i < 128
  · rw [List.getElem?_append_left (by omega), show i / 128 = 0 by omega, show i % 128 = i by omega]
  · rw [List.getElem?_append_right (by omega), h0]
    by_cases c1 : i < 256
    · rw [List.getElem?_append_left (by omega), show i / 128 = 1 by omega, show i % 128 = i - 128 by omega]
    · rw [List.getElem?_append_right (by omega), h1, show i / 128 = 2 by omega, show i % 128 = i - 128 - 128 by omega]
theorem recAll_next (rd : Nat → List UInt8) (at' : Nat) (hl : ∀ k, k < 3 → (rd (at' + 1 + k)).length = 128) (i : Nat) (hi : i < 384) : (recAll rd at' 3).take (i + 1) = (recAll rd at' 3).take i ++ [at8 (rd (at' + 1 + i / 128)) (i % 128)] := by
  have hlen := recAll_length rd at' 3 hl
  rw [← recAll_at rd at' hl i hi, List.take_succ_eq_append_getElem (by omega), at8, List.getD_eq_getElem?_getD, List.getElem?_eq_getElem (by omega)]
  rfl
theorem rdk_len {w : World} {A : Option Addr} {c : Nat} {B : Option Addr} {kk : Nat} {d : Dk} (h : RDk w A c B kk d) (k : Nat) (hk : k < d.stable.length) : (d.read k).length = 128 := lastW_len _ _ _ (h.secL k hk) (fun x hx => (h.pin x hx).2)
theorem wrap64_nat (n : Nat) (h : n < 1000000) : wrap64 (n : Int) = (n : Int) := by simp [wrap64]; omega
theorem wrap64_three (a q : Nat) (h : a + 1 + q < 1000000) : wrap64 (wrap64 ((a : Int) + 1) + wrap64 (q : Int)) = ((a + 1 + q : Nat) : Int) := by
  rw [show (a : Int) + 1 = ((a + 1 : Nat) : Int) from rfl, wrap64_nat (a + 1) (by omega), wrap64_nat q (by omega), ← Int.natCast_add, wrap64_nat _ h]
theorem OBs.rrb {w : World} {base : Nat} {A : Option Addr} {n c : Nat} {l : List FieldD} (h : OBs w base (.slice A n c) l) : n = l.length ∧ RRB w A n c (l.map (·.bytes)) := by
  obtain ⟨A', c', e, hr⟩ := h.read
  injection e with e1 e2 e3
  subst e1 e2 e3
  exact ⟨rfl, hr⟩
set_option maxRecDepth 20000 in
set_option maxHeartbeats 12800000 in
theorem ref06_Scan {w : World} {A : Option Addr} {c : Nat} {B : Option Addr} {kk : Nat} {d : Dk} (h : RDk w A c B kk d) (hpl : d.pend.length ≤ 1000000) (first gen : Nat) (hfit : first + 16 ≤ d.stable.length) (hgen : gen < 281474976710656 * 2) :
    Calls Try.prog 22 #[.agg (rdC A c B kk d).toArray, .int .i64 first, .int .u64 gen] w (ScanPost w (scanM d.read first gen)) := by
  have HS := Lib.hid h.len; have HPL := Lib.hid hpl; have HF := Lib.hid hfit; have HG := Lib.hid hgen
  obtain ⟨w0, hw0⟩ : ∃ w0, w0 = w.alloc (.cells (rdC A c B kk d).toArray 30) := ⟨_, rfl⟩
  have hb0 : Below w.heap.size w w0 := by rw [hw0]; exact below_alloc w _
  have hrow0 : RowAt w0 w.heap.size 30 (rdC A c B kk d) := by rw [hw0]; exact RowAt.new w _ _
  have hd0 := h.below hb0
  have HW0 := Lib.hid hw0; have HB0 := Lib.hid hb0; have HROW := Lib.hid hrow0; have HD := Lib.hid hd0
  have HRL := Lib.hid (rdk_len h)
  clear h hpl hfit hgen hw0 hb0 hrow0 hd0
  go_enter Try.func22, Try.ntmps22
  go_wp2_with fail
  rw [← HW0.out]
  have HSZ : Hid (w.heap.size + 1 = w0.heap.size) := Lib.hid (by rw [HW0.out]; simp)
  rw [HSZ.out]
  have HO0 : Hid (OBs (w0.alloc (.cells #[] 37)) w0.heap.size (.slice (some ⟨w0.heap.size, 0, none⟩) 0 0) []) := Lib.hid ⟨own_empty w0 w0.heap.size 37 1 (Nat.le_refl _), fun f hf => by cases hf⟩
  clear HW0
  go_loopw [7, 8] (fun u i wr => ∃ (k : Nat) (lk : List FieldD), k ≤ 4 ∧ i = .int .i64 k ∧ Hid (scanM d.read first gen = lk.map (·.bytes) ++ scanF d.read first gen (4 - k) k) ∧ Hid (lk.length = k) ∧ Hid (OBs wr w0.heap.size u lk) ∧ Hid (Below w0.heap.size w0 wr)) (fun _ i _ => 4 - (intOf i).toNat)
  case atStart => exact ⟨0, [], by omega, rfl, Lib.hid rfl, Lib.hid rfl, HO0, Lib.hid (below_alloc w0 _)⟩
  case round =>
    clear HO0
    obtain ⟨k, lk, hk, rfl, HM, HL, HO, HB⟩ := hrel
    obtain ⟨Au, cu, rfl, hru⟩ := HO.out.read
    clear hru
    by_cases hlt : k < 4
    · have hk0 : (0 : Int) ≤ (k : Int) := Int.natCast_nonneg _
      have hk1 : (k : Int) < 4 := by omega
      have HGR := Lib.hid (HROW.out.below HB.out)
      obtain ⟨at', hat⟩ : ∃ at', at' = first + 4 * k := ⟨_, rfl⟩
      have hati : (first : Int) + 4 * (k : Int) = (at' : Int) := by omega
      have hat4 : at' + 4 ≤ d.stable.length := by have := HF.out; omega
      have HAT := Lib.hid hat4
      have HST := Lib.hid (show recM d.read at' (gen * 256 + (k + 1)) = none → scanF d.read first gen ((4 - (k + 1)) + 1) k = [] from fun h => scanF_stop (by rw [← hat]; exact h))
      have HNX := Lib.hid (show ∀ b, recM d.read at' (gen * 256 + (k + 1)) = some b → scanF d.read first gen ((4 - (k + 1)) + 1) k = b :: scanF d.read first gen (4 - (k + 1)) (k + 1) from fun b h => scanF_next (by rw [← hat]; exact h))
      have HLX := Lib.hid (HRL.out at' (by omega))
      have HRD := Lib.hid (ref_Read_yes (HD.out.below HB.out) at' (by omega) HPL.out)
      have hrec : recM d.read at' (gen * 256 + (k + 1)) = recM d.read at' (gen * 256 + (k + 1)) := rfl
      conv at hrec => rhs; unfold recM
      have HRC := Lib.hid hrec
      have hwm1 : IntKind.i64.wrap (4 * (k : Int)) = 4 * (k : Int) := by simp [IntKind.wrap, IntKind.signed, IntKind.bits]; omega
      have hwm2 : IntKind.i64.wrap ((first : Int) + 4 * (k : Int)) = (at' : Int) := by have := HS.out; simp [IntKind.wrap, IntKind.signed, IntKind.bits]; omega
      have hwg : wrap64 ((first : Int) + 4 * (k : Int)) = (at' : Int) := by have := HS.out; simp [wrap64]; omega
      clear hat hat4 hrec
      generalize hx : d.read at' = x at *
      clear hx
      go_wp2_with (refine ldRD rfl _ rfl w.heap.size rfl HGR.out ?_)
      rw [show wrap64 (at' : Int) = (at' : Int) by have := HS.out; have := HAT.out; simp [wrap64]; omega]
      refine HRD.out.mono ?_
      clear HRD hwm1 hwm2 hwg hati
      rintro e w2 ⟨rfl, hb2⟩
      have HB2 := Lib.hid (balloc (bthen HB.out hb2) (.cells (bv x).toArray 55))
      have HO2 := Lib.hid ((HO.out.below hb2).below (below_alloc w2 (.cells (bv x).toArray 55)))
      have hld := run_ldSec (w := w2.alloc (.cells (bv x).toArray 55)) (range_alloc w2 (bv x) _ _) HLX.out
      clear hb2 HO HGR
      go_wp2_with (refine st37 rfl _ _ rfl _ _ rfl rfl x rfl HLX.out rfl ?_)
      generalize hw3 : w2.alloc (.cells (bv x).toArray 55) = w3 at *
      clear hw3
      refine (ref05_Open x HLX.out w3).mono ?_
      rintro e w4 ⟨mk, A4, m4, c4, b4, rfl, hb4, hcase⟩
      have HB4 := Lib.hid (bthen HB2.out hb4); have HO4 := Lib.hid (HO2.out.below hb4)
      rcases hcase with ⟨body, ho, rfl, hrb⟩ | ⟨hno, rfl, rfl, rfl, rfl, rfl⟩
      · rw [ho] at HRC
        have HRB := Lib.hid hrb
        clear hb4 ho hrb hld HO2
        go_wp2_with fail
        refine (ref02_Unpack [50, 52] A4 m4 c4 body w4 HRB.out).mono ?_
        rintro e w5 ⟨hb5, hcase5⟩
        have HB5 := Lib.hid (bthen HB4.out hb5); have HO5 := Lib.hid (HO4.out.below hb5)
        have hg1 : IntKind.u64.wrap ((gen : Int) * 256) = (gen : Int) * 256 := by have := HG.out; simp [IntKind.wrap, IntKind.signed, IntKind.bits]; omega
        have hg3 : IntKind.u64.wrap ((k : Int) + 1) = (k : Int) + 1 := by simp [IntKind.wrap, IntKind.signed, IntKind.bits]; omega
        have hg4 : IntKind.u64.wrap ((gen : Int) * 256 + ((k : Int) + 1)) = (gen : Int) * 256 + ((k : Int) + 1) := by have := HG.out; simp [IntKind.wrap, IntKind.signed, IntKind.bits]; omega
        clear HO4
        rcases hcase5 with ⟨v5, lf, ho5, rfl, hof⟩ | ⟨ho5, rfl⟩
        · obtain ⟨A5, c5, rfl, hrf⟩ := hof.read
          have hl2 := unpack24_two ho5
          have HMK : Hid (recM d.read at' (gen * 256 + (k + 1)) = if mk ≠ gen * 256 + (k + 1) then none else if 384 < nmAt (vals lf) 0 then none else if (crcAdd 0#32 ((recAll d.read at' 3).take (nmAt (vals lf) 0))).toNat = nmAt (vals lf) 1 then some ((recAll d.read at' 3).take (nmAt (vals lf) 0)) else none) := Lib.hid (by rw [HRC.out]; simp only [ho5])
          rw [nmAt_vals (by omega), nmAt_vals (by omega)] at HMK
          obtain ⟨bf, of_, rfl, hcells⟩ := rfield_cells hrf (by omega)
          have f0 := hcells 0 (by omega)
          have f1 := hcells 1 (by omega)
          have HC := Lib.hid (fun (W : World) (hb : Below w5.heap.size w5 W) => (⟨(hb.cell (p := ⟨bf, of_ + 0 * 2, none⟩) (World.block_lt_of_cell? w5 _ f0)).trans f0, (hb.cell (p := ⟨bf, of_ + 1 * 2, none⟩) (World.block_lt_of_cell? w5 _ f1)).trans f1⟩ : W.cell? ⟨bf, of_ + 0 * 2, none⟩ = some (.int .u64 ((fieldAt lf 0).num : Nat)) ∧ W.cell? ⟨bf, of_ + 1 * 2, none⟩ = some (.int .u64 ((fieldAt lf 1).num : Nat))))
          rw [hl2]
          clear hb5 hof hrf HRC hl2 hcells HRB
          simp only [Nat.zero_mul, Nat.one_mul, Nat.add_zero] at f0 f1 HC
          generalize (fieldAt lf 0).num = n0 at *
          generalize (fieldAt lf 1).num = n1 at *
          by_cases hmk : mk = gen * 256 + (k + 1)
          · have hq : ((mk : Int) != (gen : Int) * 256 + ((k : Int) + 1)) = false := by rw [hmk]; simp
            by_cases hbig : 384 < n0
            · have hd1 : decide ((384 : Int) < (n0 : Int)) = true := decide_eq_true (by omega)
              have HRN := Lib.hid (show recM d.read at' (gen * 256 + (k + 1)) = none by rw [HMK.out, if_neg (by simp [hmk]), if_pos hbig])
              clear hbig HMK hmk
              have HN : Hid (scanM d.read first gen = lk.map (·.bytes)) := Lib.hid (by rw [HM.out, show 4 - k = (4 - (k + 1)) + 1 by omega, HST.out (HRN.out), List.append_nil])
              have HFR := Lib.hid HO5.out.rrb.2
              have HFB := Lib.hid (HB0.out.trans (HB5.out.mono HB0.out.size))
              go_wp2_with fail
              go_ret
              refine ⟨Au, cu, ?_, ?_, HFB.out⟩
              · rw [HN.out, List.length_map]; rfl
              · rw [HN.out, List.length_map]; exact HFR.out
            · have hd1 : decide ((384 : Int) < (n0 : Int)) = false := decide_eq_false (by omega)
              have HN0 : Hid (n0 ≤ 384) := Lib.hid (by omega)
              have HRN : Hid (recM d.read at' (gen * 256 + (k + 1)) = if (crcAdd 0#32 ((recAll d.read at' 3).take n0)).toNat = n1 then some ((recAll d.read at' 3).take n0) else none) := Lib.hid (by rw [HMK.out, if_neg (by simp [hmk]), if_neg hbig])
              clear hbig HMK hmk
              go_wp2_with fail
              clear hq hd1 hg1 hg3 hg4 f0 f1 HB HB2 HB4 hk0 hk1
              go_loopw [17, 18] (fun u2 i2 wy => ∃ j : Nat, j ≤ n0 ∧ i2 = .int .i64 j ∧ Hid (wy.ownsRow w5.heap.size 5 1 u2 j (bv ((recAll d.read at' 3).take j))) ∧ Hid (Below w5.heap.size w5 wy)) (fun _ i _ => n0 - (intOf i).toNat)
              case atStart => exact ⟨0, by omega, rfl, Lib.hid (own_empty w5 _ _ _ (Nat.le_refl _)), Lib.hid (below_alloc w5 _)⟩
              case round =>
                obtain ⟨j, hj, rfl, HOJ, HBJ⟩ := hrel
                obtain ⟨wy, rfl⟩ : ∃ wy : World, wy = wr := ⟨_, rfl⟩
                obtain ⟨f0, f1⟩ := HC.out wy HBJ.out
                have hcv : IntKind.i64.wrap (n0 : Int) = (n0 : Int) := by have := HN0.out; simp [IntKind.wrap, IntKind.signed, IntKind.bits]; omega
                have hj0 : (0 : Int) ≤ (j : Int) := Int.natCast_nonneg _
                by_cases hjl : j < n0
                · have HJL := Lib.hid hjl
                  have hj1 : (j : Int) < (n0 : Int) := by omega
                  have HJ3 : Hid (j < 384) := Lib.hid (by have := HN0.out; omega)
                  obtain ⟨qd, hqd⟩ : ∃ qd, qd = j / 128 := ⟨_, rfl⟩
                  obtain ⟨rm, hrm⟩ : ∃ rm, rm = j % 128 := ⟨_, rfl⟩
                  have hdv : (j : Int) / 128 = (qd : Int) := by omega
                  have hmd : (j : Int) % 128 = (rm : Int) := by omega
                  have hm0 : (0 : Int) ≤ (rm : Int) := Int.natCast_nonneg _
                  have hm1 : (rm : Int) < 128 := by omega
                  have HSTEP := Lib.hid (recAll_next d.read at' (fun i hi => HRL.out _ (by have := HAT.out; omega)) j HJ3.out)
                  rw [← hqd, ← hrm] at HSTEP
                  have HQ3 : Hid (qd < 3) := Lib.hid (by have := HJ3.out; omega)
                  have HRM : Hid (rm < 128) := Lib.hid (by omega)
                  have HLQ := Lib.hid (HRL.out (at' + 1 + qd) (by have := HAT.out; have := HQ3.out; omega))
                  have HRQ := Lib.hid (ref_Read_yes (HD.out.below (bthen HB5.out HBJ.out)) (at' + 1 + qd) (by have := HAT.out; have := HQ3.out; omega) HPL.out)
                  have HGQ := Lib.hid (HROW.out.below (bthen HB5.out HBJ.out))
                  clear hqd hrm
                  generalize hyy : d.read (at' + 1 + qd) = y at *
                  clear hyy
                  go_wp2_with (refine ldRD rfl _ rfl w.heap.size rfl HGQ.out ?_)
                  rw [wrap64_three at' qd (by have := HS.out; have := HAT.out; have := HQ3.out; omega)]
                  refine HRQ.out.mono ?_
                  clear HRQ
                  rintro e w6 ⟨rfl, hb6⟩
                  have hby := (SecAt.new w6 y HLQ.out).cell rm HRM.out
                  obtain ⟨bt, hbt⟩ : ∃ bt, bt = at8 y rm := ⟨_, rfl⟩
                  rw [← hbt] at hby HSTEP
                  have HB7 := Lib.hid (((HBJ.out.trans (hb6.mono HBJ.out.size)).alloc (Nat.le_trans HBJ.out.size hb6.size) (.cells (bv y).toArray 55)).alloc (by simp; exact Nat.le_succ_of_le (Nat.le_trans HBJ.out.size hb6.size)) (.cells #[.int .u8 (bt.toNat : Int)] 5))
                  have HO7 := Lib.hid (((own_below HOJ.out hb6).alloc (.cells (bv y).toArray 55)).alloc (.cells #[.int .u8 (bt.toNat : Int)] 5))
                  have HR7 := Lib.hid (rd_one (w6.alloc (.cells (bv y).toArray 55)) (.int .u8 (bt.toNat : Int)) 5 (w6.heap.size + 1) (by simp))
                  clear hb6 hbt
                  go_wp2_with (first
                    | (refine st37 rfl _ _ rfl _ _ rfl rfl y rfl HLQ.out rfl ?_)
                    | (at_builtin; go_must (refine wpList_append_any (w0 := w5) w5.heap.size rfl _ _ 37 5 (.int .u8 0) 1 1 rfl Try.underlying37 (by kernel_rfl) rfl (by decide) (by decide) u17 _ _ (some ⟨w6.heap.size + 1, 0, none⟩) 1 1 [.int .u8 (bt.toNat : Int)] rfl rfl HO7.out HR7.out (by simp [Value.oneCell']) (by have := HJ3.out; omega) HB7.out HB7.out.size ?_); intro v1 w8 hown8 hb8 _ _))
                  have HO8 : Hid (w8.ownsRow w5.heap.size 5 1 v1 (j + 1) (bv ((recAll d.read at' 3).take (j + 1)))) := Lib.hid (by rw [HSTEP.out, bv_append]; exact hown8)
                  have HB8 := Lib.hid hb8
                  clear hown8 hb8
                  go_roundw
                  case rel => exact ⟨j + 1, HJL.out, by rw [show wrap64 ((j : Int) + 1) = ((j + 1 : Nat) : Int) from wrap64_nat (j + 1) (by have := HJ3.out; omega)], HO8, HB8⟩
                  case measure =>
                    have hw : wrap64 ((j : Int) + 1) = ((j + 1 : Nat) : Int) := wrap64_nat (j + 1) (by have := HJ3.out; omega)
                    have := HJL.out
                    rw [hw]
                    simp only [intOf, Int.toNat_natCast]
                    omega
                · obtain rfl : j = n0 := by omega
                  obtain ⟨A8, c8, rfl, hr8⟩ := own_rb HOJ.out
                  have HR8 := Lib.hid hr8; have HO8 := Lib.hid HOJ.out
                  have hcr : IntKind.u64.wrap (((crcAdd 0#32 ((recAll d.read at' 3).take j)).toNat : Nat) : Int) = (((crcAdd 0#32 ((recAll d.read at' 3).take j)).toNat : Nat) : Int) := by
                    have := (crcAdd 0#32 ((recAll d.read at' 3).take j)).isLt
                    simp only [IntKind.wrap, IntKind.signed, IntKind.bits]
                    simp
                    omega
                  clear hr8
                  generalize (recAll d.read at' 3).take j = ys at *
                  have HSUM := Lib.hid (fun (W : World) (hr : RB W A8 j c8 ys) => ref03_Sum 0#32 A8 j c8 ys W hr)
                  generalize hcv2 : (crcAdd 0#32 ys).toNat = cv at *
                  go_wp2_with fail
                  by_cases he : cv = n1
                  · have hq2 : ((cv : Int) != (n1 : Int)) = false := by rw [he]; simp
                    have HYS := Lib.hid (HNX.out ys (by rw [HRN.out, if_pos he]))
                    clear he HRN
                    go_quiet (exact quiet_leftJ (HSUM.out _ (HR8.out.below (below_drewN (Below.refl _ wy) _))))
                    have HN : Hid (scanM d.read first gen = (lk.map (·.bytes) ++ [ys]) ++ scanF d.read first gen (4 - (k + 1)) (k + 1)) := Lib.hid (by
                      rw [HM.out, show 4 - k = (4 - (k + 1)) + 1 by omega, HYS.out]
                      simp)
                    have hbq : Below w0.heap.size w0 (wy.drewN nq) := below_drewN (bthen HB5.out HBJ.out) _
                    have hoq : OBs (wy.drewN nq) w0.heap.size (.slice Au lk.length cu) lk := (HO5.out.below HBJ.out).below (below_drewN (Below.refl _ wy) _)
                    have hwq : (wy.drewN nq).ownsRow w0.heap.size 5 1 (.slice A8 j c8) j (bv ys) := own_mono (own_below HO8.out (below_drewN (Below.refl _ wy) _)) HB5.out.size
                    generalize wy.drewN nq = w9 at *
                    have HB9 := Lib.hid (balloc hbq (.cells #[.slice A8 j c8] 37))
                    have HO9 := Lib.hid (hoq.below (below_alloc w9 (.cells #[.slice A8 j c8] 37)))
                    have HW9 := Lib.hid (own_below hwq (below_alloc w9 (.cells #[.slice A8 j c8] 37)))
                    have HR9 := Lib.hid (rd_one w9 (.slice A8 j c8) 37 w9.heap.size rfl)
                    clear hbq hoq hwq
                    go_wp2_with (at_builtin; go_must (refine wpList_append_any (w0 := w0) w0.heap.size rfl _ _ 51 37 (.slice none 0 0) 1 24 rfl Try.underlying51 Try.infoBs rfl (by decide) (by decide) (.slice Au lk.length cu) _ _ (some ⟨w9.heap.size, 0, none⟩) 1 1 [.slice A8 j c8] rfl rfl HO9.out.row HR9.out (by simp [Value.oneCell']) (by have := HL.out; omega) HB9.out HB9.out.size ?_); intro v1 w10 hown10 hb10 hg10 _)
                    have HO10 := Lib.hid (HO9.out.push ⟨0, A8, j, c8, ys⟩ HW9.out hg10 hown10)
                    have HB10 := Lib.hid hb10
                    clear hown10 hb10 hg10
                    go_roundw
                    case rel => exact ⟨k + 1, lk ++ [⟨0, A8, j, c8, ys⟩], by omega, by go_num, Lib.hid (by rw [HN.out]; simp), Lib.hid (by simp [HL.out]), HO10, HB10⟩
                    case measure => simp [intOf]; omega
                  · have hq2 : ((cv : Int) != (n1 : Int)) = true := by rw [bne_iff_ne]; omega
                    have HRN2 := Lib.hid (show recM d.read at' (gen * 256 + (k + 1)) = none by rw [HRN.out, if_neg he])
                    clear he HRN
                    go_quiet (exact quiet_leftJ (HSUM.out _ (HR8.out.below (below_drewN (Below.refl _ wy) _))))
                    have HN : Hid (scanM d.read first gen = lk.map (·.bytes)) := Lib.hid (by rw [HM.out, show 4 - k = (4 - (k + 1)) + 1 by omega, HST.out (HRN2.out), List.append_nil])
                    have HFR := Lib.hid ((HO5.out.below HBJ.out).below (below_drewN (Below.refl _ wy) nq)).rrb.2
                    have HFB := Lib.hid (HB0.out.trans ((below_drewN (bthen HB5.out HBJ.out) nq).mono HB0.out.size))
                    go_wp2_with fail
                    go_ret
                    refine ⟨Au, cu, ?_, ?_, HFB.out⟩
                    · rw [HN.out, List.length_map]; rfl
                    · rw [HN.out, List.length_map]; exact HFR.out
          · have hq : ((mk : Int) != (gen : Int) * 256 + ((k : Int) + 1)) = true := by rw [bne_iff_ne]; omega
            have HRN := Lib.hid (show recM d.read at' (gen * 256 + (k + 1)) = none by rw [HMK.out, if_pos hmk])
            clear hmk HMK
            have HN : Hid (scanM d.read first gen = lk.map (·.bytes)) := Lib.hid (by rw [HM.out, show 4 - k = (4 - (k + 1)) + 1 by omega, HST.out (HRN.out), List.append_nil])
            have HFR := Lib.hid HO5.out.rrb.2
            have HFB := Lib.hid (HB0.out.trans (HB5.out.mono HB0.out.size))
            go_wp2_with fail
            go_ret
            refine ⟨Au, cu, ?_, ?_, HFB.out⟩
            · rw [HN.out, List.length_map]; rfl
            · rw [HN.out, List.length_map]; exact HFR.out
        · have HRN := Lib.hid (show recM d.read at' (gen * 256 + (k + 1)) = none by
            rw [HRC.out]
            simp only [ho5]
            split <;> rfl)
          clear ho5 hb5 HRC
          by_cases hmk : mk = gen * 256 + (k + 1)
          · have hq : ((mk : Int) != (gen : Int) * 256 + ((k : Int) + 1)) = false := by rw [hmk]; simp
            clear hmk
            have HN : Hid (scanM d.read first gen = lk.map (·.bytes)) := Lib.hid (by rw [HM.out, show 4 - k = (4 - (k + 1)) + 1 by omega, HST.out (HRN.out), List.append_nil])
            have HFR := Lib.hid HO5.out.rrb.2
            have HFB := Lib.hid (HB0.out.trans (HB5.out.mono HB0.out.size))
            go_wp2_with fail
            go_ret
            refine ⟨Au, cu, ?_, ?_, HFB.out⟩
            · rw [HN.out, List.length_map]; rfl
            · rw [HN.out, List.length_map]; exact HFR.out
          · have hq : ((mk : Int) != (gen : Int) * 256 + ((k : Int) + 1)) = true := by rw [bne_iff_ne]; omega
            clear hmk
            have HN : Hid (scanM d.read first gen = lk.map (·.bytes)) := Lib.hid (by rw [HM.out, show 4 - k = (4 - (k + 1)) + 1 by omega, HST.out (HRN.out), List.append_nil])
            have HFR := Lib.hid HO5.out.rrb.2
            have HFB := Lib.hid (HB0.out.trans (HB5.out.mono HB0.out.size))
            go_wp2_with fail
            go_ret
            refine ⟨Au, cu, ?_, ?_, HFB.out⟩
            · rw [HN.out, List.length_map]; rfl
            · rw [HN.out, List.length_map]; exact HFR.out
      · have HRN := Lib.hid (show recM d.read at' (gen * 256 + (k + 1)) = none by rw [HRC.out, hno])
        clear hb4 hno hld HRC HO2
        go_wp2_with fail
        have hu := ref02_Unpack [50, 52] none 0 0 [] w4 (RB.nil w4)
        rw [show unpackM [50, 52] [] = none from by decide] at hu
        refine hu.mono ?_
        clear hu
        rintro e w5 ⟨hb5, ⟨v5, lf, ho5, -⟩ | ⟨-, rfl⟩⟩
        · cases ho5
        · have HB5 := Lib.hid (bthen HB4.out hb5); have HO5 := Lib.hid (HO4.out.below hb5)
          clear hb5 HO4
          have HN : Hid (scanM d.read first gen = lk.map (·.bytes)) := Lib.hid (by rw [HM.out, show 4 - k = (4 - (k + 1)) + 1 by omega, HST.out (HRN.out), List.append_nil])
          have HFR := Lib.hid HO5.out.rrb.2
          have HFB := Lib.hid (HB0.out.trans (HB5.out.mono HB0.out.size))
          go_wp2_with fail
          go_ret
          refine ⟨Au, cu, ?_, ?_, HFB.out⟩
          · rw [HN.out, List.length_map]; rfl
          · rw [HN.out, List.length_map]; exact HFR.out
    · obtain rfl : k = 4 := by omega
      have HN : Hid (scanM d.read first gen = lk.map (·.bytes)) := Lib.hid (by rw [HM.out]; simp [scanF])
      have HRR := Lib.hid HO.out.rrb.2
      go_wp2_with fail
      go_ret
      refine ⟨Au, cu, ?_, ?_, HB0.out.trans (HB.out.mono HB0.out.size)⟩
      · rw [HN.out, List.length_map]; rfl
      · rw [HN.out, List.length_map]; exact HRR.out
end Go.Proofs.Ytgakajofggmbjaa

/- No Copy of fields in this chapter: the imports alone. -/

