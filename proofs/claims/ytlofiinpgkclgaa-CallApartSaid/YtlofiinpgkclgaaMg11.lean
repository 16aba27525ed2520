/- The reference's Unpack. -/
import Derived.Test.YtlofiinpgkclgaaMg6
import Derived.Test.YtlofiinpgkclgaaMg10
import Derived.Test.YtlofiinpgkclgaaMg3
import Derived.Test.YtlofiinpgkclgaaMg7
import Derived.Deep.RegionHeld3
import Derived.Test.YtlofiinpgkclgaaMg8
import Derived.Test.YtlofiinpgkclgaaMg9
namespace Go.Proofs.Ytlofiinpgkclgaa
open Go.RowKit

set_option maxRecDepth 20000 in
set_option maxHeartbeats 1600000 in
/-- The reference's number. -/
theorem ref02_number (A : Option Addr) (n c : Nat) (xs : List UInt8) (w : World) (hr : RB w A n c xs) (hn8 : n ≤ 8) :
    Calls Try.prog 35 #[.slice A n c] w fun e w' => e = .returned (.int .u64 (numOf xs)) ∧ w = w' := by
  have HR := Lib.hid hr
  clear hr
  go_enter Try.func35, Try.ntmps35
  go_wp2_with fail
  go_loopw [3, 4] (fun u i wr => ∃ j, j ≤ n ∧ i = .int .i64 (j : Nat) ∧ u = .int .u64 (numOf (xs.take j)) ∧ wr = w) (fun _ i _ => n - (intOf i).toNat)
  case atStart => exact ⟨0, by omega, rfl, rfl, rfl⟩
  case round =>
    obtain ⟨j, hj, rfl, rfl, rfl⟩ := hrel
    by_cases hlt : j < n
    · have hj0 : (0 : Int) ≤ (j : Int) := Int.natCast_nonneg _
      have hj1 : (j : Int) < (n : Int) := by omega
      obtain ⟨b, o, rfl, hcells⟩ := HR.out.2.2.2 (by omega)
      have hcell := hcells j (by omega)
      have hnt := numOf_take xs j (by rw [HR.out.1]; omega)
      have hsm := numOf_small xs (j + 1) (by omega)
      rw [hnt] at hsm
      have hx := (at8 xs j).toNat_lt
      have HT := Lib.hid hnt
      clear hcells hnt
      generalize numOf (xs.take j) = m at *
      generalize at8 xs j = x at *
      go_wp2_with fail
      go_roundw
      case rel => exact ⟨j + 1, by omega, by go_num, by rw [HT.out]; go_num, trivial⟩
      case measure => simp [intOf]; omega
    · obtain rfl : j = n := by omega
      have e : xs.take j = xs := List.take_of_length_le (by rw [HR.out.1]; exact Nat.le_refl _)
      rw [e]
      go_wp2_with fail
      go_ret
      exact ⟨rfl, rfl⟩
theorem cutA_ne {A : Option Addr} {c l : Nat} (h : ¬ c = l) : Option.map (fun x => x.add l) A = cutA A c l := by unfold cutA; rw [if_neg h]
set_option maxRecDepth 20000 in
set_option maxHeartbeats 3200000 in
theorem ref02_unpack_main (sh : List UInt8) (A : Option Addr) (n c : Nat) (bs : List UInt8) (w : World) (hr : RB w A n c bs) (hs : sh.length ≤ 200) :
    Calls Try.prog 25 #[.string (strOf sh), .slice A n c] w (UnpackedPost w (unpackM sh bs)) := by
  have HR := Lib.hid hr
  have hlen : bs.length = n := hr.1
  have hnc : n ≤ c := hr.2.1
  have hcm : c ≤ 9223372036854775807 := hr.2.2.1
  generalize hm : sh.length = m at *
  have hsz : (strOf sh).size = m := by simp [strOf, hm, ByteArray.size]
  have hd : decide ((200 : Int) < (m : Int)) = false := decide_eq_false (by omega)
  have HM := Lib.hid hm
  have HLEN := Lib.hid hlen
  clear hr hm hlen
  go_enter Try.func25, Try.ntmps25
  go_wp2_with fail
  go_loopw [6, 7, 8] (fun u a i wr => ∃ k p lk, k ≤ m ∧ i = .int .i64 (k : Nat) ∧ a = .int .i64 (p : Nat) ∧ Hid (unTo sh bs k = some (vals lk, p)) ∧ Hid (OFields wr w.heap.size u lk) ∧ Hid (lk.length = k) ∧ Hid (Below w.heap.size w wr) ∧ p ≤ n) (fun _ _ i _ => m - (intOf i).toNat)
  case atStart => exact ⟨0, 0, [], by omega, rfl, rfl, Lib.hid rfl, Lib.hid ⟨own_empty w _ _ _ (Nat.le_refl _), by simp, by simp, by simp⟩, Lib.hid rfl, Lib.hid (below_alloc _ _), Nat.zero_le _⟩
  case round =>
    obtain ⟨k, p, lk, hk, rfl, rfl, HP, HO, HK, HB, hpn⟩ := hrel
    by_cases hlt : k < m
    · have hk0 : (0 : Int) ≤ (k : Int) := Int.natCast_nonneg _
      have hk1 : (k : Int) < (m : Int) := by omega
      have hp0 : (0 : Int) ≤ (p : Int) := Int.natCast_nonneg _
      have hst := unTo_step HP.out
      have hg := strOf_get sh k
      have HNO : Hid (unTo sh bs (k + 1) = none → unpackM sh bs = none) := Lib.hid fun h => unpackM_none h (by rw [HM.out]; omega)
      obtain ⟨r, hrp⟩ : ∃ r : Nat, n = p + r := ⟨n - p, by omega⟩
      have hsub : (n : Int) - (p : Int) = (r : Int) := by omega
      have hcr : p + r ≤ c := by omega
      have hbl : (bs.drop p).length = r := by rw [List.length_drop, HLEN.out]; omega
      generalize hys : bs.drop p = ys at *
      generalize at8 sh k = ch at hst hg
      have HW := Lib.hid (ref02_width ch)
      rcases letterW_cases ch with hlw | ⟨hlw, rfl⟩ | ⟨wd, hlw, hcw⟩
      · have HST : Hid (unTo sh bs (k + 1) = none) := Lib.hid (by rw [hst, decF, hlw]; rfl)
        rw [letterI_none hlw] at HW
        clear hst hlw
        go_wp2_with fail
        refine (HW.out _).mono ?_
        rintro e w' ⟨rfl, rfl⟩
        go_wp2_with fail
        go_ret2
        exact ⟨HB.out, .inr ⟨HNO.out HST.out, rfl⟩⟩
      · rw [letterI_some hlw] at HW
        by_cases h2 : r < 2
        · have HST : Hid (unTo sh bs (k + 1) = none) := Lib.hid (by rw [hst, decF, hlw]; simp only []; rw [if_pos (by rw [hbl]; exact h2)]; rfl)
          have hd2 : decide ((r : Int) < 2) = true := decide_eq_true (by omega)
          clear hst hlw
          go_wp2_with fail
          refine (HW.out _).mono ?_
          rintro e w' ⟨rfl, rfl⟩
          go_wp2_with fail
          go_ret2
          exact ⟨HB.out, .inr ⟨HNO.out HST.out, rfl⟩⟩
        · have hd2 : decide ((r : Int) < 2) = false := decide_eq_false (by omega)
          have hcp : ¬ c = p := by omega
          have hcut := HR.out.cut p 2 (by omega)
          rw [hys] at hcut
          have HNUM := Lib.hid (fun W (hb : Below w.heap.size w W) => ref02_number (cutA A c p) 2 (c - p) (ys.take 2) W (hcut.below hb) (by omega))
          have hsm := numOf_lt ys 2
          have hp2 : (p : Int) + 2 ≤ (c : Int) := by omega
          have hAd := cutA_ne (A := A) hcp
          clear hcut
          by_cases h1024 : 1024 < numOf (ys.take 2)
          · have HST : Hid (unTo sh bs (k + 1) = none) := Lib.hid (by rw [hst, decF, hlw]; simp only []; rw [if_neg (by rw [hbl]; exact h2), if_pos h1024]; rfl)
            generalize numOf (ys.take 2) = v at *
            have hd1 : decide ((1024 : Int) < (v : Int)) = true := decide_eq_true (by omega)
            clear hst hlw
            go_wp2_with fail
            refine (HW.out _).mono ?_
            rintro e w' ⟨rfl, rfl⟩
            go_wp2_with fail
            refine (HNUM.out _ HB.out).mono ?_
            rintro e w' ⟨rfl, rfl⟩
            go_wp2_with fail
            go_ret2
            exact ⟨HB.out, .inr ⟨HNO.out HST.out, rfl⟩⟩
          · have hdec : decF 98 ys = if ys.length - 2 < numOf (ys.take 2) then none else some ((0, (ys.drop 2).take (numOf (ys.take 2))), 2 + numOf (ys.take 2)) := by
              rw [decF, hlw]; simp only []; rw [if_neg (by rw [hbl]; exact h2), if_neg h1024]
            generalize numOf (ys.take 2) = v at *
            have hv0 : (0 : Int) ≤ (v : Int) := Int.natCast_nonneg _
            have hd1 : decide ((1024 : Int) < (v : Int)) = false := decide_eq_false (by omega)
            obtain ⟨r2, hr2⟩ : ∃ r2 : Nat, r = 2 + r2 := ⟨r - 2, by omega⟩
            have hsub2 : (n : Int) - ((p : Int) + 2) = (r2 : Int) := by omega
            have hwr : IntKind.u64.wrap (r2 : Int) = (r2 : Int) := wrap_u64 r2 (by omega)
            have hwv : IntKind.i64.wrap (v : Int) = (v : Int) := by simp [IntKind.wrap, IntKind.signed, IntKind.bits]; omega
            by_cases hfit : r2 < v
            · have HST : Hid (unTo sh bs (k + 1) = none) := Lib.hid (by rw [hst, hdec, if_pos (by rw [hbl]; omega)]; rfl)
              have hd3 : decide (r2 < v) = true := decide_eq_true hfit
              have HX := Lib.hid hrp; have HX2 := Lib.hid hr2
              clear hst hlw hdec hfit hrp hr2
              go_wp2_with fail
              refine (HW.out _).mono ?_
              rintro e w' ⟨rfl, rfl⟩
              go_wp2_with fail
              refine (HNUM.out _ HB.out).mono ?_
              rintro e w' ⟨rfl, rfl⟩
              go_wp2_with fail
              go_ret2
              exact ⟨HB.out, .inr ⟨HNO.out HST.out, rfl⟩⟩
            · have HST : Hid (unTo sh bs (k + 1) = some (vals lk ++ [(0, (ys.drop 2).take v)], p + (2 + v))) := Lib.hid (by rw [hst, hdec, if_neg (by rw [hbl]; omega)]; rfl)
              have hd3 : decide (r2 < v) = false := decide_eq_false hfit
              have HX := Lib.hid hrp; have HX2 := Lib.hid hr2; have HX3 := Lib.hid hfit
              have hcut2 := HR.out.cut (p + 2) v (by omega)
              rw [← List.drop_drop, hys] at hcut2
              have hpv : (p : Int) + 2 + (v : Int) ≤ (c : Int) := by omega
              have hlen3 : Hid (((ys.drop 2).take v).length = v) := Lib.hid hcut2.1
              have HPV : Hid (p + (2 + v) ≤ n ∧ v ≤ 1024) := Lib.hid ⟨by omega, by omega⟩
              generalize hzs : (ys.drop 2).take v = zs at *
              have HC2 := Lib.hid hcut2
              have HYS := Lib.hid hys
              have HZS := Lib.hid hzs
              clear hst hlw hdec hfit hrp hr2 hcut2 hys hzs
              go_wp2_with fail
              refine (HW.out _).mono ?_
              rintro e w' ⟨rfl, rfl⟩
              go_wp2_with fail
              refine (HNUM.out _ HB.out).mono ?_
              rintro e w' ⟨rfl, rfl⟩
              clear HW HNUM
              go_wp2_with (first
                | (refine wpList_cut rfl _ _ _ rfl A n c (p + 2) v rfl rfl _ rfl (by omega) (by have := HPV.out; omega) ?_)
                | (at_builtin; refine wpList_copy_bytes (W := wr) rfl _ _ 27 5 rfl Try.underlying27 Try.infoU8' (cutA A c (p + 2)) v (c - (p + 2)) zs wr.heap.size rfl rfl rfl (HC2.out.below HB.out) (by have := HPV.out; omega) ?_
                   intro A1 c1 w4 hown4 hrb4 hb4
                   have HO4 := Lib.hid (own_mono hown4 HB.out.size)
                   have HB4 := Lib.hid (bthen HB.out hb4)
                   have ho4 := Lib.hid (HO.out.below hb4)
                   clear hown4 hrb4 hb4)
                | (at_builtin; refine wpList_append_any (w0 := w4.alloc (.cells #[.int .u64 0, .slice A1 v c1] 52)) w.heap.size rfl _ _ 49 52 (.agg #[.int .u64 0, .slice none 0 0]) 2 32 rfl Try.underlying49 Try.info87 rfl (by decide) (by decide) u6 lk.length (fcells lk) (some ⟨w4.heap.size, 0, none⟩) 1 1 [.int .u64 0, .slice A1 v c1] rfl rfl (ho4.out.alloc _).row ⟨rfl, fun _ => ⟨_, _, rfl, fun j v hj => by rw [World.cell?_alloc_mark, Nat.zero_add]; simpa using hj⟩⟩ (by simp [Value.oneCell']) (by rw [HK.out]; omega) (Below.refl _ _) (by have := HB4.out.size; simp; omega) ?_
                   intro v5 w5 hown5 hb5 hg5 ha5
                   have h5 : Hid (Below w.heap.size w w5) := Lib.hid ((HB4.out.alloc HB4.out.size _).trans hb5)
                   have ho5 : Hid (OFields w5 w.heap.size v5 (lk ++ [⟨0, A1, v, c1, zs⟩])) := Lib.hid ((ho4.out.alloc _).push ⟨0, A1, v, c1, zs⟩ (by simp) (by have := HPV.out; simp; omega) (HO4.out.alloc _) hg5 hown5)
                   clear hown5 hb5 hg5 ha5))
              go_roundw
              case rel => exact ⟨k + 1, p + (2 + v), lk ++ [⟨0, A1, v, c1, zs⟩], by omega, by go_num, by go_num, Lib.hid (by rw [HST.out]; simp [vals]), ho5, Lib.hid (by rw [List.length_append, HK.out]; rfl), h5, HPV.out.1⟩
              case measure => simp [intOf]; omega
      · rw [letterI_some hlw] at HW
        have hw8 : wd + 1 ≤ 8 := by omega
        have hw0 : (0 : Int) < ((wd + 1 : Nat) : Int) := by omega
        have hw1 : decide (((wd + 1 : Nat) : Int) < 0) = false := decide_eq_false (by omega)
        have hw2 : (((wd + 1 : Nat) : Int) == 0) = false := by rw [beq_eq_false_iff_ne]; omega
        have HX := Lib.hid hrp
        by_cases h2 : r < wd + 1
        · have HST : Hid (unTo sh bs (k + 1) = none) := Lib.hid (by rw [hst, decF, hlw]; simp only []; rw [if_pos (by rw [hbl]; exact h2)]; rfl)
          have hd2 : decide (r < wd + 1) = true := decide_eq_true h2
          clear hst hlw hcw hrp
          generalize hwi : wd + 1 = wi at *
          clear hwi
          go_wp2_with fail
          refine (HW.out _).mono ?_
          rintro e w' ⟨rfl, rfl⟩
          go_wp2_with fail
          go_ret2
          exact ⟨HB.out, .inr ⟨HNO.out HST.out, rfl⟩⟩
        · have hd2 : decide (r < wd + 1) = false := decide_eq_false h2
          have HST : Hid (unTo sh bs (k + 1) = some (vals lk ++ [(numOf (ys.take (wd + 1)), [])], p + (wd + 1))) := Lib.hid (by rw [hst, decF, hlw]; simp only []; rw [if_neg (by rw [hbl]; exact h2)]; rfl)
          clear hst hlw hcw
          generalize hwi : wd + 1 = wi at *
          clear hwi
          have hcut := HR.out.cut p wi (by omega)
          rw [hys] at hcut
          have HNUM := Lib.hid (fun W (hb : Below w.heap.size w W) => ref02_number (cutA A c p) wi (c - p) (ys.take wi) W (hcut.below hb) (by omega))
          have hsm := numOf_small ys wi (by omega)
          have HSM := Lib.hid hsm
          have HPW : Hid (p + wi ≤ n) := Lib.hid (by omega)
          have hpw : (p : Int) + (wi : Int) ≤ 9223372036854775807 := by omega
          generalize numOf (ys.take wi) = v at *
          clear hcut hrp hsm
          go_wp2_with fail
          refine (HW.out _).mono ?_
          rintro e w' ⟨rfl, rfl⟩
          go_wp2_with (refine wpList_cut rfl _ _ _ rfl A n c p wi rfl rfl _ rfl (by first | rfl | omega) (by have := HPW.out; omega) ?_)
          refine (HNUM.out _ HB.out).mono ?_
          rintro e w' ⟨rfl, rfl⟩
          go_wp2_with (at_builtin; refine wpList_append_any (w0 := wr.alloc (.cells #[.int .u64 v, .slice none 0 0] 52)) w.heap.size rfl _ _ 49 52 (.agg #[.int .u64 0, .slice none 0 0]) 2 32 rfl Try.underlying49 Try.info87 rfl (by decide) (by decide) u6 lk.length (fcells lk) (some ⟨wr.heap.size, 0, none⟩) 1 1 [.int .u64 v, .slice none 0 0] rfl rfl (HO.out.alloc _).row ⟨rfl, fun _ => ⟨_, _, rfl, fun j v hj => by rw [World.cell?_alloc_mark, Nat.zero_add]; simpa using hj⟩⟩ (by simp [Value.oneCell']) (by rw [HK.out]; omega) (Below.refl _ _) (by have := HB.out.size; simp; omega) ?_; intro v5 w5 hown5 hb5 hg5 ha5; have h5 : Hid (Below w.heap.size w w5) := Lib.hid ((HB.out.alloc HB.out.size _).trans hb5); have ho5 : Hid (OFields w5 w.heap.size v5 (lk ++ [⟨v, none, 0, 0, []⟩])) := Lib.hid ((HO.out.alloc _).push ⟨v, none, 0, 0, []⟩ HSM.out (by simp) (World.ownsRow_nil _ _ _ _) hg5 hown5); clear hown5 hb5 hg5 ha5)
          go_roundw
          case rel => exact ⟨k + 1, p + wi, lk ++ [⟨v, none, 0, 0, []⟩], by omega, by go_num, by go_num, Lib.hid (by rw [HST.out]; simp [vals]), ho5, Lib.hid (by rw [List.length_append, HK.out]; rfl), h5, HPW.out⟩
          case measure => simp [intOf]; omega
    · obtain rfl : k = m := by omega
      have hun : unpackM sh bs = if p = bs.length then some (vals lk) else none := unpackM_done (by rw [HM.out]; exact HP.out) (by rw [HM.out]; exact hs)
      rw [HLEN.out] at hun
      by_cases h0 : p = n
      · have HN : Hid (unpackM sh bs = some (vals lk)) := Lib.hid (by rw [hun, if_pos h0])
        have hq : ((p : Int) != (n : Int)) = false := by rw [h0]; simp
        clear hun h0
        go_wp2_with fail
        go_ret2
        exact ⟨HB.out, .inl ⟨u6, lk, HN.out, rfl, HO.out⟩⟩
      · have HN : Hid (unpackM sh bs = none) := Lib.hid (by rw [hun, if_neg h0])
        have hq : ((p : Int) != (n : Int)) = true := by rw [bne_iff_ne]; omega
        clear hun h0
        go_wp2_with fail
        go_ret2
        exact ⟨HB.out, .inr ⟨HN.out, rfl⟩⟩
/-- The reference's Unpack. -/
theorem ref02_Unpack (sh : List UInt8) (A : Option Addr) (n c : Nat) (bs : List UInt8) (w : World) (hr : RB w A n c bs) :
    Calls Try.prog 25 #[.string (strOf sh), .slice A n c] w (UnpackedPost w (unpackM sh bs)) := by
  by_cases hs : sh.length ≤ 200
  · exact ref02_unpack_main sh A n c bs w hr hs
  · rw [unpackM_long (by omega)]
    have hsz : (strOf sh).size = sh.length := by simp [strOf, ByteArray.size]
    generalize sh.length = m at *
    have hd : decide ((200 : Int) < (m : Int)) = true := decide_eq_true (by omega)
    go_enter Try.func25, Try.ntmps25
    go_wp2_with fail
    go_ret2
    exact ⟨Below.refl _ _, .inr ⟨rfl, rfl⟩⟩
end Go.Proofs.Ytlofiinpgkclgaa

/- unlabel: the document's label of bytes. -/
namespace Go.Proofs.Ytlofiinpgkclgaa
open Go.RowKit

theorem ref_unpack81 (A : Option Addr) (c : Nat) (p : List UInt8) (x y : Nat) (w : World) (hr : RB w A 9 c p) (hu : unpackM [56, 49] p = some [(x, []), (y, [])]) :
    Calls Try.prog 25 #[.string (strOf [56, 49]), .slice A 9 c] w fun e w' => ∃ g o2 c2, e = .returned (.tuple #[.slice (some ⟨g, o2, none⟩) 2 c2, .int .i64 0]) ∧ w.heap.size ≤ g ∧ Below w.heap.size w w' ∧
      w'.cell? ⟨g, o2, none⟩ = some (.int .u64 (x : Nat)) ∧ w'.cell? ⟨g, o2 + 2, none⟩ = some (.int .u64 (y : Nat)) := by
  have h := ref02_Unpack [56, 49] A 9 c p w hr
  rw [hu] at h
  refine h.mono ?_
  rintro e w' ⟨hb, ⟨v, lk, hlk, rfl, hof⟩ | ⟨hno, -⟩⟩
  · injection hlk with hlk
    obtain ⟨h2, hx, hy⟩ := vals_two' hlk.symm
    obtain ⟨A2, c2, rfl, hrf⟩ := hof.read
    rw [h2] at hrf ⊢
    obtain ⟨g, o2, rfl, hfs⟩ := hrf.2.2.2 (by omega)
    have g0 := (hfs 0 (by omega)).1 0 _ rfl
    have g1 := (hfs 1 (by omega)).1 0 _ rfl
    rw [hx] at g0
    rw [hy] at g1
    exact ⟨g, o2, c2, rfl, (hof.row.lt g rfl).1, hb, g0, g1⟩
  · cases hno
/-- The document's label of bytes: of those that are none one that has no bytes. -/
def unlabM (bs : List UInt8) : LabD := if bs.length % 9 = 1 then labOf bs else ⟨-1, []⟩
/-- Between two rounds of unlabel. -/
structure UnI (bs : List UInt8) (w : World) (k : Nat) (wr : World) : Prop where
  lab : ∃ v, Box2 wr (w.heap.size + 1) 26 (.int .i64 ((at8 bs 0).toNat : Int)) v ∧ wr.ownsRow (w.heap.size + 2) 65 2 v k (ccells (catsOf bs k))
  res : Box2 wr w.heap.size 26 (.int .i64 0) (.slice none 0 0)
  below : Below w.heap.size w wr
  size : w.heap.size + 2 ≤ wr.heap.size
set_option maxRecDepth 20000 in
set_option maxHeartbeats 2000000 in
theorem ref19_unlabel (A : Option Addr) (n c : Nat) (bs : List UInt8) (w : World) (hr : RB w A n c bs) (hn : n ≤ 1000000) :
    Calls Try.prog 26 #[.slice A n c] w fun e w' => Below w.heap.size w w' ∧ ∃ v, e = .returned (.agg #[.int .i64 (unlabM bs).dflt, v]) ∧ w'.ownsRow w.heap.size 65 2 v (unlabM bs).cats.length (ccells (unlabM bs).cats) := by
  have hn9 : (n : Int) ≤ 9223372036854775807 := by omega
  have HR := Lib.hid hr
  have hl : bs.length = n := hr.1
  have hbb := balloc (below_alloc w (.cells #[.int .i64 0, .slice none 0 0] 26)) (.cells #[.int .i64 (-1), .slice none 0 0] 26)
  have HBB := Lib.hid hbb
  have hq1 := Box2.new w 26 (.int .i64 0) (.slice none 0 0)
  have hq2 := Box2.new (w.alloc (.cells #[.int .i64 0, .slice none 0 0] 26)) 26 (.int .i64 (-1)) (.slice none 0 0)
  rw [World.size_alloc] at hq2
  have HQ1 := Lib.hid hq1; have HQ2 := Lib.hid hq2
  clear hr hbb hq1 hq2
  go_enter Try.func26, Try.ntmps26
  by_cases h1 : n % 9 = 1
  · have q1 : ((n : Int) % 9 != 1) = false := by rw [bne_eq_false_iff_eq]; omega
    obtain ⟨q, HQ⟩ : ∃ q, Hid (n = 9 * q + 1) := ⟨n / 9, Lib.hid (by omega)⟩
    obtain ⟨b, o, rfl, hcs⟩ := HR.out.2.2.2 (by omega)
    have hlt0 : (0 : Int) < (n : Int) := by omega
    have HCC : Hid (n ≤ c ∧ c ≤ 9223372036854775807) := Lib.hid ⟨HR.out.2.1, HR.out.2.2.1⟩
    have hc0 := hcs 0 (by omega)
    have hbw : b < w.heap.size := World.block_lt_of_cell? w _ hc0
    have hc0' : ((w.alloc (.cells #[.int .i64 0, .slice none 0 0] 26)).alloc (.cells #[.int .i64 (-1), .slice none 0 0] 26)).cell? ⟨b, o, none⟩ = some (.int .u8 ((at8 bs 0).toNat : Int)) := (HBB.out.cell (p := ⟨b, o, none⟩) hbw).trans hc0
    have hw0 : IntKind.i64.wrap ((at8 bs 0).toNat : Int) = ((at8 bs 0).toNat : Int) := by have := (at8 bs 0).toNat_lt; simp [IntKind.wrap, IntKind.signed, IntKind.bits]; omega
    have hw0' : wrap64 ((at8 bs 0).toNat : Int) = ((at8 bs 0).toNat : Int) := by have := (at8 bs 0).toNat_lt; simp [wrap64]; omega
    have HL : Hid (unlabM bs = ⟨((at8 bs 0).toNat : Int), catsOf bs q⟩) := Lib.hid (by simp only [unlabM, labOf]; rw [if_pos (by omega), hl]; congr 2; have := HQ.out; omega)
    clear hcs hc0
    go_wp2_with fail
    have hstart : UnI bs w 0 ((w.alloc (.cells #[.int .i64 0, .slice none 0 0] 26)).alloc (.cells #[.int .i64 ((at8 bs 0).toNat : Int), .slice none 0 0] 26)) := by
      have hq2 := Box2.new (w.alloc (.cells #[.int .i64 0, .slice none 0 0] 26)) 26 (.int .i64 ((at8 bs 0).toNat : Int)) (.slice none 0 0)
      rw [World.size_alloc] at hq2
      exact ⟨⟨_, hq2, World.ownsRow_nil _ _ _ _⟩, HQ1.out.alloc _, balloc (below_alloc w _) _, by simp⟩
    generalize (w.alloc (.cells #[.int .i64 0, .slice none 0 0] 26)).alloc (.cells #[.int .i64 ((at8 bs 0).toNat : Int), .slice none 0 0] 26) = w2 at *
    have HST := Lib.hid hstart
    clear hstart hc0' HBB HQ1 HQ2
    go_loopw [4] (fun i wr => ∃ k p : Nat, k ≤ q ∧ i = .int .i64 (p : Nat) ∧ Hid (p = 1 + 9 * k) ∧ Hid (UnI bs w k wr)) (fun i _ => n - (intOf i).toNat)
    case atStart => exact ⟨0, 1, by omega, rfl, Lib.hid rfl, HST⟩
    case round =>
      obtain ⟨k, p, hk, rfl, HP, HU⟩ := hrel
      obtain ⟨⟨v, hv, hrow⟩, hres, hB, hsz⟩ := HU.out
      have q0 := hv.cell0
      have t0 := hres.cell0
      have t1 := hres.cell1
      have r0 := hres.frozen 0
      have r1 := hres.frozen 1
      have hp0 : (0 : Int) ≤ (p : Int) := Int.natCast_nonneg _
      by_cases hlt : k < q
      · have hp1 : (p : Int) < (n : Int) := by have := HQ.out; have := HP.out; omega
        have hw9 : IntKind.i64.wrap ((p : Int) + 9) = (p : Int) + 9 := by simp [IntKind.wrap, IntKind.signed, IntKind.bits]; omega
        have HRB : Hid (RB wr (cutA (some ⟨b, o, none⟩) c p) 9 (c - p) ((bs.drop p).take 9)) := Lib.hid ((HR.out.cut p 9 (by have := HQ.out; have := HP.out; omega)).below hB)
        have HUN : Hid (unpackM [56, 49] ((bs.drop p).take 9) = some [((catOf bs k).id, []), ((at8 bs (9 + 9 * k)).toNat, [])]) := Lib.hid (by
          have := piece_bytes bs k (by have := HQ.out; omega)
          rwa [List.drop_drop, ← HP.out] at this)
        have hmx : Try.prog.follows .mixedOrders = true := by kernel_rfl
        go_wp2_with (first
          | (refine wpList_cut rfl _ _ _ rfl (some ⟨b, o, none⟩) n c p 9 rfl rfl _ rfl (by omega) (by have := HP.out; have := HQ.out; have := HCC.out; omega) ?_)
          | (go_at_call 25; refine (ref_unpack81 _ _ _ _ _ _ HRB.out HUN.out).mono ?_; rintro e w1 ⟨g, o2, c2, rfl, hg0, hb1, g0, g1⟩))
        have hkq : k < 200000 := by have := HQ.out; omega
        have hd1 : Box2 w1.drew (w.heap.size + 1) 26 (.int .i64 ((at8 bs 0).toNat : Int)) v := hv.below hb1.drew hv.lt
        have hrow1 : w1.drew.ownsRow (w.heap.size + 2) 65 2 v k (ccells (catsOf bs k)) := (own_below hrow hb1).drew
        have hszw : w.heap.size + 2 ≤ w1.heap.size := Nat.le_trans hsz hb1.size
        have hwy : IntKind.i64.wrap ((at8 bs (9 + 9 * k)).toNat : Int) = ((at8 bs (9 + 9 * k)).toNat : Int) := by have := (at8 bs (9 + 9 * k)).toNat_lt; simp [IntKind.wrap, IntKind.signed, IntKind.bits]; omega
        have hid : (catOf bs k).lev = ((at8 bs (9 + 9 * k)).toNat : Int) := rfl
        generalize hci : (catOf bs k).id = ci at *
        generalize hcy : (at8 bs (9 + 9 * k)).toNat = cy at *
        have HD1 := Lib.hid hd1
        have HROW0 := Lib.hid hrow1
        have HSZ0 : Hid (w.heap.size ≤ w1.drew.heap.size) := Lib.hid (by show _ ≤ w1.heap.size; omega)
        have HROW := Lib.hid (hrow1.alloc (.cells #[.int .u64 (ci : Nat), .int .i64 (cy : Nat)] 65))
        have HSZ : Hid (w.heap.size + 2 ≤ (w1.drew.alloc (.cells #[.int .u64 (ci : Nat), .int .i64 (cy : Nat)] 65)).heap.size) := Lib.hid (by rw [World.size_alloc]; show _ ≤ w1.heap.size + 1; omega)
        have HRD : Hid (Rd (w1.drew.alloc (.cells #[.int .u64 (ci : Nat), .int .i64 (cy : Nat)] 65)) (some ⟨w1.heap.size, 0, none⟩) 1 2 [.int .u64 (ci : Nat), .int .i64 (cy : Nat)]) :=
          Lib.hid ⟨rfl, fun _ => ⟨_, _, rfl, fun j u hj => by rw [show w1.heap.size = w1.drew.heap.size from rfl, World.cell?_alloc_mark, Nat.zero_add, ← hj]; simp⟩⟩
        have HKA := Lib.hid (fun (o' : Obj) => (⟨cell_al o' g0, cell_al o' g1⟩ : (w1.alloc o').cell? ⟨g, o2, none⟩ = some (.int .u64 (ci : Nat)) ∧ (w1.alloc o').cell? ⟨g, o2 + 2, none⟩ = some (.int .u64 (cy : Nat))))
        have HKG := Lib.hid (fun (o' : Obj) (w2 : World) (h : (w1.drew.alloc o').grownBy w2 v.ownBlock) => (⟨h.cell (cell_al (w := w1.drew) o' g0) (fun e => by have := (hrow.lt _ e.symm).2; simp at this; omega), h.cell (cell_al (w := w1.drew) o' g1) (fun e => by have := (hrow.lt _ e.symm).2; simp at this; omega)⟩ : w2.cell? ⟨g, o2, none⟩ = some (.int .u64 (ci : Nat)) ∧ w2.cell? ⟨g, o2 + 2, none⟩ = some (.int .u64 (cy : Nat))))
        have HKS := Lib.hid (fun (w2 : World) (u : Value) (h : w2.cell? ⟨g, o2, none⟩ = some (.int .u64 (ci : Nat)) ∧ w2.cell? ⟨g, o2 + 2, none⟩ = some (.int .u64 (cy : Nat))) => (⟨(World.cell?_of_block (Below.heap_setCell _ _ _ _ (by have := hv.lt; simp; omega))).trans h.1, (World.cell?_of_block (Below.heap_setCell _ _ _ _ (by have := hv.lt; simp; omega))).trans h.2⟩ : (w2.setCell ⟨w.heap.size + 1, 1, none⟩ u).cell? ⟨g, o2, none⟩ = some (.int .u64 (ci : Nat)) ∧ (w2.setCell ⟨w.heap.size + 1, 1, none⟩ u).cell? ⟨g, o2 + 2, none⟩ = some (.int .u64 (cy : Nat))))
        have hc1 := hd1.cell1
        have hc1a : (w1.alloc (.cells #[.int .u64 (ci : Nat), .int .i64 (cy : Nat)] 65)).cell? ⟨w.heap.size + 1, 1, none⟩ = some v := cell_al (w := w1) _ hc1
        have HRES := Lib.hid (fun (o' : Obj) (w2 : World) (u : Value) (h : (w1.drew.alloc o').grownBy w2 v.ownBlock) => ((((hres.below hb1.drew hres.lt).alloc o').kept h (hres.not_row (by decide) hrow)).kept (grownBy_set w2 (w.heap.size + 1) 1 u) (fun e => by injection e with e; omega) : Box2 (w2.setCell ⟨w.heap.size + 1, 1, none⟩ u) w.heap.size 26 (.int .i64 0) (.slice none 0 0)))
        have HBW := Lib.hid (hB.trans (hb1.drew.mono hB.size))
        clear hrow hrow1 hd1 hv hB hres hsz hb1
        refine wp_region_held_drew (S := fun W' => W'.cell? ⟨g, o2, none⟩ = some (.int .u64 (ci : Nat)) ∧ W'.cell? ⟨g, o2 + 2, none⟩ = some (.int .u64 (cy : Nat))) hmx ⟨g0, g1⟩ (fun hS => ?_)
        refine wpAnyH_take (i := 0) (v := ?_) rfl (by kernel_rfl) (by kernel_rfl) (by kernel_rfl) (fun _ _ _ h => h) (Or.inl ⟨by rfl, ?_⟩) hS ?_
        rotate_left
        · intro w hSw
          try dsimp only at hSw
          go_simp
          try with_reducible rfl
        try simp only [Act.put, List.setIfInBounds_toArray, List.set_cons_zero, List.set_cons_succ]
        refine wpAnyH_take (i := 2) (v := ?_) rfl (by kernel_rfl) (by kernel_rfl) (by kernel_rfl) (fun _ _ _ h => h) (Or.inl ⟨by rfl, ?_⟩) hS ?_
        rotate_left
        · intro w hSw
          try dsimp only at hSw
          go_simp
          try with_reducible rfl
        try simp only [Act.put, List.setIfInBounds_toArray, List.set_cons_zero, List.set_cons_succ]
        refine wpAnyH_take (i := 3) (v := ?_) rfl (by kernel_rfl) (by kernel_rfl) (by kernel_rfl) (fun _ _ _ h => h) (Or.inl ⟨by rfl, ?_⟩) hS ?_
        rotate_left
        · intro w hSw
          try dsimp only at hSw
          go_simp
          try with_reducible rfl
        try simp only [Act.put, List.setIfInBounds_toArray, List.set_cons_zero, List.set_cons_succ]
        refine wpAnyH_take (i := 4) (v := ?_) rfl (by kernel_rfl) (by kernel_rfl) (by kernel_rfl) (fun _ _ _ h => h) (Or.inl ⟨by rfl, ?_⟩) hS ?_
        rotate_left
        · intro w hSw
          try dsimp only at hSw
          go_simp
          try with_reducible rfl
        try simp only [Act.put, List.setIfInBounds_toArray, List.set_cons_zero, List.set_cons_succ]
        refine wpAnyH_take (i := 5) (v := ?_) rfl (by kernel_rfl) (by kernel_rfl) (by kernel_rfl) (fun _ _ _ h => h) (Or.inl ⟨by rfl, ?_⟩) hS ?_
        rotate_left
        · intro w hSw
          try dsimp only at hSw
          go_simp
          try with_reducible rfl
        try simp only [Act.put, List.setIfInBounds_toArray, List.set_cons_zero, List.set_cons_succ]
        refine wpAnyH_take (i := 6) (v := ?_) rfl (by kernel_rfl) (by kernel_rfl) (by kernel_rfl) (fun _ _ _ h => h) (Or.inl ⟨by rfl, ?_⟩) hS ?_
        rotate_left
        · intro w hSw
          try dsimp only at hSw
          go_simp
          try with_reducible rfl
        try simp only [Act.put, List.setIfInBounds_toArray, List.set_cons_zero, List.set_cons_succ]
        refine wpAnyH_take (i := 7) (v := ?_) rfl (by kernel_rfl) (by kernel_rfl) (by kernel_rfl) (fun _ _ _ h => h) (Or.inl ⟨by rfl, ?_⟩) hS ?_
        rotate_left
        · intro w hSw
          try dsimp only at hSw
          go_simp
          try with_reducible rfl
        try simp only [Act.put, List.setIfInBounds_toArray, List.set_cons_zero, List.set_cons_succ]
        refine wpAnyH_take (i := 8) (v := ?_) rfl (by kernel_rfl) (by kernel_rfl) (by kernel_rfl) (fun _ _ _ h => h) (Or.inl ⟨by rfl, ?_⟩) hS ?_
        rotate_left
        · intro w hSw
          try dsimp only at hSw
          go_simp
          try with_reducible rfl
        try simp only [Act.put, List.setIfInBounds_toArray, List.set_cons_zero, List.set_cons_succ]
        refine wpAnyH_take (i := 9) (v := ?_) rfl (by kernel_rfl) (by kernel_rfl) (by kernel_rfl) (fun _ _ _ h => h) (Or.inl ⟨by rfl, ?_⟩) hS ?_
        rotate_left
        · intro w hSw
          try dsimp only at hSw
          go_simp
          try with_reducible rfl
        try simp only [Act.put, List.setIfInBounds_toArray, List.set_cons_zero, List.set_cons_succ]
        refine wpAnyH_take (i := 10) (v := ?_) rfl (by kernel_rfl) (by kernel_rfl) (by kernel_rfl) (fun _ _ _ h => h) (Or.inl ⟨by rfl, ?_⟩) hS ?_
        rotate_left
        · intro w hSw
          try dsimp only at hSw
          go_simp
          try with_reducible rfl
        try simp only [Act.put, List.setIfInBounds_toArray, List.set_cons_zero, List.set_cons_succ]
        refine wpAnyH_take (i := 11) (v := ?_) rfl (by kernel_rfl) (by kernel_rfl) (by kernel_rfl) (fun _ _ _ h => h) (Or.inl ⟨by rfl, ?_⟩) hS ?_
        rotate_left
        · intro w hSw
          try dsimp only at hSw
          go_simp
          try with_reducible rfl
        try simp only [Act.put, List.setIfInBounds_toArray, List.set_cons_zero, List.set_cons_succ]
        refine wpAnyH_ready (rs := [1, 12]) (by kernel_rfl) (by simp) (AllReadyH.cons rfl (fun K hK => ?_) (AllReadyH.cons rfl (fun K hK => ?_) AllReadyH.nil))
        · go_simp
          refine hK.out _ _ ?_ (fun hS => ?_)
          · exact hS
          clear hK K
          try simp only [Act.put, List.setIfInBounds_toArray, List.set_cons_zero, List.set_cons_succ]
          refine wpAnyH_ready (rs := [12]) (by kernel_rfl) (by simp) (AllReadyH.cons rfl (fun K hK => ?_) AllReadyH.nil)
          go_simp
          refine hK.out _ _ ?_ (fun hS => ?_)
          · exact HKA.out _
          clear hK K
          try simp only [Act.put, List.setIfInBounds_toArray, List.set_cons_zero, List.set_cons_succ]
          refine wpAnyH_ready (rs := [13]) (by kernel_rfl) (by simp) (AllReadyH.cons rfl (fun K hK => ?_) AllReadyH.nil)
          refine step_append_any rfl _ _ 24 65 _ 2 16 rfl Try.underlying24 Try.infoCat rfl (by decide) (by decide) (w.heap.size + 2) v k _ (some ⟨w1.heap.size, 0, none⟩) 1 1 [.int .u64 (ci : Nat), .int .i64 (cy : Nat)] rfl rfl HROW.out HRD.out (by simp [Value.oneCell']) (by omega) HSZ.out ?_
          intro v1 w2 hown2 hg2 hat2
          obtain ⟨g', cap', rfl⟩ := ownsRow_succ hown2
          obtain ⟨hv1, hv2, hr2, hk2, hb2⟩ := HD1.out.appended' (n₀ := w.heap.size) (by decide) HROW0.out (by omega) HSZ0.out (by omega) hown2 hg2
          have hc2 := hv1.cell1
          have hf2 := hv1.frozen 1
          have HS2 := Lib.hid (HKG.out _ _ hg2)
          have HV2 := Lib.hid hv2; have HR2 := Lib.hid hr2; have HB2 := Lib.hid (HBW.out.trans hb2)
          have HRS2 := Lib.hid (HRES.out _ _ (.slice (some ⟨g', 0, none⟩) (k + 1) cap') hg2)
          have HSW2 := Lib.hid (Nat.le_trans (Nat.le_trans HSZ.out hg2.size) (KeepsOthers.setCell w2 ⟨w.heap.size + 1, 1, none⟩ (.slice (some ⟨g', 0, none⟩) (k + 1) cap')).size)
          clear hown2 hg2 hat2 hv1 hv2 hr2 hk2 hb2
          try simp only [Act.put, List.setIfInBounds_toArray, List.set_cons_zero, List.set_cons_succ]
          refine hK.out _ _ ?_ (fun hS => ?_)
          · exact HS2.out
          clear hK K
          try simp only [Act.put, List.setIfInBounds_toArray, List.set_cons_zero, List.set_cons_succ]
          refine wpAnyH_take (i := 14) (v := ?_) rfl (by kernel_rfl) (by kernel_rfl) (by kernel_rfl) (fun _ _ _ h => h) (Or.inl ⟨by rfl, ?_⟩) hS ?_
          rotate_left
          · intro w hSw
            try dsimp only at hSw
            go_simp
            try with_reducible rfl
          try simp only [Act.put, List.setIfInBounds_toArray, List.set_cons_zero, List.set_cons_succ]
          refine wpAnyH_ready (rs := [15]) (by kernel_rfl) (by simp) (AllReadyH.cons rfl (fun K hK => ?_) AllReadyH.nil)
          go_simp
          refine hK.out _ _ ?_ (fun hS => ?_)
          · exact HKS.out _ _ HS2.out
          clear hK K
          try simp only [Act.put, List.setIfInBounds_toArray, List.set_cons_zero, List.set_cons_succ]
          refine wpAnyH_done (by kernel_rfl) ?_ _
          change Exit.inBlock 1 _ Exit.normal _ _
          go_wp2_with fail
          go_roundw
          case rel => exact ⟨k + 1, p + 9, by omega, by go_num, Lib.hid (by have := HP.out; omega), Lib.hid ⟨⟨_, HV2.out, by rw [catsOf_succ, ccells_push, hci, hid]; exact HR2.out⟩, HRS2.out, HB2.out, by have := HSW2.out; omega⟩⟩
          case measure => simp [intOf]; omega
        · go_simp
          refine hK.out _ _ ?_ (fun hS => ?_)
          · exact HKA.out _
          clear hK K
          try simp only [Act.put, List.setIfInBounds_toArray, List.set_cons_zero, List.set_cons_succ]
          refine wpAnyH_ready (rs := [1]) (by kernel_rfl) (by simp) (AllReadyH.cons rfl (fun K hK => ?_) AllReadyH.nil)
          go_simp
          refine hK.out _ _ ?_ (fun hS => ?_)
          · exact hS
          clear hK K
          try simp only [Act.put, List.setIfInBounds_toArray, List.set_cons_zero, List.set_cons_succ]
          refine wpAnyH_ready (rs := [13]) (by kernel_rfl) (by simp) (AllReadyH.cons rfl (fun K hK => ?_) AllReadyH.nil)
          refine step_append_any rfl _ _ 24 65 _ 2 16 rfl Try.underlying24 Try.infoCat rfl (by decide) (by decide) (w.heap.size + 2) v k _ (some ⟨w1.heap.size, 0, none⟩) 1 1 [.int .u64 (ci : Nat), .int .i64 (cy : Nat)] rfl rfl HROW.out HRD.out (by simp [Value.oneCell']) (by omega) HSZ.out ?_
          intro v1 w2 hown2 hg2 hat2
          obtain ⟨g', cap', rfl⟩ := ownsRow_succ hown2
          obtain ⟨hv1, hv2, hr2, hk2, hb2⟩ := HD1.out.appended' (n₀ := w.heap.size) (by decide) HROW0.out (by omega) HSZ0.out (by omega) hown2 hg2
          have hc2 := hv1.cell1
          have hf2 := hv1.frozen 1
          have HS2 := Lib.hid (HKG.out _ _ hg2)
          have HV2 := Lib.hid hv2; have HR2 := Lib.hid hr2; have HB2 := Lib.hid (HBW.out.trans hb2)
          have HRS2 := Lib.hid (HRES.out _ _ (.slice (some ⟨g', 0, none⟩) (k + 1) cap') hg2)
          have HSW2 := Lib.hid (Nat.le_trans (Nat.le_trans HSZ.out hg2.size) (KeepsOthers.setCell w2 ⟨w.heap.size + 1, 1, none⟩ (.slice (some ⟨g', 0, none⟩) (k + 1) cap')).size)
          clear hown2 hg2 hat2 hv1 hv2 hr2 hk2 hb2
          try simp only [Act.put, List.setIfInBounds_toArray, List.set_cons_zero, List.set_cons_succ]
          refine hK.out _ _ ?_ (fun hS => ?_)
          · exact HS2.out
          clear hK K
          try simp only [Act.put, List.setIfInBounds_toArray, List.set_cons_zero, List.set_cons_succ]
          refine wpAnyH_take (i := 14) (v := ?_) rfl (by kernel_rfl) (by kernel_rfl) (by kernel_rfl) (fun _ _ _ h => h) (Or.inl ⟨by rfl, ?_⟩) hS ?_
          rotate_left
          · intro w hSw
            try dsimp only at hSw
            go_simp
            try with_reducible rfl
          try simp only [Act.put, List.setIfInBounds_toArray, List.set_cons_zero, List.set_cons_succ]
          refine wpAnyH_ready (rs := [15]) (by kernel_rfl) (by simp) (AllReadyH.cons rfl (fun K hK => ?_) AllReadyH.nil)
          go_simp
          refine hK.out _ _ ?_ (fun hS => ?_)
          · exact HKS.out _ _ HS2.out
          clear hK K
          try simp only [Act.put, List.setIfInBounds_toArray, List.set_cons_zero, List.set_cons_succ]
          refine wpAnyH_done (by kernel_rfl) ?_ _
          change Exit.inBlock 1 _ Exit.normal _ _
          go_wp2_with fail
          go_roundw
          case rel => exact ⟨k + 1, p + 9, by omega, by go_num, Lib.hid (by have := HP.out; omega), Lib.hid ⟨⟨_, HV2.out, by rw [catsOf_succ, ccells_push, hci, hid]; exact HR2.out⟩, HRS2.out, HB2.out, by have := HSW2.out; omega⟩⟩
          case measure => simp [intOf]; omega
      · have hp1 : ¬ (p : Int) < (n : Int) := by have := HQ.out; have := HP.out; omega
        obtain rfl : k = q := by omega
        obtain ⟨A2, c2, rfl, -⟩ := own_rcats hrow
        have q1 := hv.cell1
        have hvs := (hres.set0 (.int .i64 ((at8 bs 0).toNat : Int))).set1 (.slice A2 k c2)
        have c50 := hvs.cell0
        have c51 := hvs.cell1
        have hrs := own_set (own_set hrow ⟨w.heap.size, 0, none⟩ (.int .i64 ((at8 bs 0).toNat : Int)) (fun e => by have h3 : w.heap.size + 2 ≤ w.heap.size := (hrow.lt _ e).1; omega)) ⟨w.heap.size, 1, none⟩ (.slice A2 k c2) (fun e => by have h3 : w.heap.size + 2 ≤ w.heap.size := (hrow.lt _ e).1; omega)
        have hbs := (hB.setCell (p := ⟨w.heap.size, 0, none⟩) (Nat.le_refl _) (.int .i64 ((at8 bs 0).toNat : Int))).setCell (p := ⟨w.heap.size, 1, none⟩) (Nat.le_refl _) (.slice A2 k c2)
        have HRS := Lib.hid hrs; have HBS := Lib.hid hbs
        clear hvs hrs hbs hrow hB hv hres
        go_wp2_with fail
        rw [HL.out]
        refine bodyPost_ret (v := .agg #[.int .i64 ((at8 bs 0).toNat : Int), .slice A2 k c2]) ?_ rfl ⟨HBS.out, _, rfl, ?_⟩
        · simp [results, Try.f26, go_sem, c50, c51]
        · dsimp only
          rw [catsOf_length]
          exact own_mono HRS.out (by omega)
  · have q1 : ((n : Int) % 9 != 1) = true := by rw [bne_iff_ne]; omega
    go_wp2_with fail
    have hz1 := Box2.new w 26 (.int .i64 (-1)) (.slice none 0 0)
    have c0 := (hz1.alloc (.cells #[.int .i64 (-1), .slice none 0 0] 26)).cell0
    have c1 := (hz1.alloc (.cells #[.int .i64 (-1), .slice none 0 0] 26)).cell1
    have hM : unlabM bs = ⟨-1, []⟩ := by unfold unlabM; rw [if_neg (by omega)]
    rw [hM]
    refine bodyPost_ret (v := .agg #[.int .i64 (-1), .slice none 0 0]) ?_ rfl ⟨balloc (below_alloc w _) _, _, rfl, World.ownsRow_nil _ _ _ _⟩
    simp [results, Try.f26, go_sem, c0, c1]
end Go.Proofs.Ytlofiinpgkclgaa

/- What Read answers, by the document's way: the call that is written as those bytes. -/
namespace Go.Proofs.Ytlofiinpgkclgaa
open Go.RowKit

theorem unlabM_lab {x : List UInt8} (h : LabB x) : unlabM x = labOf x := by unfold unlabM; rw [if_pos h.1]
theorem unlab_none {x : List UInt8} (h : ¬ LabB x) : labBytes (unlabM x) = none := by
  unfold unlabM
  by_cases h9 : x.length % 9 = 1
  · rw [if_pos h9]
    refine labBytes_none1 ?_
    show 10 < (catsOf x (x.length / 9)).length
    rw [catsOf_length]
    have : ¬ x.length ≤ 91 := fun h2 => h ⟨h9, h2⟩
    omega
  · rw [if_neg h9]
    exact labBytes_none2 (by rintro ⟨h1, _⟩; have h1 : (0 : Int) ≤ -1 := h1; omega)
def docC (a n m d o d2 : Nat) (x y z : List UInt8) (t : Nat) : CallD := ⟨(a : Int), (n : Int), (m : Int), d, o, d2, unlabM x, unlabM y, z, t⟩
theorem read_doc {bs : List UInt8} {a n m d o d2 : Nat} {x y z : List UInt8} {t : Nat} (h : unpackM shapeC bs = some (tenV a n m d o d2 x y z t)) (ok : TenOk a n m d o d2 x y z t) :
    readM bs = if writeM (docC a n m d o d2 x y z t) = some bs then some (docC a n m d o d2 x y z t) else none := by
  rw [readM_ten h]
  obtain ⟨_, h1⟩ := (unpackM_iff _ _ _).1 h
  obtain ⟨x', hx, hb⟩ := un_pack shapeC _ _ _ h1
  rw [List.append_nil] at hb
  subst hb
  by_cases hc : z.length ≤ 128 ∧ LabB x ∧ LabB y
  · obtain ⟨hz, hlx, hly⟩ := hc
    have e : docC a n m d o d2 x y z t = ⟨(a : Int), (n : Int), (m : Int), d, o, d2, labOf x, labOf y, z, t⟩ := by unfold docC; rw [unlabM_lab hlx, unlabM_lab hly]
    have hw : writeM (docC a n m d o d2 x y z t) = some bs := by
      rw [writeM_eq (a := x) (b := y) (by show labBytes (unlabM x) = _; rw [unlabM_lab hlx, lab_back hlx]) (by show labBytes (unlabM y) = _; rw [unlabM_lab hly, lab_back hly]) ⟨⟨by show 0 ≤ (a : Int); omega, by show (a : Int) ≤ 255; have := ok.a; omega⟩, by show 0 ≤ (n : Int); omega, by show 0 ≤ (m : Int); omega, hz⟩]
      exact hx
    rw [if_pos ⟨hz, hlx, hly⟩, if_pos hw, e]
  · rw [if_neg hc, if_neg]
    intro hw
    have hn : writeM (docC a n m d o d2 x y z t) = none := by
      by_cases hlx : LabB x
      · by_cases hly : LabB y
        · exact writeM_none3 (by rintro ⟨_, _, _, h4⟩; exact hc ⟨h4, hlx, hly⟩)
        · exact writeM_none2 (unlab_none hly)
      · exact writeM_none1 (unlab_none hlx)
    rw [hn] at hw
    cases hw
theorem unlab_ids (x : List UInt8) (j : Nat) (h : j < (unlabM x).cats.length) : (atC (unlabM x).cats j).id < 18446744073709551616 := by
  unfold unlabM at h ⊢
  split
  · rename_i h9
    rw [if_pos h9] at h
    rw [show (labOf x).cats = catsOf x (x.length / 9) from rfl] at h ⊢
    rw [catsOf_length] at h
    rw [atC_catsOf _ _ _ h]
    exact catOf_lt _ _
  · rename_i h9
    rw [if_neg h9] at h
    exact absurd h (by show ¬ j < 0; omega)
theorem unlab_len (x : List UInt8) : (unlabM x).cats.length ≤ x.length := by
  unfold unlabM
  split
  · show (catsOf x (x.length / 9)).length ≤ _
    rw [catsOf_length]
    omega
  · exact Nat.zero_le _
theorem unlab_i64 (x : List UInt8) : I64 (unlabM x).dflt := by
  unfold unlabM
  split
  · have b0 := (at8 x 0).toNat_lt
    exact ⟨by show _ ≤ (((at8 x 0).toNat : Nat) : Int); omega, by show (((at8 x 0).toNat : Nat) : Int) ≤ _; omega⟩
  · exact ⟨by show _ ≤ (-1 : Int); omega, by show (-1 : Int) ≤ _; omega⟩
end Go.Proofs.Ytlofiinpgkclgaa
