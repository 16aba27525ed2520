/- The reference's Open. -/
import Derived.Test.YtanibabfdpgbbaaMg13
import Derived.Test.YtanibabfdpgbbaaMg4
import Derived.Test.YtanibabfdpgbbaaMg3
import Derived.Laws.Slices
import Derived.Test.YtanibabfdpgbbaaMg5
namespace Go.Proofs.Ytanibabfdpgbbaa
open Go.RowKit
attribute [local go_sem ↓] loadAt37

theorem numOf_two (l : List UInt8) (h : l.length = 128) : numOf ((l.drop 8).take 2) = (at8 l 8).toNat * 256 + (at8 l 9).toNat := by
  have h8 : at8 (l.drop 8) 0 = at8 l 8 := by simp [at8, List.getD_eq_getElem?_getD]
  have h9 : at8 (l.drop 8) 1 = at8 l 9 := by simp [at8, List.getD_eq_getElem?_getD]
  rw [numOf_take (l.drop 8) 1 (by simp; omega), numOf_take (l.drop 8) 0 (by simp; omega), h8, h9]
  simp [numOf]
set_option maxRecDepth 20000 in
set_option maxHeartbeats 3200000 in
theorem ref05_Open (l : List UInt8) (hl : l.length = 128) (w : World) :
    Calls Try.prog 34 #[secV l] w (OpenPost w (openM l)) := by
  have HG := Lib.hid (SecAt.new w l hl)
  have HL := Lib.hid hl
  have hb1 := below_alloc w (.cells (bv l).toArray 32)
  have HB1 := Lib.hid hb1
  have hbl : (bv l).length = 128 := by rw [bv_length, hl]
  clear hl hb1
  unfold secV
  go_enter Try.func34, Try.ntmps34
  go_wp2_with fail
  have hm8 := numOf_small l 8 (by omega)
  have HM8 := Lib.hid hm8
  have hopen : openM l = openM l := rfl
  conv at hopen => rhs; unfold openM
  have HO := Lib.hid hopen
  have hntwo := numOf_two l HL.out
  have HN2 := Lib.hid hntwo
  generalize w.alloc (.cells (bv l).toArray 32) = w3 at *
  clear hm8 hopen hntwo
  go_loopw [5, 6] (fun u i wr => ∃ k, k ≤ 8 ∧ i = .int .i64 (k : Nat) ∧ u = .int .u64 (numOf (l.take k)) ∧ wr = w3) (fun _ i _ => 8 - (intOf i).toNat)
  case atStart => exact ⟨0, by omega, rfl, rfl, rfl⟩
  case round =>
    obtain ⟨j, hj, rfl, rfl, rfl⟩ := hrel
    by_cases hlt : j < 8
    · have hj0 : (0 : Int) ≤ (j : Int) := Int.natCast_nonneg _
      have hj1 : (j : Int) < 8 := by omega
      have hj2 : (j : Int) < 128 := by omega
      have hcell := HG.out.cell j (by omega)
      have hnt := numOf_take l j (by rw [HL.out]; omega)
      have hsm := numOf_small l (j + 1) (by omega)
      rw [hnt] at hsm
      have hx := (at8 l j).toNat_lt
      have HT := Lib.hid hnt
      clear hnt
      generalize numOf (l.take j) = m at *
      generalize at8 l j = x at *
      go_wp2_with fail
      go_roundw
      case rel => exact ⟨j + 1, by omega, by go_num, by rw [HT.out]; go_num, trivial⟩
      case measure => simp [intOf]; omega
    · obtain rfl : j = 8 := by omega
      have hc8 := HG.out.cell 8 (by omega)
      have hc9 := HG.out.cell 9 (by omega)
      have hx8 := (at8 l 8).toNat_lt
      have hx9 := (at8 l 9).toNat_lt
      obtain ⟨n, hn⟩ : ∃ n, n = (at8 l 8).toNat * 256 + (at8 l 9).toNat := ⟨_, rfl⟩
      have hsum : ((at8 l 8).toNat : Int) * 256 + ((at8 l 9).toNat : Int) = (n : Int) := by omega
      rw [HN2.out, ← hn] at HO
      have hn16 : n < 65536 := by omega
      have hn0 : (0 : Int) ≤ (n : Int) := Int.natCast_nonneg _
      clear hn
      generalize at8 l 8 = x8 at *
      generalize at8 l 9 = x9 at *
      generalize hmk : numOf (l.take 8) = mk at *
      by_cases hbig : 106 < n
      · have hd : decide ((106 : Int) < (n : Int)) = true := decide_eq_true (by omega)
        have HN : Hid (openM l = none) := Lib.hid (by rw [HO.out, if_pos hbig])
        clear hbig HO hmk
        go_wp2_with fail
        go_ret3
        exact ⟨0, none, 0, 0, false, rfl, HB1.out, .inr ⟨HN.out, rfl, rfl, rfl, rfl, rfl⟩⟩
      · have hd : decide ((106 : Int) < (n : Int)) = false := decide_eq_false (by omega)
        have hn1 : (10 : Int) + (n : Int) ≤ 128 := by omega
        have HN : Hid (openM l = if makeM mk ((l.drop 10).take n) = some l then some (mk, (l.drop 10).take n) else none) := Lib.hid (by rw [HO.out, if_neg hbig])
        have HN106 : Hid (n ≤ 106) := Lib.hid (by omega)
        have hrb := HG.out.rb 10 n 118 (by omega) (by omega) (by omega)
        generalize hbody : (l.drop 10).take n = body at *
        have HRB := Lib.hid hrb
        clear hbig HO hrb hbody hmk
        go_wp2_with (first
          | (refine wpList_cutS rfl _ _ _ rfl w.heap.size 10 n _ _ rfl rfl rfl rfl rfl (by omega) (by have := HN106.out; omega) ?_)
          | (at_builtin; refine wpList_copy_bytes (W := wr) rfl _ _ 76 5 rfl Try.underlying76 Try.infoU8' (some ⟨w.heap.size, 10, none⟩) n 118 body wr.heap.size rfl rfl rfl HRB.out (by have := HN106.out; omega) ?_
             intro A4 c4 w4 hown4 hr4 hb4
             have HR4 := Lib.hid hr4; have HB4 := Lib.hid (bthen HB1.out hb4); have HG4 := Lib.hid (HG.out.below hb4)
             clear hown4 hr4 hb4))
        refine (ref05_Make mk HM8.out A4 n c4 body w4 HR4.out (by have := HN106.out; omega)).mono ?_
        rintro e w5 ⟨l5, ev, rfl, hl5, hb5, hc5⟩
        have HL5 := Lib.hid hl5; have HB5 := Lib.hid (bthen HB4.out hb5); have HG5 := Lib.hid (HG4.out.below hb5); have HR5 := Lib.hid (HR4.out.below hb5)
        clear hl5 hb5
        have HB6 := Lib.hid (HB5.out.alloc HB5.out.size (.cells (bv l5).toArray 32))
        have HR6 := Lib.hid (HR5.out.alloc (.cells (bv l5).toArray 32))
        have hld1 := run_ldSec (w := w5.alloc (.cells (bv l5).toArray 32)) (range_alloc w5 (bv l5) _ _) HL5.out
        have hld2 := run_ldSec (w := w5.alloc (.cells (bv l5).toArray 32)) (HG5.out.below (below_alloc w5 _)).range HL.out
        have heq := eq37 (w5.alloc (.cells (bv l5).toArray 32)) l5 l HL5.out HL.out
        clear HG4 HG5 HB4 HB5 HR4 HR5
        rcases hc5 with ⟨hmk5, rfl⟩ | ⟨hmk5, rfl, rfl⟩
        · by_cases hsame : l5 = l
          · have HF : Hid (openM l = some (mk, body)) := Lib.hid (by rw [HN.out, hmk5, if_pos (by rw [hsame])])
            have hdd : decide (l5 = l) = true := decide_eq_true hsame
            rw [hdd] at heq
            clear hmk5 hsame hdd
            go_wp2_with (refine st37 rfl _ _ rfl _ _ rfl rfl l5 rfl HL5.out rfl ?_)
            go_ret3
            exact ⟨mk, A4, n, c4, true, rfl, HB6.out, .inl ⟨body, HF.out, rfl, HR6.out⟩⟩
          · have HF : Hid (openM l = none) := Lib.hid (by rw [HN.out, hmk5, if_neg (by intro e; injection e with e; exact hsame e)])
            have hdd : decide (l5 = l) = false := decide_eq_false hsame
            rw [hdd] at heq
            clear hmk5 hsame hdd
            go_wp2_with (refine st37 rfl _ _ rfl _ _ rfl rfl l5 rfl HL5.out rfl ?_)
            go_ret3
            exact ⟨0, none, 0, 0, false, rfl, HB6.out, .inr ⟨HF.out, rfl, rfl, rfl, rfl, rfl⟩⟩
        · have HF : Hid (openM l = none) := Lib.hid (by rw [HN.out, hmk5, if_neg (by intro e; cases e)])
          clear hmk5 heq hld1 hld2
          go_wp2_with (refine st37 rfl _ _ rfl _ _ rfl rfl zsec rfl zsec_length rfl ?_)
          go_ret3
          exact ⟨0, none, 0, 0, false, rfl, HB6.out, .inr ⟨HF.out, rfl, rfl, rfl, rfl, rfl⟩⟩
end Go.Proofs.Ytanibabfdpgbbaa

/- The reference's width. -/
namespace Go.Proofs.Ytanibabfdpgbbaa
open Go.RowKit

/-- The reference's width. -/
def letterI (c : UInt8) : Int := match letterW c with
  | none => -1
  | some w => (w : Int)
set_option maxHeartbeats 800000 in
theorem ref02_width (c : UInt8) (w : World) : Calls Try.prog 47 #[.int .u8 (c.toNat : Int)] w fun e w' => e = .returned (.int .i64 (letterI c)) ∧ w = w' := by
  have key : ∀ d : UInt8, c ≠ d → ((c.toNat : Int) == (d.toNat : Int)) = false := fun d hd => by
    rw [beq_eq_false_iff_ne]
    exact fun e => hd (UInt8.toNat_inj.1 (by omega))
  by_cases h1 : c = 49
  · subst h1
    go_enter Try.func47, Try.ntmps47
    go_wp2_with fail
    go_ret
    exact ⟨rfl, rfl⟩
  by_cases h2 : c = 50
  · subst h2
    go_enter Try.func47, Try.ntmps47
    go_wp2_with fail
    go_ret
    exact ⟨rfl, rfl⟩
  by_cases h3 : c = 52
  · subst h3
    go_enter Try.func47, Try.ntmps47
    go_wp2_with fail
    go_ret
    exact ⟨rfl, rfl⟩
  by_cases h4 : c = 56
  · subst h4
    go_enter Try.func47, Try.ntmps47
    go_wp2_with fail
    go_ret
    exact ⟨rfl, rfl⟩
  by_cases h5 : c = 98
  · subst h5
    go_enter Try.func47, Try.ntmps47
    go_wp2_with fail
    go_ret
    exact ⟨rfl, rfl⟩
  have e : letterI c = -1 := by simp [letterI, letterW, h1, h2, h3, h4, h5]
  rw [e]
  have q1 : ((c.toNat : Int) == 49) = false := key 49 h1
  have q2 : ((c.toNat : Int) == 50) = false := key 50 h2
  have q3 : ((c.toNat : Int) == 52) = false := key 52 h3
  have q4 : ((c.toNat : Int) == 56) = false := key 56 h4
  have q5 : ((c.toNat : Int) == 98) = false := key 98 h5
  clear key e h1 h2 h3 h4 h5
  go_enter Try.func47, Try.ntmps47
  go_wp2_with fail
  go_ret
  exact ⟨rfl, rfl⟩

theorem letterI_none {c : UInt8} (h : letterW c = none) : letterI c = -1 := by simp [letterI, h]
theorem letterI_some {c : UInt8} {k : Nat} (h : letterW c = some k) : letterI c = (k : Int) := by simp [letterI, h]
end Go.Proofs.Ytanibabfdpgbbaa

/- x[lo:hi] of a slice of bytes, as a step of a walk: where it begins is left as it is called. -/
namespace Go.Proofs.Ytanibabfdpgbbaa
open Go.RowKit

section
variable {ops : Array Oper} {rest : List Oper} {o : Oper} {a : Act} {w : World} {Q : Exit → Act → World → Prop}
set_option maxRecDepth 20000 in
theorem run_cut (A : Option Addr) (n c l k : Nat) (hc : l + k ≤ c) (w : World) :
    (Instr.sliceAt 76 (.slice A n c) (some (.int .i64 (l : Int))) (some (.int .i64 ((l : Int) + (k : Int)))) none).run Try.prog w = .ok (.slice (cutA A c l) k (c - l)) w := by
  have ht : Try.prog.underlying 76 = some (.slice (Try.prog.elem 76)) := by kernel_rfl
  have he : Try.prog.elem 76 = 5 := by kernel_rfl
  obtain ⟨i0, hi0, hz0, hz1, hz2⟩ := info_parts Try.infoU8'
  rw [run_sliceAt_slice w _ _ _ _ _ ht, run_slice_lh w _ _ _ _ ht .i64 .i64 l ((l : Int) + (k : Int)) (by omega) (by omega) (by omega), he]
  have e2 : ((l : Int) + (k : Int)).toNat = l + k := by omega
  simp [sizeOf, typeInfo, hi0, hz1, e2, sliced, cutA, Result.andThen, Nat.mul_one]
theorem wpList_cut (hgd : o.guard = none) (x lo hi : Operand) (ho : o.op = .slice 76 x (some lo) (some hi) none) (A : Option Addr) (n c l k : Nat) (hx : a.eval x = .slice A n c) (hlo : a.eval lo = .int .i64 (l : Int)) (H : Int) (hhi : a.eval hi = .int .i64 H) (hH : H = (l : Int) + (k : Int)) (hc : l + k ≤ c)
    (h : wpList Try.prog ops Q rest (a.put o.dst (.slice (cutA A c l) k (c - l))) w) : wpList Try.prog ops Q (o :: rest) a w := by
  subst hH
  refine wpList_plain hgd fun K hK => ?_
  unfold Oper.wp execOp
  simp only [ho, Option.map_some, Option.map_none, hx, hlo, hhi]
  simp only [Sem.run_bind, run_cut A n c l k hc w, Result.andThen_ok, Sem.run_pure]
  exact hK _ _ h
end
end Go.Proofs.Ytanibabfdpgbbaa

/- The reference's Unpack. -/
namespace Go.Proofs.Ytanibabfdpgbbaa
open Go.RowKit

set_option maxRecDepth 20000 in
set_option maxHeartbeats 1600000 in
/-- The reference's number. -/
theorem ref02_number (A : Option Addr) (n c : Nat) (xs : List UInt8) (w : World) (hr : RB w A n c xs) (hn8 : n ≤ 8) :
    Calls Try.prog 48 #[.slice A n c] w fun e w' => e = .returned (.int .u64 (numOf xs)) ∧ w = w' := by
  have HR := Lib.hid hr
  clear hr
  go_enter Try.func48, Try.ntmps48
  go_wp2_with fail
  go_loopw [3, 4] (fun u i wr => ∃ j, j ≤ n ∧ i = .int .i64 (j : Nat) ∧ u = .int .u64 (numOf (xs.take j)) ∧ wr = w) (fun _ i _ => n - (intOf i).toNat)
  case atStart => exact ⟨0, by omega, rfl, rfl, rfl⟩
  case round =>
    obtain ⟨j, hj, rfl, rfl, rfl⟩ := hrel
    by_cases hlt : j < n
    · have hj0 : (0 : Int) ≤ (j : Int) := Int.natCast_nonneg _
      have hj1 : (j : Int) < (n : Int) := by omega
      obtain ⟨b, o, rfl, hcells⟩ := HR.out.2.2.2 (by omega)
      have hcell := hcells j (by omega)
      have hnt := numOf_take xs j (by rw [HR.out.1]; omega)
      have hsm := numOf_small xs (j + 1) (by omega)
      rw [hnt] at hsm
      have hx := (at8 xs j).toNat_lt
      have HT := Lib.hid hnt
      clear hcells hnt
      generalize numOf (xs.take j) = m at *
      generalize at8 xs j = x at *
      go_wp2_with fail
      go_roundw
      case rel => exact ⟨j + 1, by omega, by go_num, by rw [HT.out]; go_num, trivial⟩
      case measure => simp [intOf]; omega
    · obtain rfl : j = n := by omega
      have e : xs.take j = xs := List.take_of_length_le (by rw [HR.out.1]; exact Nat.le_refl _)
      rw [e]
      go_wp2_with fail
      go_ret
      exact ⟨rfl, rfl⟩
theorem cutA_ne {A : Option Addr} {c l : Nat} (h : ¬ c = l) : Option.map (fun x => x.add l) A = cutA A c l := by unfold cutA; rw [if_neg h]
set_option maxRecDepth 20000 in
set_option maxHeartbeats 3200000 in
theorem ref02_unpack_main (sh : List UInt8) (A : Option Addr) (n c : Nat) (bs : List UInt8) (w : World) (hr : RB w A n c bs) (hs : sh.length ≤ 200) :
    Calls Try.prog 35 #[.string (strOf sh), .slice A n c] w (UnpackedPost w (unpackM sh bs)) := by
  have HR := Lib.hid hr
  have hlen : bs.length = n := hr.1
  have hnc : n ≤ c := hr.2.1
  have hcm : c ≤ 9223372036854775807 := hr.2.2.1
  generalize hm : sh.length = m at *
  have hsz : (strOf sh).size = m := by simp [strOf, hm, ByteArray.size]
  have hd : decide ((200 : Int) < (m : Int)) = false := decide_eq_false (by omega)
  have HM := Lib.hid hm
  have HLEN := Lib.hid hlen
  clear hr hm hlen
  go_enter Try.func35, Try.ntmps35
  go_wp2_with fail
  go_loopw [6, 7, 8] (fun u a i wr => ∃ k p lk, k ≤ m ∧ i = .int .i64 (k : Nat) ∧ a = .int .i64 (p : Nat) ∧ Hid (unTo sh bs k = some (vals lk, p)) ∧ Hid (OFields wr w.heap.size u lk) ∧ Hid (lk.length = k) ∧ Hid (Below w.heap.size w wr) ∧ p ≤ n) (fun _ _ i _ => m - (intOf i).toNat)
  case atStart => exact ⟨0, 0, [], by omega, rfl, rfl, Lib.hid rfl, Lib.hid ⟨own_empty w _ _ _ (Nat.le_refl _), by simp, by simp, by simp⟩, Lib.hid rfl, Lib.hid (below_alloc _ _), Nat.zero_le _⟩
  case round =>
    obtain ⟨k, p, lk, hk, rfl, rfl, HP, HO, HK, HB, hpn⟩ := hrel
    by_cases hlt : k < m
    · have hk0 : (0 : Int) ≤ (k : Int) := Int.natCast_nonneg _
      have hk1 : (k : Int) < (m : Int) := by omega
      have hp0 : (0 : Int) ≤ (p : Int) := Int.natCast_nonneg _
      have hst := unTo_step HP.out
      have hg := strOf_get sh k
      have HNO : Hid (unTo sh bs (k + 1) = none → unpackM sh bs = none) := Lib.hid fun h => unpackM_none h (by rw [HM.out]; omega)
      obtain ⟨r, hrp⟩ : ∃ r : Nat, n = p + r := ⟨n - p, by omega⟩
      have hsub : (n : Int) - (p : Int) = (r : Int) := by omega
      have hcr : p + r ≤ c := by omega
      have hbl : (bs.drop p).length = r := by rw [List.length_drop, HLEN.out]; omega
      generalize hys : bs.drop p = ys at *
      generalize at8 sh k = ch at hst hg
      have HW := Lib.hid (ref02_width ch)
      rcases letterW_cases ch with hlw | ⟨hlw, rfl⟩ | ⟨wd, hlw, hcw⟩
      · have HST : Hid (unTo sh bs (k + 1) = none) := Lib.hid (by rw [hst, decF, hlw]; rfl)
        rw [letterI_none hlw] at HW
        clear hst hlw
        go_wp2_with fail
        refine (HW.out _).mono ?_
        rintro e w' ⟨rfl, rfl⟩
        go_wp2_with fail
        go_ret2
        exact ⟨HB.out, .inr ⟨HNO.out HST.out, rfl⟩⟩
      · rw [letterI_some hlw] at HW
        by_cases h2 : r < 2
        · have HST : Hid (unTo sh bs (k + 1) = none) := Lib.hid (by rw [hst, decF, hlw]; simp only []; rw [if_pos (by rw [hbl]; exact h2)]; rfl)
          have hd2 : decide ((r : Int) < 2) = true := decide_eq_true (by omega)
          clear hst hlw
          go_wp2_with fail
          refine (HW.out _).mono ?_
          rintro e w' ⟨rfl, rfl⟩
          go_wp2_with fail
          go_ret2
          exact ⟨HB.out, .inr ⟨HNO.out HST.out, rfl⟩⟩
        · have hd2 : decide ((r : Int) < 2) = false := decide_eq_false (by omega)
          have hcp : ¬ c = p := by omega
          have hcut := HR.out.cut p 2 (by omega)
          rw [hys] at hcut
          have HNUM := Lib.hid (fun W (hb : Below w.heap.size w W) => ref02_number (cutA A c p) 2 (c - p) (ys.take 2) W (hcut.below hb) (by omega))
          have hsm := numOf_lt ys 2
          have hp2 : (p : Int) + 2 ≤ (c : Int) := by omega
          have hAd := cutA_ne (A := A) hcp
          clear hcut
          by_cases h1024 : 1024 < numOf (ys.take 2)
          · have HST : Hid (unTo sh bs (k + 1) = none) := Lib.hid (by rw [hst, decF, hlw]; simp only []; rw [if_neg (by rw [hbl]; exact h2), if_pos h1024]; rfl)
            generalize numOf (ys.take 2) = v at *
            have hd1 : decide ((1024 : Int) < (v : Int)) = true := decide_eq_true (by omega)
            clear hst hlw
            go_wp2_with fail
            refine (HW.out _).mono ?_
            rintro e w' ⟨rfl, rfl⟩
            go_wp2_with fail
            refine (HNUM.out _ HB.out).mono ?_
            rintro e w' ⟨rfl, rfl⟩
            go_wp2_with fail
            go_ret2
            exact ⟨HB.out, .inr ⟨HNO.out HST.out, rfl⟩⟩
          · have hdec : decF 98 ys = if ys.length - 2 < numOf (ys.take 2) then none else some ((0, (ys.drop 2).take (numOf (ys.take 2))), 2 + numOf (ys.take 2)) := by
              rw [decF, hlw]; simp only []; rw [if_neg (by rw [hbl]; exact h2), if_neg h1024]
            generalize numOf (ys.take 2) = v at *
            have hv0 : (0 : Int) ≤ (v : Int) := Int.natCast_nonneg _
            have hd1 : decide ((1024 : Int) < (v : Int)) = false := decide_eq_false (by omega)
            obtain ⟨r2, hr2⟩ : ∃ r2 : Nat, r = 2 + r2 := ⟨r - 2, by omega⟩
            have hsub2 : (n : Int) - ((p : Int) + 2) = (r2 : Int) := by omega
            have hwr : IntKind.u64.wrap (r2 : Int) = (r2 : Int) := wrap_u64 r2 (by omega)
            have hwv : IntKind.i64.wrap (v : Int) = (v : Int) := by simp [IntKind.wrap, IntKind.signed, IntKind.bits]; omega
            by_cases hfit : r2 < v
            · have HST : Hid (unTo sh bs (k + 1) = none) := Lib.hid (by rw [hst, hdec, if_pos (by rw [hbl]; omega)]; rfl)
              have hd3 : decide (r2 < v) = true := decide_eq_true hfit
              have HX := Lib.hid hrp; have HX2 := Lib.hid hr2
              clear hst hlw hdec hfit hrp hr2
              go_wp2_with fail
              refine (HW.out _).mono ?_
              rintro e w' ⟨rfl, rfl⟩
              go_wp2_with fail
              refine (HNUM.out _ HB.out).mono ?_
              rintro e w' ⟨rfl, rfl⟩
              go_wp2_with fail
              go_ret2
              exact ⟨HB.out, .inr ⟨HNO.out HST.out, rfl⟩⟩
            · have HST : Hid (unTo sh bs (k + 1) = some (vals lk ++ [(0, (ys.drop 2).take v)], p + (2 + v))) := Lib.hid (by rw [hst, hdec, if_neg (by rw [hbl]; omega)]; rfl)
              have hd3 : decide (r2 < v) = false := decide_eq_false hfit
              have HX := Lib.hid hrp; have HX2 := Lib.hid hr2; have HX3 := Lib.hid hfit
              have hcut2 := HR.out.cut (p + 2) v (by omega)
              rw [← List.drop_drop, hys] at hcut2
              have hpv : (p : Int) + 2 + (v : Int) ≤ (c : Int) := by omega
              have hlen3 : Hid (((ys.drop 2).take v).length = v) := Lib.hid hcut2.1
              have HPV : Hid (p + (2 + v) ≤ n ∧ v ≤ 1024) := Lib.hid ⟨by omega, by omega⟩
              generalize hzs : (ys.drop 2).take v = zs at *
              have HC2 := Lib.hid hcut2
              have HYS := Lib.hid hys
              have HZS := Lib.hid hzs
              clear hst hlw hdec hfit hrp hr2 hcut2 hys hzs
              go_wp2_with fail
              refine (HW.out _).mono ?_
              rintro e w' ⟨rfl, rfl⟩
              go_wp2_with fail
              refine (HNUM.out _ HB.out).mono ?_
              rintro e w' ⟨rfl, rfl⟩
              clear HW HNUM
              go_wp2_with (first
                | (refine wpList_cut rfl _ _ _ rfl A n c (p + 2) v rfl rfl _ rfl (by omega) (by have := HPV.out; omega) ?_)
                | (at_builtin; refine wpList_copy_bytes (W := wr) rfl _ _ 76 5 rfl Try.underlying76 Try.infoU8' (cutA A c (p + 2)) v (c - (p + 2)) zs wr.heap.size rfl rfl rfl (HC2.out.below HB.out) (by have := HPV.out; omega) ?_
                   intro A1 c1 w4 hown4 hrb4 hb4
                   have HO4 := Lib.hid (own_mono hown4 HB.out.size)
                   have HB4 := Lib.hid (bthen HB.out hb4)
                   have ho4 := Lib.hid (HO.out.below hb4)
                   clear hown4 hrb4 hb4)
                | (at_builtin; refine wpList_append_any (w0 := w4.alloc (.cells #[.int .u64 0, .slice A1 v c1] 83)) w.heap.size rfl _ _ 79 83 (.agg #[.int .u64 0, .slice none 0 0]) 2 32 rfl Try.underlying79 Try.info87 rfl (by decide) (by decide) u6 lk.length (fcells lk) (some ⟨w4.heap.size, 0, none⟩) 1 1 [.int .u64 0, .slice A1 v c1] rfl rfl (ho4.out.alloc _).row ⟨rfl, fun _ => ⟨_, _, rfl, fun j v hj => by rw [World.cell?_alloc_mark, Nat.zero_add]; simpa using hj⟩⟩ (by simp [Value.oneCell']) (by rw [HK.out]; omega) (Below.refl _ _) (by have := HB4.out.size; simp; omega) ?_
                   intro v5 w5 hown5 hb5 hg5 ha5
                   have h5 : Hid (Below w.heap.size w w5) := Lib.hid ((HB4.out.alloc HB4.out.size _).trans hb5)
                   have ho5 : Hid (OFields w5 w.heap.size v5 (lk ++ [⟨0, A1, v, c1, zs⟩])) := Lib.hid ((ho4.out.alloc _).push ⟨0, A1, v, c1, zs⟩ (by simp) (by have := HPV.out; simp; omega) (HO4.out.alloc _) hg5 hown5)
                   clear hown5 hb5 hg5 ha5))
              go_roundw
              case rel => exact ⟨k + 1, p + (2 + v), lk ++ [⟨0, A1, v, c1, zs⟩], by omega, by go_num, by go_num, Lib.hid (by rw [HST.out]; simp [vals]), ho5, Lib.hid (by rw [List.length_append, HK.out]; rfl), h5, HPV.out.1⟩
              case measure => simp [intOf]; omega
      · rw [letterI_some hlw] at HW
        have hw8 : wd + 1 ≤ 8 := by omega
        have hw0 : (0 : Int) < ((wd + 1 : Nat) : Int) := by omega
        have hw1 : decide (((wd + 1 : Nat) : Int) < 0) = false := decide_eq_false (by omega)
        have hw2 : (((wd + 1 : Nat) : Int) == 0) = false := by rw [beq_eq_false_iff_ne]; omega
        have HX := Lib.hid hrp
        by_cases h2 : r < wd + 1
        · have HST : Hid (unTo sh bs (k + 1) = none) := Lib.hid (by rw [hst, decF, hlw]; simp only []; rw [if_pos (by rw [hbl]; exact h2)]; rfl)
          have hd2 : decide (r < wd + 1) = true := decide_eq_true h2
          clear hst hlw hcw hrp
          generalize hwi : wd + 1 = wi at *
          clear hwi
          go_wp2_with fail
          refine (HW.out _).mono ?_
          rintro e w' ⟨rfl, rfl⟩
          go_wp2_with fail
          go_ret2
          exact ⟨HB.out, .inr ⟨HNO.out HST.out, rfl⟩⟩
        · have hd2 : decide (r < wd + 1) = false := decide_eq_false h2
          have HST : Hid (unTo sh bs (k + 1) = some (vals lk ++ [(numOf (ys.take (wd + 1)), [])], p + (wd + 1))) := Lib.hid (by rw [hst, decF, hlw]; simp only []; rw [if_neg (by rw [hbl]; exact h2)]; rfl)
          clear hst hlw hcw
          generalize hwi : wd + 1 = wi at *
          clear hwi
          have hcut := HR.out.cut p wi (by omega)
          rw [hys] at hcut
          have HNUM := Lib.hid (fun W (hb : Below w.heap.size w W) => ref02_number (cutA A c p) wi (c - p) (ys.take wi) W (hcut.below hb) (by omega))
          have hsm := numOf_small ys wi (by omega)
          have HSM := Lib.hid hsm
          have HPW : Hid (p + wi ≤ n) := Lib.hid (by omega)
          have hpw : (p : Int) + (wi : Int) ≤ 9223372036854775807 := by omega
          generalize numOf (ys.take wi) = v at *
          clear hcut hrp hsm
          go_wp2_with fail
          refine (HW.out _).mono ?_
          rintro e w' ⟨rfl, rfl⟩
          go_wp2_with (refine wpList_cut rfl _ _ _ rfl A n c p wi rfl rfl _ rfl (by first | rfl | omega) (by have := HPW.out; omega) ?_)
          refine (HNUM.out _ HB.out).mono ?_
          rintro e w' ⟨rfl, rfl⟩
          go_wp2_with (at_builtin; refine wpList_append_any (w0 := wr.alloc (.cells #[.int .u64 v, .slice none 0 0] 83)) w.heap.size rfl _ _ 79 83 (.agg #[.int .u64 0, .slice none 0 0]) 2 32 rfl Try.underlying79 Try.info87 rfl (by decide) (by decide) u6 lk.length (fcells lk) (some ⟨wr.heap.size, 0, none⟩) 1 1 [.int .u64 v, .slice none 0 0] rfl rfl (HO.out.alloc _).row ⟨rfl, fun _ => ⟨_, _, rfl, fun j v hj => by rw [World.cell?_alloc_mark, Nat.zero_add]; simpa using hj⟩⟩ (by simp [Value.oneCell']) (by rw [HK.out]; omega) (Below.refl _ _) (by have := HB.out.size; simp; omega) ?_; intro v5 w5 hown5 hb5 hg5 ha5; have h5 : Hid (Below w.heap.size w w5) := Lib.hid ((HB.out.alloc HB.out.size _).trans hb5); have ho5 : Hid (OFields w5 w.heap.size v5 (lk ++ [⟨v, none, 0, 0, []⟩])) := Lib.hid ((HO.out.alloc _).push ⟨v, none, 0, 0, []⟩ HSM.out (by simp) (World.ownsRow_nil _ _ _ _) hg5 hown5); clear hown5 hb5 hg5 ha5)
          go_roundw
          case rel => exact ⟨k + 1, p + wi, lk ++ [⟨v, none, 0, 0, []⟩], by omega, by go_num, by go_num, Lib.hid (by rw [HST.out]; simp [vals]), ho5, Lib.hid (by rw [List.length_append, HK.out]; rfl), h5, HPW.out⟩
          case measure => simp [intOf]; omega
    · obtain rfl : k = m := by omega
      have hun : unpackM sh bs = if p = bs.length then some (vals lk) else none := unpackM_done (by rw [HM.out]; exact HP.out) (by rw [HM.out]; exact hs)
      rw [HLEN.out] at hun
      by_cases h0 : p = n
      · have HN : Hid (unpackM sh bs = some (vals lk)) := Lib.hid (by rw [hun, if_pos h0])
        have hq : ((p : Int) != (n : Int)) = false := by rw [h0]; simp
        clear hun h0
        go_wp2_with fail
        go_ret2
        exact ⟨HB.out, .inl ⟨u6, lk, HN.out, rfl, HO.out⟩⟩
      · have HN : Hid (unpackM sh bs = none) := Lib.hid (by rw [hun, if_neg h0])
        have hq : ((p : Int) != (n : Int)) = true := by rw [bne_iff_ne]; omega
        clear hun h0
        go_wp2_with fail
        go_ret2
        exact ⟨HB.out, .inr ⟨HN.out, rfl⟩⟩
/-- The reference's Unpack. -/
theorem ref02_Unpack (sh : List UInt8) (A : Option Addr) (n c : Nat) (bs : List UInt8) (w : World) (hr : RB w A n c bs) :
    Calls Try.prog 35 #[.string (strOf sh), .slice A n c] w (UnpackedPost w (unpackM sh bs)) := by
  by_cases hs : sh.length ≤ 200
  · exact ref02_unpack_main sh A n c bs w hr hs
  · rw [unpackM_long (by omega)]
    have hsz : (strOf sh).size = sh.length := by simp [strOf, ByteArray.size]
    generalize sh.length = m at *
    have hd : decide ((200 : Int) < (m : Int)) = true := decide_eq_true (by omega)
    go_enter Try.func35, Try.ntmps35
    go_wp2_with fail
    go_ret2
    exact ⟨Below.refl _ _, .inr ⟨rfl, rfl⟩⟩
end Go.Proofs.Ytanibabfdpgbbaa
