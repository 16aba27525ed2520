/- The reference's Open. -/
import Derived.Test.YtmpeidgmicammaaSealW4
namespace Go.Proofs.Ytmpeidgmicammaa
open Go.RowKit
attribute [local go_sem ↓] loadAt37

theorem numOf_two (l : List UInt8) (h : l.length = 128) : numOf ((l.drop 8).take 2) = (at8 l 8).toNat * 256 + (at8 l 9).toNat := by
  have h8 : at8 (l.drop 8) 0 = at8 l 8 := by simp [at8, List.getD_eq_getElem?_getD]
  have h9 : at8 (l.drop 8) 1 = at8 l 9 := by simp [at8, List.getD_eq_getElem?_getD]
  rw [numOf_take (l.drop 8) 1 (by simp; omega), numOf_take (l.drop 8) 0 (by simp; omega), h8, h9]
  simp [numOf]
set_option maxRecDepth 20000 in
set_option maxHeartbeats 3200000 in
theorem ref05_Open (l : List UInt8) (hl : l.length = 128) (w : World) :
    Calls Try.prog 13 #[secV l] w (OpenPost w (openM l)) := by
  have HG := Lib.hid (SecAt.new w l hl)
  have HL := Lib.hid hl
  have hb1 := below_alloc w (.cells (bv l).toArray 27)
  have HB1 := Lib.hid hb1
  have hbl : (bv l).length = 128 := by rw [bv_length, hl]
  clear hl hb1
  unfold secV
  go_enter Try.func13, Try.ntmps13
  go_wp2_with fail
  have hm8 := numOf_small l 8 (by omega)
  have HM8 := Lib.hid hm8
  have hopen : openM l = openM l := rfl
  conv at hopen => rhs; unfold openM
  have HO := Lib.hid hopen
  have hntwo := numOf_two l HL.out
  have HN2 := Lib.hid hntwo
  generalize w.alloc (.cells (bv l).toArray 27) = w3 at *
  clear hm8 hopen hntwo
  go_loopw [5, 6] (fun u i wr => ∃ k, k ≤ 8 ∧ i = .int .i64 (k : Nat) ∧ u = .int .u64 (numOf (l.take k)) ∧ wr = w3) (fun _ i _ => 8 - (intOf i).toNat)
  case atStart => exact ⟨0, by omega, rfl, rfl, rfl⟩
  case round =>
    obtain ⟨j, hj, rfl, rfl, rfl⟩ := hrel
    by_cases hlt : j < 8
    · have hj0 : (0 : Int) ≤ (j : Int) := Int.natCast_nonneg _
      have hj1 : (j : Int) < 8 := by omega
      have hj2 : (j : Int) < 128 := by omega
      have hcell := HG.out.cell j (by omega)
      have hnt := numOf_take l j (by rw [HL.out]; omega)
      have hsm := numOf_small l (j + 1) (by omega)
      rw [hnt] at hsm
      have hx := (at8 l j).toNat_lt
      have HT := Lib.hid hnt
      clear hnt
      generalize numOf (l.take j) = m at *
      generalize at8 l j = x at *
      go_wp2_with fail
      go_roundw
      case rel => exact ⟨j + 1, by omega, by go_num, by rw [HT.out]; go_num, trivial⟩
      case measure => simp [intOf]; omega
    · obtain rfl : j = 8 := by omega
      have hc8 := HG.out.cell 8 (by omega)
      have hc9 := HG.out.cell 9 (by omega)
      have hx8 := (at8 l 8).toNat_lt
      have hx9 := (at8 l 9).toNat_lt
      obtain ⟨n, hn⟩ : ∃ n, n = (at8 l 8).toNat * 256 + (at8 l 9).toNat := ⟨_, rfl⟩
      have hsum : ((at8 l 8).toNat : Int) * 256 + ((at8 l 9).toNat : Int) = (n : Int) := by omega
      rw [HN2.out, ← hn] at HO
      have hn16 : n < 65536 := by omega
      have hn0 : (0 : Int) ≤ (n : Int) := Int.natCast_nonneg _
      clear hn
      generalize at8 l 8 = x8 at *
      generalize at8 l 9 = x9 at *
      generalize hmk : numOf (l.take 8) = mk at *
      by_cases hbig : 106 < n
      · have hd : decide ((106 : Int) < (n : Int)) = true := decide_eq_true (by omega)
        have HN : Hid (openM l = none) := Lib.hid (by rw [HO.out, if_pos hbig])
        clear hbig HO hmk
        go_wp2_with fail
        go_ret3
        exact ⟨0, none, 0, 0, false, rfl, HB1.out, .inr ⟨HN.out, rfl, rfl, rfl, rfl, rfl⟩⟩
      · have hd : decide ((106 : Int) < (n : Int)) = false := decide_eq_false (by omega)
        have hn1 : (10 : Int) + (n : Int) ≤ 128 := by omega
        have HN : Hid (openM l = if makeM mk ((l.drop 10).take n) = some l then some (mk, (l.drop 10).take n) else none) := Lib.hid (by rw [HO.out, if_neg hbig])
        have HN106 : Hid (n ≤ 106) := Lib.hid (by omega)
        have hrb := HG.out.rb 10 n 118 (by omega) (by omega) (by omega)
        generalize hbody : (l.drop 10).take n = body at *
        have HRB := Lib.hid hrb
        clear hbig HO hrb hbody hmk
        go_wp2_with (first
          | (refine wpList_cutS rfl _ _ _ rfl w.heap.size 10 n _ _ rfl rfl rfl rfl rfl (by omega) (by have := HN106.out; omega) ?_)
          | (at_builtin; refine wpList_copy_bytes (W := wr) rfl _ _ 23 5 rfl Try.underlying23 Try.infoU8' (some ⟨w.heap.size, 10, none⟩) n 118 body wr.heap.size rfl rfl rfl HRB.out (by have := HN106.out; omega) ?_
             intro A4 c4 w4 hown4 hr4 hb4
             have HR4 := Lib.hid hr4; have HB4 := Lib.hid (bthen HB1.out hb4); have HG4 := Lib.hid (HG.out.below hb4)
             clear hown4 hr4 hb4))
        refine (ref05_Make mk HM8.out A4 n c4 body w4 HR4.out (by have := HN106.out; omega)).mono ?_
        rintro e w5 ⟨l5, ev, rfl, hl5, hb5, hc5⟩
        have HL5 := Lib.hid hl5; have HB5 := Lib.hid (bthen HB4.out hb5); have HG5 := Lib.hid (HG4.out.below hb5); have HR5 := Lib.hid (HR4.out.below hb5)
        clear hl5 hb5
        have HB6 := Lib.hid (HB5.out.alloc HB5.out.size (.cells (bv l5).toArray 27))
        have HR6 := Lib.hid (HR5.out.alloc (.cells (bv l5).toArray 27))
        have hld1 := run_ldSec (w := w5.alloc (.cells (bv l5).toArray 27)) (range_alloc w5 (bv l5) _ _) HL5.out
        have hld2 := run_ldSec (w := w5.alloc (.cells (bv l5).toArray 27)) (HG5.out.below (below_alloc w5 _)).range HL.out
        have heq := eq37 (w5.alloc (.cells (bv l5).toArray 27)) l5 l HL5.out HL.out
        clear HG4 HG5 HB4 HB5 HR4 HR5
        rcases hc5 with ⟨hmk5, rfl⟩ | ⟨hmk5, rfl, rfl⟩
        · by_cases hsame : l5 = l
          · have HF : Hid (openM l = some (mk, body)) := Lib.hid (by rw [HN.out, hmk5, if_pos (by rw [hsame])])
            have hdd : decide (l5 = l) = true := decide_eq_true hsame
            rw [hdd] at heq
            clear hmk5 hsame hdd
            go_wp2_with (refine st37 rfl _ _ rfl _ _ rfl rfl l5 rfl HL5.out rfl ?_)
            go_ret3
            exact ⟨mk, A4, n, c4, true, rfl, HB6.out, .inl ⟨body, HF.out, rfl, HR6.out⟩⟩
          · have HF : Hid (openM l = none) := Lib.hid (by rw [HN.out, hmk5, if_neg (by intro e; injection e with e; exact hsame e)])
            have hdd : decide (l5 = l) = false := decide_eq_false hsame
            rw [hdd] at heq
            clear hmk5 hsame hdd
            go_wp2_with (refine st37 rfl _ _ rfl _ _ rfl rfl l5 rfl HL5.out rfl ?_)
            go_ret3
            exact ⟨0, none, 0, 0, false, rfl, HB6.out, .inr ⟨HF.out, rfl, rfl, rfl, rfl, rfl⟩⟩
        · have HF : Hid (openM l = none) := Lib.hid (by rw [HN.out, hmk5, if_neg (by intro e; cases e)])
          clear hmk5 heq hld1 hld2
          go_wp2_with (refine st37 rfl _ _ rfl _ _ rfl rfl zsec rfl zsec_length rfl ?_)
          go_ret3
          exact ⟨0, none, 0, 0, false, rfl, HB6.out, .inr ⟨HF.out, rfl, rfl, rfl, rfl, rfl⟩⟩
end Go.Proofs.Ytmpeidgmicammaa
