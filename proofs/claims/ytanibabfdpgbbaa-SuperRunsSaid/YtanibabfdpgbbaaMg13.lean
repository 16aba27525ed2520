/- The document's disk: Torn, Crash. -/
import Derived.Test.YtanibabfdpgbbaaMg12
import Derived.Deep.RegionHeld3
import Derived.Deep.Cut
import Derived.Test.YtanibabfdpgbbaaMg4
import Derived.Test.YtanibabfdpgbbaaMg7
namespace Go.Proofs.Ytanibabfdpgbbaa
open Go.RowKit
attribute [local go_sem ↓] build37

theorem SecAt.set1 {w : World} {g : Nat} {l : List UInt8} (h : SecAt w g l) (j : Nat) (x : UInt8) : SecAt (w.setCell ⟨g, j, none⟩ (.int .u8 (x.toNat : Int))) g (l.set j x) := by
  refine ⟨?_, by simp [h.2]⟩
  rw [heap_setCell_same w g j _ _ _ h.1]
  simp [← bv_set]
theorem tornSec_len (old now : List UInt8) (m : Nat) (h1 : old.length = 128) (h2 : now.length = 128) (hm : m ≤ 128) : (tornSec old now m).length = 128 := by simp [tornSec, h1, h2]; omega
theorem tornSec_step (old now : List UInt8) (j : Nat) (h1 : old.length = 128) (h2 : now.length = 128) (hj : j < 128) : (tornSec old now j).set j (at8 now j) = tornSec old now (j + 1) := by
  unfold tornSec at8
  have hl : (now.take j).length = j := by simp [h2]; omega
  rw [List.set_append, hl, if_neg (by omega), Nat.sub_self, List.take_succ_eq_append_getElem (by omega), List.append_assoc]
  congr 1
  rw [List.getD_eq_getElem?_getD, List.getElem?_eq_getElem (by omega)]
  have e : old.drop j = old[j] :: old.drop (j + 1) := (List.getElem_cons_drop (by omega)).symm
  rw [e]
  rfl
section
variable {w : World}
set_option maxRecDepth 20000 in
set_option maxHeartbeats 800000 in
theorem ref_Torn (old now : List UInt8) (h1 : old.length = 128) (h2 : now.length = 128) (cut : Int) (w : World) :
    Calls Try.prog 42 #[.agg (bv old).toArray, .agg (bv now).toArray, .int .i64 cut] w fun e w' => e = .returned (secV (tornSec old now (max 0 (min cut 128)).toNat)) ∧ Below w.heap.size w w' := by
  have HO := Lib.hid h1; have HN := Lib.hid h2
  have hs0 : SecAt (((w.alloc (.cells (bv old).toArray 32)).alloc (.cells (bv now).toArray 32)).alloc (.cells Try.zeroCells32 32)) w.heap.size (tornSec old now 0) := by
    have e : tornSec old now 0 = old := by simp [tornSec]
    rw [e]
    exact ((SecAt.new w old h1).below (below_alloc _ _)).below (below_alloc _ _)
  have hs1 : SecAt (((w.alloc (.cells (bv old).toArray 32)).alloc (.cells (bv now).toArray 32)).alloc (.cells Try.zeroCells32 32)) (w.heap.size + 1) now := by
    have := (SecAt.new (w.alloc (.cells (bv old).toArray 32)) now h2).below (below_alloc _ (.cells Try.zeroCells32 32))
    simpa using this
  have hs2 := zsec_new' ((w.alloc (.cells (bv old).toArray 32)).alloc (.cells (bv now).toArray 32)) (w.heap.size + 1 + 1) (by simp)
  have hb := (below_alloc2 w (.cells (bv old).toArray 32) (.cells (bv now).toArray 32)).alloc (by simp; omega) (.cells Try.zeroCells32 32)
  have H0 := Lib.hid hs0; have H1 := Lib.hid hs1; have H2 := Lib.hid hs2; have HB := Lib.hid hb
  clear h1 h2 hs0 hs1 hs2 hb
  go_enter Try.func42, Try.ntmps42
  go_wp2_with fail
  go_loopw [7] (fun i wr => ∃ j : Nat, j ≤ 128 ∧ i = .int .i64 j ∧ Hid (SecAt wr w.heap.size (tornSec old now (min j (max 0 (min cut 128)).toNat)) ∧ SecAt wr (w.heap.size + 1) now ∧ SecAt wr (w.heap.size + 1 + 1) zsec ∧ Below w.heap.size w wr)) (fun i _ => 128 - (intOf i).toNat)
  case atStart => exact ⟨0, by omega, rfl, Lib.hid ⟨by rw [Nat.zero_min]; exact H0.out, H1.out, H2.out, HB.out⟩⟩
  case round =>
    clear H0 H1 H2 HB
    obtain ⟨j, hj, rfl, HR⟩ := hrel
    by_cases hlt : j < 128
    · have hj0 : (0 : Int) ≤ (j : Int) := Int.natCast_nonneg _
      have hj1 : (j : Int) < 128 := by omega
      obtain ⟨s0, s1, s2, hbl⟩ := HR.out
      by_cases hc : (j : Int) < cut
      · have c1 := s1.cell j hlt
        have c0 := s0.cell j hlt
        have f0 : wr.frozen? ⟨w.heap.size, j, none⟩ = false := frozen_of_row _ _ _ _ _ s0.1
        have hs := s0.set1 j (at8 now j)
        rw [show min j (max 0 (min cut 128)).toNat = j by omega, tornSec_step old now j HO.out HN.out hlt] at hs
        have hkp := (Kp.refl (· = w.heap.size) wr).setCell ⟨w.heap.size, j, none⟩ (.int .u8 ((at8 now j).toNat : Int)) (fun _ => rfl)
        have HF : Hid (SecAt (wr.setCell ⟨w.heap.size, j, none⟩ (.int .u8 ((at8 now j).toNat : Int))) w.heap.size (tornSec old now (min (j + 1) (max 0 (min cut 128)).toNat)) ∧ SecAt (wr.setCell ⟨w.heap.size, j, none⟩ (.int .u8 ((at8 now j).toNat : Int))) (w.heap.size + 1) now ∧ SecAt (wr.setCell ⟨w.heap.size, j, none⟩ (.int .u8 ((at8 now j).toNat : Int))) (w.heap.size + 1 + 1) zsec ∧ Below w.heap.size w (wr.setCell ⟨w.heap.size, j, none⟩ (.int .u8 ((at8 now j).toNat : Int)))) :=
          Lib.hid ⟨by rw [show min (j + 1) (max 0 (min cut 128)).toNat = j + 1 by omega]; exact hs, s1.kp hkp (by omega), s2.kp hkp (by omega), hbl.trans (kp_one hbl.size hkp (Nat.le_refl _))⟩
        clear s0 s1 s2 hbl hs hkp HR
        go_wp2_with fail
        go_roundw
        case rel => exact ⟨j + 1, by omega, by go_num, HF⟩
        case measure => simp [intOf]; omega
      · have HF : Hid (SecAt wr w.heap.size (tornSec old now (min (j + 1) (max 0 (min cut 128)).toNat)) ∧ SecAt wr (w.heap.size + 1) now ∧ SecAt wr (w.heap.size + 1 + 1) zsec ∧ Below w.heap.size w wr) :=
          Lib.hid ⟨by rw [show min (j + 1) (max 0 (min cut 128)).toNat = min j (max 0 (min cut 128)).toNat by omega]; exact s0, s1, s2, hbl⟩
        clear s0 s1 s2 hbl HR
        go_wp2_with fail
        go_roundw
        case rel => exact ⟨j + 1, by omega, by go_num, HF⟩
        case measure => simp [intOf]; omega
    · obtain rfl : j = 128 := by omega
      obtain ⟨s0, s1, s2, hbl⟩ := HR.out
      rw [show min 128 (max 0 (min cut 128)).toNat = (max 0 (min cut 128)).toNat by omega] at s0
      have HS0 := Lib.hid s0; have HS2 := Lib.hid s2; have HBL := Lib.hid hbl
      clear s0 s1 s2 hbl HR
      go_wp2_with (first
        | (refine ld37 rfl _ rfl w.heap.size 0 rfl (tornSec old now (max 0 (min cut 128)).toNat) HS0.out.range HS0.out.2 ?_)
        | (refine st37_at rfl _ _ rfl (w.heap.size + 1 + 1) _ rfl HS2.out (tornSec old now (max 0 (min cut 128)).toNat) rfl HS0.out.2 ?_; intro w3 hs3 hk3; have HS3 := Lib.hid hs3; have HK3 := Lib.hid hk3; clear hs3 hk3))
      exact bodyPost_ret (ret37_at1 Try.results42 _ _ _ _ rfl HS3.out) rfl ⟨rfl, HBL.out.trans (kp_one HBL.out.size HK3.out (by omega))⟩
end
theorem there_bl {w w1 : World} {b o n : Nat} (h : w.there b o n) (hb : Below w.heap.size w w1) : w1.there b o n := by
  intro j hj
  obtain ⟨h1, h2⟩ := h j hj
  obtain ⟨v, hv⟩ := Option.isSome_iff_exists.1 h1
  have hlt := World.block_lt_of_cell? w _ hv
  exact ⟨by rw [hb.cell (p := ⟨b, o + j, none⟩) hlt]; exact h1, by rw [hb.frozen (p := ⟨b, o + j, none⟩) hlt]; exact h2⟩
theorem cell_bl {w w1 : World} {b o : Nat} {v : Value} (h : w.cell? ⟨b, o, none⟩ = some v) (hb : Below w.heap.size w w1) : w1.cell? ⟨b, o, none⟩ = some v := by
  rw [hb.cell (p := ⟨b, o, none⟩) (World.block_lt_of_cell? w _ h)]
  exact h
theorem crashTo_wid (keep : List Bool) (torn : Int) (m : Nat) (hm : m ≤ 128) (st : List (List UInt8)) (l : List (Nat × List UInt8)) (h : ∀ x ∈ st, x.length = 128) (h2 : ∀ x ∈ l, x.1 < st.length ∧ x.2.length = 128) : ∀ n, n ≤ l.length → ∀ x ∈ crashTo keep torn m st l n, x.length = 128 := by
  intro n
  induction n with
  | zero => intro _ x hx; exact h x hx
  | succ n ih =>
    intro hn
    have ih := ih (by omega)
    have hp := h2 _ (penAt_mem (show n < l.length by omega))
    have hlt : (penAt l n).1 < (crashTo keep torn m st l n).length := by rw [crashTo_length]; exact hp.1
    show ∀ x ∈ crashStep keep torn m (crashTo keep torn m st l n) n (penAt l n), x.length = 128
    unfold crashStep
    split
    · exact set_wid ih _ _ (tornSec_len _ _ _ (ih _ (secAt_mem hlt)) hp.2 hm)
    · split
      · exact set_wid ih _ _ hp.2
      · exact ih
/-- The copied sectors st, in the row v. -/
def CrInv (w wr : World) (v : Value) (n : Nat) (st : List (List UInt8)) : Prop :=
  RowAt wr (w.heap.size + 1) 36 rdZ ∧ wr.ownsRow (w.heap.size + 2) 32 128 v n (secs st) ∧ Below w.heap.size w wr
theorem CrInv.below {w wr w' : World} {v : Value} {n : Nat} {st : List (List UInt8)} (h : CrInv w wr v n st) (hb : Below wr.heap.size wr w') : CrInv w w' v n st :=
  ⟨h.1.below hb, own_kp (S := fun _ => False) h.2.1 (Kp.of_below hb) (fun _ hf => hf.elim), bthen h.2.2 hb⟩
theorem CrInv.set {w wr : World} {g n cap : Nat} {st : List (List UInt8)} (h : CrInv w wr (.slice (some ⟨g, 0, none⟩) n cap) n st) (hw : ∀ x ∈ st, x.length = 128) (k : Nat) (l : List UInt8) (hk : k < st.length) (hl : l.length = 128) :
    wr.there g (k * 128) 128 ∧ wr.rangeAt g (k * 128) (bv (secAt st k)) ∧ CrInv w (wr.setCells g (k * 128) (bv l)) (.slice (some ⟨g, 0, none⟩) n cap) n (st.set k l) := by
  obtain ⟨h1, h2, h3, h4⟩ := own_setSec h.2.1 hw k l hk hl
  refine ⟨h1, ?_, h.1.kp h3 (by omega), h2, h.2.2.trans (kp_one h.2.2.size h3 (by omega))⟩
  intro j u hj
  have hle : (secs (st.take k)).length = k * 128 := by
    rw [secs_length _ (fun x hx => hw x (List.mem_of_mem_take hx)), List.length_take]
    congr 1
    omega
  have := mid_get (secs (st.take k)) (bv (secAt st k)) (secs (st.drop (k + 1))) j u hj
  rw [hle, ← secs_split st k hk] at this
  have hc := h.2.1.cells (g := g) rfl _ u this
  rw [add_none, Nat.zero_add] at hc
  exact hc
section
variable {w : World} {A : Option Addr} {c : Nat} {B : Option Addr} {k : Nat} {d : Dk}
attribute [local go_sem ↓] loadAt37 storeAt37
set_option maxRecDepth 20000 in
set_option maxHeartbeats 3200000 in
theorem ref_Crash (h : RDk w A c B k d) (hpl : d.pend.length ≤ 1000000) (K : Option Addr) (nk ck : Nat) (keep : List Bool) (hk : RBl w K nk ck keep) (torn cut : Int) :
    Calls Try.prog 24 #[.agg (rdC A c B k d).toArray, .slice K nk ck, .int .i64 torn, .int .i64 cut] w fun e w' => ∃ A' c', e = .returned (.agg (rdC A' c' none 0 (d.crashed keep torn cut)).toArray) ∧ RDk w' A' c' none 0 (d.crashed keep torn cut) ∧ Below w.heap.size w w' ∧ FrA w w' A' := by
  have HP := Lib.hid h; have HPL := Lib.hid hpl; have HKE := Lib.hid hk
  obtain ⟨hd0, hz0, hb0⟩ := flush_boxes w A c B k d
  have HD0 := Lib.hid hd0; have HZ0 := Lib.hid hz0; have HB0 := Lib.hid hb0
  obtain ⟨c0, c1, -, -⟩ := rd_cells hd0
  have HR0 := Lib.hid ((h.below (hb0.alloc (by simp; omega) (.cells #[] 32))).sec)
  obtain ⟨cm, hcm⟩ : ∃ cm, cm = (max 0 (min cut 128)).toNat := ⟨_, rfl⟩
  have HCM := Lib.hid hcm
  have HM2 : Hid (cm ≤ 128) := Lib.hid (by omega)
  have hnk := hk.2.1
  have hckm := hk.2.2.1
  clear hd0 hz0 hb0 h hpl hk hcm
  go_enter Try.func24, Try.ntmps24
  go_wp2_with (at_builtin; go_must (refine wpList_append_any (w0 := ((w.alloc (.cells (rdC A c B k d).toArray 36)).alloc (.cells #[.slice none 0 0, .slice none 0 0, .int .i64 0, .bool false] 36)).alloc (.cells #[] 32)) (w.heap.size + 2) rfl (.tmp 12) (.tmp 14) 33 32 (.agg Try.zeroCells32) 128 128 rfl Try.underlying33 Try.info37r (by kernel_rfl) (by decide) (by decide) (.slice (some ⟨w.heap.size + 1 + 1, 0, none⟩) 0 0) 0 [] A d.stable.length c (secs d.stable) rfl rfl (by simpa using own_empty ((w.alloc (.cells (rdC A c B k d).toArray 36)).alloc (.cells #[.slice none 0 0, .slice none 0 0, .int .i64 0, .bool false] 36)) (w.heap.size + 2) 32 128 (by simp)) HR0.out (secs_one _) (by have := HP.out.len; omega) (Below.refl _ _) (by simp) ?_); intro v4 w4 hown4 hb4 hg4 ha4; simp only [Nat.zero_add, List.nil_append] at hown4; obtain ⟨A4, c4, rfl⟩ := own_form hown4; have hB4 := (below_alloc ((w.alloc (.cells (rdC A c B k d).toArray 36)).alloc (.cells #[.slice none 0 0, .slice none 0 0, .int .i64 0, .bool false] 36)) (.cells #[] 32)).mono (show w.heap.size + 2 ≤ _ by simp) |>.trans hb4; have HI4 : Hid (CrInv w w4 (.slice A4 d.stable.length c4) d.stable.length (crashTo keep torn cm d.stable d.pend 0)) := Lib.hid ⟨HZ0.out.belowB hB4 (by omega), hown4, HB0.out.trans (hB4.mono (by omega))⟩; have c1' := (rd_cells (HD0.out.belowB hB4 (by omega))).2.1; clear hown4 hb4 hg4 ha4 c0 c1 hB4)
  go_loopw [19] (fun i wr => ∃ m : Nat, m ≤ d.pend.length ∧ i = .int .i64 m ∧ Hid (CrInv w wr (.slice A4 d.stable.length c4) d.stable.length (crashTo keep torn cm d.stable d.pend m))) (fun i _ => d.pend.length - (intOf i).toNat)
  case atStart => exact ⟨0, by omega, rfl, HI4⟩
  case round =>
    clear HI4 HD0 HZ0 HB0 HR0 c1'
    obtain ⟨m, hm, rfl, HI⟩ := hrel
    have hpl1 := HPL.out
    by_cases hlt : m < d.pend.length
    · have hbw := HI.out.2.2
      obtain ⟨q, qo, rfl, hp⟩ := (HP.out.below hbw).penR m hlt
      obtain ⟨hpin, hln⟩ := HP.out.pinAt m hlt
      have hnx : crashTo keep torn cm d.stable d.pend (m + 1) = crashStep keep torn cm (crashTo keep torn cm d.stable d.pend m) m (penAt d.pend m) := rfl
      have hwid := crashTo_wid keep torn cm HM2.out d.stable d.pend HP.out.wid HP.out.pin m (by omega)
      have hlen : (crashTo keep torn cm d.stable d.pend m).length = d.stable.length := crashTo_length _ _ _ _ _ _
      generalize hst : crashTo keep torn cm d.stable d.pend m = st at *
      generalize penAt d.pend m = x at *
      obtain ⟨x1, x2⟩ := x
      simp only at hpin hln hnx
      obtain ⟨g4, rfl⟩ : ∃ g4, A4 = some ⟨g4, 0, none⟩ := by
        rcases HI.out.2.1.2 with ⟨_, h0⟩ | ⟨g, _, _, he, _⟩
        · omega
        · injection he with e1 _ _
          exact ⟨g, e1⟩
      have hrow := RowAt.new wr 73 (penC (x1, x2))
      have q0 : (wr.alloc (.cells (penC (x1, x2)).toArray 73)).cell? ⟨wr.heap.size, 0, none⟩ = some (.int .i64 (x1 : Int)) := hrow.cell 0 _ rfl
      have hq : (wr.alloc (.cells (penC (x1, x2)).toArray 73)).rangeAt wr.heap.size 1 (bv x2) := range_alloc1 wr _ _ _ _
      have HI2 := Lib.hid (HI.out.below (below_alloc wr (.cells (penC (x1, x2)).toArray 73)))
      have hkeep : ∀ j, j < nk → ∃ b o, K = some ⟨b, o, none⟩ ∧ (wr.alloc (.cells (penC (x1, x2)).toArray 73)).cell? ⟨b, o + j, none⟩ = some (.bool (atB keep j)) := fun j hj => by
        obtain ⟨b, o, e, hc⟩ := (HKE.out.below (balloc hbw (.cells (penC (x1, x2)).toArray 73))).2.2.2 (by omega)
        exact ⟨b, o, e, hc j hj⟩
      have HX := Lib.hid hln; have HPR := Lib.hid hp; have HQ := Lib.hid hq; have HNX := Lib.hid hnx; have HST := Lib.hid hst; have HW := Lib.hid hwid; have HLN := Lib.hid hlen; have HKP := Lib.hid hkeep
      have hm0 : (0 : Int) ≤ (m : Int) := Int.natCast_nonneg _
      have hm1 : (m : Int) < (d.pend.length : Int) := by omega
      have hx0 : (0 : Int) ≤ (x1 : Int) := Int.natCast_nonneg _
      have hx1 : (x1 : Int) < (d.stable.length : Int) := by omega
      have HXL : Hid (x1 < st.length) := Lib.hid (by omega)
      clear hp hln hnx hpin hrow hq hst hwid hlen hkeep HI hbw
      by_cases ht : (m : Int) = torn
      · have htb : ((m : Int) == torn) = true := beq_iff_eq.2 ht
        have HT := Lib.hid ht
        clear ht
        obtain ⟨-, hro, -⟩ := HI2.out.set HW.out x1 x2 HXL.out HX.out
        have hol : (secAt st x1).length = 128 := HW.out _ (secAt_mem HXL.out)
        obtain ⟨old, hold⟩ : ∃ old, old = secAt st x1 := ⟨_, rfl⟩
        rw [← hold] at hro hol
        have HOLD := Lib.hid hold; have HOL := Lib.hid hol
        have HLT : Hid ((tornSec old x2 cm).length = 128) := Lib.hid (tornSec_len _ _ _ hol HX.out HM2.out)
        have hldA := run_ldSec (w := (wr.alloc (.cells (penC (x1, x2)).toArray 73)).drew) hro hol
        have hldB := run_ldSec (w := (wr.alloc (.cells (penC (x1, x2)).toArray 73)).drew) HQ.out HX.out
        have HT5 : Hid (∀ w5, Below (wr.alloc (.cells (penC (x1, x2)).toArray 73)).drew.heap.size (wr.alloc (.cells (penC (x1, x2)).toArray 73)).drew w5 → w5.cell? ⟨wr.heap.size, 0, none⟩ = some (.int .i64 (x1 : Int)) ∧ (stSec (.pointer (some ⟨g4, x1 * 128, none⟩)) (secV (tornSec old x2 cm))).run Try.prog w5 = .ok () (w5.setCells g4 (x1 * 128) (bv (tornSec old x2 cm))) ∧
            CrInv w (w5.setCells g4 (x1 * 128) (bv (tornSec old x2 cm))) (.slice (some ⟨g4, 0, none⟩) d.stable.length c4) d.stable.length (crashTo keep torn cm d.stable d.pend (m + 1))) := Lib.hid fun w5 hb5 => by
          have hinv : CrInv w (wr.alloc (.cells (penC (x1, x2)).toArray 73)).drew (.slice (some ⟨g4, 0, none⟩) d.stable.length c4) d.stable.length st := HI2.out.below ((Below.refl _ _).drew)
          obtain ⟨hth, -, hset⟩ := (hinv.below hb5).set HW.out x1 (tornSec old x2 cm) HXL.out HLT.out
          refine ⟨cell_bl (w := (wr.alloc (.cells (penC (x1, x2)).toArray 73)).drew) q0 hb5, run_stSec hth HLT.out, ?_⟩
          rw [HNX.out]
          unfold crashStep
          rw [if_pos HT.out]
          simp only
          rw [← HOLD.out]
          exact hset
        clear hro hol hold
        rw [HCM.out] at HT5
        go_upto_region 6 with (first
          | (refine ldN 73 (penC (x1, x2)) rfl _ rfl q (qo + m * 129) rfl HPR.out Try.underlying73 rfl (size_rw (x1, x2) HX.out) ?_)
          | (refine stN 73 (penC (x1, x2)) rfl _ _ rfl _ _ rfl rfl rfl (penC_one (x1, x2)) (size_rw (x1, x2) HX.out) (by rw [penC_length (x1, x2) HX.out]; rfl) ?_))
        go_region_with (go_at_call 42; refine (ref_Torn old x2 HOL.out HX.out cut _).mono ?_; rintro e w5 ⟨rfl, hb5⟩; obtain ⟨q5, hst, hin⟩ := HT5.out w5 hb5; rw [← HCM.out] at hin; have HIN := Lib.hid hin; clear hb5 hin)
        all_goals
          go_wp2
          go_roundw
          case rel => exact ⟨m + 1, by omega, by go_num, by rw [← HCM.out]; exact HIN⟩
          case measure => simp [intOf]; omega
      · have htb : ((m : Int) == torn) = false := beq_eq_false_iff_ne.2 ht
        have HT := Lib.hid ht
        clear ht
        have skip : atB keep m = false → CrInv w (wr.alloc (.cells (penC (x1, x2)).toArray 73)) (.slice (some ⟨g4, 0, none⟩) d.stable.length c4) d.stable.length (crashTo keep torn cm d.stable d.pend (m + 1)) := fun hb => by
          rw [HNX.out]
          unfold crashStep
          rw [if_neg HT.out, if_neg (by rw [hb]; decide)]
          exact HI2.out
        have SKIP := Lib.hid skip
        clear skip
        by_cases hkl : m < nk
        · obtain ⟨b, o, rfl, hbc⟩ := HKP.out m hkl
          have hkl' : (m : Int) < (nk : Int) := by omega
          by_cases hb : atB keep m = true
          · rw [hb] at hbc
            obtain ⟨hth, -, hset⟩ := HI2.out.set HW.out x1 x2 HXL.out HX.out
            have HTH := Lib.hid hth
            have HF : Hid (CrInv w ((wr.alloc (.cells (penC (x1, x2)).toArray 73)).setCells g4 (x1 * 128) (bv x2)) (.slice (some ⟨g4, 0, none⟩) d.stable.length c4) d.stable.length (crashTo keep torn cm d.stable d.pend (m + 1))) := Lib.hid (by
              rw [HNX.out]
              unfold crashStep
              rw [if_neg HT.out, if_pos hb]
              exact hset)
            clear hth hset hb
            go_wp2_with (first
              | (refine ldN 73 (penC (x1, x2)) rfl _ rfl q (qo + m * 129) rfl HPR.out Try.underlying73 rfl (size_rw (x1, x2) HX.out) ?_)
              | (refine stN 73 (penC (x1, x2)) rfl _ _ rfl _ _ rfl rfl rfl (penC_one (x1, x2)) (size_rw (x1, x2) HX.out) (by rw [penC_length (x1, x2) HX.out]; rfl) ?_)
              | (refine ld37 rfl _ rfl wr.heap.size 1 rfl x2 HQ.out HX.out ?_)
              | (refine st37_mid rfl _ _ rfl g4 (x1 * 128) rfl x2 rfl HX.out HTH.out ?_))
            go_roundw
            case rel => exact ⟨m + 1, by omega, by go_num, HF⟩
            case measure => simp [intOf]; omega
          · have hb' : atB keep m = false := by simpa using hb
            rw [hb'] at hbc
            have HF := Lib.hid (SKIP.out hb')
            clear hb hb'
            go_wp2_with (first
              | (refine ldN 73 (penC (x1, x2)) rfl _ rfl q (qo + m * 129) rfl HPR.out Try.underlying73 rfl (size_rw (x1, x2) HX.out) ?_)
              | (refine stN 73 (penC (x1, x2)) rfl _ _ rfl _ _ rfl rfl rfl (penC_one (x1, x2)) (size_rw (x1, x2) HX.out) (by rw [penC_length (x1, x2) HX.out]; rfl) ?_))
            go_roundw
            case rel => exact ⟨m + 1, by omega, by go_num, HF⟩
            case measure => simp [intOf]; omega
        · have hb' : atB keep m = false := by
            rw [atB, List.getD_eq_getElem?_getD, List.getElem?_eq_none (by rw [HKE.out.1]; omega)]; rfl
          have HF := Lib.hid (SKIP.out hb')
          clear hb'
          go_wp2_with (first
            | (refine ldN 73 (penC (x1, x2)) rfl _ rfl q (qo + m * 129) rfl HPR.out Try.underlying73 rfl (size_rw (x1, x2) HX.out) ?_)
            | (refine stN 73 (penC (x1, x2)) rfl _ _ rfl _ _ rfl rfl rfl (penC_one (x1, x2)) (size_rw (x1, x2) HX.out) (by rw [penC_length (x1, x2) HX.out]; rfl) ?_))
          go_roundw
          case rel => exact ⟨m + 1, by omega, by go_num, HF⟩
          case measure => simp [intOf]; omega
    · obtain rfl : m = d.pend.length := by omega
      obtain ⟨hz, hown, hbl⟩ := HI.out
      have HZ := Lib.hid hz; have HO := Lib.hid hown; have HBL := Lib.hid hbl
      have hds : (d.crashed keep torn cut).stable = crashTo keep torn cm d.stable d.pend d.pend.length := by rw [HCM.out]; rfl
      have hlen : (d.crashed keep torn cut).stable.length = d.stable.length := by rw [hds, crashTo_length]
      have e8 : rdC A4 c4 none 0 (d.crashed keep torn cut) = [.slice A4 d.stable.length c4, .slice none 0 0, .int .i64 (-1), .bool false] := by unfold rdC; rw [hlen]; rfl
      have HDS := Lib.hid hds; have HLN := Lib.hid hlen; have HE8 := Lib.hid e8
      clear hz hown hbl HI hds hlen e8
      go_wp2_with (refine stN_at 36 [.slice A4 d.stable.length c4, .slice none 0 0, .int .i64 (-1), .bool false] _ rfl _ _ rfl (w.heap.size + 1) rfl HZ.out rfl (by simp [Value.oneCell']) Try.sizeRD rfl ?_; intro w8 hs8 hk8; have HS8 := Lib.hid hs8; have HK8 := Lib.hid hk8; clear hs8 hk8)
      have hb8 : Below w.heap.size w w8 := HBL.out.trans (kp_one HBL.out.size HK8.out (by omega))
      have ho8 := own_kp (S := fun i => i < w.heap.size + 2) HO.out (HK8.out.imp (fun i _ e => show i < w.heap.size + 2 by omega)) (fun i hi => hi)
      obtain ⟨A9, c9, e9, hr9, hn9, hc9⟩ := own_rd ho8
      injection e9 with e91 _ e93
      subst e91 e93
      have hs8 := HS8.out
      rw [← HE8.out] at hs8
      have hrd : RDk w8 A4 c4 none 0 (d.crashed keep torn cut) := by
        refine ⟨?_, ⟨rfl, fun hp => by simp [Dk.crashed, pcells] at hp⟩, by rw [HLN.out]; exact hn9, hc9, Nat.zero_le _, by omega, by rw [HLN.out]; exact HP.out.len, ?_, fun x hx => by simp [Dk.crashed] at hx, by simp [Dk.crashed]⟩
        · rw [HLN.out, HDS.out]
          exact hr9
        · rw [HDS.out]
          exact crashTo_wid keep torn cm HM2.out d.stable d.pend HP.out.wid HP.out.pin _ (Nat.le_refl _)
      refine bodyPost_ret (ret_rd Try.results24 _ _ _ _ _ _ _ _ rfl hs8) rfl ⟨A4, c4, rfl, hrd, hb8, FrA.own ho8 (by omega)⟩
end
end Go.Proofs.Ytanibabfdpgbbaa

/- The reference's Number. -/
namespace Go.Proofs.Ytanibabfdpgbbaa
open Go.RowKit

theorem made_zeros (m : Nat) : (madeCells (Value.int .u8 0).cells (m * 1)).toList = bv (List.replicate m 0) := by
  apply List.ext_getElem
  · simp [madeCells, bv_length]
  · intro i h1 h2
    simp [madeCells, Value.cells, bv, Nat.mod_one]
theorem be_set (n wd j : Nat) (h : j < wd) : (List.replicate (j + 1) 0 ++ (be n wd).drop (j + 1)).set j (UInt8.ofNat (n / 256 ^ (wd - (j + 1)))) = List.replicate j 0 ++ (be n wd).drop j := by
  have e : (be n wd).drop j = UInt8.ofNat (n / 256 ^ (wd - (j + 1))) :: (be n wd).drop (j + 1) := by
    rw [List.drop_eq_getElem_cons (by rw [be_length]; exact h)]
    congr 1
    simp only [be, List.getElem_map, List.getElem_range]
    congr 3
    omega
  rw [e, List.replicate_succ', List.append_assoc, List.set_append_right _ _ (by simp)]
  simp
theorem byte_mod (n : Nat) : (n : Int) % 256 = ((UInt8.ofNat n).toNat : Int) := by
  simp
theorem div_step (n wd j : Nat) (h : j < wd) : (((n / 256 ^ (wd - (j + 1)) : Nat) : Int)) / 256 = ((n / 256 ^ (wd - j) : Nat) : Int) := by
  have e : wd - j = (wd - (j + 1)) + 1 := by omega
  rw [e, Nat.pow_succ, ← Nat.div_div_eq_div_mul]
  simp

set_option maxRecDepth 20000 in
set_option maxHeartbeats 1600000 in
theorem ref02_Number (n wd : Nat) (hn : n < 18446744073709551616) (hw1 : 1 ≤ wd) (hw8 : wd ≤ 8) (w : World) :
    Calls Try.prog 39 #[.int .u64 n, .int .i64 wd] w fun e w' => ∃ v, e = .returned (.tuple #[v, .bool (decide (n < 256 ^ wd))]) ∧ w'.ownsRow w.heap.size 5 1 v wd (bv (be n wd)) ∧ Below w.heap.size w w' := by
  obtain ⟨i0, hi0, hz0, hz1, hz2⟩ := info_parts Try.infoU8'
  have HI := Lib.hid hi0; have HI0 := Lib.hid hz0; have HI1 := Lib.hid hz1; have HI2 := Lib.hid hz2
  have HN := Lib.hid hn
  clear hi0 hz0 hz1 hz2 hn
  go_enter Try.func39, Try.ntmps39
  go_wp2_with (at_make; refine wpList_make_full _ rfl _ _ 76 rfl w.heap.size 5 i0 _ 1 Try.underlying76 HI.out HI0.out HI1.out .i64 .i64 _ _ wd rfl rfl (by omega) (by omega) (by rw [HI2.out]; omega) (by unfold maxLen; omega) (Nat.le_refl _) ?_; intro w1 hown hg)
  rw [made_zeros] at hown
  have hb1 : Below w.heap.size w w1 := (Below.refl _ _).grown hg (Nat.le_refl _) (fun k hk => by cases hk)
  have HO := Lib.hid hown; have HB := Lib.hid hb1
  clear hown hg hb1
  go_loopw [0, 7] (fun u i wr => ∃ r : Nat, r ≤ wd ∧ i = .int .i64 ((r : Int) - 1) ∧ u = .int .u64 ((n / 256 ^ (wd - r) : Nat) : Int) ∧ Hid (wr.ownsRow w.heap.size 5 1 (.slice (some ⟨w.heap.size, 0, none⟩) wd wd) wd (bv (List.replicate r 0 ++ (be n wd).drop r))) ∧ Hid (Below w.heap.size w wr)) (fun _ i _ => (intOf i + 1).toNat)
  case atStart => exact ⟨wd, Nat.le_refl _, rfl, by simp, by simpa [List.drop_of_length_le, be_length] using HO, HB⟩
  case round =>
    obtain ⟨r, hr, rfl, rfl, HV, HBR⟩ := hrel
    cases r with
    | succ j =>
      have e : (((j + 1 : Nat) : Int) - 1) = (j : Int) := by omega
      rw [e]
      clear e
      have hj0 : (0 : Int) ≤ (j : Int) := Int.natCast_nonneg _
      have hj8 : (j : Int) < (wd : Int) := by omega
      obtain ⟨hcell, hfz, hset⟩ := own_at8 HV.out j (by omega)
      have hs := hset (UInt8.ofNat (n / 256 ^ (wd - (j + 1))))
      rw [be_set n wd j (by omega), ← byte_mod] at hs
      have HS := Lib.hid hs
      have hdv := div_step n wd j (by omega)
      have hq0 : (0 : Int) ≤ ((n / 256 ^ (wd - (j + 1)) : Nat) : Int) := Int.natCast_nonneg _
      have hq1 : ((n / 256 ^ (wd - (j + 1)) : Nat) : Int) < 18446744073709551616 := by
        have := Nat.div_le_self n (256 ^ (wd - (j + 1)))
        have := HN.out
        omega
      have HD := Lib.hid hdv
      clear hset hs hdv
      generalize hq : n / 256 ^ (wd - (j + 1)) = q at *
      have HBS : Hid (Below w.heap.size w (wr.setCell ⟨w.heap.size, j, none⟩ (.int .u8 ((q : Int) % 256)))) := Lib.hid (HBR.out.setCell (Nat.le_refl _) _)
      go_wp2_with fail
      go_roundw
      case rel => exact ⟨j, by omega, rfl, by rw [HD.out], HS, HBS⟩
      case measure => simp [intOf]
    | zero =>
      have eq0 : (((n : Int) / 256 ^ wd) == 0) = decide (n < 256 ^ wd) := by
        have e : (n : Int) / 256 ^ wd = ((n / 256 ^ wd : Nat) : Int) := by simp
        rw [e]
        by_cases h : n < 256 ^ wd
        · rw [Nat.div_eq_of_lt h, decide_eq_true h]; rfl
        · rw [decide_eq_false h, beq_eq_false_iff_ne]
          have : 0 < n / 256 ^ wd := Nat.div_pos (by omega) (Nat.pow_pos (by decide))
          omega
      go_wp2_with fail
      go_ret2
      exact ⟨_, rfl, by simpa using HV.out, HBR.out⟩
end Go.Proofs.Ytanibabfdpgbbaa

/- The reference's Make. -/
namespace Go.Proofs.Ytanibabfdpgbbaa
open Go.RowKit
attribute [local go_sem ↓] loadAt37 build37

theorem SecAt.set {w : World} {g : Nat} {l : List UInt8} (h : SecAt w g l) (j : Nat) (x : UInt8) : SecAt (w.setCell ⟨g, j, none⟩ (.int .u8 (x.toNat : Int))) g (l.set j x) := by
  refine ⟨?_, by simp [h.2]⟩
  rw [heap_setCell_same w g j _ _ _ h.1]
  congr 2
  rw [← bv_set]
  apply Array.ext'
  rw [Array.toList_setIfInBounds]
theorem fill_step (b z : List UInt8) (k : Nat) (hb : k < b.length) (hz : z.length = b.length) : (b.take k ++ z.drop k).set k (at8 b k) = b.take (k + 1) ++ z.drop (k + 1) := by
  rw [take_at8 b k hb, List.set_append_right _ _ (by simp; omega)]
  have e : z.drop k = z[k] :: z.drop (k + 1) := List.drop_eq_getElem_cons (by omega)
  have : k - (b.take k).length = 0 := by simp; omega
  rw [this, e, List.set_cons_zero, List.append_assoc]
  rfl
theorem pad_step (a : List UInt8) (j : Nat) : a ++ List.replicate j 0 ++ [0] = a ++ List.replicate (j + 1) 0 := by
  rw [List.append_assoc, List.replicate_succ']
theorem pad_bv (a : List UInt8) (j : Nat) : bv (a ++ List.replicate j 0) ++ [.int .u8 0] = bv (a ++ List.replicate (j + 1) 0) := by
  rw [← pad_step, bv_append (a ++ _)]
  rfl
def lenV : Value → Nat
  | .slice _ n _ => n
  | _ => 0
set_option maxRecDepth 20000 in
set_option maxHeartbeats 6400000 in
theorem ref05_Make (mark : Nat) (hmk : mark < 18446744073709551616) (A : Option Addr) (n c : Nat) (body : List UInt8) (w : World) (hr : RB w A n c body) (hn : n ≤ 140737488351232) :
    Calls Try.prog 40 #[.int .u64 mark, .slice A n c] w (MadePost w (makeM mark body)) := by
  have hlen : body.length = n := hr.1
  have HR := Lib.hid hr
  have HLEN := Lib.hid hlen
  have hg0 : SecAt (w.alloc (.cells Try.zeroCells32 32)) w.heap.size zsec := by
    rw [Try.zero37]
    exact SecAt.new w zsec zsec_length
  have hb1 := below_alloc w (.cells Try.zeroCells32 32)
  have hbld := fun W => run_bldSec0 W
  have HG0 := Lib.hid hg0; have HB1 := Lib.hid hb1
  clear hr hlen hg0 hb1
  by_cases hbad : mark = 0 ∨ 106 < n
  · have HM : Hid (makeM mark body = none) := Lib.hid (by unfold makeM; rw [if_pos (by rw [HLEN.out]; exact hbad)])
    have key : ∀ P : Prop, ((((mark : Int) == 0) = true → P) ∧ ((((mark : Int) == 0) = false ∧ decide ((106 : Int) < (n : Int)) = true) → P)) → P := fun P ⟨h1, h2⟩ => by
      by_cases h0 : mark = 0
      · exact h1 (by subst h0; rfl)
      · exact h2 ⟨by rw [beq_eq_false_iff_ne]; omega, decide_eq_true (by omega)⟩
    clear hbad
    refine key _ ⟨fun h1 => ?_, fun ⟨h1, h2⟩ => ?_⟩
    all_goals
      clear key
      go_enter Try.func40, Try.ntmps40
      go_wp2_with (refine st37_at rfl _ _ rfl w.heap.size zsec rfl HG0.out zsec rfl zsec_length ?_; intro w2 hg2 hk2; have HG2 := Lib.hid hg2; have HB2 := Lib.hid (HB1.out.trans (hk2.below HB1.out.size (fun _ e => by rw [e]; exact Nat.le_refl _))); clear hg2 hk2)
      (try simp only [Exit.inBlock, Exit.then])
      refine bodyPost_ret (retS_tmp rfl _ _ zsec _ w.heap.size rfl rfl HG2.out) rfl ?_
      exact ⟨zsec, 51, rfl, zsec_length, HB2.out, .inr ⟨HM.out, rfl, rfl⟩⟩
  · have HM : Hid (makeM mark body = some (sealL mark body)) := Lib.hid (by unfold makeM; rw [if_neg (by rw [HLEN.out]; exact hbad)])
    have hn106 : n ≤ 106 := by omega
    have h1 : ((mark : Int) == 0) = false := by rw [beq_eq_false_iff_ne]; omega
    have h2 : decide ((106 : Int) < (n : Int)) = false := decide_eq_false (by omega)
    have hn0 : (0 : Int) ≤ (n : Int) := Int.natCast_nonneg _
    have hwr : IntKind.u64.wrap (n : Int) = (n : Int) := by simp [IntKind.wrap, IntKind.signed, IntKind.bits]; omega
    have HN106 : Hid (n ≤ 106) := Lib.hid hn106
    have HMK := Lib.hid hmk
    clear hbad hmk
    go_enter Try.func40, Try.ntmps40
    go_wp2_with fail
    generalize hw1 : w.alloc (.cells Try.zeroCells32 32) = w1 at *
    clear hw1
    refine (ref02_Number mark 8 HMK.out (by omega) (by omega) w1).mono ?_
    rintro e w2 ⟨v2, rfl, ho2, hb2⟩
    have HO2 := Lib.hid ho2; have HB2 := Lib.hid hb2
    clear ho2 hb2
    go_wp2_with fail
    refine (ref02_Number n 2 (by omega) (by omega) (by omega) w2).mono ?_
    rintro e w3 ⟨v3, rfl, ho3, hb3⟩
    obtain ⟨A3, c3, rfl, hr3⟩ := own_rb ho3
    have HO3 := Lib.hid (own_below HO2.out hb3); have HB3 := Lib.hid (bthen HB2.out hb3); have HR3 := Lib.hid hr3
    clear ho3 hb3 hr3 HO2
    go_wp2_with (at_builtin; first
      | (refine wpList_append_any (w0 := w1) w1.heap.size rfl _ _ 76 5 (.int .u8 0) 1 1 rfl Try.underlying76 Try.infoU8' rfl (by decide) (by decide) v2 8 _ A3 2 c3 (bv (be n 2)) rfl rfl HO3.out HR3.out.rd (bv_one _) (by omega) HB3.out HB3.out.size ?_
         intro v4 w4 ho4 hb4 hg4 ha4
         rw [← bv_append] at ho4
         have HO4 := Lib.hid ho4; have HB4 := Lib.hid hb4
         clear ho4 hb4 hg4 ha4)
      | (refine wpList_append_any (w0 := w1) w1.heap.size rfl _ _ 76 5 (.int .u8 0) 1 1 rfl Try.underlying76 Try.infoU8' rfl (by decide) (by decide) v4 (8 + 2) _ A n c (bv body) rfl rfl HO4.out ((HR.out.below (bthen HB1.out HB4.out)).rd) (bv_one _) (by have := HN106.out; omega) HB4.out HB4.out.size ?_
         intro v5 w5 ho5 hb5 hg5 ha5
         rw [← bv_append] at ho5
         have HO5 := Lib.hid ho5; have HB5 := Lib.hid hb5
         clear ho5 hb5 hg5 ha5))
    obtain ⟨A5, c5, rfl, -⟩ := own_rb HO5.out
    obtain ⟨hd, hhd⟩ : ∃ hd, hd = be mark 8 ++ be n 2 ++ body := ⟨_, rfl⟩
    rw [← hhd] at HO5
    have HHD : Hid (hd ++ List.replicate (116 - (10 + n)) 0 = preL mark body) := Lib.hid (by
      rw [hhd, preL, HLEN.out, show 116 - (10 + n) = 106 - n by omega]
      simp)
    have HHL : Hid (hd.length = 10 + n) := Lib.hid (by rw [hhd]; simp [be_length, HLEN.out]; omega)
    clear hhd HO3 HB3 HR3 HB2 HO4 HB4
    go_loopw [6] (fun u wr => ∃ t A' c', t ≤ 116 ∧ 10 + n ≤ t ∧ u = .slice A' t c' ∧ Hid (wr.ownsRow w1.heap.size 5 1 (.slice A' t c') t (bv (hd ++ List.replicate (t - (10 + n)) 0))) ∧ Hid (Below w1.heap.size w1 wr)) (fun u _ => 116 - lenV u)
    case atStart => exact ⟨8 + 2 + n, A5, c5, by omega, by omega, rfl, by simpa using HO5, HB5⟩
    case round =>
      obtain ⟨t, A6, c6, ht, ht2, rfl, HO6, HB6⟩ := hrel
      by_cases hlt : t < 116
      · have hd6 : decide ((t : Int) < 116) = true := decide_eq_true (by omega)
        have ht0 : (0 : Int) ≤ (t : Int) := Int.natCast_nonneg _
        have ht1 : (t : Int) < 116 := by omega
        go_wp2_with (at_builtin; go_must (refine wpList_append_any (w0 := w1) w1.heap.size rfl _ _ 76 5 (.int .u8 0) 1 1 rfl Try.underlying76 Try.infoU8' rfl (by decide) (by decide) (.slice A6 t c6) t _ (some ⟨wr.heap.size, 0, none⟩) 1 1 [.int .u8 0] rfl rfl (HO6.out.alloc _) (rd_one wr _ _ _ rfl) (by simp [Value.oneCell']) (by omega) (HB6.out.alloc HB6.out.size _) (by have := HB6.out.size; simp; omega) ?_; intro v7 w7 ho7 hb7 hg7 ha7; rw [pad_bv, show t - (10 + n) + 1 = t + 1 - (10 + n) by omega] at ho7; obtain ⟨A7, c7, rfl, -⟩ := own_rb ho7; have HO7 := Lib.hid ho7; have HB7 := Lib.hid hb7; clear ho7 hb7 hg7 ha7))
        go_roundw
        case rel => exact ⟨_, _, _, _, _, _, _, ⟨t + 1, A7, c7, by omega, by omega, rfl, HO7, HB7⟩, rfl⟩
        case measure => simp [lenV]; omega
      · obtain rfl : t = 116 := by omega
        rw [HHD.out] at HO6
        obtain ⟨A8, c8, e8, hr8⟩ := own_rb HO6.out
        injection e8 with e8 _ e9
        subst e8 e9
        have HR8 := Lib.hid hr8
        have hsl := sumL_lt mark body
        have HSL : Hid (sumL mark body < 256 ^ 4) := Lib.hid (by omega)
        have hpl : Hid ((preL mark body).length = 116) := Lib.hid hr8.1
        clear hr8 hsl
        go_wp2_with fail
        refine (ref03_Sum 0#32 A6 116 c6 (preL mark body) wr HR8.out).mono ?_
        rw [show (crcAdd 0#32 (preL mark body)).toNat = sumL mark body from rfl]
        rintro e w9 ⟨rfl, rfl⟩
        have hs0 : (0 : Int) ≤ ((sumL mark body : Nat) : Int) := Int.natCast_nonneg _
        have hs1 : ((sumL mark body : Nat) : Int) < 4294967296 := by have := sumL_lt mark body; omega
        have HSS : Hid (sealL mark body = preL mark body ++ be (sumL mark body) 4 ++ be mark 8) := Lib.hid (by simp [sealL])
        generalize sumL mark body = sm at *
        go_wp2_with fail
        refine (ref02_Number sm 4 (by have := HSL.out; omega) (by omega) (by omega) _).mono ?_
        rintro e w10 ⟨v10, rfl, ho10, hb10⟩
        obtain ⟨A10, c10, rfl, hr10⟩ := own_rb ho10
        have HO10 := Lib.hid (own_below HO6.out hb10); have HB10 := Lib.hid (bthen HB6.out hb10); have HR10 := Lib.hid hr10
        clear ho10 hb10 hr10
        go_wp2_with (at_builtin; go_must (refine wpList_append_any (w0 := w1) w1.heap.size rfl _ _ 76 5 (.int .u8 0) 1 1 rfl Try.underlying76 Try.infoU8' rfl (by decide) (by decide) (.slice A6 116 c6) 116 _ A10 4 c10 (bv (be sm 4)) rfl rfl HO10.out HR10.out.rd (bv_one _) (by omega) HB10.out HB10.out.size ?_; intro v11 w11 ho11 hb11 hg11 ha11; rw [← bv_append] at ho11; have HO11 := Lib.hid ho11; have HB11 := Lib.hid hb11; clear ho11 hb11 hg11 ha11))
        refine (ref02_Number mark 8 HMK.out (by omega) (by omega) _).mono ?_
        rintro e w12 ⟨v12, rfl, ho12, hb12⟩
        obtain ⟨A12, c12, rfl, hr12⟩ := own_rb ho12
        have HO12 := Lib.hid (own_below HO11.out hb12); have HB12 := Lib.hid (bthen HB11.out hb12); have HR12 := Lib.hid hr12
        clear ho12 hb12 hr12
        go_wp2_with (first
          | (at_builtin; refine wpList_append_any (w0 := w1) w1.heap.size rfl _ _ 76 5 (.int .u8 0) 1 1 rfl Try.underlying76 Try.infoU8' rfl (by decide) (by decide) v11 (116 + 4) _ A12 8 c12 (bv (be mark 8)) rfl rfl HO12.out HR12.out.rd (bv_one _) (by omega) HB12.out HB12.out.size ?_
             intro v13 w13 ho13 hb13 hg13 ha13
             rw [← bv_append, ← HSS.out] at ho13
             obtain ⟨A13, c13, rfl, hr13⟩ := own_rb ho13
             have HR13 := Lib.hid hr13; have HB13 := Lib.hid hb13
             clear ho13 hb13 hg13 ha13 hr13)
          | (refine st37 rfl _ _ rfl _ _ rfl rfl zsec rfl zsec_length rfl ?_))
        have HZ := Lib.hid (HG0.out.below (HB13.out.alloc HB13.out.size (.cells (bv zsec).toArray 32)))
        have HLS : Hid ((sealL mark body).length = 128) := Lib.hid HR13.out.1
        clear HO6 HB6 HR8 HO10 HB10 HR10 HO11 HB11 HO12 HB12 HR12 hs0 hs1 HSL HSS hpl HHD HHL HO5 HB5
        go_loopw [15] (fun i wr => ∃ k, k ≤ 128 ∧ i = .int .i64 (k : Nat) ∧ Hid (SecAt wr w13.heap.size ((sealL mark body).take k ++ zsec.drop k)) ∧ Hid (Below w13.heap.size w13 wr)) (fun i _ => 128 - (intOf i).toNat)
        case atStart => exact ⟨0, by omega, rfl, by simpa using Lib.hid (SecAt.new w13 zsec zsec_length), Lib.hid (below_alloc _ _)⟩
        case round =>
          obtain ⟨k, hk, rfl, HGk, HBk⟩ := hrel
          by_cases hlt : k < 128
          · have hk0 : (0 : Int) ≤ (k : Int) := Int.natCast_nonneg _
            have hk1 : (k : Int) < 128 := by omega
            obtain ⟨b, o, rfl, hcells⟩ := (HR13.out.below HBk.out).2.2.2 (by omega)
            have hcell := hcells k (by omega)
            have hsc := HGk.out.cell k hlt
            have hfz := frozen_of_row wr w13.heap.size k _ _ HGk.out.1
            have hset := HGk.out.set k (at8 (sealL mark body) k)
            rw [fill_step _ _ k (by rw [HLS.out]; exact hlt) (by rw [HLS.out, zsec_length])] at hset
            have HST := Lib.hid hset
            have HBS : Hid (Below w13.heap.size w13 (wr.setCell ⟨w13.heap.size, k, none⟩ (.int .u8 ((at8 (sealL mark body) k).toNat : Int)))) := Lib.hid (HBk.out.setCell (Nat.le_refl _) _)
            clear hcells hset
            go_wp2_with fail
            go_roundw
            case rel => exact ⟨k + 1, by omega, by go_num, HST, HBS⟩
            case measure => simp [intOf]; omega
          · obtain rfl : k = 128 := by omega
            have hfin := HGk.out
            rw [List.take_of_length_le (by rw [HLS.out]; exact Nat.le_refl _), List.drop_of_length_le (by rw [zsec_length]; exact Nat.le_refl _), List.append_nil] at hfin
            have HF := Lib.hid hfin
            have HZ2 := Lib.hid ((HG0.out.below HB13.out).below HBk.out)
            have HBF := Lib.hid (bthen HB1.out (bthen HB13.out HBk.out))
            have hld := run_ldSec hfin.range hfin.2
            clear hfin
            go_wp2_with (refine st37_at rfl _ _ rfl w.heap.size zsec rfl HZ2.out (sealL mark body) rfl HLS.out ?_; intro w14 hg14 hk14; have HG14 := Lib.hid hg14; have HB14 := Lib.hid (HBF.out.trans (hk14.below HBF.out.size (fun _ e => by rw [e]; exact Nat.le_refl _))); clear hg14 hk14)
            (try simp only [Exit.inBlock, Exit.then])
            refine bodyPost_ret (retS_tmp rfl _ _ (sealL mark body) _ w.heap.size rfl rfl HG14.out) rfl ?_
            exact ⟨sealL mark body, 0, rfl, HLS.out, HB14.out, .inl ⟨HM.out, rfl⟩⟩
end Go.Proofs.Ytanibabfdpgbbaa
