/- The document's disk: Torn, Crash. -/
import Derived.Test.YtoghmakbdhepfaaRef04d
import Derived.Deep.RegionHeld3
import Derived.Deep.Cut
namespace Go.Proofs.Ytoghmakbdhepfaa
open Go.RowKit
attribute [local go_sem ↓] build37

theorem SecAt.set1 {w : World} {g : Nat} {l : List UInt8} (h : SecAt w g l) (j : Nat) (x : UInt8) : SecAt (w.setCell ⟨g, j, none⟩ (.int .u8 (x.toNat : Int))) g (l.set j x) := by
  refine ⟨?_, by simp [h.2]⟩
  rw [heap_setCell_same w g j _ _ _ h.1]
  simp [← bv_set]
theorem tornSec_len (old now : List UInt8) (m : Nat) (h1 : old.length = 128) (h2 : now.length = 128) (hm : m ≤ 128) : (tornSec old now m).length = 128 := by simp [tornSec, h1, h2]; omega
theorem tornSec_step (old now : List UInt8) (j : Nat) (h1 : old.length = 128) (h2 : now.length = 128) (hj : j < 128) : (tornSec old now j).set j (at8 now j) = tornSec old now (j + 1) := by
  unfold tornSec at8
  have hl : (now.take j).length = j := by simp [h2]; omega
  rw [List.set_append, hl, if_neg (by omega), Nat.sub_self, List.take_succ_eq_append_getElem (by omega), List.append_assoc]
  congr 1
  rw [List.getD_eq_getElem?_getD, List.getElem?_eq_getElem (by omega)]
  have e : old.drop j = old[j] :: old.drop (j + 1) := (List.getElem_cons_drop (by omega)).symm
  rw [e]
  rfl
section
variable {w : World}
set_option maxRecDepth 20000 in
set_option maxHeartbeats 800000 in
theorem ref_Torn (old now : List UInt8) (h1 : old.length = 128) (h2 : now.length = 128) (cut : Int) (w : World) :
    Calls Try.prog 31 #[.agg (bv old).toArray, .agg (bv now).toArray, .int .i64 cut] w fun e w' => e = .returned (secV (tornSec old now (max 0 (min cut 128)).toNat)) ∧ Below w.heap.size w w' := by
  have HO := Lib.hid h1; have HN := Lib.hid h2
  have hs0 : SecAt (((w.alloc (.cells (bv old).toArray 28)).alloc (.cells (bv now).toArray 28)).alloc (.cells Try.zeroCells28 28)) w.heap.size (tornSec old now 0) := by
    have e : tornSec old now 0 = old := by simp [tornSec]
    rw [e]
    exact ((SecAt.new w old h1).below (below_alloc _ _)).below (below_alloc _ _)
  have hs1 : SecAt (((w.alloc (.cells (bv old).toArray 28)).alloc (.cells (bv now).toArray 28)).alloc (.cells Try.zeroCells28 28)) (w.heap.size + 1) now := by
    have := (SecAt.new (w.alloc (.cells (bv old).toArray 28)) now h2).below (below_alloc _ (.cells Try.zeroCells28 28))
    simpa using this
  have hs2 := zsec_new' ((w.alloc (.cells (bv old).toArray 28)).alloc (.cells (bv now).toArray 28)) (w.heap.size + 1 + 1) (by simp)
  have hb := (below_alloc2 w (.cells (bv old).toArray 28) (.cells (bv now).toArray 28)).alloc (by simp; omega) (.cells Try.zeroCells28 28)
  have H0 := Lib.hid hs0; have H1 := Lib.hid hs1; have H2 := Lib.hid hs2; have HB := Lib.hid hb
  clear h1 h2 hs0 hs1 hs2 hb
  go_enter Try.func31, Try.ntmps31
  go_wp2_with fail
  go_loopw [7] (fun i wr => ∃ j : Nat, j ≤ 128 ∧ i = .int .i64 j ∧ Hid (SecAt wr w.heap.size (tornSec old now (min j (max 0 (min cut 128)).toNat)) ∧ SecAt wr (w.heap.size + 1) now ∧ SecAt wr (w.heap.size + 1 + 1) zsec ∧ Below w.heap.size w wr)) (fun i _ => 128 - (intOf i).toNat)
  case atStart => exact ⟨0, by omega, rfl, Lib.hid ⟨by rw [Nat.zero_min]; exact H0.out, H1.out, H2.out, HB.out⟩⟩
  case round =>
    clear H0 H1 H2 HB
    obtain ⟨j, hj, rfl, HR⟩ := hrel
    by_cases hlt : j < 128
    · have hj0 : (0 : Int) ≤ (j : Int) := Int.natCast_nonneg _
      have hj1 : (j : Int) < 128 := by omega
      obtain ⟨s0, s1, s2, hbl⟩ := HR.out
      by_cases hc : (j : Int) < cut
      · have c1 := s1.cell j hlt
        have c0 := s0.cell j hlt
        have f0 : wr.frozen? ⟨w.heap.size, j, none⟩ = false := frozen_of_row _ _ _ _ _ s0.1
        have hs := s0.set1 j (at8 now j)
        rw [show min j (max 0 (min cut 128)).toNat = j by omega, tornSec_step old now j HO.out HN.out hlt] at hs
        have hkp := (Kp.refl (· = w.heap.size) wr).setCell ⟨w.heap.size, j, none⟩ (.int .u8 ((at8 now j).toNat : Int)) (fun _ => rfl)
        have HF : Hid (SecAt (wr.setCell ⟨w.heap.size, j, none⟩ (.int .u8 ((at8 now j).toNat : Int))) w.heap.size (tornSec old now (min (j + 1) (max 0 (min cut 128)).toNat)) ∧ SecAt (wr.setCell ⟨w.heap.size, j, none⟩ (.int .u8 ((at8 now j).toNat : Int))) (w.heap.size + 1) now ∧ SecAt (wr.setCell ⟨w.heap.size, j, none⟩ (.int .u8 ((at8 now j).toNat : Int))) (w.heap.size + 1 + 1) zsec ∧ Below w.heap.size w (wr.setCell ⟨w.heap.size, j, none⟩ (.int .u8 ((at8 now j).toNat : Int)))) :=
          Lib.hid ⟨by rw [show min (j + 1) (max 0 (min cut 128)).toNat = j + 1 by omega]; exact hs, s1.kp hkp (by omega), s2.kp hkp (by omega), hbl.trans (kp_one hbl.size hkp (Nat.le_refl _))⟩
        clear s0 s1 s2 hbl hs hkp HR
        go_wp2_with fail
        go_roundw
        case rel => exact ⟨j + 1, by omega, by go_num, HF⟩
        case measure => simp [intOf]; omega
      · have HF : Hid (SecAt wr w.heap.size (tornSec old now (min (j + 1) (max 0 (min cut 128)).toNat)) ∧ SecAt wr (w.heap.size + 1) now ∧ SecAt wr (w.heap.size + 1 + 1) zsec ∧ Below w.heap.size w wr) :=
          Lib.hid ⟨by rw [show min (j + 1) (max 0 (min cut 128)).toNat = min j (max 0 (min cut 128)).toNat by omega]; exact s0, s1, s2, hbl⟩
        clear s0 s1 s2 hbl HR
        go_wp2_with fail
        go_roundw
        case rel => exact ⟨j + 1, by omega, by go_num, HF⟩
        case measure => simp [intOf]; omega
    · obtain rfl : j = 128 := by omega
      obtain ⟨s0, s1, s2, hbl⟩ := HR.out
      rw [show min 128 (max 0 (min cut 128)).toNat = (max 0 (min cut 128)).toNat by omega] at s0
      have HS0 := Lib.hid s0; have HS2 := Lib.hid s2; have HBL := Lib.hid hbl
      clear s0 s1 s2 hbl HR
      go_wp2_with (first
        | (refine ld37 rfl _ rfl w.heap.size 0 rfl (tornSec old now (max 0 (min cut 128)).toNat) HS0.out.range HS0.out.2 ?_)
        | (refine st37_at rfl _ _ rfl (w.heap.size + 1 + 1) _ rfl HS2.out (tornSec old now (max 0 (min cut 128)).toNat) rfl HS0.out.2 ?_; intro w3 hs3 hk3; have HS3 := Lib.hid hs3; have HK3 := Lib.hid hk3; clear hs3 hk3))
      exact bodyPost_ret (ret37_at1 Try.results31 _ _ _ _ rfl HS3.out) rfl ⟨rfl, HBL.out.trans (kp_one HBL.out.size HK3.out (by omega))⟩
end
theorem there_bl {w w1 : World} {b o n : Nat} (h : w.there b o n) (hb : Below w.heap.size w w1) : w1.there b o n := by
  intro j hj
  obtain ⟨h1, h2⟩ := h j hj
  obtain ⟨v, hv⟩ := Option.isSome_iff_exists.1 h1
  have hlt := World.block_lt_of_cell? w _ hv
  exact ⟨by rw [hb.cell (p := ⟨b, o + j, none⟩) hlt]; exact h1, by rw [hb.frozen (p := ⟨b, o + j, none⟩) hlt]; exact h2⟩
theorem cell_bl {w w1 : World} {b o : Nat} {v : Value} (h : w.cell? ⟨b, o, none⟩ = some v) (hb : Below w.heap.size w w1) : w1.cell? ⟨b, o, none⟩ = some v := by
  rw [hb.cell (p := ⟨b, o, none⟩) (World.block_lt_of_cell? w _ h)]
  exact h
theorem crashTo_wid (keep : List Bool) (torn : Int) (m : Nat) (hm : m ≤ 128) (st : List (List UInt8)) (l : List (Nat × List UInt8)) (h : ∀ x ∈ st, x.length = 128) (h2 : ∀ x ∈ l, x.1 < st.length ∧ x.2.length = 128) : ∀ n, n ≤ l.length → ∀ x ∈ crashTo keep torn m st l n, x.length = 128 := by
  intro n
  induction n with
  | zero => intro _ x hx; exact h x hx
  | succ n ih =>
    intro hn
    have ih := ih (by omega)
    have hp := h2 _ (penAt_mem (show n < l.length by omega))
    have hlt : (penAt l n).1 < (crashTo keep torn m st l n).length := by rw [crashTo_length]; exact hp.1
    show ∀ x ∈ crashStep keep torn m (crashTo keep torn m st l n) n (penAt l n), x.length = 128
    unfold crashStep
    split
    · exact set_wid ih _ _ (tornSec_len _ _ _ (ih _ (secAt_mem hlt)) hp.2 hm)
    · split
      · exact set_wid ih _ _ hp.2
      · exact ih
/-- The copied sectors st, in the row v. -/
def CrInv (w wr : World) (v : Value) (n : Nat) (st : List (List UInt8)) : Prop :=
  RowAt wr (w.heap.size + 1) 49 rdZ ∧ wr.ownsRow (w.heap.size + 2) 28 128 v n (secs st) ∧ Below w.heap.size w wr
theorem CrInv.below {w wr w' : World} {v : Value} {n : Nat} {st : List (List UInt8)} (h : CrInv w wr v n st) (hb : Below wr.heap.size wr w') : CrInv w w' v n st :=
  ⟨h.1.below hb, own_kp (S := fun _ => False) h.2.1 (Kp.of_below hb) (fun _ hf => hf.elim), bthen h.2.2 hb⟩
theorem CrInv.set {w wr : World} {g n cap : Nat} {st : List (List UInt8)} (h : CrInv w wr (.slice (some ⟨g, 0, none⟩) n cap) n st) (hw : ∀ x ∈ st, x.length = 128) (k : Nat) (l : List UInt8) (hk : k < st.length) (hl : l.length = 128) :
    wr.there g (k * 128) 128 ∧ wr.rangeAt g (k * 128) (bv (secAt st k)) ∧ CrInv w (wr.setCells g (k * 128) (bv l)) (.slice (some ⟨g, 0, none⟩) n cap) n (st.set k l) := by
  obtain ⟨h1, h2, h3, h4⟩ := own_setSec h.2.1 hw k l hk hl
  refine ⟨h1, ?_, h.1.kp h3 (by omega), h2, h.2.2.trans (kp_one h.2.2.size h3 (by omega))⟩
  intro j u hj
  have hle : (secs (st.take k)).length = k * 128 := by
    rw [secs_length _ (fun x hx => hw x (List.mem_of_mem_take hx)), List.length_take]
    congr 1
    omega
  have := mid_get (secs (st.take k)) (bv (secAt st k)) (secs (st.drop (k + 1))) j u hj
  rw [hle, ← secs_split st k hk] at this
  have hc := h.2.1.cells (g := g) rfl _ u this
  rw [add_none, Nat.zero_add] at hc
  exact hc
section
variable {w : World} {A : Option Addr} {c : Nat} {B : Option Addr} {k : Nat} {d : Dk}
attribute [local go_sem ↓] loadAt37 storeAt37
set_option maxRecDepth 20000 in
set_option maxHeartbeats 3200000 in
theorem ref_Crash (h : RDk w A c B k d) (hpl : d.pend.length ≤ 1000000) (K : Option Addr) (nk ck : Nat) (keep : List Bool) (hk : RBl w K nk ck keep) (torn cut : Int) :
    Calls Try.prog 24 #[.agg (rdC A c B k d).toArray, .slice K nk ck, .int .i64 torn, .int .i64 cut] w fun e w' => ∃ A' c', e = .returned (.agg (rdC A' c' none 0 (d.crashed keep torn cut)).toArray) ∧ RDk w' A' c' none 0 (d.crashed keep torn cut) ∧ Below w.heap.size w w' ∧ FrA w w' A' := by
  have HP := Lib.hid h; have HPL := Lib.hid hpl; have HKE := Lib.hid hk
  obtain ⟨hd0, hz0, hb0⟩ := flush_boxes w A c B k d
  have HD0 := Lib.hid hd0; have HZ0 := Lib.hid hz0; have HB0 := Lib.hid hb0
  obtain ⟨c0, c1, -, -⟩ := rd_cells hd0
  have HR0 := Lib.hid ((h.below (hb0.alloc (by simp; omega) (.cells #[] 28))).sec)
  obtain ⟨cm, hcm⟩ : ∃ cm, cm = (max 0 (min cut 128)).toNat := ⟨_, rfl⟩
  have HCM := Lib.hid hcm
  have HM2 : Hid (cm ≤ 128) := Lib.hid (by omega)
  have hnk := hk.2.1
  have hckm := hk.2.2.1
  clear hd0 hz0 hb0 h hpl hk hcm
  go_enter Try.func24, Try.ntmps24
  go_wp2_with (at_builtin; go_must (refine wpList_append_any (w0 := ((w.alloc (.cells (rdC A c B k d).toArray 49)).alloc (.cells #[.slice none 0 0, .slice none 0 0, .int .i64 0, .bool false] 49)).alloc (.cells #[] 28)) (w.heap.size + 2) rfl (.tmp 12) (.tmp 14) 46 28 (.agg Try.zeroCells28) 128 128 rfl Try.underlying46 Try.info37r (by kernel_rfl) (by decide) (by decide) (.slice (some ⟨w.heap.size + 1 + 1, 0, none⟩) 0 0) 0 [] A d.stable.length c (secs d.stable) rfl rfl (by simpa using own_empty ((w.alloc (.cells (rdC A c B k d).toArray 49)).alloc (.cells #[.slice none 0 0, .slice none 0 0, .int .i64 0, .bool false] 49)) (w.heap.size + 2) 28 128 (by simp)) HR0.out (secs_one _) (by have := HP.out.len; omega) (Below.refl _ _) (by simp) ?_); intro v4 w4 hown4 hb4 hg4 ha4; simp only [Nat.zero_add, List.nil_append] at hown4; obtain ⟨A4, c4, rfl⟩ := own_form hown4; have hB4 := (below_alloc ((w.alloc (.cells (rdC A c B k d).toArray 49)).alloc (.cells #[.slice none 0 0, .slice none 0 0, .int .i64 0, .bool false] 49)) (.cells #[] 28)).mono (show w.heap.size + 2 ≤ _ by simp) |>.trans hb4; have HI4 : Hid (CrInv w w4 (.slice A4 d.stable.length c4) d.stable.length (crashTo keep torn cm d.stable d.pend 0)) := Lib.hid ⟨HZ0.out.belowB hB4 (by omega), hown4, HB0.out.trans (hB4.mono (by omega))⟩; have c1' := (rd_cells (HD0.out.belowB hB4 (by omega))).2.1; clear hown4 hb4 hg4 ha4 c0 c1 hB4)
  go_loopw [19] (fun i wr => ∃ m : Nat, m ≤ d.pend.length ∧ i = .int .i64 m ∧ Hid (CrInv w wr (.slice A4 d.stable.length c4) d.stable.length (crashTo keep torn cm d.stable d.pend m))) (fun i _ => d.pend.length - (intOf i).toNat)
  case atStart => exact ⟨0, by omega, rfl, HI4⟩
  case round =>
    clear HI4 HD0 HZ0 HB0 HR0 c1'
    obtain ⟨m, hm, rfl, HI⟩ := hrel
    have hpl1 := HPL.out
    by_cases hlt : m < d.pend.length
    · have hbw := HI.out.2.2
      obtain ⟨q, qo, rfl, hp⟩ := (HP.out.below hbw).penR m hlt
      obtain ⟨hpin, hln⟩ := HP.out.pinAt m hlt
      have hnx : crashTo keep torn cm d.stable d.pend (m + 1) = crashStep keep torn cm (crashTo keep torn cm d.stable d.pend m) m (penAt d.pend m) := rfl
      have hwid := crashTo_wid keep torn cm HM2.out d.stable d.pend HP.out.wid HP.out.pin m (by omega)
      have hlen : (crashTo keep torn cm d.stable d.pend m).length = d.stable.length := crashTo_length _ _ _ _ _ _
      generalize hst : crashTo keep torn cm d.stable d.pend m = st at *
      generalize penAt d.pend m = x at *
      obtain ⟨x1, x2⟩ := x
      simp only at hpin hln hnx
      obtain ⟨g4, rfl⟩ : ∃ g4, A4 = some ⟨g4, 0, none⟩ := by
        rcases HI.out.2.1.2 with ⟨_, h0⟩ | ⟨g, _, _, he, _⟩
        · omega
        · injection he with e1 _ _
          exact ⟨g, e1⟩
      have hrow := RowAt.new wr 61 (penC (x1, x2))
      have q0 : (wr.alloc (.cells (penC (x1, x2)).toArray 61)).cell? ⟨wr.heap.size, 0, none⟩ = some (.int .i64 (x1 : Int)) := hrow.cell 0 _ rfl
      have hq : (wr.alloc (.cells (penC (x1, x2)).toArray 61)).rangeAt wr.heap.size 1 (bv x2) := range_alloc1 wr _ _ _ _
      have HI2 := Lib.hid (HI.out.below (below_alloc wr (.cells (penC (x1, x2)).toArray 61)))
      have hkeep : ∀ j, j < nk → ∃ b o, K = some ⟨b, o, none⟩ ∧ (wr.alloc (.cells (penC (x1, x2)).toArray 61)).cell? ⟨b, o + j, none⟩ = some (.bool (atB keep j)) := fun j hj => by
        obtain ⟨b, o, e, hc⟩ := (HKE.out.below (balloc hbw (.cells (penC (x1, x2)).toArray 61))).2.2.2 (by omega)
        exact ⟨b, o, e, hc j hj⟩
      have HX := Lib.hid hln; have HPR := Lib.hid hp; have HQ := Lib.hid hq; have HNX := Lib.hid hnx; have HST := Lib.hid hst; have HW := Lib.hid hwid; have HLN := Lib.hid hlen; have HKP := Lib.hid hkeep
      have hm0 : (0 : Int) ≤ (m : Int) := Int.natCast_nonneg _
      have hm1 : (m : Int) < (d.pend.length : Int) := by omega
      have hx0 : (0 : Int) ≤ (x1 : Int) := Int.natCast_nonneg _
      have hx1 : (x1 : Int) < (d.stable.length : Int) := by omega
      have HXL : Hid (x1 < st.length) := Lib.hid (by omega)
      clear hp hln hnx hpin hrow hq hst hwid hlen hkeep HI hbw
      by_cases ht : (m : Int) = torn
      · have htb : ((m : Int) == torn) = true := beq_iff_eq.2 ht
        have HT := Lib.hid ht
        clear ht
        obtain ⟨-, hro, -⟩ := HI2.out.set HW.out x1 x2 HXL.out HX.out
        have hol : (secAt st x1).length = 128 := HW.out _ (secAt_mem HXL.out)
        obtain ⟨old, hold⟩ : ∃ old, old = secAt st x1 := ⟨_, rfl⟩
        rw [← hold] at hro hol
        have HOLD := Lib.hid hold; have HOL := Lib.hid hol
        have HLT : Hid ((tornSec old x2 cm).length = 128) := Lib.hid (tornSec_len _ _ _ hol HX.out HM2.out)
        have hldA := run_ldSec (w := (wr.alloc (.cells (penC (x1, x2)).toArray 61)).drew) hro hol
        have hldB := run_ldSec (w := (wr.alloc (.cells (penC (x1, x2)).toArray 61)).drew) HQ.out HX.out
        have HT5 : Hid (∀ w5, Below (wr.alloc (.cells (penC (x1, x2)).toArray 61)).drew.heap.size (wr.alloc (.cells (penC (x1, x2)).toArray 61)).drew w5 → w5.cell? ⟨wr.heap.size, 0, none⟩ = some (.int .i64 (x1 : Int)) ∧ (stSec (.pointer (some ⟨g4, x1 * 128, none⟩)) (secV (tornSec old x2 cm))).run Try.prog w5 = .ok () (w5.setCells g4 (x1 * 128) (bv (tornSec old x2 cm))) ∧
            CrInv w (w5.setCells g4 (x1 * 128) (bv (tornSec old x2 cm))) (.slice (some ⟨g4, 0, none⟩) d.stable.length c4) d.stable.length (crashTo keep torn cm d.stable d.pend (m + 1))) := Lib.hid fun w5 hb5 => by
          have hinv : CrInv w (wr.alloc (.cells (penC (x1, x2)).toArray 61)).drew (.slice (some ⟨g4, 0, none⟩) d.stable.length c4) d.stable.length st := HI2.out.below ((Below.refl _ _).drew)
          obtain ⟨hth, -, hset⟩ := (hinv.below hb5).set HW.out x1 (tornSec old x2 cm) HXL.out HLT.out
          refine ⟨cell_bl (w := (wr.alloc (.cells (penC (x1, x2)).toArray 61)).drew) q0 hb5, run_stSec hth HLT.out, ?_⟩
          rw [HNX.out]
          unfold crashStep
          rw [if_pos HT.out]
          simp only
          rw [← HOLD.out]
          exact hset
        clear hro hol hold
        rw [HCM.out] at HT5
        go_upto_region 6 with (first
          | (refine ldN 61 (penC (x1, x2)) rfl _ rfl q (qo + m * 129) rfl HPR.out Try.underlying61 rfl (size_rw (x1, x2) HX.out) ?_)
          | (refine stN 61 (penC (x1, x2)) rfl _ _ rfl _ _ rfl rfl rfl (penC_one (x1, x2)) (size_rw (x1, x2) HX.out) (by rw [penC_length (x1, x2) HX.out]; rfl) ?_))
        go_region_with (go_at_call 31; refine (ref_Torn old x2 HOL.out HX.out cut _).mono ?_; rintro e w5 ⟨rfl, hb5⟩; obtain ⟨q5, hst, hin⟩ := HT5.out w5 hb5; rw [← HCM.out] at hin; have HIN := Lib.hid hin; clear hb5 hin)
        all_goals
          go_wp2
          go_roundw
          case rel => exact ⟨m + 1, by omega, by go_num, by rw [← HCM.out]; exact HIN⟩
          case measure => simp [intOf]; omega
      · have htb : ((m : Int) == torn) = false := beq_eq_false_iff_ne.2 ht
        have HT := Lib.hid ht
        clear ht
        have skip : atB keep m = false → CrInv w (wr.alloc (.cells (penC (x1, x2)).toArray 61)) (.slice (some ⟨g4, 0, none⟩) d.stable.length c4) d.stable.length (crashTo keep torn cm d.stable d.pend (m + 1)) := fun hb => by
          rw [HNX.out]
          unfold crashStep
          rw [if_neg HT.out, if_neg (by rw [hb]; decide)]
          exact HI2.out
        have SKIP := Lib.hid skip
        clear skip
        by_cases hkl : m < nk
        · obtain ⟨b, o, rfl, hbc⟩ := HKP.out m hkl
          have hkl' : (m : Int) < (nk : Int) := by omega
          by_cases hb : atB keep m = true
          · rw [hb] at hbc
            obtain ⟨hth, -, hset⟩ := HI2.out.set HW.out x1 x2 HXL.out HX.out
            have HTH := Lib.hid hth
            have HF : Hid (CrInv w ((wr.alloc (.cells (penC (x1, x2)).toArray 61)).setCells g4 (x1 * 128) (bv x2)) (.slice (some ⟨g4, 0, none⟩) d.stable.length c4) d.stable.length (crashTo keep torn cm d.stable d.pend (m + 1))) := Lib.hid (by
              rw [HNX.out]
              unfold crashStep
              rw [if_neg HT.out, if_pos hb]
              exact hset)
            clear hth hset hb
            go_wp2_with (first
              | (refine ldN 61 (penC (x1, x2)) rfl _ rfl q (qo + m * 129) rfl HPR.out Try.underlying61 rfl (size_rw (x1, x2) HX.out) ?_)
              | (refine stN 61 (penC (x1, x2)) rfl _ _ rfl _ _ rfl rfl rfl (penC_one (x1, x2)) (size_rw (x1, x2) HX.out) (by rw [penC_length (x1, x2) HX.out]; rfl) ?_)
              | (refine ld37 rfl _ rfl wr.heap.size 1 rfl x2 HQ.out HX.out ?_)
              | (refine st37_mid rfl _ _ rfl g4 (x1 * 128) rfl x2 rfl HX.out HTH.out ?_))
            go_roundw
            case rel => exact ⟨m + 1, by omega, by go_num, HF⟩
            case measure => simp [intOf]; omega
          · have hb' : atB keep m = false := by simpa using hb
            rw [hb'] at hbc
            have HF := Lib.hid (SKIP.out hb')
            clear hb hb'
            go_wp2_with (first
              | (refine ldN 61 (penC (x1, x2)) rfl _ rfl q (qo + m * 129) rfl HPR.out Try.underlying61 rfl (size_rw (x1, x2) HX.out) ?_)
              | (refine stN 61 (penC (x1, x2)) rfl _ _ rfl _ _ rfl rfl rfl (penC_one (x1, x2)) (size_rw (x1, x2) HX.out) (by rw [penC_length (x1, x2) HX.out]; rfl) ?_))
            go_roundw
            case rel => exact ⟨m + 1, by omega, by go_num, HF⟩
            case measure => simp [intOf]; omega
        · have hb' : atB keep m = false := by
            rw [atB, List.getD_eq_getElem?_getD, List.getElem?_eq_none (by rw [HKE.out.1]; omega)]; rfl
          have HF := Lib.hid (SKIP.out hb')
          clear hb'
          go_wp2_with (first
            | (refine ldN 61 (penC (x1, x2)) rfl _ rfl q (qo + m * 129) rfl HPR.out Try.underlying61 rfl (size_rw (x1, x2) HX.out) ?_)
            | (refine stN 61 (penC (x1, x2)) rfl _ _ rfl _ _ rfl rfl rfl (penC_one (x1, x2)) (size_rw (x1, x2) HX.out) (by rw [penC_length (x1, x2) HX.out]; rfl) ?_))
          go_roundw
          case rel => exact ⟨m + 1, by omega, by go_num, HF⟩
          case measure => simp [intOf]; omega
    · obtain rfl : m = d.pend.length := by omega
      obtain ⟨hz, hown, hbl⟩ := HI.out
      have HZ := Lib.hid hz; have HO := Lib.hid hown; have HBL := Lib.hid hbl
      have hds : (d.crashed keep torn cut).stable = crashTo keep torn cm d.stable d.pend d.pend.length := by rw [HCM.out]; rfl
      have hlen : (d.crashed keep torn cut).stable.length = d.stable.length := by rw [hds, crashTo_length]
      have e8 : rdC A4 c4 none 0 (d.crashed keep torn cut) = [.slice A4 d.stable.length c4, .slice none 0 0, .int .i64 (-1), .bool false] := by unfold rdC; rw [hlen]; rfl
      have HDS := Lib.hid hds; have HLN := Lib.hid hlen; have HE8 := Lib.hid e8
      clear hz hown hbl HI hds hlen e8
      go_wp2_with (refine stN_at 49 [.slice A4 d.stable.length c4, .slice none 0 0, .int .i64 (-1), .bool false] _ rfl _ _ rfl (w.heap.size + 1) rfl HZ.out rfl (by simp [Value.oneCell']) Try.sizeRD rfl ?_; intro w8 hs8 hk8; have HS8 := Lib.hid hs8; have HK8 := Lib.hid hk8; clear hs8 hk8)
      have hb8 : Below w.heap.size w w8 := HBL.out.trans (kp_one HBL.out.size HK8.out (by omega))
      have ho8 := own_kp (S := fun i => i < w.heap.size + 2) HO.out (HK8.out.imp (fun i _ e => show i < w.heap.size + 2 by omega)) (fun i hi => hi)
      obtain ⟨A9, c9, e9, hr9, hn9, hc9⟩ := own_rd ho8
      injection e9 with e91 _ e93
      subst e91 e93
      have hs8 := HS8.out
      rw [← HE8.out] at hs8
      have hrd : RDk w8 A4 c4 none 0 (d.crashed keep torn cut) := by
        refine ⟨?_, ⟨rfl, fun hp => by simp [Dk.crashed, pcells] at hp⟩, by rw [HLN.out]; exact hn9, hc9, Nat.zero_le _, by omega, by rw [HLN.out]; exact HP.out.len, ?_, fun x hx => by simp [Dk.crashed] at hx, by simp [Dk.crashed]⟩
        · rw [HLN.out, HDS.out]
          exact hr9
        · rw [HDS.out]
          exact crashTo_wid keep torn cm HM2.out d.stable d.pend HP.out.wid HP.out.pin _ (Nat.le_refl _)
      refine bodyPost_ret (ret_rd Try.results24 _ _ _ _ _ _ _ _ rfl hs8) rfl ⟨A4, c4, rfl, hrd, hb8, FrA.own ho8 (by omega)⟩
end
end Go.Proofs.Ytoghmakbdhepfaa
