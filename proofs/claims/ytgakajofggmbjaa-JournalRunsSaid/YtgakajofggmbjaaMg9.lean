/- The document's disk: Torn, Crash. -/
import Derived.Test.YtgakajofggmbjaaMg8
import Derived.Deep.RegionHeld3
import Derived.Deep.Cut
namespace Go.Proofs.Ytgakajofggmbjaa
open Go.RowKit
attribute [local go_sem ↓] build37

theorem SecAt.set1 {w : World} {g : Nat} {l : List UInt8} (h : SecAt w g l) (j : Nat) (x : UInt8) : SecAt (w.setCell ⟨g, j, none⟩ (.int .u8 (x.toNat : Int))) g (l.set j x) := by
  refine ⟨?_, by simp [h.2]⟩
  rw [heap_setCell_same w g j _ _ _ h.1]
  simp [← bv_set]
theorem tornSec_len (old now : List UInt8) (m : Nat) (h1 : old.length = 128) (h2 : now.length = 128) (hm : m ≤ 128) : (tornSec old now m).length = 128 := by simp [tornSec, h1, h2]; omega
theorem tornSec_step (old now : List UInt8) (j : Nat) (h1 : old.length = 128) (h2 : now.length = 128) (hj : j < 128) : (tornSec old now j).set j (at8 now j) = tornSec old now (j + 1) := by
  unfold tornSec at8
  have hl : (now.take j).length = j := by simp [h2]; omega
  rw [List.set_append, hl, if_neg (by omega), Nat.sub_self, List.take_succ_eq_append_getElem (by omega), List.append_assoc]
  congr 1
  rw [List.getD_eq_getElem?_getD, List.getElem?_eq_getElem (by omega)]
  have e : old.drop j = old[j] :: old.drop (j + 1) := (List.getElem_cons_drop (by omega)).symm
  rw [e]
  rfl
section
variable {w : World}
set_option maxRecDepth 20000 in
set_option maxHeartbeats 800000 in
theorem ref_Torn (old now : List UInt8) (h1 : old.length = 128) (h2 : now.length = 128) (cut : Int) (w : World) :
    Calls Try.prog 38 #[.agg (bv old).toArray, .agg (bv now).toArray, .int .i64 cut] w fun e w' => e = .returned (secV (tornSec old now (max 0 (min cut 128)).toNat)) ∧ Below w.heap.size w w' := by
  have HO := Lib.hid h1; have HN := Lib.hid h2
  have hs0 : SecAt (((w.alloc (.cells (bv old).toArray 55)).alloc (.cells (bv now).toArray 55)).alloc (.cells Try.zeroCells55 55)) w.heap.size (tornSec old now 0) := by
    have e : tornSec old now 0 = old := by simp [tornSec]
    rw [e]
    exact ((SecAt.new w old h1).below (below_alloc _ _)).below (below_alloc _ _)
  have hs1 : SecAt (((w.alloc (.cells (bv old).toArray 55)).alloc (.cells (bv now).toArray 55)).alloc (.cells Try.zeroCells55 55)) (w.heap.size + 1) now := by
    have := (SecAt.new (w.alloc (.cells (bv old).toArray 55)) now h2).below (below_alloc _ (.cells Try.zeroCells55 55))
    simpa using this
  have hs2 := zsec_new' ((w.alloc (.cells (bv old).toArray 55)).alloc (.cells (bv now).toArray 55)) (w.heap.size + 1 + 1) (by simp)
  have hb := (below_alloc2 w (.cells (bv old).toArray 55) (.cells (bv now).toArray 55)).alloc (by simp; omega) (.cells Try.zeroCells55 55)
  have H0 := Lib.hid hs0; have H1 := Lib.hid hs1; have H2 := Lib.hid hs2; have HB := Lib.hid hb
  clear h1 h2 hs0 hs1 hs2 hb
  go_enter Try.func38, Try.ntmps38
  go_wp2_with fail
  go_loopw [7] (fun i wr => ∃ j : Nat, j ≤ 128 ∧ i = .int .i64 j ∧ Hid (SecAt wr w.heap.size (tornSec old now (min j (max 0 (min cut 128)).toNat)) ∧ SecAt wr (w.heap.size + 1) now ∧ SecAt wr (w.heap.size + 1 + 1) zsec ∧ Below w.heap.size w wr)) (fun i _ => 128 - (intOf i).toNat)
  case atStart => exact ⟨0, by omega, rfl, Lib.hid ⟨by rw [Nat.zero_min]; exact H0.out, H1.out, H2.out, HB.out⟩⟩
  case round =>
    clear H0 H1 H2 HB
    obtain ⟨j, hj, rfl, HR⟩ := hrel
    by_cases hlt : j < 128
    · have hj0 : (0 : Int) ≤ (j : Int) := Int.natCast_nonneg _
      have hj1 : (j : Int) < 128 := by omega
      obtain ⟨s0, s1, s2, hbl⟩ := HR.out
      by_cases hc : (j : Int) < cut
      · have c1 := s1.cell j hlt
        have c0 := s0.cell j hlt
        have f0 : wr.frozen? ⟨w.heap.size, j, none⟩ = false := frozen_of_row _ _ _ _ _ s0.1
        have hs := s0.set1 j (at8 now j)
        rw [show min j (max 0 (min cut 128)).toNat = j by omega, tornSec_step old now j HO.out HN.out hlt] at hs
        have hkp := (Kp.refl (· = w.heap.size) wr).setCell ⟨w.heap.size, j, none⟩ (.int .u8 ((at8 now j).toNat : Int)) (fun _ => rfl)
        have HF : Hid (SecAt (wr.setCell ⟨w.heap.size, j, none⟩ (.int .u8 ((at8 now j).toNat : Int))) w.heap.size (tornSec old now (min (j + 1) (max 0 (min cut 128)).toNat)) ∧ SecAt (wr.setCell ⟨w.heap.size, j, none⟩ (.int .u8 ((at8 now j).toNat : Int))) (w.heap.size + 1) now ∧ SecAt (wr.setCell ⟨w.heap.size, j, none⟩ (.int .u8 ((at8 now j).toNat : Int))) (w.heap.size + 1 + 1) zsec ∧ Below w.heap.size w (wr.setCell ⟨w.heap.size, j, none⟩ (.int .u8 ((at8 now j).toNat : Int)))) :=
          Lib.hid ⟨by rw [show min (j + 1) (max 0 (min cut 128)).toNat = j + 1 by omega]; exact hs, s1.kp hkp (by omega), s2.kp hkp (by omega), hbl.trans (kp_one hbl.size hkp (Nat.le_refl _))⟩
        clear s0 s1 s2 hbl hs hkp HR
        go_wp2_with fail
        go_roundw
        case rel => exact ⟨j + 1, by omega, by go_num, HF⟩
        case measure => simp [intOf]; omega
      · have HF : Hid (SecAt wr w.heap.size (tornSec old now (min (j + 1) (max 0 (min cut 128)).toNat)) ∧ SecAt wr (w.heap.size + 1) now ∧ SecAt wr (w.heap.size + 1 + 1) zsec ∧ Below w.heap.size w wr) :=
          Lib.hid ⟨by rw [show min (j + 1) (max 0 (min cut 128)).toNat = min j (max 0 (min cut 128)).toNat by omega]; exact s0, s1, s2, hbl⟩
        clear s0 s1 s2 hbl HR
        go_wp2_with fail
        go_roundw
        case rel => exact ⟨j + 1, by omega, by go_num, HF⟩
        case measure => simp [intOf]; omega
    · obtain rfl : j = 128 := by omega
      obtain ⟨s0, s1, s2, hbl⟩ := HR.out
      rw [show min 128 (max 0 (min cut 128)).toNat = (max 0 (min cut 128)).toNat by omega] at s0
      have HS0 := Lib.hid s0; have HS2 := Lib.hid s2; have HBL := Lib.hid hbl
      clear s0 s1 s2 hbl HR
      go_wp2_with (first
        | (refine ld37 rfl _ rfl w.heap.size 0 rfl (tornSec old now (max 0 (min cut 128)).toNat) HS0.out.range HS0.out.2 ?_)
        | (refine st37_at rfl _ _ rfl (w.heap.size + 1 + 1) _ rfl HS2.out (tornSec old now (max 0 (min cut 128)).toNat) rfl HS0.out.2 ?_; intro w3 hs3 hk3; have HS3 := Lib.hid hs3; have HK3 := Lib.hid hk3; clear hs3 hk3))
      exact bodyPost_ret (ret37_at1 Try.results38 _ _ _ _ rfl HS3.out) rfl ⟨rfl, HBL.out.trans (kp_one HBL.out.size HK3.out (by omega))⟩
end
theorem there_bl {w w1 : World} {b o n : Nat} (h : w.there b o n) (hb : Below w.heap.size w w1) : w1.there b o n := by
  intro j hj
  obtain ⟨h1, h2⟩ := h j hj
  obtain ⟨v, hv⟩ := Option.isSome_iff_exists.1 h1
  have hlt := World.block_lt_of_cell? w _ hv
  exact ⟨by rw [hb.cell (p := ⟨b, o + j, none⟩) hlt]; exact h1, by rw [hb.frozen (p := ⟨b, o + j, none⟩) hlt]; exact h2⟩
theorem cell_bl {w w1 : World} {b o : Nat} {v : Value} (h : w.cell? ⟨b, o, none⟩ = some v) (hb : Below w.heap.size w w1) : w1.cell? ⟨b, o, none⟩ = some v := by
  rw [hb.cell (p := ⟨b, o, none⟩) (World.block_lt_of_cell? w _ h)]
  exact h
theorem crashTo_wid (keep : List Bool) (torn : Int) (m : Nat) (hm : m ≤ 128) (st : List (List UInt8)) (l : List (Nat × List UInt8)) (h : ∀ x ∈ st, x.length = 128) (h2 : ∀ x ∈ l, x.1 < st.length ∧ x.2.length = 128) : ∀ n, n ≤ l.length → ∀ x ∈ crashTo keep torn m st l n, x.length = 128 := by
  intro n
  induction n with
  | zero => intro _ x hx; exact h x hx
  | succ n ih =>
    intro hn
    have ih := ih (by omega)
    have hp := h2 _ (penAt_mem (show n < l.length by omega))
    have hlt : (penAt l n).1 < (crashTo keep torn m st l n).length := by rw [crashTo_length]; exact hp.1
    show ∀ x ∈ crashStep keep torn m (crashTo keep torn m st l n) n (penAt l n), x.length = 128
    unfold crashStep
    split
    · exact set_wid ih _ _ (tornSec_len _ _ _ (ih _ (secAt_mem hlt)) hp.2 hm)
    · split
      · exact set_wid ih _ _ hp.2
      · exact ih
/-- The copied sectors st, in the row v. -/
def CrInv (w wr : World) (v : Value) (n : Nat) (st : List (List UInt8)) : Prop :=
  RowAt wr (w.heap.size + 1) 30 rdZ ∧ wr.ownsRow (w.heap.size + 2) 55 128 v n (secs st) ∧ Below w.heap.size w wr
theorem CrInv.below {w wr w' : World} {v : Value} {n : Nat} {st : List (List UInt8)} (h : CrInv w wr v n st) (hb : Below wr.heap.size wr w') : CrInv w w' v n st :=
  ⟨h.1.below hb, own_kp (S := fun _ => False) h.2.1 (Kp.of_below hb) (fun _ hf => hf.elim), bthen h.2.2 hb⟩
theorem CrInv.set {w wr : World} {g n cap : Nat} {st : List (List UInt8)} (h : CrInv w wr (.slice (some ⟨g, 0, none⟩) n cap) n st) (hw : ∀ x ∈ st, x.length = 128) (k : Nat) (l : List UInt8) (hk : k < st.length) (hl : l.length = 128) :
    wr.there g (k * 128) 128 ∧ wr.rangeAt g (k * 128) (bv (secAt st k)) ∧ CrInv w (wr.setCells g (k * 128) (bv l)) (.slice (some ⟨g, 0, none⟩) n cap) n (st.set k l) := by
  obtain ⟨h1, h2, h3, h4⟩ := own_setSec h.2.1 hw k l hk hl
  refine ⟨h1, ?_, h.1.kp h3 (by omega), h2, h.2.2.trans (kp_one h.2.2.size h3 (by omega))⟩
  intro j u hj
  have hle : (secs (st.take k)).length = k * 128 := by
    rw [secs_length _ (fun x hx => hw x (List.mem_of_mem_take hx)), List.length_take]
    congr 1
    omega
  have := mid_get (secs (st.take k)) (bv (secAt st k)) (secs (st.drop (k + 1))) j u hj
  rw [hle, ← secs_split st k hk] at this
  have hc := h.2.1.cells (g := g) rfl _ u this
  rw [add_none, Nat.zero_add] at hc
  exact hc
section
variable {w : World} {A : Option Addr} {c : Nat} {B : Option Addr} {k : Nat} {d : Dk}
attribute [local go_sem ↓] loadAt37 storeAt37
set_option maxRecDepth 20000 in
set_option maxHeartbeats 3200000 in
theorem ref_Crash (h : RDk w A c B k d) (hpl : d.pend.length ≤ 1000000) (K : Option Addr) (nk ck : Nat) (keep : List Bool) (hk : RBl w K nk ck keep) (torn cut : Int) :
    Calls Try.prog 18 #[.agg (rdC A c B k d).toArray, .slice K nk ck, .int .i64 torn, .int .i64 cut] w fun e w' => ∃ A' c', e = .returned (.agg (rdC A' c' none 0 (d.crashed keep torn cut)).toArray) ∧ RDk w' A' c' none 0 (d.crashed keep torn cut) ∧ Below w.heap.size w w' ∧ FrA w w' A' := by
  have HP := Lib.hid h; have HPL := Lib.hid hpl; have HKE := Lib.hid hk
  obtain ⟨hd0, hz0, hb0⟩ := flush_boxes w A c B k d
  have HD0 := Lib.hid hd0; have HZ0 := Lib.hid hz0; have HB0 := Lib.hid hb0
  obtain ⟨c0, c1, -, -⟩ := rd_cells hd0
  have HR0 := Lib.hid ((h.below (hb0.alloc (by simp; omega) (.cells #[] 55))).sec)
  obtain ⟨cm, hcm⟩ : ∃ cm, cm = (max 0 (min cut 128)).toNat := ⟨_, rfl⟩
  have HCM := Lib.hid hcm
  have HM2 : Hid (cm ≤ 128) := Lib.hid (by omega)
  have hnk := hk.2.1
  have hckm := hk.2.2.1
  clear hd0 hz0 hb0 h hpl hk hcm
  go_enter Try.func18, Try.ntmps18
  go_wp2_with (at_builtin; go_must (refine wpList_append_any (w0 := ((w.alloc (.cells (rdC A c B k d).toArray 30)).alloc (.cells #[.slice none 0 0, .slice none 0 0, .int .i64 0, .bool false] 30)).alloc (.cells #[] 55)) (w.heap.size + 2) rfl (.tmp 12) (.tmp 14) 27 55 (.agg Try.zeroCells55) 128 128 rfl Try.underlying27 Try.info37r (by kernel_rfl) (by decide) (by decide) (.slice (some ⟨w.heap.size + 1 + 1, 0, none⟩) 0 0) 0 [] A d.stable.length c (secs d.stable) rfl rfl (by simpa using own_empty ((w.alloc (.cells (rdC A c B k d).toArray 30)).alloc (.cells #[.slice none 0 0, .slice none 0 0, .int .i64 0, .bool false] 30)) (w.heap.size + 2) 55 128 (by simp)) HR0.out (secs_one _) (by have := HP.out.len; omega) (Below.refl _ _) (by simp) ?_); intro v4 w4 hown4 hb4 hg4 ha4; simp only [Nat.zero_add, List.nil_append] at hown4; obtain ⟨A4, c4, rfl⟩ := own_form hown4; have hB4 := (below_alloc ((w.alloc (.cells (rdC A c B k d).toArray 30)).alloc (.cells #[.slice none 0 0, .slice none 0 0, .int .i64 0, .bool false] 30)) (.cells #[] 55)).mono (show w.heap.size + 2 ≤ _ by simp) |>.trans hb4; have HI4 : Hid (CrInv w w4 (.slice A4 d.stable.length c4) d.stable.length (crashTo keep torn cm d.stable d.pend 0)) := Lib.hid ⟨HZ0.out.belowB hB4 (by omega), hown4, HB0.out.trans (hB4.mono (by omega))⟩; have c1' := (rd_cells (HD0.out.belowB hB4 (by omega))).2.1; clear hown4 hb4 hg4 ha4 c0 c1 hB4)
  go_loopw [19] (fun i wr => ∃ m : Nat, m ≤ d.pend.length ∧ i = .int .i64 m ∧ Hid (CrInv w wr (.slice A4 d.stable.length c4) d.stable.length (crashTo keep torn cm d.stable d.pend m))) (fun i _ => d.pend.length - (intOf i).toNat)
  case atStart => exact ⟨0, by omega, rfl, HI4⟩
  case round =>
    clear HI4 HD0 HZ0 HB0 HR0 c1'
    obtain ⟨m, hm, rfl, HI⟩ := hrel
    have hpl1 := HPL.out
    by_cases hlt : m < d.pend.length
    · have hbw := HI.out.2.2
      obtain ⟨q, qo, rfl, hp⟩ := (HP.out.below hbw).penR m hlt
      obtain ⟨hpin, hln⟩ := HP.out.pinAt m hlt
      have hnx : crashTo keep torn cm d.stable d.pend (m + 1) = crashStep keep torn cm (crashTo keep torn cm d.stable d.pend m) m (penAt d.pend m) := rfl
      have hwid := crashTo_wid keep torn cm HM2.out d.stable d.pend HP.out.wid HP.out.pin m (by omega)
      have hlen : (crashTo keep torn cm d.stable d.pend m).length = d.stable.length := crashTo_length _ _ _ _ _ _
      generalize hst : crashTo keep torn cm d.stable d.pend m = st at *
      generalize penAt d.pend m = x at *
      obtain ⟨x1, x2⟩ := x
      simp only at hpin hln hnx
      obtain ⟨g4, rfl⟩ : ∃ g4, A4 = some ⟨g4, 0, none⟩ := by
        rcases HI.out.2.1.2 with ⟨_, h0⟩ | ⟨g, _, _, he, _⟩
        · omega
        · injection he with e1 _ _
          exact ⟨g, e1⟩
      have hrow := RowAt.new wr 96 (penC (x1, x2))
      have q0 : (wr.alloc (.cells (penC (x1, x2)).toArray 96)).cell? ⟨wr.heap.size, 0, none⟩ = some (.int .i64 (x1 : Int)) := hrow.cell 0 _ rfl
      have hq : (wr.alloc (.cells (penC (x1, x2)).toArray 96)).rangeAt wr.heap.size 1 (bv x2) := range_alloc1 wr _ _ _ _
      have HI2 := Lib.hid (HI.out.below (below_alloc wr (.cells (penC (x1, x2)).toArray 96)))
      have hkeep : ∀ j, j < nk → ∃ b o, K = some ⟨b, o, none⟩ ∧ (wr.alloc (.cells (penC (x1, x2)).toArray 96)).cell? ⟨b, o + j, none⟩ = some (.bool (atB keep j)) := fun j hj => by
        obtain ⟨b, o, e, hc⟩ := (HKE.out.below (balloc hbw (.cells (penC (x1, x2)).toArray 96))).2.2.2 (by omega)
        exact ⟨b, o, e, hc j hj⟩
      have HX := Lib.hid hln; have HPR := Lib.hid hp; have HQ := Lib.hid hq; have HNX := Lib.hid hnx; have HST := Lib.hid hst; have HW := Lib.hid hwid; have HLN := Lib.hid hlen; have HKP := Lib.hid hkeep
      have hm0 : (0 : Int) ≤ (m : Int) := Int.natCast_nonneg _
      have hm1 : (m : Int) < (d.pend.length : Int) := by omega
      have hx0 : (0 : Int) ≤ (x1 : Int) := Int.natCast_nonneg _
      have hx1 : (x1 : Int) < (d.stable.length : Int) := by omega
      have HXL : Hid (x1 < st.length) := Lib.hid (by omega)
      clear hp hln hnx hpin hrow hq hst hwid hlen hkeep HI hbw
      by_cases ht : (m : Int) = torn
      · have htb : ((m : Int) == torn) = true := beq_iff_eq.2 ht
        have HT := Lib.hid ht
        clear ht
        obtain ⟨-, hro, -⟩ := HI2.out.set HW.out x1 x2 HXL.out HX.out
        have hol : (secAt st x1).length = 128 := HW.out _ (secAt_mem HXL.out)
        obtain ⟨old, hold⟩ : ∃ old, old = secAt st x1 := ⟨_, rfl⟩
        rw [← hold] at hro hol
        have HOLD := Lib.hid hold; have HOL := Lib.hid hol
        have HLT : Hid ((tornSec old x2 cm).length = 128) := Lib.hid (tornSec_len _ _ _ hol HX.out HM2.out)
        have hldA := run_ldSec (w := (wr.alloc (.cells (penC (x1, x2)).toArray 96)).drew) hro hol
        have hldB := run_ldSec (w := (wr.alloc (.cells (penC (x1, x2)).toArray 96)).drew) HQ.out HX.out
        have HT5 : Hid (∀ w5, Below (wr.alloc (.cells (penC (x1, x2)).toArray 96)).drew.heap.size (wr.alloc (.cells (penC (x1, x2)).toArray 96)).drew w5 → w5.cell? ⟨wr.heap.size, 0, none⟩ = some (.int .i64 (x1 : Int)) ∧ (stSec (.pointer (some ⟨g4, x1 * 128, none⟩)) (secV (tornSec old x2 cm))).run Try.prog w5 = .ok () (w5.setCells g4 (x1 * 128) (bv (tornSec old x2 cm))) ∧
            CrInv w (w5.setCells g4 (x1 * 128) (bv (tornSec old x2 cm))) (.slice (some ⟨g4, 0, none⟩) d.stable.length c4) d.stable.length (crashTo keep torn cm d.stable d.pend (m + 1))) := Lib.hid fun w5 hb5 => by
          have hinv : CrInv w (wr.alloc (.cells (penC (x1, x2)).toArray 96)).drew (.slice (some ⟨g4, 0, none⟩) d.stable.length c4) d.stable.length st := HI2.out.below ((Below.refl _ _).drew)
          obtain ⟨hth, -, hset⟩ := (hinv.below hb5).set HW.out x1 (tornSec old x2 cm) HXL.out HLT.out
          refine ⟨cell_bl (w := (wr.alloc (.cells (penC (x1, x2)).toArray 96)).drew) q0 hb5, run_stSec hth HLT.out, ?_⟩
          rw [HNX.out]
          unfold crashStep
          rw [if_pos HT.out]
          simp only
          rw [← HOLD.out]
          exact hset
        clear hro hol hold
        rw [HCM.out] at HT5
        go_upto_region 6 with (first
          | (refine ldN 96 (penC (x1, x2)) rfl _ rfl q (qo + m * 129) rfl HPR.out Try.underlying96 rfl (size_rw (x1, x2) HX.out) ?_)
          | (refine stN 96 (penC (x1, x2)) rfl _ _ rfl _ _ rfl rfl rfl (penC_one (x1, x2)) (size_rw (x1, x2) HX.out) (by rw [penC_length (x1, x2) HX.out]; rfl) ?_))
        go_region_with (go_at_call 38; refine (ref_Torn old x2 HOL.out HX.out cut _).mono ?_; rintro e w5 ⟨rfl, hb5⟩; obtain ⟨q5, hst, hin⟩ := HT5.out w5 hb5; rw [← HCM.out] at hin; have HIN := Lib.hid hin; clear hb5 hin)
        all_goals
          go_wp2
          go_roundw
          case rel => exact ⟨m + 1, by omega, by go_num, by rw [← HCM.out]; exact HIN⟩
          case measure => simp [intOf]; omega
      · have htb : ((m : Int) == torn) = false := beq_eq_false_iff_ne.2 ht
        have HT := Lib.hid ht
        clear ht
        have skip : atB keep m = false → CrInv w (wr.alloc (.cells (penC (x1, x2)).toArray 96)) (.slice (some ⟨g4, 0, none⟩) d.stable.length c4) d.stable.length (crashTo keep torn cm d.stable d.pend (m + 1)) := fun hb => by
          rw [HNX.out]
          unfold crashStep
          rw [if_neg HT.out, if_neg (by rw [hb]; decide)]
          exact HI2.out
        have SKIP := Lib.hid skip
        clear skip
        by_cases hkl : m < nk
        · obtain ⟨b, o, rfl, hbc⟩ := HKP.out m hkl
          have hkl' : (m : Int) < (nk : Int) := by omega
          by_cases hb : atB keep m = true
          · rw [hb] at hbc
            obtain ⟨hth, -, hset⟩ := HI2.out.set HW.out x1 x2 HXL.out HX.out
            have HTH := Lib.hid hth
            have HF : Hid (CrInv w ((wr.alloc (.cells (penC (x1, x2)).toArray 96)).setCells g4 (x1 * 128) (bv x2)) (.slice (some ⟨g4, 0, none⟩) d.stable.length c4) d.stable.length (crashTo keep torn cm d.stable d.pend (m + 1))) := Lib.hid (by
              rw [HNX.out]
              unfold crashStep
              rw [if_neg HT.out, if_pos hb]
              exact hset)
            clear hth hset hb
            go_wp2_with (first
              | (refine ldN 96 (penC (x1, x2)) rfl _ rfl q (qo + m * 129) rfl HPR.out Try.underlying96 rfl (size_rw (x1, x2) HX.out) ?_)
              | (refine stN 96 (penC (x1, x2)) rfl _ _ rfl _ _ rfl rfl rfl (penC_one (x1, x2)) (size_rw (x1, x2) HX.out) (by rw [penC_length (x1, x2) HX.out]; rfl) ?_)
              | (refine ld37 rfl _ rfl wr.heap.size 1 rfl x2 HQ.out HX.out ?_)
              | (refine st37_mid rfl _ _ rfl g4 (x1 * 128) rfl x2 rfl HX.out HTH.out ?_))
            go_roundw
            case rel => exact ⟨m + 1, by omega, by go_num, HF⟩
            case measure => simp [intOf]; omega
          · have hb' : atB keep m = false := by simpa using hb
            rw [hb'] at hbc
            have HF := Lib.hid (SKIP.out hb')
            clear hb hb'
            go_wp2_with (first
              | (refine ldN 96 (penC (x1, x2)) rfl _ rfl q (qo + m * 129) rfl HPR.out Try.underlying96 rfl (size_rw (x1, x2) HX.out) ?_)
              | (refine stN 96 (penC (x1, x2)) rfl _ _ rfl _ _ rfl rfl rfl (penC_one (x1, x2)) (size_rw (x1, x2) HX.out) (by rw [penC_length (x1, x2) HX.out]; rfl) ?_))
            go_roundw
            case rel => exact ⟨m + 1, by omega, by go_num, HF⟩
            case measure => simp [intOf]; omega
        · have hb' : atB keep m = false := by
            rw [atB, List.getD_eq_getElem?_getD, List.getElem?_eq_none (by rw [HKE.out.1]; omega)]; rfl
          have HF := Lib.hid (SKIP.out hb')
          clear hb'
          go_wp2_with (first
            | (refine ldN 96 (penC (x1, x2)) rfl _ rfl q (qo + m * 129) rfl HPR.out Try.underlying96 rfl (size_rw (x1, x2) HX.out) ?_)
            | (refine stN 96 (penC (x1, x2)) rfl _ _ rfl _ _ rfl rfl rfl (penC_one (x1, x2)) (size_rw (x1, x2) HX.out) (by rw [penC_length (x1, x2) HX.out]; rfl) ?_))
          go_roundw
          case rel => exact ⟨m + 1, by omega, by go_num, HF⟩
          case measure => simp [intOf]; omega
    · obtain rfl : m = d.pend.length := by omega
      obtain ⟨hz, hown, hbl⟩ := HI.out
      have HZ := Lib.hid hz; have HO := Lib.hid hown; have HBL := Lib.hid hbl
      have hds : (d.crashed keep torn cut).stable = crashTo keep torn cm d.stable d.pend d.pend.length := by rw [HCM.out]; rfl
      have hlen : (d.crashed keep torn cut).stable.length = d.stable.length := by rw [hds, crashTo_length]
      have e8 : rdC A4 c4 none 0 (d.crashed keep torn cut) = [.slice A4 d.stable.length c4, .slice none 0 0, .int .i64 (-1), .bool false] := by unfold rdC; rw [hlen]; rfl
      have HDS := Lib.hid hds; have HLN := Lib.hid hlen; have HE8 := Lib.hid e8
      clear hz hown hbl HI hds hlen e8
      go_wp2_with (refine stN_at 30 [.slice A4 d.stable.length c4, .slice none 0 0, .int .i64 (-1), .bool false] _ rfl _ _ rfl (w.heap.size + 1) rfl HZ.out rfl (by simp [Value.oneCell']) Try.sizeRD rfl ?_; intro w8 hs8 hk8; have HS8 := Lib.hid hs8; have HK8 := Lib.hid hk8; clear hs8 hk8)
      have hb8 : Below w.heap.size w w8 := HBL.out.trans (kp_one HBL.out.size HK8.out (by omega))
      have ho8 := own_kp (S := fun i => i < w.heap.size + 2) HO.out (HK8.out.imp (fun i _ e => show i < w.heap.size + 2 by omega)) (fun i hi => hi)
      obtain ⟨A9, c9, e9, hr9, hn9, hc9⟩ := own_rd ho8
      injection e9 with e91 _ e93
      subst e91 e93
      have hs8 := HS8.out
      rw [← HE8.out] at hs8
      have hrd : RDk w8 A4 c4 none 0 (d.crashed keep torn cut) := by
        refine ⟨?_, ⟨rfl, fun hp => by simp [Dk.crashed, pcells] at hp⟩, by rw [HLN.out]; exact hn9, hc9, Nat.zero_le _, by omega, by rw [HLN.out]; exact HP.out.len, ?_, fun x hx => by simp [Dk.crashed] at hx, by simp [Dk.crashed]⟩
        · rw [HLN.out, HDS.out]
          exact hr9
        · rw [HDS.out]
          exact crashTo_wid keep torn cm HM2.out d.stable d.pend HP.out.wid HP.out.pin _ (Nat.le_refl _)
      refine bodyPost_ret (ret_rd Try.results18 _ _ _ _ _ _ _ _ rfl hs8) rfl ⟨A4, c4, rfl, hrd, hb8, FrA.own ho8 (by omega)⟩
end
end Go.Proofs.Ytgakajofggmbjaa

/- The disk and the document's disk side by side. -/
namespace Go.Proofs.Ytgakajofggmbjaa
open Go.RowKit

/-- What a function of the document leaves: the disk d' as a value, its rows as they were or in new memory. -/
def RefPost (F : Value → Value) (w : World) (A B : Option Addr) (d' : Dk) (e : Ending) (w' : World) : Prop :=
  ∃ A' c' B' k', e = .returned (F (.agg (rdC A' c' B' k' d').toArray)) ∧ RDk w' A' c' B' k' d' ∧ Below w.heap.size w w' ∧ (A' = A ∨ FrA w w' A') ∧ (B' = B ∨ FrA w w' B')
def withErr (err : Int) (x : Value) : Value := .tuple #[x, .int .i64 err]
def justIt (x : Value) : Value := x
section
variable {w : World} {d : Dk}
theorem RDk.fuel {A : Option Addr} {c : Nat} {B : Option Addr} {k : Nat} (h : RDk w A c B k d) (f : Int) (hf : -1 ≤ f ∧ f ≤ 9223372036854775807) : RDk w A c B k { d with fuel := f } :=
  ⟨h.sec, h.pen, h.nc, h.cm, h.pk, h.km, h.len, h.wid, h.pin, hf⟩
theorem pair_break (i : Int) (hi : i ≤ 9223372036854775807) (w' : World) {A : Option Addr} {c : Nat} {B : Option Addr} {k : Nat} (hr : RDk w' A c B k d) :
    Calls Try.prog 16 #[.agg (rdC A c B k d).toArray, .int .i64 i] w' (RefPost justIt w' A B { d with fuel := max i (-1) }) :=
  (ref_Break i w').mono fun _ _ ⟨he, hb⟩ => ⟨A, c, B, k, he, (hr.below hb).fuel _ (by omega), hb, .inl rfl, .inl rfl⟩
theorem pair_crash (hpl : d.pend.length ≤ 1000000) (K : Option Addr) (nk ck : Nat) (keep : List Bool) (torn cut : Int) (w' : World) {A : Option Addr} {c : Nat} {B : Option Addr} {k : Nat} (hr : RDk w' A c B k d) (hk : RBl w' K nk ck keep) :
    Calls Try.prog 18 #[.agg (rdC A c B k d).toArray, .slice K nk ck, .int .i64 torn, .int .i64 cut] w' (RefPost justIt w' A B (d.crashed keep torn cut)) :=
  (ref_Crash hr hpl K nk ck keep hk torn cut).mono fun _ _ ⟨A', c', he, h1, h2, h3⟩ => ⟨A', c', none, 0, he, h1, h2, .inr h3, .inr (FrA.none _ _)⟩
end

/-- A slice lies in blocks that are there, and are not the disk's. -/
def ApB (w : World) (p s : Nat) (v : Value) (A : Option Addr) : Prop := ∀ b o, A = some ⟨b, o, none⟩ → b < w.heap.size ∧ ¬ foot p s v b
theorem ApB.up {w w' : World} {p s : Nat} {v v' : Value} {A : Option Addr} (h : ApB w p s v A) (hs : w.heap.size ≤ w'.heap.size) (hv : ∀ g, v'.ownBlock = some g → v.ownBlock = some g ∨ w.heap.size ≤ g) : ApB w' p s v' A := fun b o e => by
  obtain ⟨h1, h2⟩ := h b o e
  refine ⟨Nat.lt_of_lt_of_le h1 hs, ?_⟩
  rintro (hf | hf | hf)
  · exact h2 (.inl hf)
  · exact h2 (.inr (.inl hf))
  · rcases hv b hf with hf | hf
    · exact h2 (.inr (.inr hf))
    · omega
theorem ApB.new {w w' : World} {base p s : Nat} {v : Value} {d : Dk} (h : DiskAt w base p s v d) {A : Option Addr} (hA : FrA w w' A) : ApB w' p s v A := fun b o e => by
  obtain ⟨h1, h2⟩ := hA b o e
  exact ⟨h2, fun hf => by have := h.foot_lt b hf; omega⟩
theorem foot_not {w : World} {base p s g : Nat} {v : Value} {d : Dk} {t : TypeId} {cs : List Value} (h : DiskAt w base p s v d) (hg : RowAt w g t cs) (h1 : 66 ≠ t) (h2 : 55 ≠ t) (h3 : 94 ≠ t) : ¬ foot p s v g := by
  rintro (rfl | rfl | e)
  · exact ne_of_types h.obj hg h1 rfl
  · exact ne_of_types h.sta hg h2 rfl
  · exact own_ne h.pen hg h3 e
/-- The disk and the document's one side by side: the same data, in blocks apart. -/
structure Two (w1 wr : World) (p s g : Nat) (v : Value) (A : Option Addr) (c : Nat) (B : Option Addr) (k : Nat) (d : Dk) : Prop where
  disk : DiskAt wr w1.heap.size p s v d
  row : RowAt wr g 30 (rdC A c B k d)
  rd : RDk wr A c B k d
  apA : ApB wr p s v A
  apB : ApB wr p s v B
  gA : ∀ b o, A = some ⟨b, o, none⟩ → b ≠ g
  gB : ∀ b o, B = some ⟨b, o, none⟩ → b ≠ g
  bl : Below w1.heap.size w1 wr
section
variable {w1 wr w' : World} {p s g : Nat} {v v' : Value} {A : Option Addr} {c : Nat} {B : Option Addr} {k : Nat} {d d' : Dk}
theorem Two.notFoot (h : Two w1 wr p s g v A c B k d) : ¬ foot p s v g := foot_not h.disk h.row (by decide) (by decide) (by decide)
theorem Two.below (h : Two w1 wr p s g v A c B k d) (hb : Below wr.heap.size wr w') : Two w1 w' p s g v A c B k d :=
  ⟨h.disk.below hb, h.row.below hb, h.rd.below hb, h.apA.up hb.size (fun _ e => .inl e), h.apB.up hb.size (fun _ e => .inl e), h.gA, h.gB, bthen h.bl hb⟩
/-- A box of its own is written. -/
theorem Two.box (h : Two w1 wr p s g v A c B k d) {q : Nat} (hk : Kp (· = q) wr w') (hq : w1.heap.size ≤ q) (hf : ¬ foot p s v q) (hg : q ≠ g) (hA : ∀ b o, A = some ⟨b, o, none⟩ → b ≠ q) (hB : ∀ b o, B = some ⟨b, o, none⟩ → b ≠ q) : Two w1 w' p s g v A c B k d :=
  ⟨h.disk.kept hk (fun i hi e => by subst e; exact hf hi), h.row.kp hk (fun e => hg e.symm), h.rd.kpF hk hA hB, h.apA.up hk.size (fun _ e => .inl e), h.apB.up hk.size (fun _ e => .inl e), h.gA, h.gB, h.bl.trans (kp_one h.bl.size hk hq)⟩
theorem Two.ltA (h : Two w1 wr p s g v A c B k d) : (∀ b o, A = some ⟨b, o, none⟩ → b < wr.heap.size) ∧ (∀ b o, B = some ⟨b, o, none⟩ → b < wr.heap.size) := ⟨fun b o e => (h.apA b o e).1, fun b o e => (h.apB b o e).1⟩
/-- What was done to the disk alone: the document's is still the elder one. -/
structure Half (w1 wr : World) (p s g : Nat) (v : Value) (A : Option Addr) (c : Nat) (B : Option Addr) (k : Nat) (d d' : Dk) : Prop where
  disk : DiskAt wr w1.heap.size p s v d'
  row : RowAt wr g 30 (rdC A c B k d)
  rd : RDk wr A c B k d
  apA : ApB wr p s v A
  apB : ApB wr p s v B
  gA : ∀ b o, A = some ⟨b, o, none⟩ → b ≠ g
  gB : ∀ b o, B = some ⟨b, o, none⟩ → b ≠ g
  bl : Below w1.heap.size w1 wr
theorem Two.acted (h : Two w1 wr p s g v A c B k d) (hd : DiskAt w' w1.heap.size p s v' d') (hk : Kp (foot p s v) wr w') (hv : ∀ q, v'.ownBlock = some q → v.ownBlock = some q ∨ wr.heap.size ≤ q) : Half w1 w' p s g v' A c B k d d' :=
  ⟨hd, h.row.kp hk h.notFoot, h.rd.kpF hk (fun b o e => (h.apA b o e).2) (fun b o e => (h.apB b o e).2), h.apA.up hk.size hv, h.apB.up hk.size hv, h.gA, h.gB, h.bl.trans (hk.below h.bl.size (fun i hi => h.disk.foot_base i hi))⟩
theorem Half.notFoot (h : Half w1 wr p s g v A c B k d d') : ¬ foot p s v g := foot_not h.disk h.row (by decide) (by decide) (by decide)
theorem Half.box (h : Half w1 wr p s g v A c B k d d') {q : Nat} (hk : Kp (· = q) wr w') (hq : w1.heap.size ≤ q) (hf : ¬ foot p s v q) (hg : q ≠ g) (hA : ∀ b o, A = some ⟨b, o, none⟩ → b ≠ q) (hB : ∀ b o, B = some ⟨b, o, none⟩ → b ≠ q) : Half w1 w' p s g v A c B k d d' :=
  ⟨h.disk.kept hk (fun i hi e => by subst e; exact hf hi), h.row.kp hk (fun e => hg e.symm), h.rd.kpF hk hA hB, h.apA.up hk.size (fun _ e => .inl e), h.apB.up hk.size (fun _ e => .inl e), h.gA, h.gB, h.bl.trans (kp_one h.bl.size hk hq)⟩
/-- The document's disk has done the same: its new value will be stored. -/
theorem Half.done (h : Half w1 wr p s g v A c B k d d') {A' : Option Addr} {c' : Nat} {B' : Option Addr} {k' : Nat} {w2 : World} (hr : RDk w' A' c' B' k' d') (hb : Below wr.heap.size wr w') (hA : A' = A ∨ FrA wr w' A') (hB : B' = B ∨ FrA wr w' B') (hk : Kp (· = g) w' w2) (hrow : RowAt w2 g 30 (rdC A' c' B' k' d')) (hg : w1.heap.size ≤ g) : Two w1 w2 p s g v A' c' B' k' d' := by
  have hd := h.disk.below hb
  have hnf : ¬ foot p s v g := h.notFoot
  have ap : ∀ {A A' : Option Addr}, ApB wr p s v A → (A' = A ∨ FrA wr w' A') → ApB w2 p s v A' := fun h0 h1 => by
    rcases h1 with rfl | h1
    · exact h0.up (Nat.le_trans hb.size hk.size) (fun _ e => .inl e)
    · exact (ApB.new h.disk h1).up hk.size (fun _ e => .inl e)
  have hbl := bthen h.bl hb
  have hlt : g < wr.heap.size := lt_of_heap h.row
  have hAg : ∀ b o, A' = some ⟨b, o, none⟩ → b ≠ g := fun b o e => by
    rcases hA with rfl | hA
    · exact h.gA b o e
    · have := (hA b o e).1
      omega
  have hBg : ∀ b o, B' = some ⟨b, o, none⟩ → b ≠ g := fun b o e => by
    rcases hB with rfl | hB
    · exact h.gB b o e
    · have := (hB b o e).1
      omega
  exact ⟨hd.kept hk (fun i hi e => by subst e; exact hnf hi), hrow, hr.kpF hk hAg hBg, ap h.apA hA, ap h.apB hB, hAg, hBg, hbl.trans (kp_one hbl.size hk hg)⟩
theorem Two.start {w2 w3 : World} {n : Int} (hd : DiskAt w2 w1.heap.size p s (.slice none 0 0) (newDk n)) (hb0 : Below w1.heap.size w1 w2) (hr3 : RDk w3 A c none 0 (newDk n)) (hb3 : Below w2.heap.size w2 w3) (hf3 : FrA w2 w3 A) :
    Two w1 (w3.alloc (.cells (rdC A c none 0 (newDk n)).toArray 30)) p s w3.heap.size (.slice none 0 0) A c none 0 (newDk n) :=
  ⟨(hd.below hb3).below (below_alloc _ _), RowAt.new w3 _ _, hr3.below (below_alloc _ _), (ApB.new hd hf3).up (by simp) (fun _ e => .inl e), (fun b o e => by cases e), (fun b o e => by have := (hf3 b o e).2; omega), (fun b o e => by cases e), balloc (hb0.trans (hb3.mono hb0.size)) _⟩
end
end Go.Proofs.Ytgakajofggmbjaa
