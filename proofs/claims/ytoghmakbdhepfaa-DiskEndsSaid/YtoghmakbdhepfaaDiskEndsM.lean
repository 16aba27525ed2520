/- The walk of DiskEnds: behind Break just so many are done. -/
import Derived.Test.YtoghmakbdhepfaaDiskW8
import Derived.Test.YtoghmakbdhepfaaDiskDo
namespace Go.Proofs.Ytoghmakbdhepfaa
open Go.RowKit
attribute [local go_sem ↓] build37

theorem power_spent {d : Dk} (h : d.dead = true ∨ d.fuel = 0) : d.power = ({ d with dead := true }, false) := by
  unfold Dk.power
  rw [if_pos h]
theorem power_has {d : Dk} (h : ¬ (d.dead = true ∨ d.fuel = 0)) (hf : 0 ≤ d.fuel) : d.power = ({ d with fuel := d.fuel - 1 }, true) := by
  unfold Dk.power
  rw [if_neg h, if_pos (by have : d.fuel ≠ 0 := fun e => h (.inr e); omega)]

/-- What became of the disk d: a write or flush was done, or there was no power, or no such sector. -/
def Spent (d d' : Dk) (err : Int) : Prop :=
  d'.stable.length = d.stable.length ∧ d'.pend.length ≤ d.pend.length + 1 ∧
  ((err = 0 ∧ d'.dead = false ∧ d'.fuel = d.fuel - 1 ∧ 0 < d.fuel) ∨ (err = 42 ∧ d'.dead = true ∧ d'.fuel = d.fuel ∧ (d.dead = true ∨ d.fuel = 0)) ∨ (err = 41 ∧ d'.dead = d.dead ∧ d'.fuel = d.fuel))

section
variable {w : World} {base p s : Nat} {v : Value} {d : Dk} {y : ActD}
theorem do_ends (h : DiskAt w base p s v d) (hb : base ≤ w.heap.size) (hy : y.data.length = 128) (hk : y.kind = 1 ∨ y.kind = 2) (hf : 0 ≤ d.fuel) (hpl : d.pend.length ≤ 1000000) :
    ∃ err d', Calls Try.prog 18 #[.pointer (some ⟨p, 0, none⟩), .agg (actCells y).toArray] w (DoPost w base p s v zsec err d') ∧ Spent d d' err := by
  have hW := doW_disk h y
  have hB : base ≤ (doW w y).heap.size := by rw [doW_size]; omega
  rcases hk with hk | hk
  · by_cases hin : 0 ≤ y.at_ ∧ y.at_ < d.stable.length
    · obtain ⟨i, hi⟩ := Int.eq_ofNat_of_zero_le hin.1
      by_cases hp : d.dead = true ∨ d.fuel = 0
      · have hpw := power_spent hp
        refine ⟨42, _, do_write h hy hk 42 d.power.1 ?_, ?_⟩
        · rw [hi]
          exact (disk_Write_dead hW i (by omega) y.data (by rw [hpw])).mono fun e w' ⟨he, hd, hkp⟩ => ⟨he, v, hd, hkp.imp fun i _ hi => .inl hi, fun g hg => .inl hg⟩
        · rw [hpw]
          exact ⟨rfl, Nat.le_succ _, .inr (.inl ⟨rfl, rfl, rfl, hp⟩)⟩
      · have hpw := power_has hp hf
        refine ⟨0, _, do_write h hy hk 0 { d.power.1 with pend := d.pend ++ [(i, y.data)] } ?_, ?_⟩
        · rw [hi]
          refine (disk_Write_yes hW hB i (by omega) y.data hy (by rw [hpw]) hpl).mono fun e w' ⟨v', he, hd, hkp, hv⟩ => ⟨he, v', hd, hkp, fun g hg => ?_⟩
          rcases hv with hv | ⟨g', hg', hl⟩
          · exact .inl (hv ▸ hg)
          · rw [hg'] at hg
            injection hg with hg
            exact .inr (hg ▸ hl)
        · rw [hpw]
          refine ⟨rfl, by simp, .inl ⟨rfl, ?_, rfl, ?_⟩⟩
          · show d.dead = false
            cases hdd : d.dead
            · rfl
            · exact absurd (.inl hdd) hp
          · have : d.fuel ≠ 0 := fun e => hp (.inr e)
            omega
    · refine ⟨41, d, do_write h hy hk 41 d ?_, rfl, Nat.le_succ _, .inr (.inr ⟨rfl, rfl, rfl⟩)⟩
      exact (disk_Write_no hW y.at_ (by omega) y.data).mono fun e w' ⟨he, hbl⟩ => ⟨he, v, hW.below hbl, Kp.of_below hbl, fun g hg => .inl hg⟩
  · by_cases hp : d.dead = true ∨ d.fuel = 0
    · have hpw := power_spent hp
      refine ⟨42, _, do_flush h hk 42 d.power.1 ?_, ?_⟩
      · exact (disk_Flush_dead hW (by rw [hpw])).mono fun e w' ⟨he, hd, hkp⟩ => ⟨he, v, hd, hkp.imp fun i _ hi => .inl hi, fun g hg => .inl hg⟩
      · rw [hpw]
        exact ⟨rfl, Nat.le_succ _, .inr (.inl ⟨rfl, rfl, rfl, hp⟩)⟩
    · have hpw := power_has hp hf
      refine ⟨0, _, do_flush h hk 0 d.power.1.flushed ?_, ?_⟩
      · exact (disk_Flush_yes hW (by rw [hpw]) hpl).mono fun e w' ⟨he, hd, hkp⟩ => ⟨he, _, hd, hkp, fun g hg => by simp [Value.ownBlock] at hg⟩
      · rw [hpw]
        refine ⟨applyW_length _ _, Nat.zero_le _, .inl ⟨rfl, ?_, rfl, ?_⟩⟩
        · show d.dead = false
          cases hdd : d.dead
          · rfl
          · exact absurd (.inl hdd) hp
        · have : d.fuel ≠ 0 := fun e => hp (.inr e)
          omega
end

/-- What holds in every round: k acts are looked at, m of n are done. -/
def EndsInv (w1 wr : World) (p s n k m : Nat) : Prop :=
  ∃ v d, DiskAt wr w1.heap.size p s v d ∧ d.stable.length = 8 ∧ d.pend.length ≤ k ∧ m ≤ n ∧ m ≤ k ∧ d.fuel = (n : Int) - m ∧ (d.dead = true → m = n) ∧ Below w1.heap.size w1 wr
theorem EndsInv.below {w1 wr w' : World} {p s n k m : Nat} (h : EndsInv w1 wr p s n k m) (hb : Below wr.heap.size wr w') : EndsInv w1 w' p s n k m := by
  obtain ⟨v, d, hd, h8, hp, hm, hmk, hf, hdd, hbb⟩ := h
  exact ⟨v, d, hd.below hb, h8, hp, hm, hmk, hf, hdd, hbb.trans (hb.mono hbb.size)⟩
theorem EndsInv.next {w1 wr : World} {p s n k m : Nat} (h : EndsInv w1 wr p s n k m) : EndsInv w1 wr p s n (k + 1) m := by
  obtain ⟨v, d, hd, h8, hp, hm, hmk, hf, hdd, hbb⟩ := h
  exact ⟨v, d, hd, h8, by omega, hm, by omega, hf, hdd, hbb⟩

set_option maxRecDepth 20000 in
set_option maxHeartbeats 6400000 in
theorem diskEnds_main (A : Option Addr) (q n c : Nat) (l : List ActD) (w : World) (hl : RActs w A q c l) (hq : q ≤ 200) (hn : (n : Int) ≤ 9223372036854775807) :
    Calls Try.prog 6 #[.int .i64 n, .slice A q c] w fun e w' => e = .returned (.bool true) ∧ Below w.heap.size w w' := by
  have b0 := run_bldSec0
  have HL := Lib.hid hl
  clear hl
  have hn0 : (0 : Int) ≤ (n : Int) := Int.natCast_nonneg _
  have hn1 : ¬ ((n : Int) < 0) := by omega
  go_enter Try.func6, Try.ntmps6
  go_wp2_with fail
  refine (diskAlive_true _).mono ?_
  rintro e w1 ⟨rfl, hb1⟩
  have HL1 := Lib.hid (HL.out.below hb1)
  have HB1 := Lib.hid hb1
  clear hb1 HL
  go_wp2_with fail
  refine (disk_New 8 w1).mono ?_
  rintro e w2 ⟨p, s, rfl, hd0, hb0⟩
  have hbr := disk_Break hd0 n hn
  have HBR := Lib.hid hbr
  have HB0 := Lib.hid hb0
  have HFB := Lib.hid (fun k hk => hd0.foot_base (v := .slice none 0 0) k hk)
  clear hbr hb0 hd0
  go_wp2_with fail
  refine HBR.out.mono ?_
  rintro e w3 ⟨rfl, hd3, hk3⟩
  have hi0 : EndsInv w1 w3 p s n 0 0 := by
    have hb3 : Below w1.heap.size w2 w3 := hk3.below HB0.out.size (fun i hi => HFB.out i (.inl hi))
    refine ⟨_, _, hd3, rfl, Nat.le_refl _, Nat.zero_le _, Nat.le_refl _, ?_, fun h => ?_, HB0.out.trans hb3⟩
    · show max (n : Int) (-1) = (n : Int) - 0
      omega
    · cases h
  have HI0 := Lib.hid hi0
  clear hi0 hd3 hk3 HB0 HFB HBR
  go_wp2_with fail
  go_loopw [6, 32] (fun u i wr => ∃ k m : Nat, k ≤ q ∧ i = .int .i64 k ∧ u = .int .i64 m ∧ Hid (EndsInv w1 wr p s n k m)) (fun _ i _ => q - (intOf i).toNat)
  case atStart => exact ⟨0, 0, by omega, rfl, rfl, HI0⟩
  case round =>
    obtain ⟨k, m, hk, rfl, rfl, HR⟩ := hrel
    by_cases hlt : k < q
    · have hk0 : (0 : Int) ≤ (k : Int) := Int.natCast_nonneg _
      have hk1 : (k : Int) < (q : Int) := by omega
      obtain ⟨v, d, hd, h8, hp, hm, hmk, hf, hdd, hbb⟩ := HR.out
      obtain ⟨b, o, rfl, hacts⟩ := (HL1.out.below hbb).2.2.2 (by omega)
      obtain ⟨hrg, hok⟩ := hacts k hlt
      generalize actAt l k = y at *
      have HRG := Lib.hid hrg
      have hdl : y.data.length = 128 := hok.data
      have HDL := Lib.hid hdl
      have hb40 := below_alloc wr (.cells (actCells y).toArray 31)
      have hbx := Box.new wr (actCells y) 31
      have hdW := hd.below hb40
      have hbW := hbb.trans (hb40.mono hbb.size)
      have hei : EndsInv w1 wr p s n k m := HR.out
      have heW := hei.below hb40
      clear HR hei hb40
      generalize hW : wr.alloc (.cells (actCells y).toArray 31) = W at hbx hdW heW hbW
      have HW := Lib.hid hW; have HBX := Lib.hid hbx; have HEW := Lib.hid heW; have HDW := Lib.hid hdW
      have n0 := hbx.cell 0 _ rfl
      by_cases hkd : y.kind = 1 ∨ y.kind = 2
      · obtain ⟨err, d', hdo, hsp⟩ := do_ends hdW hbW.size hdl hkd (by omega) (by omega)
        have HDO := Lib.hid hdo
        have HSP := Lib.hid hsp
        have HI : Hid (d.stable.length = 8 ∧ d.pend.length ≤ k ∧ m ≤ n ∧ m ≤ k ∧ d.fuel = (n : Int) - m ∧ (d.dead = true → m = n) ∧ Below w1.heap.size w1 W) := Lib.hid ⟨h8, hp, hm, hmk, hf, hdd, hbW⟩
        have hq12 : ((y.kind != 1) = false ∧ (y.kind != 2) = true) ∨ ((y.kind != 1) = true ∧ (y.kind != 2) = false) := by
          rcases hkd with e | e
          · exact .inl ⟨by rw [e]; rfl, by rw [e]; rfl⟩
          · exact .inr ⟨by rw [e]; rfl, by rw [e]; rfl⟩
        clear hdo hsp hrg hok hacts hdl hbx hdW heW hbW hd h8 hp hm hmk hf hdd hbb hW hkd
        have hm200 : (m : Int) ≤ 200 := by have := HI.out.2.2.2.1; omega
        rcases hq12 with ⟨q1, q2⟩ | ⟨q1, q2⟩
        all_goals
          go_wp2_with (first | (refine ld40 rfl _ rfl b (o + k * 132) rfl y HRG.out HDL.out ?_) | (refine st40 rfl _ _ rfl _ _ rfl rfl y rfl HDL.out rfl ?_; rw [HW.out]) | (refine ld40 rfl _ rfl wr.heap.size 0 rfl y HBX.out.range HDL.out ?_))
          refine HDO.out.mono ?_
          rintro e w4 ⟨v', rfl, hd4, hk4, hv4⟩
          obtain ⟨g1, g2, g3, g4, g5, g6, g7⟩ := HI.out
          obtain ⟨s1, s2, s3⟩ := HSP.out
          have hb4 : Below w1.heap.size w1 w4 := g7.trans (hk4.below g7.size fun i hi => HDW.out.foot_base i hi)
          have hde := disk_Dead (hd4.below (below_alloc w4 (.cells (bv zsec).toArray 28)))
          have hba := below_alloc w4 (.cells (bv zsec).toArray 28)
          rcases s3 with ⟨rfl, t1, t2, t3⟩ | ⟨rfl, t1, t2, t3⟩ | ⟨rfl, t1, t2⟩
          · have hfi : EndsInv w1 (w4.alloc (.cells (bv zsec).toArray 28)) p s n (k + 1) (m + 1) :=
              EndsInv.below ⟨v', d', hd4, s1.trans g1, by omega, by omega, by omega, by omega, (fun h => by rw [t1] at h; cases h), hb4⟩ hba
            rw [t1] at hde
            have HF := Lib.hid hfi
            have HDE := Lib.hid hde
            clear hfi hde hba hb4 hd4 hk4 hv4 g1 g2 g3 g4 g5 g6 g7 s1 s2 t1 t2 t3 HDO HSP HI
            go_wp2_with (refine st37 rfl _ _ rfl _ _ rfl rfl zsec rfl zsec_length rfl ?_)
            refine HDE.out.mono ?_
            rintro e w5 ⟨rfl, rfl⟩
            go_wp2_with fail
            go_roundw
            case rel => exact ⟨k + 1, m + 1, by omega, by go_num, by go_num, HF⟩
            case measure => simp [intOf]; omega
          · have hmn : m = n := by
              rcases t3 with h | h
              · exact g6 h
              · omega
            have hfi : EndsInv w1 (w4.alloc (.cells (bv zsec).toArray 28)) p s n (k + 1) m :=
              EndsInv.below ⟨v', d', hd4, s1.trans g1, by omega, by omega, by omega, by omega, fun _ => hmn, hb4⟩ hba
            rw [t1] at hde
            have HF := Lib.hid hfi
            have HDE := Lib.hid hde
            have hmq : ((m : Int) != (n : Int)) = false := by rw [hmn]; simp
            clear hfi hde hba hb4 hd4 hk4 hv4 g1 g2 g3 g4 g5 g6 g7 s1 s2 t1 t2 t3 hmn HDO HSP HI
            go_wp2_with (refine st37 rfl _ _ rfl _ _ rfl rfl zsec rfl zsec_length rfl ?_)
            refine HDE.out.mono ?_
            rintro e w5 ⟨rfl, rfl⟩
            go_wp2_with fail
            go_roundw
            case rel => exact ⟨k + 1, m, by omega, by go_num, rfl, HF⟩
            case measure => simp [intOf]; omega
          · have hfi : EndsInv w1 (w4.alloc (.cells (bv zsec).toArray 28)) p s n (k + 1) m :=
              EndsInv.below ⟨v', d', hd4, s1.trans g1, by omega, by omega, by omega, by omega, fun h => g6 (t1 ▸ h), hb4⟩ hba
            have HF := Lib.hid hfi
            have HDE := Lib.hid hde
            clear hfi hde hba hb4 hd4 hk4 hv4 g1 g2 g3 g4 g5 g6 g7 s1 s2 t1 t2 HDO HSP HI
            generalize d'.dead = bd at HDE
            go_wp2_with (refine st37 rfl _ _ rfl _ _ rfl rfl zsec rfl zsec_length rfl ?_)
            refine HDE.out.mono ?_
            rintro e w5 ⟨rfl, rfl⟩
            cases bd
            all_goals
              go_wp2_with fail
              go_roundw
              case rel => exact ⟨k + 1, m, by omega, by go_num, rfl, HF⟩
              case measure => simp [intOf]; omega
      · have q1 : (y.kind != 1) = true := by rw [bne_iff_ne]; exact fun e => hkd (.inl e)
        have q2 : (y.kind != 2) = true := by rw [bne_iff_ne]; exact fun e => hkd (.inr e)
        clear hrg hok hacts hdl hbx hdW heW hbW hd h8 hp hm hmk hf hdd hbb hW hkd
        go_wp2_with (first | (refine ld40 rfl _ rfl b (o + k * 132) rfl y HRG.out HDL.out ?_) | (refine st40 rfl _ _ rfl _ _ rfl rfl y rfl HDL.out rfl ?_; rw [HW.out]))
        go_roundw
        case rel => exact ⟨k + 1, m, by omega, by go_num, rfl, Lib.hid HEW.out.next⟩
        case measure => simp [intOf]; omega
    · obtain rfl : k = q := by omega
      obtain ⟨v, d, hd, h8, hp, hm, hmk, hf, hdd, hbb⟩ := HR.out
      have hde := disk_Dead hd
      have hcr := disk_Crash hd (by omega) none 0 0 [] (RBl.nil wr) (fun _ _ e => by cases e) (-1) 0
      have HDE := Lib.hid hde
      have HCR := Lib.hid hcr
      have H8 : Hid ((d.crashed [] (-1) 0).stable.length = 8) := Lib.hid ((crashTo_length _ _ _ _ _ _).trans h8)
      have HFB := Lib.hid (fun k hk => hd.foot_base k hk)
      have HBB := Lib.hid hbb
      have hmn : ((m : Int) != (n : Int)) = false ∨ d.dead = false := by
        cases hx : d.dead
        · exact .inr rfl
        · left; rw [hdd hx]; simp
      have hlt' : ¬ ((n : Int) < (m : Int)) := by omega
      clear hd h8 hp hm hmk hf hdd hbb hde hcr
      have hexp : ∀ bd : Bool, d.dead = bd → (bd = true → ((m : Int) != (n : Int)) = false) := fun bd hb h => by
        rcases hmn with h1 | h1
        · exact h1
        · rw [h1] at hb; rw [← hb] at h; cases h
      clear hmn
      have HEX := Lib.hid hexp
      clear hexp
      cases hbd : d.dead
      · rw [hbd] at HDE
        go_wp2_with fail
        refine HDE.out.mono ?_
        rintro e w5 ⟨rfl, rfl⟩
        go_wp2_with fail
        refine HCR.out.mono ?_
        rintro e w6 ⟨rfl, hd6, hk6⟩
        have hb6 : Below w1.heap.size wr w6 := hk6.below HBB.out.size (fun i hi => HFB.out i hi)
        have hde6 := disk_Dead hd6
        have hb06 := HBB.out.trans hb6
        have hlv : (d.crashed [] (-1) 0).power = (d.crashed [] (-1) 0, true) := power_live _ rfl (by show (-1 : Int) < 0; decide)
        have hwr := disk_Write_yes hd6 hb06.size 7 (by rw [H8.out]; decide) zsec zsec_length (by rw [hlv]) (Nat.zero_le _)
        have HDE6 : Hid (Calls Try.prog 17 #[.pointer (some ⟨p, 0, none⟩)] w6 fun e w' => e = .returned (.bool false) ∧ w6 = w') := Lib.hid hde6
        have HWR := Lib.hid hwr
        have HB6 := Lib.hid hb06
        have HF6 := Lib.hid (fun k hk => hd6.foot_base k hk)
        clear hb6 hde6 hb06 hlv hwr hd6 hk6 hbd
        go_wp2_with fail
        refine HDE6.out.mono ?_
        rintro e w7 ⟨rfl, rfl⟩
        go_wp2_with fail
        refine HWR.out.mono ?_
        rintro e w7 ⟨v7, rfl, hd7, hk7, hv7⟩
        have hfin := bthen2 HB1.out ((HB6.out.trans (hk7.below HB6.out.size fun i hi => HF6.out i hi)).mono HB1.out.size)
        clear hd7 hk7 hv7
        go_wp2_with fail
        go_ret
        exact ⟨rfl, hfin⟩
      · rw [hbd] at HDE
        have hmq := HEX.out true hbd rfl
        go_wp2_with fail
        refine HDE.out.mono ?_
        rintro e w5 ⟨rfl, rfl⟩
        go_wp2_with fail
        refine HCR.out.mono ?_
        rintro e w6 ⟨rfl, hd6, hk6⟩
        have hb6 : Below w1.heap.size wr w6 := hk6.below HBB.out.size (fun i hi => HFB.out i hi)
        have hde6 := disk_Dead hd6
        have hb06 := HBB.out.trans hb6
        have hlv : (d.crashed [] (-1) 0).power = (d.crashed [] (-1) 0, true) := power_live _ rfl (by show (-1 : Int) < 0; decide)
        have hwr := disk_Write_yes hd6 hb06.size 7 (by rw [H8.out]; decide) zsec zsec_length (by rw [hlv]) (Nat.zero_le _)
        have HDE6 : Hid (Calls Try.prog 17 #[.pointer (some ⟨p, 0, none⟩)] w6 fun e w' => e = .returned (.bool false) ∧ w6 = w') := Lib.hid hde6
        have HWR := Lib.hid hwr
        have HB6 := Lib.hid hb06
        have HF6 := Lib.hid (fun k hk => hd6.foot_base k hk)
        clear hb6 hde6 hb06 hlv hwr hd6 hk6 hbd
        go_wp2_with fail
        refine HDE6.out.mono ?_
        rintro e w7 ⟨rfl, rfl⟩
        go_wp2_with fail
        refine HWR.out.mono ?_
        rintro e w7 ⟨v7, rfl, hd7, hk7, hv7⟩
        have hfin := bthen2 HB1.out ((HB6.out.trans (hk7.below HB6.out.size fun i hi => HF6.out i hi)).mono HB1.out.size)
        clear hd7 hk7 hv7
        go_wp2_with fail
        go_ret
        exact ⟨rfl, hfin⟩
end Go.Proofs.Ytoghmakbdhepfaa
