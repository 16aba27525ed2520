/- JournalKeeps: the walk over its rounds. -/
import Derived.Test.YtgakajofggmbjaaMg19
import Derived.Test.YtgakajofggmbjaaMg18
import Derived.Test.YtgakajofggmbjaaMg10
import Derived.Deep.Cut
import Derived.Deep.CutRange
import Derived.Deep.CutBlock
import Derived.Test.YtgakajofggmbjaaMg2
import Derived.Deep.RegionHeld3
import Derived.BigQuiet
import Derived.Deep.QuietTactic
namespace Go.Proofs.Ytgakajofggmbjaa
open Go.RowKit

/-- Between two generations. -/
structure KO (w1 wr : World) (p s : Nat) (v : Value) (d : Dk) (gen : Nat) : Prop where
  disk : DiskAt wr w1.heap.size p s v d
  pend : d.pend = []
  fit : d.stable.length = 18
  heads : Heads d.read 1 gen
  bl : Below w1.heap.size w1 wr
theorem Try.sizePair : (Try.prog.info? 60).map (·.size) = some 2 := by kernel_rfl
theorem Try.infoBool' : (Try.prog.info? 4).map (fun i => (i.zero, i.size, i.bytes)) = some (some (.bool false), 1, 1) := by kernel_rfl
theorem foot_freshJ {W w1 : World} {base p s : Nat} {v : Value} {d : Dk} (h : DiskAt W base p s v d) {A : Option Addr} {n c : Nat} {e : TypeId} {bs : List Bool} (hown : w1.ownsRow W.heap.size e 1 (.slice A n c) n (blv bs)) : ∀ b o, A = some ⟨b, o, none⟩ → 0 < n → ¬ foot p s v b := by
  rintro b o rfl _ hf
  have h1 := h.foot_lt b hf
  have h2 := (hown.lt b rfl).1
  omega
theorem cell_blJ {w w' : World} {b o : Nat} {u : Value} (h : w.cell? ⟨b, o, none⟩ = some u) (hb : Below w.heap.size w w') : w'.cell? ⟨b, o, none⟩ = some u := (hb.cell (p := ⟨b, o, none⟩) (World.block_lt_of_cell? w _ h)).trans h
theorem RRB.first {w : World} {A : Option Addr} {n c : Nat} {xss : List (List UInt8)} (h : RRB w A n c xss) (k : Nat) (hk : k ≤ n) : RRB w A k c (xss.take k) := by
  obtain ⟨h1, h2, h3, h4⟩ := h
  refine ⟨by simp; omega, by omega, h3, fun hp => ?_⟩
  obtain ⟨b, o, e, hc⟩ := h4 (by omega)
  refine ⟨b, o, e, fun j hj => ?_⟩
  have e2 : atL (xss.take k) j = atL xss j := by simp [atL, List.getD_eq_getElem?_getD, hj]
  rw [e2]
  exact hc j (by omega)
/-- What the texts' loop leaves. -/
def KEnd (w1 : World) (p s g9 : Nat) (x0 x1 : Int) (gn : Nat) (u x c : Value) (wx : World) : Prop :=
  ∃ v d l lk ok b A nb cb, x = .slice A nb cb ∧ c = .bool ok ∧ KE w1 wx p s v d gn l ok b ∧ Want w1 wx u lk ∧ l = lk.map (·.bytes) ∧ RB w1 A nb cb b ∧ RowAt wx g9 60 (pairCells (x0, x1))
set_option maxRecDepth 20000 in
set_option maxHeartbeats 12800000 in
theorem journalKeeps_main (A : Option Addr) (n c : Nat) (xss : List (List UInt8)) (B : Option Addr) (nb cb : Nat) (fb : Nat → { y : Int × Int // y.1 ≤ 9223372036854775807 }) (C : Option Addr) (nk ck : Nat) (keep : List Bool) (w : World)
    (hx : RRB w A n c xss) (hl : ∀ k, k < n → (atL xss k).length ≤ 140737488351232) (hB : RElems (fun y => pairCells y.1) 2 w B nb cb fb) (hC : RBl w C nk ck keep) (hnk : nk ≤ 140737488351232) (hn : n ≤ 6) (hnb : nb ≤ 8) :
    Calls Try.prog 4 #[.slice A n c, .slice B nb cb, .slice C nk ck] w fun e w' => e = .returned (.bool true) ∧ Below w.heap.size w w' := by
  have HX := Lib.hid hx; have HLX := Lib.hid hl; have HBK := Lib.hid hB; have HC := Lib.hid hC; have HNK := Lib.hid hnk
  have hd6 : decide ((6 : Int) < (n : Int)) = false := decide_eq_false (by omega)
  have hd8 : decide ((8 : Int) < (nb : Int)) = false := decide_eq_false (by omega)
  clear hx hl hB hC hnk
  go_enter Try.func4, Try.ntmps4
  go_wp2_with fail
  refine (journalAlive_true _).mono ?_
  rintro e w1 ⟨rfl, hb1⟩
  have HB1 := Lib.hid hb1
  have HX1 := Lib.hid (HX.out.below hb1); have HBK1 := Lib.hid (HBK.out.below hb1); have HC1 := Lib.hid (HC.out.below hb1)
  clear hb1 HX HBK HC
  go_wp2_with fail
  refine (disk_New ((18 : Nat) : Int) w1).mono ?_
  rintro e w2 ⟨p, s, rfl, hd2, hb2⟩
  have HO2 : Hid (KO w1 w2 p s (.slice none 0 0) (newDk ((18 : Nat) : Int)) 3) := Lib.hid ⟨hd2, rfl, newDk_len 18 (by omega), heads_zero 1 3 _ (newDk_zero _), hb2⟩
  clear hd2 hb2
  go_wp2_with fail
  go_loopw [38] (fun i wr => ∃ (k : Nat) (v : Value) (d : Dk), k ≤ nb ∧ i = .int .i64 k ∧ Hid (KO w1 wr p s v d (3 + 2 * k))) (fun i _ => nb - (intOf i).toNat)
  case atStart => exact ⟨0, _, _, by omega, rfl, HO2⟩
  case round =>
    clear HO2 hd6 hd8
    obtain ⟨k, v, d, hk, rfl, HO⟩ := hrel
    by_cases hlt : k < nb
    · have hk0 : (0 : Int) ≤ (k : Int) := Int.natCast_nonneg _
      have hk1 : (k : Int) < (nb : Int) := by omega
      obtain ⟨bx, ox, rfl, hel⟩ := (HBK1.out.below HO.out.bl).2.2 (by omega)
      have hrg : wr.rangeAt bx (ox + k * 2) (pairCells (fb k).1) := hel k hlt
      have hx0 := (fb k).2
      generalize (fb k).1 = x at *
      obtain ⟨x0, x1⟩ := x
      have HRG := Lib.hid hrg; have HX0 := Lib.hid hx0
      obtain ⟨gn, hgn⟩ : ∃ gn, gn = 3 + 2 * k := ⟨_, rfl⟩
      have hgw : IntKind.u64.wrap (3 + 2 * (k : Int)) = (gn : Int) := by rw [hgn]; simp [IntKind.wrap, IntKind.signed, IntKind.bits]; omega
      rw [← hgn] at HO
      have HGN := Lib.hid hgn
      clear hrg hel hgn
      have cx0 : wr.cell? ⟨bx, ox + k * 2, none⟩ = some (.int .i64 x0) := HRG.out 0 _ rfl
      have cx1 : wr.cell? ⟨bx, ox + k * 2 + 1, none⟩ = some (.int .i64 x1) := HRG.out 1 _ rfl
      go_wp2_with fail
      have hb3 := below_alloc wr (.cells (pairCells (x0, x1)).toArray 60)
      have HO3 : Hid (KO w1 (wr.alloc (.cells (pairCells (x0, x1)).toArray 60)) p s v d gn) := Lib.hid ⟨HO.out.disk.below hb3, HO.out.pend, HO.out.fit, HO.out.heads, bthen HO.out.bl hb3⟩
      have HX3 := Lib.hid (RowAt.new wr 60 (pairCells (x0, x1)))
      have HGB : Hid (w1.heap.size ≤ wr.heap.size) := Lib.hid HO.out.bl.size
      clear hb3 HO HRG cx0 cx1 hgw
      refine (journal_Start p ((1 : Nat) : Int) gn (wr.alloc (.cells (pairCells (x0, x1)).toArray 60))).mono ?_
      rintro e w4 ⟨rfl, rfl⟩
      generalize wr.alloc (.cells (pairCells (x0, x1)).toArray 60) = w3 at *
      generalize wr.heap.size = g9 at *
      have hb4 := below_alloc w3 (.cells (jC p ((1 : Nat) : Int) gn 0).toArray 68)
      have HD4 := Lib.hid (HO3.out.disk.below hb4); have HX4 := Lib.hid (HX3.out.below hb4); have HBL4 := Lib.hid (bthen HO3.out.bl hb4)
      have HJ4 : Hid (JAt (w3.alloc (.cells (jC p ((1 : Nat) : Int) gn 0).toArray 68)) w3.heap.size p ((1 : Nat) : Int) gn 0) := Lib.hid (RowAt.new w3 _ _)
      have HJB : Hid (w1.heap.size ≤ w3.heap.size) := Lib.hid HO3.out.bl.size
      have cx0 := HX4.out.cell 0 _ rfl
      clear hb4 HX3
      generalize w3.alloc (.cells (jC p ((1 : Nat) : Int) gn 0).toArray 68) = w4 at *
      generalize w3.heap.size = j at *
      go_wp2_with fail
      refine (disk_Break HD4.out x0 HX0.out).mono ?_
      rintro e w5 ⟨rfl, hd5, hk5⟩
      have hnf : ¬ (g9 = p) := fun e => foot_not HD4.out HX4.out (by decide) (by decide) (by decide) (.inl e)
      have hnj : ¬ (j = p) := fun e => HJ4.out.not_foot HD4.out (.inl e)
      have HX5 := Lib.hid (HX4.out.kp hk5 hnf)
      have HKS : Hid (KS w1 w5 p s j v { d with fuel := max x0 (-1) } gn []) := Lib.hid ⟨hd5, RowAt.kp HJ4.out hk5 hnj, HJB.out, HO3.out.pend, HO3.out.fit, HO3.out.heads.has, (HO3.out.heads.mono (Nat.le_succ _)), HBL4.out.trans (hk5.below HBL4.out.size (fun i e => by rw [e]; exact HD4.out.hp))⟩
      clear hd5 hk5 hnf hnj HD4 HX4 HBL4 HJ4 HO3 cx0
      generalize ({ d with fuel := max x0 (-1) } : Dk) = d5 at *
      have hb6 := below_alloc2 w5 (.cells #[] 37) (.cells #[] 5)
      have HX6 := Lib.hid (HX5.out.below hb6); have HKS6 := Lib.hid (HKS.out.below hb6)
      have HW6 : Hid (Want w1 ((w5.alloc (.cells #[] 37)).alloc (.cells #[] 5)) (.slice (some ⟨w5.heap.size, 0, none⟩) 0 0) []) := Lib.hid ⟨own_below (own_mono (own_empty w5 w5.heap.size 37 1 (Nat.le_refl _)) HKS.out.bl.size) (below_alloc _ _), fun f hf => by cases hf⟩
      clear hb6 HX5 HKS
      go_upto_block 2 with fail
      generalize hgu : w5.heap.size = gu at *
      clear hgu
      generalize (w5.alloc (.cells #[] 37)).alloc (.cells #[] 5) = w6 at *
      go_cut [12, 13, 14, 16, 17] from 58 to 96 (fun u x c _ _ wx => Hid (KEnd w1 p s g9 x0 x1 gn u x c wx))
      case first =>
        go_wp2_with fail
        go_loopw [12, 13, 14, 58] (fun u x c i wy => ∃ (m : Nat) (v : Value) (d : Dk) (l : List (List UInt8)) (lk : List FieldD), m ≤ n ∧ i = .int .i64 m ∧ x = .slice (some ⟨gu + 1, 0, none⟩) 0 0 ∧ c = .bool false ∧ Hid (KS w1 wy p s j v d gn l) ∧ Hid (Want w1 wy u lk) ∧ Hid (l = lk.map (·.bytes)) ∧ Hid (RowAt wy g9 60 (pairCells (x0, x1)))) (fun _ _ _ i _ => n - (intOf i).toNat)
        case atStart => exact ⟨0, _, _, [], [], by omega, rfl, rfl, rfl, HKS6, HW6, Lib.hid rfl, HX6⟩
        case round =>
          clear HKS6 HW6 HX6
          obtain ⟨m, v6, d6, l, lk, hm, rfl, rfl, rfl, HK, HW, HE, HXP⟩ := hrel
          obtain ⟨Au, cu, rfl, hru⟩ := HW.out.read HK.out.bl
          have HLE : Hid (l.length = lk.length) := Lib.hid (by rw [HE.out]; simp)
          clear hru
          obtain ⟨wy, rfl⟩ : ∃ wy : World, wy = wr := ⟨_, rfl⟩
          by_cases hml : m < n
          · have hm0 : (0 : Int) ≤ (m : Int) := Int.natCast_nonneg _
            have hm1 : (m : Int) < (n : Int) := by omega
            obtain ⟨bt, ot, rfl, hxc⟩ := HX1.out.2.2.2 (by omega)
            obtain ⟨A1, n1, c1, hc1, hr1⟩ := hxc m hml
            have hc1' : wy.cell? ⟨bt, ot + m, none⟩ = some (.slice A1 n1 c1) := (HK.out.bl.cell (p := ⟨bt, ot + m, none⟩) (World.block_lt_of_cell? w1 _ hc1)).trans hc1
            have HLN : Hid (n1 ≤ 140737488351232) := Lib.hid (by have := HLX.out m hml; rw [hr1.1] at this; exact this)
            have HR1 := Lib.hid hr1
            have HRW := Lib.hid (hr1.below HK.out.bl)
            have HLB : Hid ((atL xss m).length = n1) := Lib.hid hr1.1
            have HML := Lib.hid hml
            clear hxc hc1 hr1
            generalize atL xss m = b at *
            go_wp2_with (at_builtin; refine wpList_copy_bytes (W := wy) rfl _ _ 37 5 rfl Try.underlying37 Try.infoU8' A1 n1 c1 b wy.heap.size rfl rfl rfl HRW.out (by have := HLN.out; omega) ?_; intro A2 c2 w7 hown7 hr7 hb7)
            have hc := ks_add (HK.out.below hb7) (by have := HGN.out; omega) A2 n1 c2 b hr7 (recAt_own HK.out.disk hown7) HLN.out
            have HK7 := Lib.hid (HK.out.below hb7); have HW7 := Lib.hid (HW.out.below hb7); have HXP7 := Lib.hid (HXP.out.below hb7)
            have HNF : Hid (¬ (foot p s v6 g9 ∨ g9 = j)) := Lib.hid (fun e => by
              rcases e with e | e
              · exact foot_not HK7.out.disk HXP7.out (by decide) (by decide) (by decide) e
              · exact ne_of_types HXP7.out HK7.out.jr (by decide) e)
            clear hown7 hr7 hb7 HRW HW HXP
            refine hc.mono ?_
            clear hc
            rintro e w8 ⟨v8, d8, hk8, ⟨rfl, hks8⟩ | ⟨rfl, hke8⟩⟩
            · have HW8 := Lib.hid (HW7.out.kept HK7.out.disk HK7.out.jr hk8); have HXP8 := Lib.hid (HXP7.out.kp hk8 HNF.out)
              have HK8 := Lib.hid hks8
              clear hks8 hk8 HW7 HXP7
              by_cases hbig : 384 < n1
              · have e1 : addL l b = (l, 63) := by unfold addL; rw [if_pos (by rw [HLB.out]; exact hbig)]
                rw [e1] at HK8 ⊢
                have hd1 : decide ((n1 : Int) ≤ (384 : Int)) = false := decide_eq_false (by omega)
                clear e1 hbig
                go_wp2_with fail
                go_roundw
                case rel => exact ⟨m + 1, v8, d8, l, lk, HML.out, by go_num, rfl, rfl, HK8, HW8, HE, HXP8⟩
                case measure => have := HML.out; simp [intOf]; omega
              · by_cases hfull : 4 ≤ l.length
                · have e1 : addL l b = (l, 62) := by unfold addL; rw [if_neg (by rw [HLB.out]; exact hbig), if_pos hfull]
                  rw [e1] at HK8 ⊢
                  have hd2 : decide (((lk.length : Nat) : Int) < 4) = false := decide_eq_false (by rw [← HLE.out]; omega)
                  clear e1 hbig hfull
                  go_wp2_with fail
                  go_roundw
                  case rel => exact ⟨m + 1, v8, d8, l, lk, HML.out, by go_num, rfl, rfl, HK8, HW8, HE, HXP8⟩
                  case measure => have := HML.out; simp [intOf]; omega
                · have e1 : addL l b = (l ++ [b], 0) := by unfold addL; rw [if_neg (by rw [HLB.out]; exact hbig), if_neg hfull]
                  rw [e1] at HK8 ⊢
                  have HL4 : Hid (lk.length ≤ 3) := Lib.hid (by have := HLE.out; omega)
                  have hb9 := below_alloc w8 (.cells #[.slice A1 n1 c1] 37)
                  have HK9 := Lib.hid (HK8.out.below hb9); have HW9 := Lib.hid (HW8.out.below hb9); have HXP9 := Lib.hid (HXP8.out.below hb9)
                  have HR9 := Lib.hid (rd_one w8 (.slice A1 n1 c1) 37 w8.heap.size rfl)
                  clear e1 hbig hfull hb9
                  go_wp2_with (at_builtin; go_must (refine wpList_append_any (w0 := w1) w1.heap.size rfl _ _ 51 37 (.slice none 0 0) 1 24 rfl Try.underlying51 Try.infoBs rfl (by decide) (by decide) (.slice Au lk.length cu) _ _ (some ⟨w8.heap.size, 0, none⟩) 1 1 [.slice A1 n1 c1] rfl rfl HW9.out.row HR9.out (by simp [Value.oneCell']) (by have := HL4.out; omega) HK9.out.bl HK9.out.bl.size ?_); intro u10 w10 hown10 hb10 hg10 _)
                  have HK10 := Lib.hid (HK9.out.grown HW9.out hg10)
                  have HXP10 := Lib.hid (HXP9.out.kp (Kp.of_grown hg10 (fun k e => e)) (fun e => own_ne HW9.out.row HXP9.out (by decide) e))
                  have HW10 := Lib.hid (HW9.out.push ⟨0, A1, n1, c1, b⟩ HR1.out hown10)
                  clear hown10 hb10 hg10
                  go_roundw
                  case rel => exact ⟨m + 1, v8, d8, l ++ [b], lk ++ [⟨0, A1, n1, c1, b⟩], HML.out, by go_num, rfl, rfl, HK10, HW10, Lib.hid (by rw [HE.out]; simp), HXP10⟩
                  case measure => have := HML.out; simp [intOf]; omega
            · have HW8 := Lib.hid (HW7.out.kept HK7.out.disk HK7.out.jr hk8); have HXP8 := Lib.hid (HXP7.out.kp hk8 HNF.out)
              have HKE := Lib.hid hke8
              clear hke8 hk8 HW7 HXP7
              go_wp2_with fail
              go_meet
              exact Lib.hid ⟨v8, d8, l, lk, true, b, A1, n1, c1, rfl, rfl, HKE.out, HW8.out, HE.out, HR1.out, HXP8.out⟩
          · obtain rfl : m = n := by omega
            go_wp2_with fail
            go_meet
            exact Lib.hid ⟨v6, d6, l, lk, false, [], some ⟨gu + 1, 0, none⟩, 0, 0, rfl, rfl, HK.out.ends [], HW.out, HE.out, ⟨rfl, Nat.le_refl _, by omega, fun h => absurd h (by omega)⟩, HXP.out⟩
      case rest =>
        clear HKS6 HW6 HX6
        obtain ⟨v6, d6, l, lk, ok, b, Ab, nbb, cbb, rfl, rfl, hke, hw, he, hrb, hxp⟩ := hcut.out
        obtain ⟨Au, cu, rfl, hru⟩ := hw.read hke.bl
        have HKE := Lib.hid hke; have HW := Lib.hid hw; have HE := Lib.hid he; have HRB := Lib.hid hrb; have HXP := Lib.hid hxp
        have HLE : Hid (l.length = lk.length) := Lib.hid (by rw [he]; simp)
        have HCW := Lib.hid (HC1.out.below hke.bl)
        have cx1 := hxp.cell 1 _ rfl
        have HFX : Hid (¬ foot p s v6 g9) := Lib.hid (foot_not hke.disk hxp (by decide) (by decide) (by decide))
        clear hke hw he hrb hxp hru hcut
        go_wp2_with fail
        have cx1' : wc.drew.cell? ⟨g9, 1, none⟩ = some (.int .i64 x1) := cx1
        have cx2 : (wc.alloc (.cells #[] 4)).drew.cell? ⟨g9, 1, none⟩ = some (.int .i64 x1) := cell_blJ cx1 (below_alloc wc _).drew
        clear cx1
        go_region_held3 (fun w' => w'.cell? ⟨g9, 1, none⟩ = some (.int .i64 x1)) (first | go_keep | assumption)
          (first
            | (refine step_append_any (by rfl) _ _ 38 4 (.bool false) 1 1 (by rfl) Try.underlying38 Try.infoBool' rfl (by decide) (by decide) wc.heap.size (.slice (some ⟨wc.heap.size, 0, none⟩) 0 0) 0 [] C nk ck (blv keep) (by rfl) (by rfl) ((own_empty wc wc.heap.size 4 1 (Nat.le_refl _)).drew) ((HCW.out.below (((Below.refl _ _).alloc (Nat.le_refl _) _).drew)).rd) (blv_one _) (by have := HNK.out; omega) (by simp) ?_
               intro v7 w7 hown7 hg7 ha7
               rw [Nat.zero_add, List.nil_append] at hown7
               obtain ⟨A7, c7, rfl, hrb7⟩ := own_rbl hown7
               have hb7 : Below wc.heap.size wc w7 := Below.grown (((Below.refl _ _).alloc (Nat.le_refl _) _).drew) hg7 (by simp) (fun k hk => by cases hk; exact Nat.le_refl _)
               have n1 := cell_blJ (HXP.out.cell 1 _ rfl) hb7
               have HOWN := Lib.hid hown7; have HRB7 := Lib.hid hrb7; have HB7 := Lib.hid hb7
               clear hown7 hg7 ha7 hrb7 hb7)
            | (go_at_call 17; refine (disk_Crash (HKE.out.disk.below HB7.out) (Nat.le_trans HKE.out.pl (by omega)) A7 nk c7 keep HRB7.out (foot_freshJ HKE.out.disk HOWN.out) x1 _).mono ?_; rintro e w8 ⟨rfl, hd8, hk8⟩; have n1 := ((HXP.out.below HB7.out).kp hk8 HFX.out).cell 1 _ rfl; have HD8 := Lib.hid hd8; have HK8 := Lib.hid hk8; clear hd8 hk8))
        have hac : ∃ D, DiskAt w8 w1.heap.size p s (.slice none 0 0) D ∧ D.pend = [] ∧ D.stable.length = 18 ∧ Heads D.read 1 (gn + 1) ∧ (Has D.read 1 gn l ∨ (ok = true ∧ Has D.read 1 gn (l ++ [b]))) :=
          ⟨_, HD8.out, rfl, by show (crashTo _ _ _ _ _ _).length = 18; rw [crashTo_length]; exact HKE.out.fit, HKE.out.cr keep x1 _ (fun h => by rw [h]; rfl)⟩
        obtain ⟨D, hdD, hpD, hfD, hhD, hor⟩ := hac
        have hbl8 : Below w1.heap.size w1 w8 := (HKE.out.bl.trans (HB7.out.mono HKE.out.bl.size)).trans (HK8.out.below (Nat.le_trans HKE.out.bl.size HB7.out.size) (fun i hi => HKE.out.disk.foot_base i hi))
        have hw8 : Want w1 w8 (.slice Au lk.length cu) lk := by
          refine ⟨⟨HW.out.row.1, ?_⟩, HW.out.bytes⟩
          have hd7 := HKE.out.disk.below HB7.out
          rcases (own_below HW.out.row HB7.out).2 with h0 | ⟨g, cap, cur, h1, h2, hg, hrest⟩
          · exact .inl h0
          · refine .inr ⟨g, cap, cur, h1, h2, ?_, hrest⟩
            rw [HK8.out.block g (lt_of_heap hg) (fun hf => ?_)]
            · exact hg
            · rcases hf with rfl | rfl | hf
              · exact ne_of_types hd7.obj hg (by decide) rfl
              · exact ne_of_types hd7.sta hg (by decide) rfl
              · exact own_ne hd7.pen hg (by decide) hf
        have HWD := Lib.hid hw8; have HBL8 := Lib.hid hbl8; have HRB8 : Hid (RB w8 Ab nbb cbb b) := Lib.hid (HRB.out.below hbl8)
        have HDD := Lib.hid hdD; have HPD := Lib.hid hpD; have HFD := Lib.hid hfD; have HHD := Lib.hid hhD
        clear hw8 hbl8 hdD hpD hfD hhD n1 HD8 HK8 HB7 HRB7 HOWN HKE HW HRB HXP HCW
        rcases hor with hhas | ⟨rfl, hhas⟩
        · have HSC := Lib.hid (journal_Scan HDD.out (by rw [HPD.out]; simp) 1 gn (by rw [HFD.out]; omega) (by have := HGN.out; omega))
          rw [hhas.scan] at HSC
          have hq : decide (((lk.length : Nat) : Int) < ((l.length : Nat) : Int)) = false := decide_eq_false (by have := HLE.out; omega)
          have hqn : decide (lk.length < l.length) = false := decide_eq_false (by have := HLE.out; omega)
          clear hhas
          go_wp2_with fail
          refine HSC.out.mono ?_
          clear HSC
          rintro e w9 ⟨A9, c9, rfl, hr9, hb9⟩
          have HR9 := Lib.hid hr9; have HB9 := Lib.hid hb9
          clear hr9 hb9
          go_wp2_with fail
          refine (ref06_Same A9 Au l.length c9 lk.length cu l l w9 HR9.out (by have := (HWD.out.rrb HBL8.out).2; rw [← HE.out] at this; exact this.below HB9.out)).mono ?_
          rw [decide_eq_true rfl]
          rintro e w10 ⟨rfl, hb10⟩
          have HO10 : Hid (KO w1 w10 p s (.slice none 0 0) D (3 + 2 * (k + 1))) := Lib.hid ⟨HDD.out.below (bthen HB9.out hb10), HPD.out, HFD.out, HHD.out.mono (by have := HGN.out; omega), HBL8.out.trans ((bthen HB9.out hb10).mono HBL8.out.size)⟩
          clear hb10
          go_wp2_with fail
          go_roundw
          case rel => exact ⟨k + 1, _, _, by omega, by go_num, HO10⟩
          case measure => simp [intOf]; omega
        · have HSC := Lib.hid (journal_Scan HDD.out (by rw [HPD.out]; simp) 1 gn (by rw [HFD.out]; omega) (by have := HGN.out; omega))
          rw [hhas.scan] at HSC
          have hln : (l ++ [b]).length = lk.length + 1 := by rw [List.length_append, HLE.out]; rfl
          have HLN2 := Lib.hid hln
          have hq : decide (((lk.length : Nat) : Int) < (((l ++ [b]).length : Nat) : Int)) = true := decide_eq_true (by omega)
          have hqn : decide (lk.length < (l ++ [b]).length) = true := decide_eq_true (by omega)
          have htk : Hid ((l ++ [b]).take lk.length = l) := Lib.hid (by rw [← HLE.out, List.take_left])
          have hat : Hid (atL (l ++ [b]) lk.length = b) := Lib.hid (by rw [atL_snoc, if_neg (by rw [HLE.out]; omega), if_pos HLE.out.symm])
          have HL4 : Hid (lk.length ≤ 3) := Lib.hid (by have := hhas.len; omega)
          clear hhas hln
          generalize l ++ [b] = l9 at *
          go_wp2_with fail
          refine HSC.out.mono ?_
          clear HSC
          rintro e w9 ⟨A9, c9, rfl, hr9, hb9⟩
          have HR9 := Lib.hid hr9; have HB9 := Lib.hid hb9
          obtain ⟨b9, o9, rfl, hc9⟩ := hr9.2.2.2 (by have := HLN2.out; omega)
          obtain ⟨Ae, ne, ce, he1, he2⟩ := hc9 lk.length (by have := HLN2.out; omega)
          rw [hat.out] at he2
          have hs1 := fun q => (he2.below (below_drewN (Below.refl _ w9) q)).string (P := Try.prog) (src := 37) (dst := 9) Try.underlying37 Try.underlying5 Try.underlying9
          have hs2 := fun q => ((HRB8.out.below hb9).below (below_drewN (Below.refl _ w9) q)).string (P := Try.prog) (src := 37) (dst := 9) Try.underlying37 Try.underlying5 Try.underlying9
          have hq2 := str_eq b
          have hg0 : (0 : Int) ≤ ((lk.length : Nat) : Int) := Int.natCast_nonneg _
          have hg1 : ((lk.length : Nat) : Int) < ((l9.length : Nat) : Int) := by have := HLN2.out; omega
          have hg2 : ((lk.length : Nat) : Int) ≤ (c9 : Int) := by have := hr9.2.1; have := HLN2.out; omega
          have hg3 : (((l9.length : Nat) : Int) != ((l9.length : Nat) : Int)) = false := by simp
          have hw5 : wrap64 (((lk.length : Nat) : Int) + 1) = ((l9.length : Nat) : Int) := by have := HLN2.out; have := HL4.out; simp [wrap64]; omega
          have hw6 : IntKind.i64.wrap (((lk.length : Nat) : Int) + 1) = ((l9.length : Nat) : Int) := by have := HLN2.out; have := HL4.out; simp [IntKind.wrap, IntKind.signed, IntKind.bits]; omega
          have hgn1 : lk.length < l9.length := by have := HLN2.out; omega
          clear hr9 hb9 hc9 he2
          go_wp2_with fail
          go_quiet (fail)
          clear hs1 hs2 hq2
          have hbq : Below w9.heap.size w9 (w9.drewN nq) := below_drewN (Below.refl _ _) nq
          have HBQ := Lib.hid (bthen HB9.out hbq)
          have HRQ := Lib.hid ((HR9.out.first lk.length (by have := HLN2.out; omega)).below hbq)
          rw [htk.out] at HRQ
          clear hbq HR9 HB9
          generalize w9.drewN nq = w11 at *
          go_wp2_with fail
          refine (ref06_Same (some ⟨b9, o9, none⟩) Au lk.length c9 lk.length cu l l w11 HRQ.out (by have := (HWD.out.rrb HBL8.out).2; rw [← HE.out] at this; exact this.below HBQ.out)).mono ?_
          rw [decide_eq_true rfl]
          rintro e w10 ⟨rfl, hb10⟩
          have HO10 : Hid (KO w1 w10 p s (.slice none 0 0) D (3 + 2 * (k + 1))) := Lib.hid ⟨HDD.out.below (bthen HBQ.out hb10), HPD.out, HFD.out, HHD.out.mono (by have := HGN.out; omega), HBL8.out.trans ((bthen HBQ.out hb10).mono HBL8.out.size)⟩
          clear hb10
          go_wp2_with fail
          go_roundw
          case rel => exact ⟨k + 1, _, _, by omega, by go_num, HO10⟩
          case measure => simp [intOf]; omega
    · obtain rfl : k = nb := by omega
      go_wp2_with fail
      go_ret
      exact ⟨rfl, bthen HB1.out HO.out.bl⟩
end Go.Proofs.Ytgakajofggmbjaa
