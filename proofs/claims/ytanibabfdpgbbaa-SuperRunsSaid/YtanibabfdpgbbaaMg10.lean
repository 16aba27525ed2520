/- The walk of SuperKeeps. -/
import Derived.Test.YtanibabfdpgbbaaMg9
import Derived.Test.YtanibabfdpgbbaaMg1
import Derived.Test.YtanibabfdpgbbaaProg
import Derived.KernelRfl
import Derived.Test.YtanibabfdpgbbaaMg8
import Derived.Test.YtanibabfdpgbbaaMg3
namespace Go.Proofs.Ytanibabfdpgbbaa
open Go.RowKit
attribute [local go_sem ↓] loadAt37

theorem readTo_1 (r : Nat → List UInt8) : readTo r 1 = if (headM (r 0) 0).2 = true ∧ SD.z.gen ≤ (headM (r 0) 0).1.gen then ((headM (r 0) 0).1, true) else (SD.z, false) := rfl
theorem readTo_one (rd : Nat → List UInt8) : (readTo rd 1).2 = false → (readTo rd 1).1.gen = 0 := by
  intro h
  rw [readTo_1] at h ⊢
  by_cases hc : (headM (rd 0) 0).2 = true ∧ SD.z.gen ≤ (headM (rd 0) 0).1.gen
  · rw [if_pos hc] at h
    cases h
  · rw [if_neg hc]
    rfl
/-- What was written counts, where what counted ahead of it was of a lesser generation. -/
theorem keeps_law (rd rd' : Nat → List UInt8) (s : SD) (l : List UInt8) (hg : 1 ≤ s.gen) (hs : ∀ k, s.gen % 2 = k → headM l k = (s, true)) (hrd : ∀ k, rd' k = if s.gen % 2 = k then l else rd k)
    (hno : ¬ ((readTo rd 2).2 = true ∧ s.gen ≤ (readTo rd 2).1.gen)) : readTo rd' 2 = (s, true) := by
  have h2 : readTo rd 2 = if (headM (rd 1) 1).2 = true ∧ (readTo rd 1).1.gen ≤ (headM (rd 1) 1).1.gen then ((headM (rd 1) 1).1, true) else readTo rd 1 := rfl
  have h2' : readTo rd' 2 = if (headM (rd' 1) 1).2 = true ∧ (readTo rd' 1).1.gen ≤ (headM (rd' 1) 1).1.gen then ((headM (rd' 1) 1).1, true) else readTo rd' 1 := rfl
  have hz := readTo_one rd
  rcases Nat.mod_two_eq_zero_or_one s.gen with hm | hm
  · have e0 : rd' 0 = l := by rw [hrd 0, if_pos hm]
    have e1 : rd' 1 = rd 1 := by rw [hrd 1, if_neg (by omega)]
    have r1 : readTo rd' 1 = (s, true) := by
      simp only [readTo, e0, hs 0 hm]
      simp [SD.z]
    rw [h2', e1, r1]
    by_cases hc : (headM (rd 1) 1).2 = true ∧ s.gen ≤ (headM (rd 1) 1).1.gen
    · exfalso
      apply hno
      rw [h2]
      by_cases hd : (headM (rd 1) 1).2 = true ∧ (readTo rd 1).1.gen ≤ (headM (rd 1) 1).1.gen
      · rw [if_pos hd]
        exact ⟨rfl, hc.2⟩
      · rw [if_neg hd]
        have hlt : (headM (rd 1) 1).1.gen < (readTo rd 1).1.gen := by
          rcases Nat.lt_or_ge (headM (rd 1) 1).1.gen (readTo rd 1).1.gen with h | h
          · exact h
          · exact absurd ⟨hc.1, h⟩ hd
        refine ⟨?_, by have := hc.2; omega⟩
        cases hf : (readTo rd 1).2 with
        | true => rfl
        | false =>
          have := hz hf
          omega
    · rw [if_neg hc]
  · have e0 : rd' 0 = rd 0 := by rw [hrd 0, if_neg (by omega)]
    have e1 : rd' 1 = l := by rw [hrd 1, if_pos hm]
    have r1 : readTo rd' 1 = readTo rd 1 := by rw [readTo_1, readTo_1, e0]
    rw [h2', e1, r1, hs 1 hm]
    by_cases hc : (readTo rd 1).1.gen ≤ s.gen
    · rw [if_pos ⟨rfl, hc⟩]
    · exfalso
      apply hno
      rw [h2]
      by_cases hd : (headM (rd 1) 1).2 = true ∧ (readTo rd 1).1.gen ≤ (headM (rd 1) 1).1.gen
      · rw [if_pos hd]
        refine ⟨rfl, ?_⟩
        have := hd.2
        show s.gen ≤ (headM (rd 1) 1).1.gen
        omega
      · rw [if_neg hd]
        refine ⟨?_, by omega⟩
        cases hf : (readTo rd 1).2 with
        | true => rfl
        | false =>
          have := hz hf
          omega
set_option maxRecDepth 20000 in
set_option maxHeartbeats 3200000 in
theorem super_Write_bad (s : SD) (hs : ¬ s.right) (p : Nat) (w : World) : Calls Try.prog 18 #[.pointer (some ⟨p, 0, none⟩), s.v] w fun e w' => e = .returned (.int .i64 151) ∧ Below w.heap.size w w' := by
  have HS := Lib.hid hs
  obtain ⟨gen, root, boot, quota, sectors, every⟩ := s
  have HX := Lib.hid (RowAt.new w 24 [.int .u64 (gen : Nat), .int .i64 root, .int .i64 boot, .int .i64 quota, .int .i64 sectors, .int .i64 every])
  have HB1 := Lib.hid (below_alloc w (.cells ([.int .u64 (gen : Nat), .int .i64 root, .int .i64 boot, .int .i64 quota, .int .i64 sectors, .int .i64 every] : List Value).toArray 24))
  clear hs
  unfold SD.v
  dsimp only
  go_enter Try.func18, Try.ntmps18
  go_wp2_with (refine ldN 24 [.int .u64 (gen : Nat), .int .i64 root, .int .i64 boot, .int .i64 quota, .int .i64 sectors, .int .i64 every] rfl _ rfl w.heap.size 0 rfl HX.out.range Try.underlying24 rfl Try.sizeSuper ?_)
  refine (super_Right ⟨gen, root, boot, quota, sectors, every⟩ _).mono ?_
  rw [decide_eq_false HS.out]
  rintro e' w2 ⟨rfl, hb2⟩
  have HB2 := Lib.hid (bthen HB1.out hb2)
  clear hb2
  go_wp2_with fail
  go_ret
  exact ⟨rfl, HB2.out⟩
theorem right_nats {s : SD} (h : s.right) : ∃ r b q c e : Nat, s = ⟨s.gen, r, b, q, c, e⟩ ∧ r ≤ 1024 ∧ b ≤ 255 ∧ q ≤ 48 ∧ c ≤ 1024 ∧ e ≤ 65535 := by
  obtain ⟨gen, root, boot, quota, sectors, every⟩ := s
  obtain ⟨_, _, ⟨h1, h1'⟩, ⟨h2, h2'⟩, ⟨h3, h3'⟩, ⟨h4, h4'⟩, ⟨h5, h5'⟩⟩ := h
  dsimp only at h1 h1' h2 h2' h3 h3' h4 h4' h5 h5'
  obtain ⟨r, rfl⟩ := Int.eq_ofNat_of_zero_le h1
  obtain ⟨c, rfl⟩ := Int.eq_ofNat_of_zero_le h2
  obtain ⟨b, rfl⟩ := Int.eq_ofNat_of_zero_le h3
  obtain ⟨q, rfl⟩ := Int.eq_ofNat_of_zero_le h4
  obtain ⟨e, rfl⟩ := Int.eq_ofNat_of_zero_le h5
  exact ⟨r, b, q, c, e, rfl, by omega, by omega, by omega, by omega, by omega⟩
set_option maxRecDepth 20000 in
set_option maxHeartbeats 6400000 in
theorem superKeeps_main (s : SD) (a b : List UInt8) (ha : a.length = 128) (hb : b.length = 128) (w : World) :
    Calls Try.prog 6 #[s.v, secV a, secV b] w fun e w' => e = .returned (.bool true) ∧ Below w.heap.size w w' := by
  obtain ⟨gen, root, boot, quota, sectors, every⟩ := s
  have hla : (bv a).length = 128 := by rw [bv_length, ha]
  have hlb : (bv b).length = 128 := by rw [bv_length, hb]
  have HA := Lib.hid ha; have HBB := Lib.hid hb
  obtain ⟨wA, hwA⟩ : ∃ wA, wA = ((w.alloc (.cells ([.int .u64 (gen : Nat), .int .i64 root, .int .i64 boot, .int .i64 quota, .int .i64 sectors, .int .i64 every] : List Value).toArray 24)).alloc (.cells (bv a).toArray 32)).alloc (.cells (bv b).toArray 32) := ⟨_, rfl⟩
  have h3 : RowAt wA w.heap.size 24 [.int .u64 (gen : Nat), .int .i64 root, .int .i64 boot, .int .i64 quota, .int .i64 sectors, .int .i64 every] := by
    rw [hwA]
    exact ((RowAt.new w 24 [.int .u64 (gen : Nat), .int .i64 root, .int .i64 boot, .int .i64 quota, .int .i64 sectors, .int .i64 every]).below (below_alloc _ _)).below (below_alloc _ _)
  have h4 : SecAt wA (w.heap.size + 1) a := by
    have := (SecAt.new (w.alloc (.cells ([.int .u64 (gen : Nat), .int .i64 root, .int .i64 boot, .int .i64 quota, .int .i64 sectors, .int .i64 every] : List Value).toArray 24)) a ha).below (below_alloc _ (.cells (bv b).toArray 32))
    rw [hwA]
    simpa using this
  have h5 : SecAt wA (w.heap.size + 1 + 1) b := by
    have := SecAt.new ((w.alloc (.cells ([.int .u64 (gen : Nat), .int .i64 root, .int .i64 boot, .int .i64 quota, .int .i64 sectors, .int .i64 every] : List Value).toArray 24)).alloc (.cells (bv a).toArray 32)) b hb
    rw [hwA]
    simpa using this
  have h0 : Below w.heap.size w wA := by
    rw [hwA]
    exact ((below_alloc w _).alloc (by simp) _).alloc (by simp; omega) _
  have H3 := Lib.hid h3; have H4 := Lib.hid h4; have H5 := Lib.hid h5; have H0 := Lib.hid h0; have HWA := Lib.hid hwA
  clear ha hb h3 h4 h5 h0 hwA
  unfold SD.v secV
  dsimp only
  go_enter Try.func6, Try.ntmps6
  go_wp2_with fail
  rw [← HWA.out]
  clear HWA hla hlb
  refine (superAlive_true _).mono ?_
  rintro e w1 ⟨rfl, hb1⟩
  have HB1 := Lib.hid (bthen H0.out hb1); have HX1 := Lib.hid (H3.out.below hb1); have HSA1 := Lib.hid (H4.out.below hb1); have HSB1 := Lib.hid (H5.out.below hb1)
  clear hb1 H0 H3 H4 H5
  go_wp2_with fail
  refine (disk_New 2 w1).mono ?_
  rintro e w2 ⟨p, q, rfl, hd2, hb2⟩
  have hlive : (newDk 2).live := ⟨rfl, rfl⟩
  have hld := run_ldSec (HSA1.out.below hb2).range HA.out
  have HD2 := Lib.hid hd2; have HB12 := Lib.hid hb2
  have HW := Lib.hid (disk_Write_yes hd2 hb2.size 0 (by decide : 0 < (newDk 2).stable.length) a HA.out (by rw [hlive.power]) (by simp [newDk]))
  have HLV := Lib.hid hlive
  clear hd2 hb2 hlive
  go_wp2_with fail
  refine HW.out.mono ?_
  clear HW hld
  rintro e w3 ⟨v3, rfl, hd3, hk3, -⟩
  rw [HLV.out.power] at hd3
  have hb3 : Below w1.heap.size w1 w3 := HB12.out.trans (hk3.below HB12.out.size (fun k hk => HD2.out.foot_base k hk))
  obtain ⟨d3, hd3e⟩ : ∃ d3, d3 = ({ newDk 2 with pend := (newDk 2).pend ++ [(0, a)] } : Dk) := ⟨_, rfl⟩
  have hd3' : DiskAt w3 w1.heap.size p q v3 d3 := by rw [hd3e]; exact hd3
  have hlive3 : d3.live := by rw [hd3e]; exact ⟨rfl, rfl⟩
  have hr30 : d3.read 0 = a := by rw [hd3e, read_push, if_pos rfl]
  have hp3 : d3.pend.length = 1 := by rw [hd3e]; simp [newDk]
  have hn3 : d3.stable.length = 2 := by rw [hd3e]; rfl
  have HD3 := Lib.hid hd3'; have HB13 := Lib.hid hb3; have HLV3 := Lib.hid hlive3; have HR30 := Lib.hid hr30; have HP3 := Lib.hid hp3; have HN3 := Lib.hid hn3
  have hld := run_ldSec (HSB1.out.below hb3).range HBB.out
  have HW := Lib.hid (disk_Write_yes hd3' hb3.size 1 (by rw [hn3]; omega) b HBB.out (by rw [hlive3.power]) (by rw [hp3]; omega))
  clear hd3 hk3 hb3 hd3e hd3' hlive3 hr30 hp3 hn3 HD2 HB12 HLV
  go_wp2_with fail
  refine HW.out.mono ?_
  clear HW hld
  rintro e w4 ⟨v4, rfl, hd4, hk4, -⟩
  rw [HLV3.out.power] at hd4
  have hb4 : Below w1.heap.size w1 w4 := HB13.out.trans (hk4.below HB13.out.size (fun k hk => HD3.out.foot_base k hk))
  obtain ⟨d4, hd4e⟩ : ∃ d4, d4 = ({ d3 with pend := d3.pend ++ [(1, b)] } : Dk) := ⟨_, rfl⟩
  have hd4' : DiskAt w4 w1.heap.size p q v4 d4 := by rw [hd4e]; exact hd4
  have hlive4 : d4.live := by rw [hd4e]; exact HLV3.out
  have hp4 : d4.pend.length ≤ 1000 := by rw [hd4e]; show (d3.pend ++ [(1, b)]).length ≤ 1000; rw [List.length_append, HP3.out]; simp
  have hn4 : 2 ≤ d4.stable.length := by rw [hd4e]; show 2 ≤ d3.stable.length; rw [HN3.out]; omega
  have HD4 := Lib.hid hd4'; have HB14 := Lib.hid hb4; have HLV4 := Lib.hid hlive4; have HP4 := Lib.hid hp4; have HN4 := Lib.hid hn4
  have HRD := Lib.hid (super_Read hd4' hp4 hn4)
  clear hd4 hk4 hb4 hd4e hd4' hlive4 hp4 hn4 HD3 HB13 HLV3 HR30 HP3 HN3
  obtain ⟨rt, hrt⟩ : ∃ rt, rt = readTo d4.read 2 := ⟨_, rfl⟩
  rw [← hrt] at HRD
  have HRT := Lib.hid hrt
  clear hrt
  obtain ⟨⟨wg, wr, wb, wq, wc, we⟩, told⟩ := rt
  go_wp2_with fail
  refine HRD.out.mono ?_
  clear HRD
  rintro e w5 ⟨rfl, hb5⟩
  unfold SD.v
  dsimp only
  have HB15 := Lib.hid (balloc (bthen HB14.out hb5) (.cells #[.int .u64 (wg : Nat), .int .i64 wr, .int .i64 wb, .int .i64 wq, .int .i64 wc, .int .i64 we] 24))
  have HD5 := Lib.hid ((HD4.out.below hb5).below (below_alloc w5 (.cells #[.int .u64 (wg : Nat), .int .i64 wr, .int .i64 wb, .int .i64 wq, .int .i64 wc, .int .i64 we] 24)))
  have HT5 := Lib.hid (RowAt.new w5 24 [.int .u64 (wg : Nat), .int .i64 wr, .int .i64 wb, .int .i64 wq, .int .i64 wc, .int .i64 we])
  have HX5 := Lib.hid (HX1.out.below HB15.out)
  clear hb5
  go_wp2_with (first
    | (refine stN 24 [.int .u64 (wg : Nat), .int .i64 wr, .int .i64 wb, .int .i64 wq, .int .i64 wc, .int .i64 we] rfl _ _ rfl _ _ rfl rfl rfl (by simp [Value.oneCell']) Try.sizeSuper rfl ?_)
    | (refine ldN 24 [.int .u64 (gen : Nat), .int .i64 root, .int .i64 boot, .int .i64 quota, .int .i64 sectors, .int .i64 every] rfl _ rfl w.heap.size 0 rfl HX5.out.range Try.underlying24 rfl Try.sizeSuper ?_))
  generalize hw5 : w5.alloc (.cells #[.int .u64 (wg : Nat), .int .i64 wr, .int .i64 wb, .int .i64 wq, .int .i64 wc, .int .i64 we] 24) = w6 at *
  clear hw5
  refine (super_Right ⟨gen, root, boot, quota, sectors, every⟩ _).mono ?_
  by_cases hright : (⟨gen, root, boot, quota, sectors, every⟩ : SD).right
  · rw [decide_eq_true hright]
    rintro e w7 ⟨rfl, hb7⟩
    have HB17 := Lib.hid (bthen HB15.out hb7); have HX7 := Lib.hid (HX1.out.below HB17.out); have HD7 := Lib.hid (HD5.out.below hb7)
    have hc8 := (HT5.out.below hb7).cell 0 _ rfl
    have hc3 := HX7.out.cell 0 _ rfl
    have HRI := Lib.hid hright
    have HBF := Lib.hid (bthen HB1.out HB17.out)
    clear hb7 hright
    by_cases hold : told = true ∧ gen ≤ wg
    · obtain ⟨rfl, hge⟩ := hold
      have hd1 : decide (gen ≤ wg) = true := decide_eq_true hge
      go_wp2_with fail
      go_ret
      exact ⟨rfl, HBF.out⟩
    · obtain ⟨r, b', q', c, e', hs, h1, h2, h3, h4, h5⟩ := right_nats HRI.out
      dsimp only at hs
      injection hs with _ hs1 hs2 hs3 hs4 hs5
      subst hs1 hs2 hs3 hs4 hs5
      have HW := Lib.hid (super_Write gen r b' q' c e' HRI.out.g1 HRI.out.g2 h1 h2 h3 h4 h5 HD7.out HB17.out.size HLV4.out HP4.out HN4.out)
      have hkl : ∀ rd' : Nat → List UInt8, (∀ k, rd' k = if gen % 2 = k then sealL gen (bodyL r b' q' c e') else d4.read k) → readTo rd' 2 = (⟨gen, r, b', q', c, e'⟩, true) := fun rd' hrd => keeps_law d4.read rd' ⟨gen, r, b', q', c, e'⟩ _ HRI.out.g1 (fun k hk => head_sealed gen r b' q' c e' HRI.out.g1 HRI.out.g2 h1 h2 h3 h4 h5 k hk) hrd (by rw [← HRT.out]; exact hold)
      have HKL := Lib.hid hkl
      have key : ∀ P : Prop, (told = false → P) ∧ (told = true ∧ decide (gen ≤ wg) = false → P) → P := fun P ⟨k1, k2⟩ => by
        cases htd : told with
        | false => exact k1 htd
        | true => exact k2 ⟨htd, decide_eq_false fun h => hold ⟨htd, h⟩⟩
      clear hold h1 h2 h3 h4 h5 hkl
      refine key _ ⟨fun ht => ?_, fun ⟨ht, hd1⟩ => ?_⟩
      all_goals
        clear key
        subst ht
        go_wp2_with (refine ldN 24 [.int .u64 gen, .int .i64 r, .int .i64 b', .int .i64 q', .int .i64 c, .int .i64 e'] rfl _ rfl w.heap.size 0 rfl HX7.out.range Try.underlying24 rfl Try.sizeSuper ?_)
        refine HW.out.mono ?_
        clear HW
        rintro e w8 ⟨d8, rfl, hd8, hl8, hp8, hn8, hr8, hk8⟩
        have hb8 : Below w1.heap.size w1 w8 := HB17.out.trans (hk8.below HB17.out.size (fun k hk => HD7.out.foot_base k hk))
        have HB18 := Lib.hid hb8
        have HRD := Lib.hid (super_Read hd8 (by rw [hp8]; simp) (by rw [hn8]; exact HN4.out))
        rw [HKL.out d8.read hr8] at HRD
        clear hd8 hl8 hp8 hn8 hr8 hk8 hb8 hc8 hc3
        go_wp2_with fail
        refine HRD.out.mono ?_
        clear HRD
        rintro e w9 ⟨rfl, hb9⟩
        unfold SD.v
        dsimp only
        have HB19 := Lib.hid (balloc (bthen HB18.out hb9) (.cells #[.int .u64 gen, .int .i64 r, .int .i64 b', .int .i64 q', .int .i64 c, .int .i64 e'] 24))
        have hX9 := HX1.out.below HB19.out
        have hT9 := RowAt.new w9 24 [.int .u64 gen, .int .i64 r, .int .i64 b', .int .i64 q', .int .i64 c, .int .i64 e']
        have HBZ := Lib.hid (bthen HB1.out HB19.out)
        have a0 := hX9.cell 0 _ rfl
        have a1 := hX9.cell 1 _ rfl
        have a2 := hX9.cell 2 _ rfl
        have a3 := hX9.cell 3 _ rfl
        have a4 := hX9.cell 4 _ rfl
        have a5 := hX9.cell 5 _ rfl
        clear hb9 hX9 hT9
        go_wp2_with (refine stN 24 [.int .u64 gen, .int .i64 r, .int .i64 b', .int .i64 q', .int .i64 c, .int .i64 e'] rfl _ _ rfl _ _ rfl rfl rfl (by simp [Value.oneCell']) Try.sizeSuper rfl ?_)
        go_ret
        exact ⟨by simp, HBZ.out⟩
  · rw [decide_eq_false hright]
    rintro e w7 ⟨rfl, hb7⟩
    have HB17 := Lib.hid (bthen HB15.out hb7); have HX7 := Lib.hid (HX1.out.below HB17.out)
    have HRI := Lib.hid hright
    clear hb7 hright
    go_wp2_with (refine ldN 24 [.int .u64 (gen : Nat), .int .i64 root, .int .i64 boot, .int .i64 quota, .int .i64 sectors, .int .i64 every] rfl _ rfl w.heap.size 0 rfl HX7.out.range Try.underlying24 rfl Try.sizeSuper ?_)
    refine (super_Write_bad ⟨gen, root, boot, quota, sectors, every⟩ HRI.out p w7).mono ?_
    rintro e w8 ⟨rfl, hb8⟩
    have HB18 := Lib.hid (bthen HB1.out (bthen HB17.out hb8))
    clear hb8
    go_wp2_with fail
    go_ret
    exact ⟨rfl, HB18.out⟩
set_option maxRecDepth 100000 in
theorem superKeeps_walk {H : Type} {enc : TypeId × Value → H} {W : World} {base : Nat} {v0 v1 v2 : Value} {d0 d1 d2 : DataW H} {p0 p1 p2 : List MemPlace}
    (o0 : Value.okWide Try.prog W .any base 24 v0) (r0 : DataW.Trod enc Try.prog W 0 (fun _ => true) true 24 v0 d0 p0) (_z0 : ∀ n ∈ d0.weights Try.prog 24, n ≤ reachBytes)
    (o1 : Value.okWide Try.prog W .any base 32 v1) (r1 : DataW.Trod enc Try.prog W 0 (fun _ => true) true 32 v1 d1 p1) (_z1 : ∀ n ∈ d1.weights Try.prog 32, n ≤ reachBytes)
    (o2 : Value.okWide Try.prog W .any base 32 v2) (r2 : DataW.Trod enc Try.prog W 0 (fun _ => true) true 32 v2 d2 p2) (_z2 : ∀ n ∈ d2.weights Try.prog 32, n ≤ reachBytes) :
    Calls Try.prog 6 #[v0, v1, v2] W fun e w' => e = .returned (.bool true) ∧ Below W.heap.size W w' := by
  obtain ⟨s, rfl, _⟩ := open_super o0 r0
  obtain ⟨a, rfl, ha⟩ := open_sector o1 r1
  obtain ⟨b, rfl, hb⟩ := open_sector o2 r2
  exact superKeeps_main s a b ha hb W
end Go.Proofs.Ytanibabfdpgbbaa

/- The reference's Right. -/
namespace Go.Proofs.Ytanibabfdpgbbaa
open Go.RowKit

set_option maxRecDepth 20000 in
set_option maxHeartbeats 12800000 in
theorem ref15_Right (s : SD) (w : World) : Calls Try.prog 13 #[s.v] w fun e w' => e = .returned (.bool (decide s.right)) ∧ Below w.heap.size w w' := by
  obtain ⟨gen, root, boot, quota, sectors, every⟩ := s
  have HB := Lib.hid (below_alloc w (.cells #[.int .u64 gen, .int .i64 root, .int .i64 boot, .int .i64 quota, .int .i64 sectors, .int .i64 every] 24))
  have no : ∀ b : Bool, (¬ (⟨gen, root, boot, quota, sectors, every⟩ : SD).right → b = false) → ¬ (⟨gen, root, boot, quota, sectors, every⟩ : SD).right → Ending.returned (.bool b) = .returned (.bool (decide (⟨gen, root, boot, quota, sectors, every⟩ : SD).right)) := fun b hb h => by rw [hb h, decide_eq_false h]
  have HNO := Lib.hid no
  clear no
  unfold SD.v
  dsimp only
  by_cases c1 : gen < 1
  · have dc1 : decide ((gen : Int) < 1) = true := decide_eq_true (by omega)
    go_enter Try.func13, Try.ntmps13
    go_wp2_with fail
    go_ret
    exact ⟨HNO.out _ (fun _ => rfl) (fun h => by have := h.g1; simp at this; omega), HB.out⟩
  · have dc1 : decide ((gen : Int) < 1) = false := decide_eq_false (by omega)
    by_cases c2 : 281474976710655 < gen
    · have dc2 : decide ((281474976710655 : Int) < (gen : Int)) = true := decide_eq_true (by omega)
      go_enter Try.func13, Try.ntmps13
      go_wp2_with fail
      go_ret
      exact ⟨HNO.out _ (fun _ => rfl) (fun h => by have := h.g2; simp at this; omega), HB.out⟩
    · have dc2 : decide ((281474976710655 : Int) < (gen : Int)) = false := decide_eq_false (by omega)
      by_cases c3 : root < 0
      · have dc3 : decide (root < 0) = true := decide_eq_true (by omega)
        go_enter Try.func13, Try.ntmps13
        go_wp2_with fail
        go_ret
        exact ⟨HNO.out _ (fun _ => rfl) (fun h => by have := h.root.1; simp at this; omega), HB.out⟩
      · have dc3 : decide (root < 0) = false := decide_eq_false (by omega)
        by_cases c4 : 1024 < root
        · have dc4 : decide (1024 < root) = true := decide_eq_true (by omega)
          go_enter Try.func13, Try.ntmps13
          go_wp2_with fail
          go_ret
          exact ⟨HNO.out _ (fun _ => rfl) (fun h => by have := h.root.2; simp at this; omega), HB.out⟩
        · have dc4 : decide (1024 < root) = false := decide_eq_false (by omega)
          by_cases c5 : sectors < 0
          · have dc5 : decide (sectors < 0) = true := decide_eq_true (by omega)
            go_enter Try.func13, Try.ntmps13
            go_wp2_with fail
            go_ret
            exact ⟨HNO.out _ (fun _ => rfl) (fun h => by have := h.sectors.1; simp at this; omega), HB.out⟩
          · have dc5 : decide (sectors < 0) = false := decide_eq_false (by omega)
            by_cases c6 : 1024 < sectors
            · have dc6 : decide (1024 < sectors) = true := decide_eq_true (by omega)
              go_enter Try.func13, Try.ntmps13
              go_wp2_with fail
              go_ret
              exact ⟨HNO.out _ (fun _ => rfl) (fun h => by have := h.sectors.2; simp at this; omega), HB.out⟩
            · have dc6 : decide (1024 < sectors) = false := decide_eq_false (by omega)
              by_cases c7 : every < 0
              · have dc7 : decide (every < 0) = true := decide_eq_true (by omega)
                go_enter Try.func13, Try.ntmps13
                go_wp2_with fail
                go_ret
                exact ⟨HNO.out _ (fun _ => rfl) (fun h => by have := h.every.1; simp at this; omega), HB.out⟩
              · have dc7 : decide (every < 0) = false := decide_eq_false (by omega)
                by_cases c8 : 65535 < every
                · have dc8 : decide (65535 < every) = true := decide_eq_true (by omega)
                  go_enter Try.func13, Try.ntmps13
                  go_wp2_with fail
                  go_ret
                  exact ⟨HNO.out _ (fun _ => rfl) (fun h => by have := h.every.2; simp at this; omega), HB.out⟩
                · have dc8 : decide (65535 < every) = false := decide_eq_false (by omega)
                  by_cases c9 : 0 ≤ boot
                  · have dc9 : decide (0 ≤ boot) = true := decide_eq_true (by omega)
                    by_cases c10 : boot ≤ 255
                    · have dc10 : decide (boot ≤ 255) = true := decide_eq_true (by omega)
                      by_cases c11 : 0 ≤ quota
                      · have dc11 : decide (0 ≤ quota) = true := decide_eq_true (by omega)
                        by_cases c12 : quota ≤ 48
                        · have dc12 : decide (quota ≤ 48) = true := decide_eq_true (by omega)
                          go_enter Try.func13, Try.ntmps13
                          go_wp2_with fail
                          go_ret
                          exact ⟨by rw [decide_eq_true (⟨by show 1 ≤ gen; omega, by show gen ≤ 281474976710655; omega, ⟨by omega, by omega⟩, ⟨by omega, by omega⟩, ⟨by omega, by omega⟩, ⟨by omega, by omega⟩, ⟨by omega, by omega⟩⟩ : (⟨gen, root, boot, quota, sectors, every⟩ : SD).right)]; rfl, HB.out⟩
                        · have dc12 : decide (quota ≤ 48) = false := decide_eq_false (by omega)
                          go_enter Try.func13, Try.ntmps13
                          go_wp2_with fail
                          go_ret
                          exact ⟨HNO.out _ (fun _ => rfl) (fun h => by have := h.quota.2; simp at this; omega), HB.out⟩
                      · have dc11 : decide (0 ≤ quota) = false := decide_eq_false (by omega)
                        go_enter Try.func13, Try.ntmps13
                        go_wp2_with fail
                        go_ret
                        exact ⟨HNO.out _ (fun _ => rfl) (fun h => by have := h.quota.1; simp at this; omega), HB.out⟩
                    · have dc10 : decide (boot ≤ 255) = false := decide_eq_false (by omega)
                      go_enter Try.func13, Try.ntmps13
                      go_wp2_with fail
                      go_ret
                      exact ⟨HNO.out _ (fun _ => rfl) (fun h => by have := h.boot.2; simp at this; omega), HB.out⟩
                  · have dc9 : decide (0 ≤ boot) = false := decide_eq_false (by omega)
                    go_enter Try.func13, Try.ntmps13
                    go_wp2_with fail
                    go_ret
                    exact ⟨HNO.out _ (fun _ => rfl) (fun h => by have := h.boot.1; simp at this; omega), HB.out⟩
end Go.Proofs.Ytanibabfdpgbbaa

/- The zero value of a write of the document's disk, as a fact of the walk (a seat that is loaded in one piece lacks it). -/
namespace Go.Proofs.Ytanibabfdpgbbaa
open Go.RowKit
/-- Zero cells (as the loader in parts makes them). -/
def Try.zeroCells73 : Array Value := (.int .i64 0 :: List.replicate 128 (.int .u8 0) : List Value).toArray
theorem Try.zeroValue73 (w : World) : Sem.run Try.prog (zeroValue 73) w = .ok (.agg Try.zeroCells73) w := by
  have h : Try.t73.zero = some (.agg Try.zeroCells73) := by kernel_rfl
  unfold zeroValue
  simp [go_sem, h]
theorem Try.zeroCells73_size : Try.zeroCells73.size = 129 := by kernel_rfl
@[simp] theorem Try.zeroCells73_ne : Try.zeroCells73 ≠ #[] := fun e => by
  have h := Try.zeroCells73_size
  rw [e] at h
  cases h
attribute [go_sem] Try.zeroValue73 Try.zeroCells73_size
end Go.Proofs.Ytanibabfdpgbbaa

/- The document's disk (baileyref04.Disk), a value: what it means, and what There, power, At, New, Break, Read compute. -/
namespace Go.Proofs.Ytanibabfdpgbbaa
open Go.RowKit
attribute [local go_sem ↓] build37

/-- A write's cells (a name that the walk leaves alone). -/
def penC (x : Nat × List UInt8) : List Value := .int .i64 (x.1 : Int) :: bv x.2
theorem penC_length (x : Nat × List UInt8) (h : x.2.length = 128) : (penC x).length = 129 := by simp [penC, bv_length, h]
theorem penC_one (x : Nat × List UInt8) : ∀ u ∈ penC x, u.oneCell' = true := fun u hu => by
  rcases List.mem_cons.1 hu with rfl | hu
  · rfl
  · exact bv_one _ u hu
/-- The cells of a disk as a value (a name that the walk leaves alone). -/
def rdC (A : Option Addr) (c : Nat) (B : Option Addr) (k : Nat) (d : Dk) : List Value := [.slice A d.stable.length c, .slice B d.pend.length k, .int .i64 d.fuel, .bool d.dead]
theorem rdC_one (A : Option Addr) (c : Nat) (B : Option Addr) (k : Nat) (d : Dk) : ∀ u ∈ rdC A c B k d, u.oneCell' = true := by simp [rdC, Value.oneCell']
/-- The disk d, its sectors and its writes read in the world w. -/
structure RDk (w : World) (A : Option Addr) (c : Nat) (B : Option Addr) (k : Nat) (d : Dk) : Prop where
  sec : Rd w A d.stable.length 128 (secs d.stable)
  pen : Rd w B d.pend.length 129 (pcells d.pend)
  nc : d.stable.length ≤ c
  cm : c ≤ 9223372036854775807
  pk : d.pend.length ≤ k
  km : k ≤ 9223372036854775807
  len : d.stable.length ≤ 1024
  wid : ∀ x ∈ d.stable, x.length = 128
  pin : ∀ x ∈ d.pend, x.1 < d.stable.length ∧ x.2.length = 128
  fu : -1 ≤ d.fuel ∧ d.fuel ≤ 9223372036854775807
section
variable {w w' : World} {A : Option Addr} {c : Nat} {B : Option Addr} {k : Nat} {d : Dk}
theorem RDk.below (h : RDk w A c B k d) (hb : Below w.heap.size w w') : RDk w' A c B k d := ⟨h.sec.below hb, h.pen.below hb, h.nc, h.cm, h.pk, h.km, h.len, h.wid, h.pin, h.fu⟩
theorem RDk.kp {S : Nat → Prop} (h : RDk w A c B k d) (hk : Kp S w w') (hS : ∀ b, S b → w.heap.size ≤ b) : RDk w' A c B k d := h.below (hk.below (Nat.le_refl _) hS)
theorem Rd.kpF {S : Nat → Prop} {n size : Nat} {cs : List Value} (h : Rd w A n size cs) (hk : Kp S w w') (hA : ∀ b o, A = some ⟨b, o, none⟩ → ¬ S b) : Rd w' A n size cs := by
  refine ⟨h.1, fun hp => ?_⟩
  obtain ⟨b, o, e, hc⟩ := h.2 hp
  refine ⟨b, o, e, fun j u hj => ?_⟩
  have h1 := hc j u hj
  rw [← h1]
  exact World.cell?_of_block (hk.block b (World.block_lt_of_cell? w _ h1) (hA b o e))
theorem RDk.kpF {S : Nat → Prop} (h : RDk w A c B k d) (hk : Kp S w w') (hA : ∀ b o, A = some ⟨b, o, none⟩ → ¬ S b) (hB : ∀ b o, B = some ⟨b, o, none⟩ → ¬ S b) : RDk w' A c B k d := ⟨h.sec.kpF hk hA, h.pen.kpF hk hB, h.nc, h.cm, h.pk, h.km, h.len, h.wid, h.pin, h.fu⟩
/-- A slice lies in blocks that are new since W. -/
def FrA (W W' : World) (A : Option Addr) : Prop := ∀ b o, A = some ⟨b, o, none⟩ → W.heap.size ≤ b ∧ b < W'.heap.size
theorem FrA.none (W W' : World) : FrA W W' none := fun _ _ e => by cases e
theorem FrA.own {base n size cap : Nat} {e : TypeId} {xs : List Value} {W : World} (h : w.ownsRow base e size (.slice A n cap) n xs) (hb : W.heap.size ≤ base) : FrA W w A := fun b o he => by
  subst he
  exact ⟨Nat.le_trans hb (h.lt b rfl).1, (h.lt b rfl).2⟩
theorem RDk.secR (h : RDk w A c B k d) (i : Nat) (hi : i < d.stable.length) : ∃ b o, A = some ⟨b, o, none⟩ ∧ w.rangeAt b (o + i * 128) (bv (secAt d.stable i)) := by
  have hl : (secs (d.stable.take i)).length = i * 128 := by
    rw [secs_length _ (fun x hx => h.wid x (List.mem_of_mem_take hx)), List.length_take]
    congr 1
    omega
  obtain ⟨b, o, hA, hc⟩ := h.sec.2 (by rw [secs_length _ h.wid]; omega)
  refine ⟨b, o, hA, fun j u hj => ?_⟩
  rw [Nat.add_assoc]
  refine hc _ u ?_
  rw [secs_split d.stable i hi]
  have := mid_get (secs (d.stable.take i)) (bv (secAt d.stable i)) (secs (d.stable.drop (i + 1))) j u hj
  rwa [hl] at this
theorem RDk.penR (h : RDk w A c B k d) (i : Nat) (hi : i < d.pend.length) : ∃ b o, B = some ⟨b, o, none⟩ ∧ w.rangeAt b (o + i * 129) (penC (penAt d.pend i)) := by
  have hl : (pcells (d.pend.take i)).length = i * 129 := by
    rw [pcells_length _ (fun x hx => (h.pin x (List.mem_of_mem_take hx)).2), List.length_take]
    congr 1
    omega
  obtain ⟨b, o, hB, hc⟩ := h.pen.2 (by rw [pcells_length _ (fun x hx => (h.pin x hx).2)]; omega)
  refine ⟨b, o, hB, fun j u hj => ?_⟩
  rw [Nat.add_assoc]
  refine hc _ u ?_
  have hp := pcells_split d.pend i hi
  rw [List.append_assoc] at hp
  rw [hp]
  have := mid_get (pcells (d.pend.take i)) (Value.int .i64 ((penAt d.pend i).1 : Int) :: bv (penAt d.pend i).2) (pcells (d.pend.drop (i + 1))) j u hj
  rwa [hl] at this
theorem RDk.pinAt (h : RDk w A c B k d) (i : Nat) (hi : i < d.pend.length) : (penAt d.pend i).1 < d.stable.length ∧ (penAt d.pend i).2.length = 128 := h.pin _ (penAt_mem hi)
theorem RDk.secL (h : RDk w A c B k d) (i : Nat) (hi : i < d.stable.length) : (secAt d.stable i).length = 128 := h.wid _ (secAt_mem hi)
end
theorem Try.sizeRD : (Try.prog.info? 36).map (·.size) = some 4 := by kernel_rfl
theorem Try.sizeRW : (Try.prog.info? 73).map (·.size) = some 129 := by kernel_rfl
theorem size_rw (x : Nat × List UInt8) (h : x.2.length = 128) : (Try.prog.info? 73).map (·.size) = some (penC x).length := by rw [penC_length x h]; exact Try.sizeRW
/-- The fields of a disk in a box. -/
theorem rd_cells {w : World} {g : Nat} {A : Option Addr} {c : Nat} {B : Option Addr} {k : Nat} {d : Dk} (h : RowAt w g 36 (rdC A c B k d)) :
    w.cell? ⟨g, 0, none⟩ = some (.slice A d.stable.length c) ∧ w.cell? ⟨g, 1, none⟩ = some (.slice B d.pend.length k) ∧ w.cell? ⟨g, 2, none⟩ = some (.int .i64 d.fuel) ∧ w.cell? ⟨g, 3, none⟩ = some (.bool d.dead) :=
  ⟨h.cell 0 _ rfl, h.cell 1 _ rfl, h.cell 2 _ rfl, h.cell 3 _ rfl⟩
theorem zsec_new (w : World) : SecAt (w.alloc (.cells Try.zeroCells32 32)) w.heap.size zsec := by
  rw [Try.zero37]
  exact SecAt.new w zsec zsec_length
theorem zsec_new' (w : World) (g : Nat) (hg : g = w.heap.size) : SecAt (w.alloc (.cells Try.zeroCells32 32)) g zsec := hg ▸ zsec_new w
theorem RowAt.new' (w : World) (t : TypeId) (cs : List Value) (g : Nat) (hg : g = w.heap.size) : RowAt (w.alloc (.cells cs.toArray t)) g t cs := hg ▸ RowAt.new w t cs
/-- Results that lie in a variable: a disk; a disk and something more; a sector; a sector and something more. -/
theorem ret_rd {fn : Func} {p : Tmp} (h : fn.results = #[.cell p 36]) (tmps : Array Value) (w : World) (A : Option Addr) (c : Nat) (B : Option Addr) (k : Nat) (d : Dk) (g : Nat) (hp : tmps.getD p undef = .pointer (some ⟨g, 0, none⟩)) (hb : RowAt w g 36 (rdC A c B k d)) :
    (results fn tmps).run Try.prog w = .ok (.agg (rdC A c B k d).toArray) w :=
  res_row h tmps _ _ _ _ _ hp hb.range Try.underlying36 rfl Try.sizeRD
theorem ret_rd_tmp {fn : Func} {p q : Tmp} (h : fn.results = #[.cell p 36, .tmp q]) (tmps : Array Value) (w : World) (A : Option Addr) (c : Nat) (B : Option Addr) (k : Nat) (d : Dk) (u : Value) (g : Nat) (hp : tmps.getD p undef = .pointer (some ⟨g, 0, none⟩)) (hq : tmps.getD q undef = u) (hb : RowAt w g 36 (rdC A c B k d)) :
    (results fn tmps).run Try.prog w = .ok (.tuple #[.agg (rdC A c B k d).toArray, u]) w :=
  res_row_tmp h tmps _ _ _ _ _ u hp hq hb.range Try.underlying36 rfl Try.sizeRD
theorem ret37_atT {fn : Func} {p q : Tmp} (h : fn.results = #[.cell p 32, .tmp q]) (tmps : Array Value) (w : World) (l : List UInt8) (u : Value) (g : Nat) (hp : tmps.getD p undef = .pointer (some ⟨g, 0, none⟩)) (hq : tmps.getD q undef = u) (hb : SecAt w g l) :
    (results fn tmps).run Try.prog w = .ok (.tuple #[secV l, u]) w :=
  res_row_tmp h tmps _ _ _ (bv l) _ u hp hq hb.range Try.underlying32 rfl (Try.size37.trans (by simp [bv_length, hb.2]))
theorem ret37_at1 {fn : Func} {p : Tmp} (h : fn.results = #[.cell p 32]) (tmps : Array Value) (w : World) (l : List UInt8) (g : Nat) (hp : tmps.getD p undef = .pointer (some ⟨g, 0, none⟩)) (hb : SecAt w g l) :
    (results fn tmps).run Try.prog w = .ok (secV l) w :=
  res_row h tmps _ _ _ (bv l) _ hp hb.range Try.underlying32 rfl (Try.size37.trans (by simp [bv_length, hb.2]))

section
variable {w : World} {A : Option Addr} {c : Nat} {B : Option Addr} {k : Nat} {d : Dk}
set_option maxHeartbeats 400000 in
theorem ref_There_yes (i : Nat) (hi : i < d.stable.length) (w : World) : Calls Try.prog 31 #[.agg (rdC A c B k d).toArray, .int .i64 i] w fun e w' => e = .returned (.bool true) ∧ Below w.heap.size w w' := by
  obtain ⟨c0, -, -, -⟩ := rd_cells (RowAt.new w 36 (rdC A c B k d))
  have hk0 : (0 : Int) ≤ (i : Int) := Int.natCast_nonneg _
  have hk1 : (i : Int) < (d.stable.length : Int) := by omega
  go_enter Try.func31, Try.ntmps31
  go_wp2
  go_ret
  exact ⟨ret_bool (by first | rfl | simp), below_alloc w _⟩
set_option maxHeartbeats 400000 in
theorem ref_There_no (i : Int) (hi : i < 0 ∨ (d.stable.length : Int) ≤ i) (w : World) : Calls Try.prog 31 #[.agg (rdC A c B k d).toArray, .int .i64 i] w fun e w' => e = .returned (.bool false) ∧ Below w.heap.size w w' := by
  obtain ⟨c0, -, -, -⟩ := rd_cells (RowAt.new w 36 (rdC A c B k d))
  by_cases h0 : i < 0
  · go_enter Try.func31, Try.ntmps31
    go_wp2
    go_ret
    exact ⟨rfl, below_alloc w _⟩
  · have h1 : (d.stable.length : Int) ≤ i := by omega
    clear hi
    go_enter Try.func31, Try.ntmps31
    go_wp2
    go_ret
    exact ⟨ret_bool (by simp [h1]), below_alloc w _⟩
end
end Go.Proofs.Ytanibabfdpgbbaa
