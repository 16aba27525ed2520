/- The walk of CodecBack. -/
import Derived.Test.YtccofdmnljbegaaCodecW5
import Derived.Test.YtccofdmnljbegaaOpenS
namespace Go.Proofs.Ytccofdmnljbegaa
open Go.RowKit

theorem canon_b (v : V) : canonV 98 v = (0, v.2) := by simp [canonV]
theorem canon_n {c : UInt8} (h : c ≠ 98) (v : V) : canonV c v = (v.1, []) := by simp [canonV, h]
set_option maxRecDepth 20000 in
set_option maxHeartbeats 6400000 in
theorem codecBack_main (sh : List UInt8) (A : Option Addr) (n c : Nat) (l : List FieldD) (B : Option Addr) (m d : Nat) (bs : List UInt8) (w : World) (hl : RFields w A n c l) (hn : n * 32 ≤ 140737488351232) (hbs : RB w B m d bs) (hm : m ≤ 140737488351232) :
    Calls Try.prog 6 #[.string (strOf sh), .slice A n c, .slice B m d] w fun e w' => e = .returned (.bool true) ∧ Below w.heap.size w w' := by
  have HL := Lib.hid hl; have HBS := Lib.hid hbs
  clear hl hbs
  go_enter Try.func6, Try.ntmps6
  go_wp2_with fail
  refine (codecAlive_true _).mono ?_
  rintro e w0 ⟨rfl, hb0⟩
  have HB0 := Lib.hid hb0
  clear hb0
  go_wp2_with fail
  refine (ref02_Copy A n c l w0 (HL.out.below HB0.out) hn).mono ?_
  rintro e w1 ⟨v, l1, rfl, hof1, hv1, hb1⟩
  obtain ⟨A1, c1, rfl, hrf1⟩ := hof1.read
  have HR1 := Lib.hid hrf1; have HV1 := Lib.hid hv1; have HB1 := Lib.hid (bthen HB0.out hb1)
  clear hof1 hv1 hb1 hrf1
  go_wp2_with fail
  refine (codec_Pack sh A1 l1.length c1 l1 w1 HR1.out).mono ?_
  rw [packM_vals HV1.out sh]
  rintro e w2 ⟨hb2, hcase⟩
  have HB2 := Lib.hid (bthen HB1.out hb2)
  clear hb2
  rcases hcase with ⟨v, o, ho, rfl, hown⟩ | ⟨hno, rfl⟩
  · obtain ⟨A2, c2, rfl, hrb2⟩ := own_rb hown
    have HX := Lib.hid hrb2; have HE := Lib.hid ho
    have hlen : sh.length = n := by
      have := (packM_iff _ _ _).1 ho
      rw [this.2.1, HL.out.1]
    clear hown hrb2 ho
    have hu := codec_Unpack sh A2 _ c2 _ w2 HX.out
    rw [back_of HE.out] at hu
    go_wp2_with fail
    refine hu.mono ?_
    clear hu
    rintro e w3 ⟨hb3, ⟨v, lk, hlk, rfl, hof⟩ | ⟨hno, -⟩⟩
    · obtain ⟨A3, c3, rfl, hrf3⟩ := hof.read
      injection hlk with hlk
      have HC := Lib.hid (fun k (hk : k < n) => canon_at (by rw [hlen, HL.out.1]) hlk.symm k (by rw [HL.out.1]; exact hk))
      have hlkn : lk.length = n := by
        have := congrArg List.length hlk
        simp only [vals, canonL, List.length_map, List.length_zipWith] at this
        have := HL.out.1
        omega
      rw [hlkn] at hrf3 ⊢
      have HR3 := Lib.hid hrf3; have HB3 := Lib.hid (bthen HB2.out hb3)
      have hsz : (strOf sh).size = n := by rw [← hlen]; simp [strOf, ByteArray.size]
      have hbn : ((n : Int) != (n : Int)) = false := by simp
      have hnm : (n : Int) ≤ 9223372036854775807 := by omega
      clear hof hrf3 hb3 hlk hlkn HX HE
      go_wp2_with fail
      go_loopw [11, 44] (fun _ i wr => ∃ k, k ≤ n ∧ i = .int .i64 (k : Nat) ∧ Hid (Below w3.heap.size w3 wr)) (fun _ i _ => n - (intOf i).toNat)
      case atStart => exact ⟨0, by omega, rfl, Lib.hid (Below.refl _ _)⟩
      case round =>
        obtain ⟨k, hk, rfl, HW⟩ := hrel
        by_cases hlt : k < n
        · have hk0 : (0 : Int) ≤ (k : Int) := Int.natCast_nonneg _
          have hk1 : (k : Int) < (n : Int) := by omega
          obtain ⟨b1, o1, rfl, hf1⟩ := (HL.out.below (bthen HB3.out HW.out)).2.2.2 (by omega)
          obtain ⟨hr1, hk1'⟩ := hf1 k hlt
          obtain ⟨b2, o2, rfl, hf2⟩ := (HR3.out.below HW.out).2.2.2 (by omega)
          obtain ⟨hr2, hk2'⟩ := hf2 k hlt
          obtain ⟨-, hcn, hcb⟩ := HC.out k hlt
          have hg := strOf_get sh k
          generalize fieldAt l k = f1 at *
          generalize fieldAt lk k = f2 at *
          generalize at8 sh k = ch at *
          obtain ⟨n1, F1, l1', c1', x1⟩ := f1
          obtain ⟨n2, F2, l2', c2', x2⟩ := f2
          have hc10 : wr.cell? ⟨b1, o1 + k * 2, none⟩ = some (.int .u64 n1) := hr1 0 _ rfl
          have hc11 : wr.cell? ⟨b1, o1 + k * 2 + 1, none⟩ = some (.slice F1 l1' c1') := hr1 1 _ rfl
          have hc20 : wr.cell? ⟨b2, o2 + k * 2, none⟩ = some (.int .u64 n2) := hr2 0 _ rfl
          have hc21 : wr.cell? ⟨b2, o2 + k * 2 + 1, none⟩ = some (.slice F2 l2' c2') := hr2 1 _ rfl
          by_cases hch : ch = 98
          · subst hch
            rw [canon_b] at hcn hcb
            dsimp only at hcn hcb
            subst hcn hcb
            have hs1 := fun q => (hk1'.rb.below (below_drewN (Below.refl _ wr) q)).string (P := Try.prog) (src := 22) (dst := 9) Try.underlying22 Try.underlying5 Try.underlying9
            have hs2 := fun q => (hk2'.rb.below (below_drewN (Below.refl _ wr) q)).string (P := Try.prog) (src := 22) (dst := 9) Try.underlying22 Try.underlying5 Try.underlying9
            dsimp only at hs1 hs2
            have hq := str_eq x2
            clear hf1 hf2 hr1 hr2 hk1' hk2'
            go_wp2
            go_quiet (fail)
            go_wp2
            go_roundw
            case rel => exact ⟨k + 1, by omega, by go_num, Lib.hid (below_drewN HW.out _)⟩
            case measure => simp [intOf]; omega
          · rw [canon_n hch] at hcn hcb
            dsimp only at hcn hcb
            subst hcn hcb
            have hl2 : l2' = 0 := by have := hk2'.rb.1; simpa using this.symm
            subst hl2
            have hq1 : ((ch.toNat : Int) == 98) = false := by
              rw [beq_eq_false_iff_ne]
              exact fun e => hch (UInt8.toNat_inj.1 (by show ch.toNat = 98; omega))
            have hq2 : ((ch.toNat : Int) != 98) = true := by rw [bne, hq1]; rfl
            have hq3 : ((n2 : Int) != (n2 : Int)) = false := by simp
            clear hf1 hf2 hr1 hr2 hk1' hk2' hch
            go_wp2
            go_quiet (fail)
            go_wp2
            go_roundw
            case rel => exact ⟨k + 1, by omega, by go_num, Lib.hid (below_drewN HW.out _)⟩
            case measure => simp [intOf]; omega
        · obtain rfl : k = n := by omega
          have HBW : Hid (Below w.heap.size w wr) := Lib.hid (bthen HB3.out HW.out)
          go_wp2_with (at_builtin; refine wpList_copy_bytes (W := wr) rfl _ _ 22 5 rfl Try.underlying22 Try.infoU8' B m d bs wr.heap.size rfl rfl rfl (HBS.out.below HBW.out) (by omega) ?_; intro A6 c6 w6 hown6 hrb6 hb6; have HR6 := Lib.hid hrb6; have HB6 := Lib.hid (bthen HBW.out hb6); clear hown6 hrb6 hb6)
          refine (codec_Unpack sh A6 _ c6 _ w6 HR6.out).mono ?_
          rintro e w7 ⟨hb7, ⟨v, lk7, ho', rfl, hof7⟩ | ⟨-, rfl⟩⟩
          · obtain ⟨A7, c7, rfl, hrf7⟩ := hof7.read
            have HR7 := Lib.hid hrf7; have HB7 := Lib.hid (bthen HB6.out hb7); have HF7 := Lib.hid (forth_of ho')
            clear hof7 hrf7 hb7 ho'
            go_wp2_with fail
            refine (codec_Pack sh A7 lk7.length c7 lk7 w7 HR7.out).mono ?_
            rw [HF7.out]
            rintro e w8 ⟨hb8, ⟨v, o8, ho8, rfl, hown8⟩ | ⟨hno, -⟩⟩
            · injection ho8 with ho8
              subst ho8
              obtain ⟨A8, c8, rfl, hrb8⟩ := own_rb hown8
              have HB8 := Lib.hid (bthen HB7.out hb8)
              have hs1 := hrb8.string (P := Try.prog) (src := 22) (dst := 9) Try.underlying22 Try.underlying5 Try.underlying9
              have hs2 := (HBS.out.below HB8.out).string (P := Try.prog) (src := 22) (dst := 9) Try.underlying22 Try.underlying5 Try.underlying9
              have hq := str_eq bs
              clear hb8 hown8 hrb8
              go_wp2_with fail
              go_ret
              exact ⟨rfl, HB8.out⟩
            · cases hno
          · have HB7 := Lib.hid (bthen HB6.out hb7)
            clear hb7
            go_wp2_with fail
            go_ret
            exact ⟨rfl, HB7.out⟩
    · cases hno
  · clear hno
    have HBW := HB2
    go_wp2_with (at_builtin; refine wpList_copy_bytes (W := w2) rfl _ _ 22 5 rfl Try.underlying22 Try.infoU8' B m d bs w2.heap.size rfl rfl rfl (HBS.out.below HBW.out) (by omega) ?_; intro A6 c6 w6 hown6 hrb6 hb6; have HR6 := Lib.hid hrb6; have HB6 := Lib.hid (bthen HBW.out hb6); clear hown6 hrb6 hb6)
    refine (codec_Unpack sh A6 _ c6 _ w6 HR6.out).mono ?_
    rintro e w7 ⟨hb7, ⟨v, lk7, ho', rfl, hof7⟩ | ⟨-, rfl⟩⟩
    · obtain ⟨A7, c7, rfl, hrf7⟩ := hof7.read
      have HR7 := Lib.hid hrf7; have HB7 := Lib.hid (bthen HB6.out hb7); have HF7 := Lib.hid (forth_of ho')
      clear hof7 hrf7 hb7 ho'
      go_wp2_with fail
      refine (codec_Pack sh A7 lk7.length c7 lk7 w7 HR7.out).mono ?_
      rw [HF7.out]
      rintro e w8 ⟨hb8, ⟨v, o8, ho8, rfl, hown8⟩ | ⟨hno, -⟩⟩
      · injection ho8 with ho8
        subst ho8
        obtain ⟨A8, c8, rfl, hrb8⟩ := own_rb hown8
        have HB8 := Lib.hid (bthen HB7.out hb8)
        have hs1 := hrb8.string (P := Try.prog) (src := 22) (dst := 9) Try.underlying22 Try.underlying5 Try.underlying9
        have hs2 := (HBS.out.below HB8.out).string (P := Try.prog) (src := 22) (dst := 9) Try.underlying22 Try.underlying5 Try.underlying9
        have hq := str_eq bs
        clear hb8 hown8 hrb8
        go_wp2_with fail
        go_ret
        exact ⟨rfl, HB8.out⟩
      · cases hno
    · have HB7 := Lib.hid (bthen HB6.out hb7)
      clear hb7
      go_wp2_with fail
      go_ret
      exact ⟨rfl, HB7.out⟩
set_option maxRecDepth 100000 in
theorem codecBack_walk {H : Type} {enc : TypeId × Value → H} {W : World} {base : Nat} {v0 v1 v2 : Value} {d0 d1 d2 : DataW H} {p0 p1 p2 : List MemPlace}
    (o0 : Value.okWide Try.prog W .any base 9 v0) (r0 : DataW.Trod enc Try.prog W 0 (fun _ => true) true 9 v0 d0 p0) (_z0 : ∀ n ∈ d0.weights Try.prog 9, n ≤ reachBytes)
    (o1 : Value.okWide Try.prog W .any base 26 v1) (r1 : DataW.Trod enc Try.prog W 0 (fun _ => true) true 26 v1 d1 p1) (z1 : ∀ n ∈ d1.weights Try.prog 26, n ≤ reachBytes)
    (o2 : Value.okWide Try.prog W .any base 22 v2) (r2 : DataW.Trod enc Try.prog W 0 (fun _ => true) true 22 v2 d2 p2) (z2 : ∀ n ∈ d2.weights Try.prog 22, n ≤ reachBytes) :
    Calls Try.prog 6 #[v0, v1, v2] W fun e w' => e = .returned (.bool true) ∧ Below W.heap.size W w' := by
  obtain ⟨sh, rfl, _⟩ := open_str Try.underlying9 o0 r0
  obtain ⟨A, n, c, l, rfl, hl, hn⟩ := open_fields o1 r1 z1
  obtain ⟨B, m, d, bs, rfl, hr, hm⟩ := open_bytes Try.underlying22 Try.underlying5 (by kernel_rfl) (by kernel_rfl) o2 r2 z2
  exact codecBack_main sh A n c l B m d bs W hl hn hr hm
end Go.Proofs.Ytccofdmnljbegaa
