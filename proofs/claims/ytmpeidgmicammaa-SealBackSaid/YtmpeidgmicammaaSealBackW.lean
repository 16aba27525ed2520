/- The walk of SealBack. -/
import Derived.Test.YtmpeidgmicammaaSealW6
import Derived.Test.YtmpeidgmicammaaOpenX
namespace Go.Proofs.Ytmpeidgmicammaa
open Go.RowKit
attribute [local go_sem ↓] loadAt37 build37

set_option maxRecDepth 20000 in
set_option maxHeartbeats 6400000 in
theorem sealBack_main (mark : Nat) (hmk : mark < 18446744073709551616) (A : Option Addr) (n c : Nat) (bs : List UInt8) (ls : List UInt8) (w : World) (hr : RB w A n c bs) (hn : n ≤ 140737488351232) (hls : ls.length = 128) :
    Calls Try.prog 6 #[.int .u64 mark, .slice A n c, secV ls] w fun e w' => e = .returned (.bool true) ∧ Below w.heap.size w w' := by
  have HR := Lib.hid hr; have HMK := Lib.hid hmk; have HLS := Lib.hid hls
  have HLEN := Lib.hid hr.1
  have hb0 := below_alloc w (.cells (bv ls).toArray 27)
  have HB0 := Lib.hid hb0; have HS0 := Lib.hid (SecAt.new w ls hls)
  have hbl : (bv ls).length = 128 := by rw [bv_length, hls]
  clear hr hmk hls hb0
  unfold secV
  go_enter Try.func6, Try.ntmps6
  go_wp2_with fail
  refine (sealAlive_true _).mono ?_
  rintro e w1 ⟨rfl, hb1⟩
  have HB1 := Lib.hid (bthen HB0.out hb1); have HS1 := Lib.hid (HS0.out.below hb1)
  clear hb1
  go_wp2_with (at_builtin; refine wpList_copy_bytes (W := w1) rfl _ _ 23 5 rfl Try.underlying23 Try.infoU8' A n c bs w1.heap.size rfl rfl rfl (HR.out.below HB1.out) (by omega) ?_; intro A2 c2 w2 hown2 hrb2 hb2; have HB2 := Lib.hid (bthen HB1.out hb2); have HR2 := Lib.hid hrb2; have HS2 := Lib.hid (HS1.out.below hb2); clear hown2 hrb2 hb2)
  refine (seal_Make mark HMK.out A2 n c2 bs w2 HR2.out hn).mono ?_
  rintro e w3 ⟨l3, e3, rfl, hl3, hb3, hc3⟩
  have HL3 := Lib.hid hl3; have HB3 := Lib.hid (balloc (bthen HB2.out hb3) (.cells (bv l3).toArray 27))
  have HS3 := Lib.hid ((HS2.out.below hb3).below (below_alloc w3 (.cells (bv l3).toArray 27)))
  have hld := run_ldSec (w := w3.alloc (.cells (bv l3).toArray 27)) (range_alloc w3 (bv l3) _ _) hl3
  have HC3 := Lib.hid hc3
  clear hl3 hb3 hc3 hbl
  go_wp2_with (refine st37 rfl _ _ rfl _ _ rfl rfl l3 rfl HL3.out rfl ?_)
  refine (seal_Open l3 HL3.out _).mono ?_
  rintro e w4 hpost
  have HP4 := Lib.hid hpost
  clear hpost hld
  by_cases hbad : mark = 0 ∨ 106 < n
  · have hmm : makeM mark bs = none := by unfold makeM; rw [if_pos (by rw [HLEN.out]; exact hbad)]
    rcases HC3.out with ⟨hs3, -⟩ | ⟨-, rfl, rfl⟩
    · rw [hmm] at hs3; cases hs3
    obtain ⟨mk, A4, m4, c4, b4, rfl, hb4, ⟨body4, ho4, -⟩ | ⟨-, rfl, rfl, rfl, rfl, rfl⟩⟩ := HP4.out
    · rw [open_zeros] at ho4; cases ho4
    have HBX := Lib.hid (bthen HB3.out hb4); have HSX := Lib.hid (HS3.out.below hb4)
    have hldX := run_ldSec (HS3.out.below hb4).range HLS.out
    have key : ∀ P : Prop, (((mark : Int) != 0) = false → P) ∧ ((((mark : Int) != 0) = true ∧ decide ((n : Int) ≤ 106) = false) → P) → P := fun P ⟨h1, h2⟩ => by
      by_cases h0 : mark = 0
      · exact h1 (by subst h0; rfl)
      · exact h2 ⟨by rw [bne_iff_ne]; omega, decide_eq_false (by omega)⟩
    clear hb4 HP4 hmm hbad HC3
    refine key _ ⟨fun h1 => ?_, fun ⟨h1, h2⟩ => ?_⟩
    all_goals
      clear key
      go_wp2_with fail
      refine (seal_Open ls HLS.out _).mono ?_
      rintro e w7 hpost
      have HP7 := Lib.hid hpost
      clear hpost
      cases hos : openM ls with
      | none =>
        obtain ⟨mk, A7, m7, c7, b7, rfl, hb7, ⟨body7, ho7, -⟩ | ⟨-, rfl, rfl, rfl, rfl, rfl⟩⟩ := HP7.out
        · rw [hos] at ho7; cases ho7
        · have HB7 := Lib.hid (bthen HBX.out hb7)
          clear hb7 HP7 hos hldX
          go_wp2_with fail
          go_ret
          exact ⟨rfl, HB7.out⟩
      | some mb =>
        obtain ⟨mk, A7, m7, c7, b7, rfl, hb7, ⟨body7, ho7, rfl, hrb7⟩ | ⟨hno, -⟩⟩ := HP7.out
        · obtain ⟨hmake, hmk0, hbl7⟩ := seal_open ho7
          have HM7 := Lib.hid hmake
          have hmk64 : mk < 18446744073709551616 := by
            unfold openM at ho7
            split at ho7
            · cases ho7
            · split at ho7
              · injection ho7 with ho7
                injection ho7 with hm7 _
                rw [← hm7]
                exact numOf_small ls 8 (by omega)
              · cases ho7
          have HMK7 := Lib.hid hmk64
          have HB7 := Lib.hid (bthen HBX.out hb7); have HR7 := Lib.hid hrb7; have HS7 := Lib.hid (HSX.out.below hb7)
          have hm7 : m7 ≤ 106 := by rw [← hrb7.1]; exact hbl7
          clear hb7 HP7 hos hldX hrb7 ho7 hmake hmk0 hbl7 hmk64
          go_wp2_with fail
          refine (seal_Make mk HMK7.out A7 m7 c7 body7 w7 HR7.out (by omega)).mono ?_
          rw [HM7.out]
          rintro e w8 ⟨l8, e8, rfl, hl8, hb8, ⟨hs8, rfl⟩ | ⟨hno, -⟩⟩
          · injection hs8 with hs8
            subst hs8
            have hld1 := run_ldSec (w := w8.alloc (.cells (bv ls).toArray 27)) (range_alloc w8 (bv ls) _ _) HLS.out
            have hld2 := run_ldSec ((HS7.out.below hb8).below (below_alloc w8 (.cells (bv ls).toArray 27))).range HLS.out
            have heq := eq37 (w8.alloc (.cells (bv ls).toArray 27)) ls ls HLS.out HLS.out
            rw [decide_eq_true rfl] at heq
            have HB8 := Lib.hid (balloc (bthen HB7.out hb8) (.cells (bv ls).toArray 27))
            clear hb8 hl8 hm7
            go_wp2_with (refine st37 rfl _ _ rfl _ _ rfl rfl ls rfl HLS.out rfl ?_)
            go_ret
            exact ⟨rfl, HB8.out⟩
          · cases hno
        · rw [hos] at hno; cases hno
  · have hmm : makeM mark bs = some (sealL mark bs) := by unfold makeM; rw [if_neg (by rw [HLEN.out]; exact hbad)]
    have hop := open_seal mark bs HMK.out (by omega) (by rw [HLEN.out]; omega)
    rcases HC3.out with ⟨hs3, rfl⟩ | ⟨hs3, -⟩
    · rw [hmm] at hs3
      injection hs3 with hs3
      obtain ⟨mk, A4, m4, c4, b4, rfl, hb4, ⟨body4, ho4, rfl, hrb4⟩ | ⟨hno, -⟩⟩ := HP4.out
      · rw [← hs3, hop] at ho4
        injection ho4 with ho4
        injection ho4 with hm4 hbo4
        subst hm4 hbo4
        have HBX := Lib.hid (bthen HB3.out hb4); have HSX := Lib.hid (HS3.out.below hb4)
        have hldX := run_ldSec (HS3.out.below hb4).range HLS.out
        have h1 : ((mark : Int) != 0) = true := by rw [bne_iff_ne]; omega
        have h2 : decide ((n : Int) ≤ 106) = true := decide_eq_true (by omega)
        have h3 : ((mark : Int) != (mark : Int)) = false := by simp
        have hsx1 := hrb4.string (P := Try.prog) (src := 23) (dst := 9) Try.underlying23 Try.underlying5 Try.underlying9
        have hsx2 := (HR.out.below HBX.out).string (P := Try.prog) (src := 23) (dst := 9) Try.underlying23 Try.underlying5 Try.underlying9
        have hq := str_eq bs
        clear hb4 HP4 hmm hbad HC3 hop hs3 hrb4
        go_wp2_with fail
        refine (seal_Open ls HLS.out _).mono ?_
        rintro e w7 hpost
        have HP7 := Lib.hid hpost
        clear hpost
        cases hos : openM ls with
        | none =>
          obtain ⟨mk, A7, m7, c7, b7, rfl, hb7, ⟨body7, ho7, -⟩ | ⟨-, rfl, rfl, rfl, rfl, rfl⟩⟩ := HP7.out
          · rw [hos] at ho7; cases ho7
          · have HB7 := Lib.hid (bthen HBX.out hb7)
            clear hb7 HP7 hos hldX
            go_wp2_with fail
            go_ret
            exact ⟨rfl, HB7.out⟩
        | some mb =>
          obtain ⟨mk, A7, m7, c7, b7, rfl, hb7, ⟨body7, ho7, rfl, hrb7⟩ | ⟨hno, -⟩⟩ := HP7.out
          · obtain ⟨hmake, hmk0, hbl7⟩ := seal_open ho7
            have HM7 := Lib.hid hmake
            have hmk64 : mk < 18446744073709551616 := by
              unfold openM at ho7
              split at ho7
              · cases ho7
              · split at ho7
                · injection ho7 with ho7
                  injection ho7 with hm7 _
                  rw [← hm7]
                  exact numOf_small ls 8 (by omega)
                · cases ho7
            have HMK7 := Lib.hid hmk64
            have HB7 := Lib.hid (bthen HBX.out hb7); have HR7 := Lib.hid hrb7; have HS7 := Lib.hid (HSX.out.below hb7)
            have hm7 : m7 ≤ 106 := by rw [← hrb7.1]; exact hbl7
            clear hb7 HP7 hos hldX hrb7 ho7 hmake hmk0 hbl7 hmk64
            go_wp2_with fail
            refine (seal_Make mk HMK7.out A7 m7 c7 body7 w7 HR7.out (by omega)).mono ?_
            rw [HM7.out]
            rintro e w8 ⟨l8, e8, rfl, hl8, hb8, ⟨hs8, rfl⟩ | ⟨hno, -⟩⟩
            · injection hs8 with hs8
              subst hs8
              have hld1 := run_ldSec (w := w8.alloc (.cells (bv ls).toArray 27)) (range_alloc w8 (bv ls) _ _) HLS.out
              have hld2 := run_ldSec ((HS7.out.below hb8).below (below_alloc w8 (.cells (bv ls).toArray 27))).range HLS.out
              have heq := eq37 (w8.alloc (.cells (bv ls).toArray 27)) ls ls HLS.out HLS.out
              rw [decide_eq_true rfl] at heq
              have HB8 := Lib.hid (balloc (bthen HB7.out hb8) (.cells (bv ls).toArray 27))
              clear hb8 hl8 hm7
              go_wp2_with (refine st37 rfl _ _ rfl _ _ rfl rfl ls rfl HLS.out rfl ?_)
              go_ret
              exact ⟨rfl, HB8.out⟩
            · cases hno
          · rw [hos] at hno; cases hno
      · rw [← hs3, hop] at hno; cases hno
    · rw [hmm] at hs3; cases hs3
set_option maxRecDepth 100000 in
theorem sealBack_walk {H : Type} {enc : TypeId × Value → H} {W : World} {base : Nat} {v0 v1 v2 : Value} {d0 d1 d2 : DataW H} {p0 p1 p2 : List MemPlace}
    (o0 : Value.okWide Try.prog W .any base 22 v0) (r0 : DataW.Trod enc Try.prog W 0 (fun _ => true) true 22 v0 d0 p0) (_z0 : ∀ n ∈ d0.weights Try.prog 22, n ≤ reachBytes)
    (o1 : Value.okWide Try.prog W .any base 23 v1) (r1 : DataW.Trod enc Try.prog W 0 (fun _ => true) true 23 v1 d1 p1) (z1 : ∀ n ∈ d1.weights Try.prog 23, n ≤ reachBytes)
    (o2 : Value.okWide Try.prog W .any base 27 v2) (r2 : DataW.Trod enc Try.prog W 0 (fun _ => true) true 27 v2 d2 p2) (_z2 : ∀ n ∈ d2.weights Try.prog 27, n ≤ reachBytes) :
    Calls Try.prog 6 #[v0, v1, v2] W fun e w' => e = .returned (.bool true) ∧ Below W.heap.size W w' := by
  obtain ⟨mark, rfl, hm⟩ := open_u64 Try.underlying22 o0 r0
  obtain ⟨A, n, c, bs, rfl, hr, hn⟩ := open_bytes Try.underlying23 Try.underlying5 (by kernel_rfl) (by kernel_rfl) o1 r1 z1
  obtain ⟨ls, rfl, hls⟩ := open_sector o2 r2
  exact sealBack_main mark hm A n c bs ls W hr hn hls
end Go.Proofs.Ytmpeidgmicammaa
