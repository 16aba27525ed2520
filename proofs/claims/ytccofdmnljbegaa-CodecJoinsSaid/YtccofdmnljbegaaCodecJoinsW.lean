/- The walk of CodecJoins. -/
import Derived.Test.YtccofdmnljbegaaCodecW5
import Derived.Test.YtccofdmnljbegaaOpenS
import Derived.Deep.RegionHeld3
namespace Go.Proofs.Ytccofdmnljbegaa
open Go.RowKit

theorem str_first (xs : List UInt8) (k : Nat) : (strOf xs).extract 0 k = strOf (xs.take k) := by
  apply ByteArray.ext
  simp [strOf, ByteArray.data_extract]
theorem str_rest (xs : List UInt8) (k : Nat) : (strOf xs).extract k xs.length = strOf (xs.drop k) := by
  apply ByteArray.ext
  simp [strOf, ByteArray.data_extract]
  exact List.take_of_length_le (by simp)
theorem str_add (xs ys : List UInt8) : strOf xs ++ strOf ys = strOf (xs ++ ys) := by
  apply ByteArray.ext
  simp [strOf]
theorem RFields.first {w : World} {A : Option Addr} {n c : Nat} {l : List FieldD} (h : RFields w A n c l) (k : Nat) (hk : k ≤ n) : RFields w A k c (l.take k) := by
  obtain ⟨h1, h2, h3, h4⟩ := h
  refine ⟨by simp; omega, by omega, h3, fun hp => ?_⟩
  obtain ⟨b, o, e, hc⟩ := h4 (by omega)
  refine ⟨b, o, e, fun j hj => ?_⟩
  have e : fieldAt (l.take k) j = fieldAt l j := by simp [fieldAt, List.getD_eq_getElem?_getD, hj]
  rw [e]
  exact hc j (by omega)
theorem RFields.rest {w : World} {A : Option Addr} {n c : Nat} {l : List FieldD} (h : RFields w A n c l) (k : Nat) (hk : k ≤ n) : RFields w (if c = k then A else A.map (·.add (k * 2))) (n - k) (c - k) (l.drop k) := by
  obtain ⟨h1, h2, h3, h4⟩ := h
  refine ⟨by simp; omega, by omega, by omega, fun hp => ?_⟩
  obtain ⟨b, o, rfl, hc⟩ := h4 (by omega)
  refine ⟨b, o + k * 2, ?_, fun j hj => ?_⟩
  · rw [if_neg (by omega), Option.map_some, add_none]
  · have e : fieldAt (l.drop k) j = fieldAt l (k + j) := by simp [fieldAt, List.getD_eq_getElem?_getD]
    have e2 : o + k * 2 + j * 2 = o + (k + j) * 2 := by omega
    rw [e, e2]
    exact hc (k + j) (by omega)
/-- Pack's answer, in one form. -/
theorem codec_Pack_one (sh : List UInt8) (A : Option Addr) (n c : Nat) (l : List FieldD) (w : World) (hl : RFields w A n c l) :
    Calls Try.prog 9 #[.string (strOf sh), .slice A n c] w fun e w' => ∃ A1 m c1 ev, e = .returned (.tuple #[.slice A1 m c1, .int .i64 ev]) ∧ Below w.heap.size w w' ∧ ((∃ o, packM sh l = some o ∧ ev = 0 ∧ m = o.length ∧ RB w' A1 m c1 o) ∨ (packM sh l = none ∧ ev = 21)) := by
  refine (codec_Pack sh A n c l w hl).mono ?_
  rintro e w' ⟨hb, ⟨v, o, ho, rfl, hown⟩ | ⟨hno, rfl⟩⟩
  · obtain ⟨A1, c1, rfl, hrb⟩ := own_rb hown
    exact ⟨A1, o.length, c1, 0, rfl, hb, .inl ⟨o, ho, rfl, rfl, hrb⟩⟩
  · exact ⟨none, 0, 0, 21, rfl, hb, .inr ⟨hno, rfl⟩⟩
set_option maxRecDepth 20000 in
set_option maxHeartbeats 3200000 in
theorem codecJoins_early (sh : List UInt8) (A : Option Addr) (n c : Nat) (z : Int) (w : World) (h : sh.length ≠ n ∨ (sh.length = n ∧ z < 0) ∨ (sh.length = n ∧ 0 ≤ z ∧ (n : Int) < z)) :
    Calls Try.prog 8 #[.string (strOf sh), .slice A n c, .int .i64 z] w fun e w' => e = .returned (.bool true) ∧ Below w.heap.size w w' := by
  have hsz : (strOf sh).size = sh.length := by simp [strOf, ByteArray.size]
  generalize sh.length = m at *
  have HH := Lib.hid h
  clear h
  go_enter Try.func8, Try.ntmps8
  go_wp2_with fail
  refine (codecAlive_true _).mono ?_
  rintro e w0 ⟨rfl, hb0⟩
  have HB0 := Lib.hid hb0
  clear hb0
  rcases HH.out with h | ⟨h, h2⟩ | ⟨h, h2, h3⟩
  · have hq : ((m : Int) != (n : Int)) = true := by rw [bne_iff_ne]; omega
    go_wp2_with fail
    go_ret
    exact ⟨rfl, HB0.out⟩
  · subst h
    have hq : ((m : Int) != (m : Int)) = false := by simp
    have hd : decide (z < 0) = true := decide_eq_true h2
    go_wp2_with fail
    go_ret
    exact ⟨rfl, HB0.out⟩
  · subst h
    have hq : ((m : Int) != (m : Int)) = false := by simp
    have hd : decide (z < 0) = false := decide_eq_false (by omega)
    have hd2 : decide ((m : Int) < z) = true := decide_eq_true h3
    go_wp2_with fail
    go_ret
    exact ⟨rfl, HB0.out⟩
set_option maxRecDepth 20000 in
set_option maxHeartbeats 3200000 in
theorem codecJoins_main (sh : List UInt8) (A : Option Addr) (n c k : Nat) (l : List FieldD) (w : World) (hl : RFields w A n c l) (hn : n * 32 ≤ 140737488351232) (hlen : sh.length = n) (hk : k ≤ n) :
    Calls Try.prog 8 #[.string (strOf sh), .slice A n c, .int .i64 k] w fun e w' => e = .returned (.bool true) ∧ Below w.heap.size w w' := by
  have HL := Lib.hid hl
  have hnc : n ≤ c := hl.2.1
  have hcm : c ≤ 9223372036854775807 := hl.2.2.1
  have hsz : (strOf sh).size = n := by rw [← hlen]; simp [strOf, ByteArray.size]
  have hx1 := str_first sh k
  have hx2 := str_rest sh k
  rw [hlen] at hx2
  have hq : ((n : Int) != (n : Int)) = false := by simp
  have hk0 : (0 : Int) ≤ (k : Int) := Int.natCast_nonneg _
  have hkn : (k : Int) ≤ (n : Int) := by omega
  have hd2 : decide (n < k) = false := decide_eq_false (by omega)
  have hkc : (k : Int) ≤ (c : Int) := by omega
  have HLEN := Lib.hid hlen
  clear hl hlen
  go_enter Try.func8, Try.ntmps8
  go_wp2_with fail
  refine (codecAlive_true _).mono ?_
  rintro e w0 ⟨rfl, hb0⟩
  have HB0 := Lib.hid hb0
  clear hb0
  go_wp2_with fail
  go_region_held3 (fun _ => True) (first | go_keep | trivial)
    (first
      | (go_at_call 12
         refine (ref02_Copy A k c (l.take k) _ ((HL.out.first k hk).below HB0.out.drew) (by omega)).mono ?_
         rintro e w1 ⟨v, l1, rfl, hof1, hv1, hb1⟩
         obtain ⟨A1, c1, rfl, hrf1⟩ := hof1.read
         have HR1 := Lib.hid hrf1; have HV1 := Lib.hid hv1; have HB1 := Lib.hid (bthen HB0.out.drew hb1)
         have hS : True := trivial
         clear hof1 hv1 hb1 hrf1)
      | (go_at_call 9
         refine (codec_Pack_one (sh.take k) A1 l1.length c1 l1 w1 HR1.out).mono ?_
         rw [packM_vals HV1.out (sh.take k)]
         rintro e w2 ⟨A2, m2, c2, e2, rfl, hb2, hcase⟩
         have HB2 := Lib.hid (bthen HB1.out hb2)
         have HC2 := Lib.hid hcase
         have hS : True := trivial
         clear hb2 hcase))
  have hrest := HL.out.rest k hk
  have HRS := Lib.hid hrest
  clear hrest
  refine (Decidable.em (c = k)).elim (fun hck => ?_) (fun hck => ?_)
  focus
    obtain rfl : n = k := by omega
    subst hck
    rw [if_pos rfl, Nat.sub_self] at HRS
    have HSD : Hid (([] : List UInt8) = sh.drop c) := Lib.hid (List.drop_of_length_le (by rw [HLEN.out]; exact Nat.le_refl _)).symm
    go_wp2_with fail
    go_region_held3 (fun _ => True) (first | go_keep | trivial)
      (first
        | (go_at_call 12
           refine (ref02_Copy A 0 0 (l.drop c) _ (HRS.out.below HB2.out.drew) (by omega)).mono ?_
           rintro e w3 ⟨v, l3, rfl, hof3, hv3, hb3⟩
           obtain ⟨A4, c4, rfl, hrf3⟩ := hof3.read
           have HR3 := Lib.hid hrf3; have HV3 := Lib.hid hv3; have HB3 := Lib.hid (bthen HB2.out.drew hb3); have HB23 : Hid (Below w2.heap.size w2 w3) := Lib.hid (bthen (Below.refl _ w2).drew hb3)
           have hS : True := trivial
           clear hof3 hv3 hb3 hrf3)
        | (go_at_call 9
           refine (codec_Pack_one [] A4 l3.length c4 l3 w3 HR3.out).mono ?_
           rw [packM_vals HV3.out []]
           rintro e w4 ⟨A5, m5, c5, e5, rfl, hb4, hcase⟩
           rw [HSD.out] at hcase
           have HB4 := Lib.hid (bthen HB3.out hb4)
           have HC4 := Lib.hid hcase
           have HC2' : Hid ((∃ o, packM (sh.take c) (l.take c) = some o ∧ e2 = 0 ∧ m2 = o.length ∧ RB w4 A2 m2 c2 o) ∨ (packM (sh.take c) (l.take c) = none ∧ e2 = 21)) := Lib.hid (by
             rcases HC2.out with ⟨o, h1, h2, h3, h4⟩ | h
             · exact .inl ⟨o, h1, h2, h3, h4.below (bthen HB23.out hb4)⟩
             · exact .inr h)
           have hS : True := trivial
           clear hb4 hcase))
  rotate_left
  focus
    have hA : Option.map (fun x => x.add (k * 2)) A = (if c = k then A else A.map (·.add (k * 2))) := by rw [if_neg hck]
    generalize (if c = k then A else A.map (·.add (k * 2))) = A3 at *
    go_wp2_with fail
    go_region_held3 (fun _ => True) (first | go_keep | trivial)
      (first
        | (go_at_call 12
           refine (ref02_Copy A3 (n - k) (c - k) (l.drop k) _ (HRS.out.below HB2.out.drew) (by omega)).mono ?_
           rintro e w3 ⟨v, l3, rfl, hof3, hv3, hb3⟩
           obtain ⟨A4, c4, rfl, hrf3⟩ := hof3.read
           have HR3 := Lib.hid hrf3; have HV3 := Lib.hid hv3; have HB3 := Lib.hid (bthen HB2.out.drew hb3); have HB23 : Hid (Below w2.heap.size w2 w3) := Lib.hid (bthen (Below.refl _ w2).drew hb3)
           have hS : True := trivial
           clear hof3 hv3 hb3 hrf3)
        | (go_at_call 9
           refine (codec_Pack_one (sh.drop k) A4 l3.length c4 l3 w3 HR3.out).mono ?_
           rw [packM_vals HV3.out (sh.drop k)]
           rintro e w4 ⟨A5, m5, c5, e5, rfl, hb4, hcase⟩
           have HB4 := Lib.hid (bthen HB3.out hb4)
           have HC4 := Lib.hid hcase
           have HC2' : Hid ((∃ o, packM (sh.take k) (l.take k) = some o ∧ e2 = 0 ∧ m2 = o.length ∧ RB w4 A2 m2 c2 o) ∨ (packM (sh.take k) (l.take k) = none ∧ e2 = 21)) := Lib.hid (by
             rcases HC2.out with ⟨o, h1, h2, h3, h4⟩ | h
             · exact .inl ⟨o, h1, h2, h3, h4.below (bthen HB23.out hb4)⟩
             · exact .inr h)
           have hS : True := trivial
           clear hb4 hcase))
  rotate_left
  all_goals
    go_wp2_with fail
    refine (ref02_Copy A _ _ l w4 (HL.out.below HB4.out) hn).mono ?_
    rintro e w5 ⟨v, l6, rfl, hof6, hv6, hb5⟩
    obtain ⟨A6, c6, rfl, hrf6⟩ := hof6.read
    have HR6 := Lib.hid hrf6; have HV6 := Lib.hid hv6; have HB5 := Lib.hid (bthen HB4.out hb5); have HB45 := Lib.hid hb5
    clear hof6 hv6 hb5 hrf6
    go_wp2_with fail
    refine (codec_Pack_one sh A6 l6.length c6 l6 w5 HR6.out).mono ?_
    rw [packM_vals HV6.out sh]
    rintro e w6 ⟨A7, m7, c7, e7, rfl, hb6, hcase⟩
    have HB6 := Lib.hid (bthen HB5.out hb6); have HB46 := Lib.hid (bthen HB45.out hb6)
    have HC7 := Lib.hid hcase
    clear hb6 hcase
    have hll : sh.length = l.length := by rw [HLEN.out, HL.out.1]
    have HJN := Lib.hid (join_none hll (by rw [HL.out.1]; exact hk))
    have HLL := Lib.hid HL.out.1
    rcases HC2'.out with ⟨x, hx, rfl, rfl, hrx⟩ | ⟨hx, rfl⟩
    · rcases HC4.out with ⟨y, hy, rfl, rfl, hry⟩ | ⟨hy, rfl⟩
      · by_cases h200 : 200 < l.length
        · have hz := HJN.out (.inr (.inr h200))
          rcases HC7.out with ⟨z, hz', -⟩ | ⟨-, rfl⟩
          · rw [hz] at hz'; cases hz'
          rw [HLL.out] at h200
          have hd3 : (200 : Int) < _ := Int.ofNat_lt.2 h200
          clear hz hll hx hy hrx hry h200
          go_wp2_with fail
          go_ret
          exact ⟨rfl, HB6.out⟩
        · have hz := join_of hll (by rw [HL.out.1]; exact hk) hx hy (by omega)
          rcases HC7.out with ⟨z, hz', rfl, rfl, hrz⟩ | ⟨hz', -⟩
          · rw [hz] at hz'
            injection hz' with hz'
            subst hz'
            rw [HLL.out] at h200
            have hs1 := (hrx.below HB46.out).string (P := Try.prog) (src := 22) (dst := 9) Try.underlying22 Try.underlying5 Try.underlying9
            have hs2 := (hry.below HB46.out).string (P := Try.prog) (src := 22) (dst := 9) Try.underlying22 Try.underlying5 Try.underlying9
            have hs3 := hrz.string (P := Try.prog) (src := 22) (dst := 9) Try.underlying22 Try.underlying5 Try.underlying9
            rw [List.length_append] at hs3
            have hadd := str_add x y
            have hsz3 : ¬ 9223372036854775807 < (strOf x).size + (strOf y).size := by
              have h1 := pack_len hx
              have h2 := pack_len hy
              have e1 : (strOf x).size = x.length := by simp [strOf, ByteArray.size]
              have e2 : (strOf y).size = y.length := by simp [strOf, ByteArray.size]
              omega
            have hq3 := str_eq (x ++ y)
            have hd3 := decide_eq_false (p := (200 : Int) < _) (fun h => h200 (Int.ofNat_lt.1 h))
            clear hz hll hx hy hrx hry hrz h200
            go_wp2_with fail
            go_ret
            exact ⟨rfl, HB6.out⟩
          · rw [hz] at hz'; cases hz'
      · have hz := HJN.out (.inr (.inl hy))
        rcases HC7.out with ⟨z, hz', -⟩ | ⟨-, rfl⟩
        · rw [hz] at hz'; cases hz'
        clear hz hll hx hy hrx
        go_wp2_with fail
        go_ret
        exact ⟨rfl, HB6.out⟩
    · have hz := HJN.out (.inl hx)
      rcases HC7.out with ⟨z, hz', -⟩ | ⟨-, rfl⟩
      · rw [hz] at hz'; cases hz'
      clear hz hll hx
      go_wp2_with fail
      go_ret
      exact ⟨rfl, HB6.out⟩
set_option maxRecDepth 100000 in
theorem codecJoins_walk {H : Type} {enc : TypeId × Value → H} {W : World} {base : Nat} {v0 v1 v2 : Value} {d0 d1 d2 : DataW H} {p0 p1 p2 : List MemPlace}
    (o0 : Value.okWide Try.prog W .any base 9 v0) (r0 : DataW.Trod enc Try.prog W 0 (fun _ => true) true 9 v0 d0 p0) (_z0 : ∀ n ∈ d0.weights Try.prog 9, n ≤ reachBytes)
    (o1 : Value.okWide Try.prog W .any base 26 v1) (r1 : DataW.Trod enc Try.prog W 0 (fun _ => true) true 26 v1 d1 p1) (z1 : ∀ n ∈ d1.weights Try.prog 26, n ≤ reachBytes)
    (o2 : Value.okWide Try.prog W .any base 3 v2) (r2 : DataW.Trod enc Try.prog W 0 (fun _ => true) true 3 v2 d2 p2) (_z2 : ∀ n ∈ d2.weights Try.prog 3, n ≤ reachBytes) :
    Calls Try.prog 8 #[v0, v1, v2] W fun e w' => e = .returned (.bool true) ∧ Below W.heap.size W w' := by
  obtain ⟨sh, rfl, _⟩ := open_str Try.underlying9 o0 r0
  obtain ⟨A, n, c, l, rfl, hl, hn⟩ := open_fields o1 r1 z1
  obtain ⟨i, rfl, _, _⟩ := open_i64 Try.underlying3 o2 r2
  by_cases h0 : sh.length = n
  · by_cases h1 : i < 0
    · exact codecJoins_early sh A n c i W (.inr (.inl ⟨h0, h1⟩))
    · by_cases h2 : (n : Int) < i
      · exact codecJoins_early sh A n c i W (.inr (.inr ⟨h0, by omega, h2⟩))
      · obtain ⟨k, rfl⟩ := Int.eq_ofNat_of_zero_le (show 0 ≤ i by omega)
        exact codecJoins_main sh A n c k l W hl hn h0 (by omega)
  · exact codecJoins_early sh A n c i W (.inl h0)
end Go.Proofs.Ytccofdmnljbegaa
