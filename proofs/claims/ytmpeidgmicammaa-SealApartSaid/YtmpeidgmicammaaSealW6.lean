/- The law's example of seals; what is sealed is opened. -/
import Derived.Test.YtmpeidgmicammaaSealW3
import Derived.Lib.SlBytesConst
namespace Go.Proofs.Ytmpeidgmicammaa
open Go.RowKit
attribute [local go_sem ↓] loadAt37 build37

/-- What is sealed is opened. -/
theorem open_seal (mark : Nat) (body : List UInt8) (hm : mark < 18446744073709551616) (h0 : mark ≠ 0) (hb : body.length ≤ 106) : openM (sealL mark body) = some (mark, body) := by
  have e : sealL mark body = be mark 8 ++ (be body.length 2 ++ (body ++ (List.replicate (106 - body.length) 0 ++ (be (sumL mark body) 4 ++ be mark 8)))) := by simp [sealL, preL]
  have t8 : (sealL mark body).take 8 = be mark 8 := by rw [e, List.take_append_of_le_length (by rw [be_length]; omega), List.take_of_length_le (by rw [be_length]; omega)]
  have d8 : (sealL mark body).drop 8 = be body.length 2 ++ (body ++ (List.replicate (106 - body.length) 0 ++ (be (sumL mark body) 4 ++ be mark 8))) := by
    rw [e, List.drop_append_of_le_length (by rw [be_length]; omega), List.drop_of_length_le (by rw [be_length]; omega), List.nil_append]
  have t2 : ((sealL mark body).drop 8).take 2 = be body.length 2 := by rw [d8, List.take_append_of_le_length (by rw [be_length]; omega), List.take_of_length_le (by rw [be_length]; omega)]
  have d10 : (sealL mark body).drop 10 = body ++ (List.replicate (106 - body.length) 0 ++ (be (sumL mark body) 4 ++ be mark 8)) := by
    rw [show (10 : Nat) = 8 + 2 from rfl, ← List.drop_drop, d8, List.drop_append_of_le_length (by rw [be_length]; omega), List.drop_of_length_le (by rw [be_length]; omega), List.nil_append]
  have n8 : numOf (be mark 8) = mark := numOf_be 8 mark (by omega)
  have n2 : numOf (be body.length 2) = body.length := numOf_be 2 _ (by omega)
  unfold openM
  rw [t2, n2, if_neg (by omega), t8, n8, d10, List.take_left]
  have hm2 : makeM mark body = some (sealL mark body) := by unfold makeM; rw [if_neg (by omega)]
  rw [hm2, if_pos rfl]
/-- What opens is its own seal. -/
theorem seal_open {l : List UInt8} {mark : Nat} {body : List UInt8} (h : openM l = some (mark, body)) : makeM mark body = some l ∧ mark ≠ 0 ∧ body.length ≤ 106 := by
  unfold openM at h
  split at h
  · cases h
  · split at h
    · rename_i h1 h2
      injection h with h
      injection h with hm hb
      rw [hm, hb] at h2
      refine ⟨h2, ?_⟩
      unfold makeM at h2
      split at h2
      · cases h2
      · omega
    · cases h
theorem open_zeros : openM zsec = none := by
  cases h : openM zsec with
  | none => rfl
  | some mb =>
    exfalso
    obtain ⟨mark, body⟩ := mb
    obtain ⟨_, h0, _⟩ := seal_open h
    unfold openM at h
    split at h
    · cases h
    · split at h
      · injection h with h
        injection h with hm _
        exact h0 (hm.symm.trans (by decide))
      · cases h
theorem rs_nil (w : World) : RB w none 0 0 [] := RB.nil w
theorem alive7 : at8 (sealL 7 [104, 105]) 7 = 7 := by decide +kernel
theorem alive9 : at8 (sealL 7 [104, 105]) 9 = 2 := by decide +kernel
theorem alive10 : at8 (sealL 7 [104, 105]) 10 = 104 := by decide +kernel
theorem alive127 : at8 (sealL 7 [104, 105]) 127 = 7 := by decide +kernel
set_option maxRecDepth 20000 in
set_option maxHeartbeats 3200000 in
theorem sealAlive_true (w : World) : Calls Try.prog 11 #[] w fun e w' => e = .returned (.bool true) ∧ Below w.heap.size w w' := by
  have kc := fun (w : World) (C : Array Value) (n c : Nat) => Lib.run_convert_bytes_const (P := Try.prog) w 23 5 C n c Try.underlying23 Try.underlying5
  go_enter Try.func11, Try.ntmps11
  go_wp2_with fail
  have hrb := rb_new w [104, 105] 5 (2, 3) (by decide)
  have hb1 := below_alloc w (.cells (bv [104, 105]).toArray 5 (2, 3))
  have HB1 := Lib.hid hb1
  refine (seal_Make 7 (by omega) _ _ _ _ _ hrb (by simp)).mono ?_
  clear hrb hb1
  have hmk : makeM 7 [104, 105] = some (sealL 7 [104, 105]) := by unfold makeM; rw [if_neg (by simp)]
  rw [hmk]
  rintro e w2 ⟨l, ev, rfl, hl, hb2, ⟨hs, rfl⟩ | ⟨hno, -⟩⟩
  · injection hs with hs
    have HL := Lib.hid hl; have HB2 := Lib.hid (bthen HB1.out hb2)
    have HO : Hid (openM l = some (7, [104, 105])) := Lib.hid (by rw [← hs]; exact open_seal 7 [104, 105] (by omega) (by omega) (by simp))
    have h7 : at8 l 7 = 7 := by rw [← hs]; exact alive7
    have h9 : at8 l 9 = 2 := by rw [← hs]; exact alive9
    have h10 : at8 l 10 = 104 := by rw [← hs]; exact alive10
    have h127 : at8 l 127 = 7 := by rw [← hs]; exact alive127
    have H7 := Lib.hid h7; have H9 := Lib.hid h9; have H10 := Lib.hid h10; have H127 := Lib.hid h127
    clear hs hmk hl hb2 h7 h9 h10 h127
    have hld := run_ldSec (w := w2.alloc (.cells (bv l).toArray 27)) (range_alloc w2 (bv l) _ _) HL.out
    go_wp2_with (refine st37 rfl _ _ rfl _ _ rfl rfl l rfl HL.out rfl ?_)
    refine (seal_Open l HL.out _).mono ?_
    rw [HO.out]
    rintro e w3 ⟨mk, A, m, c, b, rfl, hb3, ⟨body, ho, rfl, hrb3⟩ | ⟨hno, -⟩⟩
    · injection ho with ho
      injection ho with hm hbo
      subst hm hbo
      have hm2 : m = 2 := hrb3.1.symm
      subst hm2
      have hsa := (SecAt.new w2 l HL.out).below hb3
      have hc7 := hsa.cell 7 (by omega)
      have hc9 := hsa.cell 9 (by omega)
      have hc10 := hsa.cell 10 (by omega)
      have hc127 := hsa.cell 127 (by omega)
      rw [H7.out] at hc7
      rw [H9.out] at hc9
      rw [H10.out] at hc10
      rw [H127.out] at hc127
      have hs1 := hrb3.string (P := Try.prog) (src := 23) (dst := 9) Try.underlying23 Try.underlying5 Try.underlying9
      have hq1 : ((strOf [104, 105]).toList == [104, 105]) = true := by rw [strOf_toList]; rfl
      have HB3 := Lib.hid (bthen (balloc HB2.out (.cells (bv l).toArray 27)) hb3)
      clear hsa hb3 hrb3 hld
      go_wp2_with fail
      go_ret
      exact ⟨rfl, HB3.out⟩
    · cases hno
  · cases hno
end Go.Proofs.Ytmpeidgmicammaa
