/- What is sealed is opened; no program in sight. -/
import Derived.Test.YtanibabfdpgbbaaSealM
namespace Go.Proofs.Ytanibabfdpgbbaa
open Go.RowKit

/-- What is sealed is opened. -/
theorem open_seal (mark : Nat) (body : List UInt8) (hm : mark < 18446744073709551616) (h0 : mark ≠ 0) (hb : body.length ≤ 106) : openM (sealL mark body) = some (mark, body) := by
  have e : sealL mark body = be mark 8 ++ (be body.length 2 ++ (body ++ (List.replicate (106 - body.length) 0 ++ (be (sumL mark body) 4 ++ be mark 8)))) := by simp [sealL, preL]
  have t8 : (sealL mark body).take 8 = be mark 8 := by rw [e, List.take_append_of_le_length (by rw [be_length]; omega), List.take_of_length_le (by rw [be_length]; omega)]
  have d8 : (sealL mark body).drop 8 = be body.length 2 ++ (body ++ (List.replicate (106 - body.length) 0 ++ (be (sumL mark body) 4 ++ be mark 8))) := by
    rw [e, List.drop_append_of_le_length (by rw [be_length]; omega), List.drop_of_length_le (by rw [be_length]; omega), List.nil_append]
  have t2 : ((sealL mark body).drop 8).take 2 = be body.length 2 := by rw [d8, List.take_append_of_le_length (by rw [be_length]; omega), List.take_of_length_le (by rw [be_length]; omega)]
  have d10 : (sealL mark body).drop 10 = body ++ (List.replicate (106 - body.length) 0 ++ (be (sumL mark body) 4 ++ be mark 8)) := by
    rw [show (10 : Nat) = 8 + 2 from rfl, ← List.drop_drop, d8, List.drop_append_of_le_length (by rw [be_length]; omega), List.drop_of_length_le (by rw [be_length]; omega), List.nil_append]
  have n8 : numOf (be mark 8) = mark := numOf_be 8 mark (by omega)
  have n2 : numOf (be body.length 2) = body.length := numOf_be 2 _ (by omega)
  unfold openM
  rw [t2, n2, if_neg (by omega), t8, n8, d10, List.take_left]
  have hm2 : makeM mark body = some (sealL mark body) := by unfold makeM; rw [if_neg (by omega)]
  rw [hm2, if_pos rfl]
/-- What opens is its own seal. -/
theorem seal_open {l : List UInt8} {mark : Nat} {body : List UInt8} (h : openM l = some (mark, body)) : makeM mark body = some l ∧ mark ≠ 0 ∧ body.length ≤ 106 := by
  unfold openM at h
  split at h
  · cases h
  · split at h
    · rename_i h1 h2
      injection h with h
      injection h with hm hb
      rw [hm, hb] at h2
      refine ⟨h2, ?_⟩
      unfold makeM at h2
      split at h2
      · cases h2
      · omega
    · cases h
theorem open_zeros : openM zsec = none := by
  cases h : openM zsec with
  | none => rfl
  | some mb =>
    exfalso
    obtain ⟨mark, body⟩ := mb
    obtain ⟨_, h0, _⟩ := seal_open h
    unfold openM at h
    split at h
    · cases h
    · split at h
      · injection h with h
        injection h with hm _
        exact h0 (hm.symm.trans (by decide))
      · cases h
end Go.Proofs.Ytanibabfdpgbbaa
