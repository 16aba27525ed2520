/- The one ahead or the one behind: the plain law. -/
import Derived.Test.YtanibabfdpgbbaaSuperW5
namespace Go.Proofs.Ytanibabfdpgbbaa
open Go.RowKit

theorem be_inj8 {m m' : Nat} (h : m < 256 ^ 8) (h' : m' < 256 ^ 8) (e : be m 8 = be m' 8) : m = m' := by
  rw [← numOf_be 8 m h, ← numOf_be 8 m' h', e]
theorem seal_head (m : Nat) (b : List UInt8) : (sealL m b).take 8 = be m 8 := by
  have e : sealL m b = be m 8 ++ (be b.length 2 ++ (b ++ (List.replicate (106 - b.length) 0 ++ (be (sumL m b) 4 ++ be m 8)))) := by simp [sealL, preL]
  rw [e, List.take_append_of_le_length (by rw [be_length]; omega), List.take_of_length_le (by rw [be_length]; omega)]
theorem seal_tail (m : Nat) (b : List UInt8) (hb : b.length ≤ 106) : (sealL m b).drop 120 = be m 8 := by
  have e : sealL m b = (preL m b ++ be (sumL m b) 4) ++ be m 8 := by simp [sealL]
  have hl : (preL m b ++ be (sumL m b) 4).length = 120 := by rw [List.length_append, preL_length hb, be_length]
  rw [e, ← hl, List.drop_left]
/-- What opens begins and ends with its mark. -/
theorem open_ends {l : List UInt8} {mk : Nat} {body : List UInt8} (h : openM l = some (mk, body)) : l.take 8 = be mk 8 ∧ l.drop 120 = be mk 8 ∧ mk < 256 ^ 8 := by
  obtain ⟨hm, h0, hb⟩ := seal_open h
  have hl : l = sealL mk body := by
    unfold makeM at hm
    split at hm
    · cases hm
    · injection hm with hm
      exact hm.symm
  have hmk : mk < 256 ^ 8 := by
    unfold openM at h
    split at h
    · cases h
    · split at h
      · injection h with h
        injection h with h _
        rw [← h]
        exact numOf_lt _ 8
      · cases h
  rw [hl]
  exact ⟨seal_head _ _, seal_tail _ _ hb, hmk⟩
theorem head_open {x : List UInt8} {k : Nat} (h : (headM x k).2 = true) : ∃ body, openM x = some ((headM x k).1.gen, body) := by
  unfold headM at h ⊢
  cases ho : openM x with
  | none => rw [ho] at h; cases h
  | some gb =>
    obtain ⟨gen, body⟩ := gb
    rw [ho] at h
    simp only at h ⊢
    cases hu : unpackM superSh body with
    | none => rw [hu] at h; cases h
    | some vs =>
      rw [hu] at h
      simp only at h ⊢
      by_cases hk : gen % 2 = k
      · rw [if_pos hk]
        exact ⟨body, rfl⟩
      · rw [if_neg hk] at h
        cases h
/-- A sector that will be written with the mark g: what it holds counts less than the one ahead of g, or nothing. -/
structure Side (x : List UInt8) (g : Nat) : Prop where
  len : x.length = 128
  side : (∃ mo, mo + 1 < g ∧ x.drop 120 = be mo 8) ∨ (x.take 8 = be g 8 ∧ x.drop 120 ≠ be g 8)
theorem Side.less {x : List UInt8} {g k : Nat} (h : Side x g) (hg : g < 256 ^ 8) (hk : (headM x k).2 = true) : (headM x k).1.gen + 1 < g := by
  obtain ⟨body, ho⟩ := head_open hk
  obtain ⟨h1, h2, h3⟩ := open_ends ho
  rcases h.side with ⟨mo, hmo, ht⟩ | ⟨hh, ht⟩
  · rw [ht] at h2
    have := be_inj8 (by omega) h3 h2
    omega
  · rw [hh] at h1
    have := be_inj8 hg h3 h1
    rw [← this] at h2
    exact absurd h2 ht
theorem Side.torn {x : List UInt8} {g : Nat} (h : Side x g) (body : List UInt8) (hb : body.length ≤ 106) (k : Nat) (hk : k ≤ 128) :
    (sealL g body).take k ++ x.drop k = sealL g body ∨ Side ((sealL g body).take k ++ x.drop k) g := by
  have hl := sealL_length (mark := g) hb
  have hx := h.len
  have hlen : ((sealL g body).take k ++ x.drop k).length = 128 := by simp [hl, hx]; omega
  have hhead := seal_head g body
  by_cases h120 : k ≤ 120
  · right
    refine ⟨hlen, ?_⟩
    have d120 : ((sealL g body).take k ++ x.drop k).drop 120 = x.drop 120 := by
      rw [List.drop_append, List.drop_of_length_le (by simp; omega), List.nil_append, List.drop_drop]
      congr 1
      simp [hl]
      omega
    rw [d120]
    rcases h.side with ⟨mo, hmo, ht⟩ | ⟨hh, ht⟩
    · exact .inl ⟨mo, hmo, ht⟩
    · refine .inr ⟨?_, ht⟩
      by_cases h8 : k ≤ 8
      · have e1 : (sealL g body).take k = (be g 8).take k := by rw [← hhead, List.take_take]; congr 1; omega
        have e2 : (x.drop k).take (8 - k) = (be g 8).drop k := by rw [← hh, List.drop_take]
        rw [List.take_append, List.take_of_length_le (by simp; omega), List.length_take, hl, Nat.min_eq_left (by omega), e1, e2, List.take_append_drop]
      · rw [List.take_append_of_le_length (by simp; omega), List.take_take, Nat.min_eq_left (by omega), hhead]
  · have hh : ((sealL g body).take k ++ x.drop k).take 8 = be g 8 := by
      rw [List.take_append_of_le_length (by simp; omega), List.take_take, Nat.min_eq_left (by omega), hhead]
    by_cases ht : ((sealL g body).take k ++ x.drop k).drop 120 = be g 8
    · left
      have t120 : ((sealL g body).take k ++ x.drop k).take 120 = (sealL g body).take 120 := by
        rw [List.take_append_of_le_length (by simp; omega), List.take_take, Nat.min_eq_left (by omega)]
      rw [← List.take_append_drop 120 ((sealL g body).take k ++ x.drop k), t120, ht, ← seal_tail g body hb, List.take_append_drop]
    · exact .inr ⟨hlen, .inr ⟨hh, ht⟩⟩
/-- Where the greatest state lies in one sector, and what is in the other counts less, it counts. -/
theorem read_one (rd : Nat → List UInt8) (s : SD) (n : Nat) (hn : n < 2) (hg : 1 ≤ s.gen) (hs : headM (rd n) n = (s, true)) (ho : ∀ m, m < 2 → m ≠ n → (headM (rd m) m).2 = true → (headM (rd m) m).1.gen < s.gen) : readTo rd 2 = (s, true) := by
  have h2 : readTo rd 2 = if (headM (rd 1) 1).2 = true ∧ (readTo rd 1).1.gen ≤ (headM (rd 1) 1).1.gen then ((headM (rd 1) 1).1, true) else readTo rd 1 := rfl
  have h1 : readTo rd 1 = if (headM (rd 0) 0).2 = true ∧ (0 : Nat) ≤ (headM (rd 0) 0).1.gen then ((headM (rd 0) 0).1, true) else (SD.z, false) := rfl
  match n, hn with
  | 0, _ =>
    have e1 : readTo rd 1 = (s, true) := by rw [h1, hs, if_pos ⟨rfl, Nat.zero_le _⟩]
    rw [h2, e1]
    by_cases hc : (headM (rd 1) 1).2 = true ∧ s.gen ≤ (headM (rd 1) 1).1.gen
    · have := ho 1 (by omega) (by omega) hc.1
      omega
    · rw [if_neg hc]
  | 1, _ =>
    rw [h2, hs]
    have hlt : (readTo rd 1).1.gen < s.gen := by
      rw [h1]
      by_cases hc : (headM (rd 0) 0).2 = true ∧ (0 : Nat) ≤ (headM (rd 0) 0).1.gen
      · rw [if_pos hc]
        exact ho 0 (by omega) (by omega) hc.1
      · rw [if_neg hc]
        show 0 < s.gen
        omega
    rw [if_pos ⟨rfl, Nat.le_of_lt hlt⟩]
end Go.Proofs.Ytanibabfdpgbbaa
