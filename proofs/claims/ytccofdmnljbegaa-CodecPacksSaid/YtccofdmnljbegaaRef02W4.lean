/- The reference's Same. -/
import Derived.Test.YtccofdmnljbegaaOwn
import Derived.BigQuiet
import Derived.Deep.QuietTactic
namespace Go.Proofs.Ytccofdmnljbegaa
open Go.RowKit

theorem vals_eq_take {la lb : List FieldD} (h : la.length = lb.length) (k : Nat) (hk : k < la.length) (he : vals (la.take k) = vals (lb.take k)) (h1 : (fieldAt la k).num = (fieldAt lb k).num) (h2 : (fieldAt la k).bytes = (fieldAt lb k).bytes) : vals (la.take (k + 1)) = vals (lb.take (k + 1)) := by
  unfold vals at *
  rw [List.take_succ_eq_append_getElem hk, List.take_succ_eq_append_getElem (h ▸ hk), List.map_append, List.map_append, he, ← fieldAt_get hk, ← fieldAt_get (h ▸ hk)]
  simp [h1, h2]
theorem vals_at {la lb : List FieldD} (h : vals la = vals lb) (k : Nat) (hk : k < la.length) : (fieldAt la k).num = (fieldAt lb k).num ∧ (fieldAt la k).bytes = (fieldAt lb k).bytes := by
  have hl : la.length = lb.length := by have := congrArg List.length h; simpa [vals] using this
  have h1 : (vals la)[k]? = (vals lb)[k]? := by rw [h]
  rw [fieldAt_get hk, fieldAt_get (hl ▸ hk)]
  simp only [vals, List.getElem?_map, List.getElem?_eq_getElem hk, List.getElem?_eq_getElem (hl ▸ hk), Option.map_some] at h1
  injection h1 with h1
  injection h1 with h1 h2
  exact ⟨h1, h2⟩
set_option maxRecDepth 20000 in
set_option maxHeartbeats 3200000 in
theorem ref02_Same (A B : Option Addr) (n c m d : Nat) (la lb : List FieldD) (w : World) (ha : RFields w A n c la) (hb : RFields w B m d lb) :
    Calls Try.prog 14 #[.slice A n c, .slice B m d] w fun e w' => e = .returned (.bool (decide (vals la = vals lb))) ∧ Below w.heap.size w w' := by
  have HA := Lib.hid ha; have HB := Lib.hid hb
  by_cases hnm : n = m
  · subst hnm
    have hbn : ((n : Int) != (n : Int)) = false := by simp
    have hnm : (n : Int) ≤ 9223372036854775807 := by have h1 := ha.2.1; have h2 := ha.2.2.1; omega
    clear ha hb
    go_enter Try.func14, Try.ntmps14
    go_wp2_with fail
    go_loopw [5, 13] (fun _ i wr => ∃ k, k ≤ n ∧ i = .int .i64 (k : Nat) ∧ Hid (vals (la.take k) = vals (lb.take k)) ∧ Hid (Below w.heap.size w wr)) (fun _ i _ => n - (intOf i).toNat)
    case atStart => exact ⟨0, by omega, rfl, Lib.hid rfl, Lib.hid (Below.refl _ _)⟩
    case round =>
      obtain ⟨k, hk, rfl, HV, HW⟩ := hrel
      by_cases hlt : k < n
      · have hk0 : (0 : Int) ≤ (k : Int) := Int.natCast_nonneg _
        have hk1 : (k : Int) < (n : Int) := by omega
        obtain ⟨b1, o1, rfl, hf1⟩ := (HA.out.below HW.out).2.2.2 (by omega)
        obtain ⟨hr1, hk1'⟩ := hf1 k hlt
        obtain ⟨b2, o2, rfl, hf2⟩ := (HB.out.below HW.out).2.2.2 (by omega)
        obtain ⟨hr2, hk2'⟩ := hf2 k hlt
        have hend : (fieldAt la k).num ≠ (fieldAt lb k).num ∨ (fieldAt la k).bytes ≠ (fieldAt lb k).bytes → decide (vals la = vals lb) = false := fun h => decide_eq_false fun e => by
          obtain ⟨e1, e2⟩ := vals_at e k (by rw [HA.out.1]; exact hlt)
          rcases h with h | h
          · exact h e1
          · exact h e2
        have hnext := vals_eq_take (la := la) (lb := lb) (by rw [HA.out.1, HB.out.1]) k (by rw [HA.out.1]; exact hlt) HV.out
        generalize fieldAt la k = f1 at *
        generalize fieldAt lb k = f2 at *
        obtain ⟨n1, A1, l1, c1, x1⟩ := f1
        obtain ⟨n2, A2, l2, c2, x2⟩ := f2
        have hc10 : wr.cell? ⟨b1, o1 + k * 2, none⟩ = some (.int .u64 n1) := hr1 0 _ rfl
        have hc11 : wr.cell? ⟨b1, o1 + k * 2 + 1, none⟩ = some (.slice A1 l1 c1) := hr1 1 _ rfl
        have hc20 : wr.cell? ⟨b2, o2 + k * 2, none⟩ = some (.int .u64 n2) := hr2 0 _ rfl
        have hc21 : wr.cell? ⟨b2, o2 + k * 2 + 1, none⟩ = some (.slice A2 l2 c2) := hr2 1 _ rfl
        have hs1 := fun q => (hk1'.rb.below (below_drewN (Below.refl _ wr) q)).string (P := Try.prog) (src := 22) (dst := 9) Try.underlying22 Try.underlying5 Try.underlying9
        have hs2 := fun q => (hk2'.rb.below (below_drewN (Below.refl _ wr) q)).string (P := Try.prog) (src := 22) (dst := 9) Try.underlying22 Try.underlying5 Try.underlying9
        have HE := Lib.hid hend; have HN := Lib.hid hnext
        clear hf1 hf2 hr1 hr2 hk1' hk2' hend hnext
        dsimp only at hs1 hs2
        by_cases hn : n1 = n2
        · subst hn
          have hq : ((n1 : Int) != (n1 : Int)) = false := by simp
          by_cases hx : x1 = x2
          · subst hx
            have hq2 := str_eq x1
            have HV1 := Lib.hid (HN.out rfl rfl)
            clear HE HN
            go_wp2
            go_quiet (fail)
            go_wp2
            go_roundw
            case rel => exact ⟨k + 1, by omega, by go_num, HV1, Lib.hid (below_drewN HW.out _)⟩
            case measure => simp [intOf]; omega
          · have hq2 := str_ne hx
            have HE1 := HE.out (.inr hx)
            have HE2 := Lib.hid HE1
            clear HE HN HE1 hx
            go_wp2
            go_quiet (fail)
            go_wp2
            go_ret
            exact ⟨by rw [HE2.out]; rfl, below_drewN HW.out _⟩
        · have hq : ((n1 : Int) != (n2 : Int)) = true := by rw [bne_iff_ne]; omega
          have HE1 := HE.out (.inl hn)
          have HE2 := Lib.hid HE1
          clear HE HN HE1 hn
          go_wp2
          go_quiet (fail)
          go_wp2
          go_ret
          exact ⟨by rw [HE2.out]; rfl, below_drewN HW.out _⟩
      · obtain rfl : k = n := by omega
        have hfin : decide (vals la = vals lb) = true := decide_eq_true (by
          have := HV.out
          rwa [List.take_of_length_le (by rw [HA.out.1]; exact Nat.le_refl _), List.take_of_length_le (by rw [HB.out.1]; exact Nat.le_refl _)] at this)
        have HF := Lib.hid hfin
        clear hfin
        go_wp2_with fail
        go_ret
        exact ⟨by rw [HF.out]; rfl, HW.out⟩
  · have hbn : ((n : Int) != (m : Int)) = true := by rw [bne_iff_ne]; omega
    have hfin : decide (vals la = vals lb) = false := decide_eq_false fun e => hnm (by
      have := congrArg List.length e
      simp only [vals, List.length_map, HA.out.1, HB.out.1] at this
      exact this)
    rw [hfin]
    clear ha hb hfin hnm
    go_enter Try.func14, Try.ntmps14
    go_wp2_with fail
    go_ret
    exact ⟨rfl, Below.refl _ _⟩
end Go.Proofs.Ytccofdmnljbegaa
