/- What Stable and Read of a disk compute. -/
import Derived.Test.YtoghmakbdhepfaaDiskW1
import Derived.Test.YtoghmakbdhepfaaSec
namespace Go.Proofs.Ytoghmakbdhepfaa
open Go.RowKit

section
variable {w : World} {base p s : Nat} {v : Value} {d : Dk}
set_option maxRecDepth 20000 in
set_option maxHeartbeats 400000 in
theorem disk_Stable_yes (h : DiskAt w base p s v d) (k : Nat) (hk : k < d.stable.length) :
    Calls Try.prog 16 #[.pointer (some ⟨p, 0, none⟩), .int .i64 k] w fun e w' => e = .returned (secV (secAt d.stable k)) ∧ Below w.heap.size w w' := by
  have hsec := h.sec k hk
  have hw := h.swid k hk
  have c0 := (h.below (below_alloc w (.cells Try.zeroCells28 28))).c0
  have H1 := Lib.hid (h.below (below_alloc w (.cells Try.zeroCells28 28)))
  have HS := Lib.hid (range_old hsec (.cells Try.zeroCells28 28))
  have HW := Lib.hid hw
  have hk0 : (0 : Int) ≤ (k : Int) := Int.natCast_nonneg _
  have hk1 : (k : Int) < (d.stable.length : Int) := by omega
  clear h hsec hw
  go_enter Try.func16, Try.ntmps16
  go_wp2_with fail
  refine (disk_there_yes H1.out k hk).mono ?_
  rintro e w1 ⟨rfl, rfl⟩
  go_wp2_with (first | (refine ld37 rfl _ rfl s (k * 128) rfl (secAt d.stable k) HS.out HW.out ?_) | (refine st37 rfl _ _ rfl _ _ rfl rfl (secAt d.stable k) rfl HW.out rfl ?_))
  exact bodyPost_ret (ret37 Try.results16 _ w (secAt d.stable k) HW.out _ rfl rfl) rfl ⟨rfl, below_alloc w _⟩
set_option maxRecDepth 20000 in
set_option maxHeartbeats 400000 in
theorem disk_Stable_no (h : DiskAt w base p s v d) (i : Int) (hi : i < 0 ∨ (d.stable.length : Int) ≤ i) :
    Calls Try.prog 16 #[.pointer (some ⟨p, 0, none⟩), .int .i64 i] w fun e w' => e = .returned (secV zsec) ∧ Below w.heap.size w w' := by
  have H1 := Lib.hid (h.below (below_alloc w (.cells Try.zeroCells28 28)))
  have HI := Lib.hid hi
  clear h hi
  go_enter Try.func16, Try.ntmps16
  go_wp2_with fail
  refine (disk_there_no H1.out i HI.out).mono ?_
  rintro e w1 ⟨rfl, rfl⟩
  go_wp2_with (first | (refine st37 rfl _ _ rfl _ _ rfl rfl zsec rfl zsec_length rfl ?_))
  exact bodyPost_ret (ret37 Try.results16 _ w zsec zsec_length _ rfl rfl) rfl ⟨rfl, below_alloc w _⟩
set_option maxRecDepth 20000 in
set_option maxHeartbeats 400000 in
theorem disk_Read_no (h : DiskAt w base p s v d) (i : Int) (hi : i < 0 ∨ (d.stable.length : Int) ≤ i) :
    Calls Try.prog 13 #[.pointer (some ⟨p, 0, none⟩), .int .i64 i] w fun e w' => e = .returned (.tuple #[secV zsec, .int .i64 41]) ∧ Below w.heap.size w w' := by
  have H1 := Lib.hid (h.below (below_alloc w (.cells Try.zeroCells28 28)))
  have HI := Lib.hid hi
  clear h hi
  go_enter Try.func13, Try.ntmps13
  go_wp2_with fail
  refine (disk_there_no H1.out i HI.out).mono ?_
  rintro e w1 ⟨rfl, rfl⟩
  go_wp2_with (first | (refine st37 rfl _ _ rfl _ _ rfl rfl zsec rfl zsec_length rfl ?_))
  exact bodyPost_ret (ret37_tmp Try.results13 _ w zsec zsec_length _ _ rfl rfl rfl) rfl ⟨rfl, below_alloc w _⟩
set_option maxRecDepth 20000 in
set_option maxHeartbeats 800000 in
theorem disk_Read_yes (h : DiskAt w base p s v d) (k : Nat) (hk : k < d.stable.length) (hpl : d.pend.length ≤ 1000000) :
    Calls Try.prog 13 #[.pointer (some ⟨p, 0, none⟩), .int .i64 k] w fun e w' => e = .returned (.tuple #[secV (d.read k), .int .i64 0]) ∧ Below w.heap.size w w' := by
  obtain ⟨A, c, rfl⟩ := own_form h.pen
  have hsec := h.sec k hk
  have hw := h.swid k hk
  have h1 := h.below (below_alloc w (.cells Try.zeroCells28 28))
  have c0 := h1.c0
  have c1 := h1.c1
  have H1 := Lib.hid h1
  have HS := Lib.hid (range_old hsec (.cells Try.zeroCells28 28))
  have HW := Lib.hid hw
  have hk0 : (0 : Int) ≤ (k : Int) := Int.natCast_nonneg _
  have hk1 : (k : Int) < (d.stable.length : Int) := by omega
  clear h hsec hw h1
  go_enter Try.func13, Try.ntmps13
  go_wp2_with fail
  refine (disk_there_yes H1.out k hk).mono ?_
  rintro e w1 ⟨rfl, rfl⟩
  go_wp2_with fail
  go_loop [6] (fun i => ∃ m : Nat, m ≤ d.pend.length ∧ i = .int .i64 ((m : Int) - 1) ∧ Hid (∀ j, m ≤ j → j < d.pend.length → (penAt d.pend j).1 ≠ k)) (fun i => (intOf i + 1).toNat)
  case atStart => exact ⟨d.pend.length, Nat.le_refl _, rfl, Lib.hid fun j h1 h2 => by omega⟩
  case round =>
    obtain ⟨m, hm, rfl, HN⟩ := hrel
    cases m with
    | zero =>
      go_wp2_with (first | (refine ld37 rfl _ rfl s (k * 128) rfl (secAt d.stable k) HS.out HW.out ?_) | (refine st37 rfl _ _ rfl _ _ rfl rfl (secAt d.stable k) rfl HW.out rfl ?_))
      have e : d.read k = secAt d.stable k := lastW_none _ _ _ fun x hx => by
        obtain ⟨i, hi, rfl⟩ := List.mem_iff_getElem.1 hx
        have := HN.out i (by omega) hi
        rw [penAt, List.getD_eq_getElem?_getD, List.getElem?_eq_getElem hi] at this
        exact this
      rw [e]
      exact bodyPost_ret (ret37_tmp Try.results13 _ w (secAt d.stable k) HW.out _ _ rfl rfl rfl) rfl ⟨rfl, below_alloc w _⟩
    | succ m =>
      have e : (((m + 1 : Nat) : Int) - 1) = (m : Int) := by omega
      rw [e]
      clear e
      obtain ⟨g, rfl, hg, _, hr⟩ := H1.out.pcell m (by omega)
      obtain ⟨hcell, hr1⟩ := range_head hr
      have HR := Lib.hid hr1
      have HP := Lib.hid (H1.out.pin' m (by omega))
      have hm0 : (0 : Int) ≤ (m : Int) := Int.natCast_nonneg _
      have hm1 : (m : Int) < (d.pend.length : Int) := by omega
      clear hr hr1
      by_cases hq : (penAt d.pend m).1 = k
      · have hb : (((penAt d.pend m).1 : Int) == (k : Int)) = true := by rw [beq_iff_eq]; omega
        have HQ := Lib.hid hq
        clear hq
        go_wp2_with (first | (refine ld37 rfl _ rfl g (m * 129 + 1) rfl (penAt d.pend m).2 HR.out HP.out.2 ?_) | (refine st37 rfl _ _ rfl _ _ rfl rfl (penAt d.pend m).2 rfl HP.out.2 rfl ?_))
        have e : d.read k = (penAt d.pend m).2 := lastW_at _ _ m _ (by omega) HQ.out fun i h1 h2 => HN.out i (by omega) h2
        rw [e]
        exact bodyPost_ret (ret37_tmp Try.results13 _ w (penAt d.pend m).2 HP.out.2 _ _ rfl rfl rfl) rfl ⟨rfl, below_alloc w _⟩
      · have hb : (((penAt d.pend m).1 : Int) == (k : Int)) = false := by rw [beq_eq_false_iff_ne]; omega
        have HQ := Lib.hid hq
        clear hq
        go_wp2_with fail
        go_round
        case rel => exact ⟨m, by omega, rfl, Lib.hid fun j h1 h2 => by
          by_cases hj : j = m
          · subst hj; exact HQ.out
          · exact HN.out j (by omega) h2⟩
        case measure => simp [intOf]
end
end Go.Proofs.Ytoghmakbdhepfaa
