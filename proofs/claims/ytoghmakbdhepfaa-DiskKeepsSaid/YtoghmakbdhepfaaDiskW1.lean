/- What the disk's small methods compute: there, power, Len, Dead, Break, Stable. -/
import Derived.Test.YtoghmakbdhepfaaProg
import Derived.Test.YtoghmakbdhepfaaDisk
namespace Go.Proofs.Ytoghmakbdhepfaa
open Go.RowKit

theorem ret_bool {a b : Bool} (h : a = b) : Ending.returned (.bool a) = .returned (.bool b) := by rw [h]
theorem ret_i64 {a b : Int} (h : a = b) : Ending.returned (.int .i64 a) = .returned (.int .i64 b) := by rw [h]

section
variable {w : World} {base p s : Nat} {v : Value} {d : Dk}
set_option maxHeartbeats 400000 in
theorem disk_there_no (h : DiskAt w base p s v d) (i : Int) (hi : i < 0 ∨ (d.stable.length : Int) ≤ i) :
    Calls Try.prog 27 #[.pointer (some ⟨p, 0, none⟩), .int .i64 i] w fun e w' => e = .returned (.bool false) ∧ w = w' := by
  have c0 := h.c0
  clear h
  by_cases h0 : i < 0
  · go_enter Try.func27, Try.ntmps27
    go_wp2
    go_ret
    exact ⟨rfl, rfl⟩
  · have h1 : (d.stable.length : Int) ≤ i := by omega
    clear hi
    go_enter Try.func27, Try.ntmps27
    go_wp2
    go_ret
    exact ⟨ret_bool (by simp [h1]), rfl⟩
set_option maxHeartbeats 400000 in
theorem disk_there_yes (h : DiskAt w base p s v d) (k : Nat) (hk : k < d.stable.length) :
    Calls Try.prog 27 #[.pointer (some ⟨p, 0, none⟩), .int .i64 k] w fun e w' => e = .returned (.bool true) ∧ w = w' := by
  have c0 := h.c0
  clear h
  go_enter Try.func27, Try.ntmps27
  go_wp2
  go_ret
  exact ⟨ret_bool (by first | rfl | simp), rfl⟩

/-- Is there power for one more? -/
def Dk.power (d : Dk) : Dk × Bool := if d.dead = true ∨ d.fuel = 0 then ({ d with dead := true }, false) else ({ d with fuel := if 0 < d.fuel then d.fuel - 1 else d.fuel }, true)
set_option maxHeartbeats 400000 in
theorem disk_power (h : DiskAt w base p s v d) :
    Calls Try.prog 28 #[.pointer (some ⟨p, 0, none⟩)] w fun e w' => e = .returned (.bool d.power.2) ∧ DiskAt w' base p s v d.power.1 ∧ Kp (fun k => k = p) w w' := by
  have c2 := h.c2
  have c3 := h.c3
  have f2 := h.fz 2
  have f3 := h.fz 3
  have hf := h.fu
  have hk : ∀ (a : Addr) (u : Value), a.block = p → Kp (fun k => k = p) w (w.setCell a u) := fun a u ha => (Kp.refl _ w).setCell a u (fun _ => ha)
  have H := Lib.hid h
  clear h
  have HK := Lib.hid hk
  clear hk
  unfold Dk.power
  by_cases hd : d.dead = true
  · rw [if_pos (.inl hd)]
    rw [hd] at c3
    have H3 := Lib.hid (H.out.set3 true)
    clear hd
    go_enter Try.func28, Try.ntmps28
    go_wp2
    go_ret
    exact ⟨rfl, H3.out, HK.out _ _ rfl⟩
  · have hd' : d.dead = false := by simpa using hd
    rw [hd'] at c3
    by_cases h0 : d.fuel = 0
    · rw [if_pos (.inr h0)]
      rw [h0] at c2
      have H3 := Lib.hid (H.out.set3 true)
      clear hd hd' h0 hf
      go_enter Try.func28, Try.ntmps28
      go_wp2
      go_ret
      exact ⟨rfl, H3.out, HK.out _ _ rfl⟩
    · rw [if_neg (by rintro (h | h); exact hd h; exact h0 h)]
      have hne : (d.fuel == 0) = false := beq_eq_false_iff_ne.2 h0
      by_cases h1 : 0 < d.fuel
      · rw [if_pos h1]
        have H2 := Lib.hid (H.out.set2 (d.fuel - 1) ⟨by omega, by omega⟩)
        clear hd hd' h0
        go_enter Try.func28, Try.ntmps28
        go_wp2
        go_ret
        exact ⟨rfl, H2.out, HK.out _ _ rfl⟩
      · rw [if_neg h1]
        clear hd hd' h0
        go_enter Try.func28, Try.ntmps28
        go_wp2
        go_ret
        exact ⟨rfl, H.out, Kp.refl _ _⟩

theorem disk_Len (h : DiskAt w base p s v d) :
    Calls Try.prog 10 #[.pointer (some ⟨p, 0, none⟩)] w fun e w' => e = .returned (.int .i64 (d.stable.length : Int)) ∧ w = w' := by
  have c0 := h.c0
  clear h
  go_enter Try.func10, Try.ntmps10
  go_wp2
  go_ret
  exact ⟨rfl, rfl⟩
theorem disk_Dead (h : DiskAt w base p s v d) :
    Calls Try.prog 17 #[.pointer (some ⟨p, 0, none⟩)] w fun e w' => e = .returned (.bool d.dead) ∧ w = w' := by
  have c3 := h.c3
  clear h
  go_enter Try.func17, Try.ntmps17
  go_wp2
  go_ret
  exact ⟨rfl, rfl⟩
theorem disk_Break (h : DiskAt w base p s v d) (n : Int) (hn : n ≤ 9223372036854775807) :
    Calls Try.prog 14 #[.pointer (some ⟨p, 0, none⟩), .int .i64 n] w fun e w' => e = .returned (.tuple #[]) ∧ DiskAt w' base p s v { d with fuel := max n (-1) } ∧ Kp (fun k => k = p) w w' := by
  have c2 := h.c2
  have f2 := h.fz 2
  have HK : Hid (∀ (a : Addr) (u : Value), a.block = p → Kp (fun k => k = p) w (w.setCell a u)) := Lib.hid fun a u ha => (Kp.refl _ w).setCell a u (fun _ => ha)
  by_cases hlt : -1 < n
  · have H2 := Lib.hid (h.set2 n ⟨by omega, by omega⟩)
    have e1 : max n (-1) = n := by omega
    rw [e1]
    clear h e1
    go_enter Try.func14, Try.ntmps14
    go_wp2
    go_end0
    exact ⟨rfl, H2.out, HK.out _ _ rfl⟩
  · have H2 := Lib.hid (h.set2 (-1) ⟨by omega, by omega⟩)
    have e1 : max n (-1) = -1 := by omega
    rw [e1]
    clear h e1
    go_enter Try.func14, Try.ntmps14
    go_wp2
    · go_end0
      exact ⟨rfl, H2.out, HK.out _ _ rfl⟩
    · obtain rfl : n = -1 := by omega
      go_end0
      exact ⟨rfl, H2.out, HK.out _ _ rfl⟩
end
end Go.Proofs.Ytoghmakbdhepfaa
