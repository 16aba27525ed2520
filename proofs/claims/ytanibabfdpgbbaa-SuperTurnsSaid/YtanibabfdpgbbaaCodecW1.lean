/- The small functions of the codec: fail, width, and the deferred one that turns giving up into an error. -/
import Derived.Test.YtanibabfdpgbbaaMem
import Derived.Test.YtanibabfdpgbbaaProg
import Derived.KernelRfl
import Derived.WalkKit
import Derived.Tactics
import Derived.Tactics2
import Derived.Defers
import Derived.Recover
import Derived.Laws.Pointers
import Derived.Lib.Hide
import Derived.WalkSpells
import Derived.WalkLawsBesides
namespace Go.Proofs.Ytanibabfdpgbbaa
open Go.RowKit

/-- What giving up looks like. -/
def gaveUp : List PanicEntry := [{ v := .iface 39 (.int .i64 21), recovered := false }]

theorem fail_no (w : World) : Calls Try.prog 57 #[.bool false] w fun e w' => e = .returned (.tuple #[]) ∧ w = w' := by
  go_enter Try.func57, Try.ntmps57
  go_wp2_with fail
  go_end0
  exact ⟨rfl, rfl⟩
theorem fail_yes (w : World) : Calls Try.prog 57 #[.bool true] w fun e w' => e = .panicked gaveUp ∧ w = w' := by
  go_enter Try.func57, Try.ntmps57
  go_wp2_with fail
  exact ⟨rfl, rfl, rfl⟩

/-- How many bytes a letter's number has; 0: bytes; none: no letter. -/
def letterW (c : UInt8) : Option Nat := if c = 49 then some 1 else if c = 50 then some 2 else if c = 52 then some 4 else if c = 56 then some 8 else if c = 98 then some 0 else none
theorem width_digit (c : UInt8) (k : Nat) (h : (c = 49 ∧ k = 1) ∨ (c = 50 ∧ k = 2) ∨ (c = 52 ∧ k = 4) ∨ (c = 56 ∧ k = 8)) (w : World) :
    Calls Try.prog 58 #[.int .u8 (c.toNat : Int)] w fun e w' => e = .returned (.int .i64 k) ∧ w = w' := by
  rcases h with ⟨rfl, rfl⟩ | ⟨rfl, rfl⟩ | ⟨rfl, rfl⟩ | ⟨rfl, rfl⟩
  all_goals
    go_enter Try.func58, Try.ntmps58
    go_wp2_with fail
    go_ret
    exact ⟨rfl, rfl⟩
theorem width_b (w : World) : Calls Try.prog 58 #[.int .u8 98] w fun e w' => e = .returned (.int .i64 0) ∧ w = w' := by
  go_enter Try.func58, Try.ntmps58
  go_wp2_with fail
  refine (fail_no _).mono ?_
  rintro e w' ⟨rfl, rfl⟩
  go_wp2_with fail
  go_ret
  exact ⟨rfl, rfl⟩
theorem width_none (c : UInt8) (h : letterW c = none) (w : World) :
    Calls Try.prog 58 #[.int .u8 (c.toNat : Int)] w fun e w' => e = .panicked gaveUp ∧ w = w' := by
  have hn : c ≠ 49 ∧ c ≠ 50 ∧ c ≠ 52 ∧ c ≠ 56 ∧ c ≠ 98 := by
    unfold letterW at h
    refine ⟨?_, ?_, ?_, ?_, ?_⟩ <;> (rintro rfl; revert h; decide)
  obtain ⟨h1, h2, h3, h4, h5⟩ := hn
  have key : ∀ d : UInt8, c ≠ d → ((c.toNat : Int) == (d.toNat : Int)) = false := fun d hd => by
    rw [beq_eq_false_iff_ne]
    exact fun e => hd (UInt8.toNat_inj.1 (by omega))
  have q1 : ((c.toNat : Int) == 49) = false := key 49 h1
  have q2 : ((c.toNat : Int) == 50) = false := key 50 h2
  have q3 : ((c.toNat : Int) == 52) = false := key 52 h3
  have q4 : ((c.toNat : Int) == 56) = false := key 56 h4
  have q5 : ((c.toNat : Int) != 98) = true := by rw [bne, show ((c.toNat : Int) == 98) = false from key 98 h5]; rfl
  clear key h h1 h2 h3 h4 h5
  go_enter Try.func58, Try.ntmps58
  go_wp2_with fail
  refine (fail_yes _).mono ?_
  rintro e w' ⟨rfl, rfl⟩
  go_wp2_with fail
  exact ⟨rfl, rfl, rfl⟩

theorem errno_assert (v : Value) (xT : TypeId) (w : World) : (Instr.typeAssert (.iface 39 v) xT 39 false).run Try.prog w = .ok v w := by
  unfold Instr.typeAssert
  simp [go_sem]
set_option maxRecDepth 20000 in
/-- The deferred function of a call that gave up, and of one that didn't. -/
theorem caught_up (p : Addr) (x : Int) (w : World) (hc : w.cell? p = some (.int .i64 x)) (hz : w.frozen? p = false) :
    CallsD Try.prog 49 #[.pointer (some p)] (.panicking gaveUp) w fun e u' w' =>
      e = .returned (.tuple #[]) ∧ u' = .panicking [{ v := .iface 39 (.int .i64 21), recovered := true }] ∧ w' = w.setCell p (.int .i64 21) := by
  refine callsD_of_wpS Try.func49 rfl fun c₀ cs hu => ?_
  apply wpS_seq
  apply wpS_region
  simp [wpOpsS, go_sem, recoverD, hu, gaveUp, Try.ntmps49, Exit.thenS]
  apply wpS_seq
  apply wpS_region
  simp [wpOpsS, go_sem, recoverD, hu, gaveUp, Exit.thenS]
  refine wpS_cond (t := true) (by simp [Act.eval, Array.replicate]) ?_
  simp only [if_true]
  apply wpS_region
  simp [wpOpsS, go_sem, errno_assert, hc, hz, bodyPostS, results, Try.results49]
set_option maxRecDepth 20000 in
theorem caught_idle (p : Addr) (w : World) :
    CallsD Try.prog 49 #[.pointer (some p)] .returning w fun e u' w' => e = .returned (.tuple #[]) ∧ u' = .returning ∧ w' = w := by
  refine callsD_of_wpS Try.func49 rfl fun c₀ cs hu => ?_
  apply wpS_seq
  apply wpS_region
  simp [wpOpsS, go_sem, recoverD, hu, Try.ntmps49, Exit.thenS]
  apply wpS_seq
  apply wpS_region
  simp [wpOpsS, go_sem, recoverD, hu, Exit.thenS]
  refine wpS_cond (t := false) (by simp [Act.eval, Array.replicate]) ?_
  simp only [Bool.false_eq_true, if_false]
  refine wpS_of_wp (wp_skip ?_)
  cases c₀
  simp_all [bodyPostS, results, Try.results49]
end Go.Proofs.Ytanibabfdpgbbaa
