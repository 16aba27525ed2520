/- The codec's Unpack: unpack, with giving up turned into an error. -/
import Derived.Test.YtlofiinpgkclgaaMg5
import Derived.RangeFuncNested
import Derived.RangeFuncCalls
import Derived.Deep.RegionHeld3
import Derived.WalkKit
import Derived.OrdersIn
import Derived.ControlIn
import Derived.AtR
namespace Go.Proofs.Ytlofiinpgkclgaa
open Go.RowKit

/-- What Unpack answers and leaves (the reference's as well). -/
def UnpackedPost (w : World) (r : Option (List (Nat × List UInt8))) (e : Ending) (w' : World) : Prop :=
  Below w.heap.size w w' ∧ ((∃ v lk, r = some (vals lk) ∧ e = .returned (.tuple #[v, .int .i64 0]) ∧ OFields w' w.heap.size v lk) ∨ (r = none ∧ e = .returned (.tuple #[.slice none 0 0, .int .i64 21])))

set_option maxRecDepth 20000 in
set_option maxHeartbeats 1600000 in
theorem codec_Unpack_of (s : ByteArray) (A : Option Addr) (n c : Nat) (r : Option (List (Nat × List UInt8))) (w : World)
    (h : Calls Try.prog 33 #[.string s, .slice A n c] (w.alloc (.cells #[.int .i64 0] 31)) (UnPost (w.alloc (.cells #[.int .i64 0] 31)) r)) :
    Calls Try.prog 23 #[.string s, .slice A n c] w (UnpackedPost w r) := by
  have hmf : ∀ (fn : Fn) (first cap : Array Value) (w : World), (Instr.makeFunc fn first cap).run Try.prog w = .ok (.func fn first cap) w := fun _ _ _ _ => rfl
  have HP := Lib.hid h
  clear h
  go_enter_defers Try.func23, Try.ntmps23
  go_wp2_with fail
  refine HP.out.mono ?_
  rintro e w1 (⟨v, o, rfl, rfl, hown, hb⟩ | ⟨rfl, rfl, hb⟩)
  · have hw1 : w1.heap[w.heap.size]? = some (.cells #[.int .i64 0] 31 (0, 0)) := (hb.block _ (by simp)).trans (heap_alloc_new w _)
    have c5 : w1.cell? ⟨w.heap.size, 0, none⟩ = some (.int .i64 0) := by rw [cell_of_row w1 w.heap.size 0 _ _ _ hw1]; rfl
    have f5 : w1.frozen? ⟨w.heap.size, 0, none⟩ = false := frozen_of_row w1 w.heap.size 0 _ _ hw1
    have hbf : Below w.heap.size w (w1.setCell ⟨w.heap.size, 0, none⟩ (.int .i64 0)) := ((below_alloc w _).trans (hb.mono (by simp))).setCell (Nat.le_refl _) _
    have c6 : (w1.setCell ⟨w.heap.size, 0, none⟩ (.int .i64 0)).cell? ⟨w.heap.size, 0, none⟩ = some (.int .i64 0) := by
      rw [cell_of_row _ w.heap.size 0 _ _ _ (heap_setCell_same w1 w.heap.size 0 _ _ _ hw1)]
      rfl
    have hrow : OFields (w1.setCell ⟨w.heap.size, 0, none⟩ (.int .i64 0)) w.heap.size v o :=
      (hown.set ⟨w.heap.size, 0, none⟩ _ (by simp)).mono (by simp)
    have HBF := Lib.hid hbf; have HO := Lib.hid hrow; have HC6 := Lib.hid c6
    clear hbf hown hb hw1 hrow c6
    go_wp2_with fail
    refine leaves_cons (f := 29) (args := #[.pointer (some ⟨w.heap.size, 0, none⟩)]) (by simp) (by simp [go_sem]) ?_
    refine (caught_idle ⟨w.heap.size, 0, none⟩ _).mono ?_
    rintro e u' w'' ⟨rfl, rfl, rfl⟩
    simp [Leaves, settle, results, Try.results23, go_sem, HC6.out]
    exact ⟨HBF.out, .inl ⟨v, o, rfl, rfl, HO.out⟩⟩
  · have hw1 : w1.heap[w.heap.size]? = some (.cells #[.int .i64 0] 31 (0, 0)) := (hb.block _ (by simp)).trans (heap_alloc_new w _)
    have c5 : w1.cell? ⟨w.heap.size, 0, none⟩ = some (.int .i64 0) := by rw [cell_of_row w1 w.heap.size 0 _ _ _ hw1]; rfl
    have f5 : w1.frozen? ⟨w.heap.size, 0, none⟩ = false := frozen_of_row w1 w.heap.size 0 _ _ hw1
    have c6 : (w1.setCell ⟨w.heap.size, 0, none⟩ (.int .i64 21)).cell? ⟨w.heap.size, 0, none⟩ = some (.int .i64 21) := by
      rw [cell_of_row _ w.heap.size 0 _ _ _ (heap_setCell_same w1 w.heap.size 0 _ _ _ hw1)]
      rfl
    have hbf : Below w.heap.size w (w1.setCell ⟨w.heap.size, 0, none⟩ (.int .i64 21)) := ((below_alloc w _).trans (hb.mono (by simp))).setCell (Nat.le_refl _) _
    refine leaves_cons (f := 29) (args := #[.pointer (some ⟨w.heap.size, 0, none⟩)]) (by simp) (by simp [go_sem]) ?_
    refine (caught_up ⟨w.heap.size, 0, none⟩ 0 _ c5 f5).mono ?_
    rintro e u' w'' ⟨rfl, rfl, rfl⟩
    simp [Leaves, settle, results, Try.results23, go_sem, c6]
    exact ⟨hbf, .inr ⟨rfl, rfl⟩⟩

/-- Unpack. -/
theorem codec_Unpack (sh : List UInt8) (A : Option Addr) (n c : Nat) (bs : List UInt8) (w : World) (hr : RB w A n c bs) :
    Calls Try.prog 23 #[.string (strOf sh), .slice A n c] w (UnpackedPost w (unpackM sh bs)) :=
  codec_Unpack_of _ A n c _ w (codec_unpack sh A n c bs _ (hr.below (below_alloc w _)))
end Go.Proofs.Ytlofiinpgkclgaa

/- A region that draws its order, in a round of a loop over a function: by the laws of a region anywhere. No program in sight. -/
namespace Go.Proofs.Ytlofiinpgkclgaa
open Go.RowKit

/-- Q at the end, and nothing else. -/
def OnlyN (Q : Exit → Act → World → Prop) : Exit → Act → World → Prop
  | .normal, a, w => Q .normal a w
  | _, _, _ => False
section
variable {P : Program} {ops : Array Oper} {Q : Exit → Act → World → Prop} {md : Region.Mode} {l n : Nat}
theorem wpOpIn_of (hd : ∀ (i : Nat) (o : Oper), ops[i]? = some o → ∀ c, o.op ≠ .defer c) (hlo : ¬ LetsOut Q) {i : Nat} {K : Act → World → Prop} {a : Act} {w : World} (h : wpOp P ops Q i K a w) : wpOpIn (Fence.wide.inRound l) n P ops Q i K a w := by
  unfold wpOp at h
  unfold wpOpIn
  cases ho : ops[i]? with
  | none => simpa [ho] using h
  | some o =>
    simp only [ho] at h ⊢
    split
    · rename_i hw
      rw [if_pos hw] at h
      rcases h with h | ⟨_, h⟩
      · refine ⟨fun _ _ => trivial, ?_⟩
        rw [Oper.semAt_eq _ _ _ (hd i o ho)]
        unfold Oper.wp at h
        generalize (execOp a.eval o).run P w = r at *
        cases r with
        | ok x w' =>
          cases x <;> simp only [Oper.upon, Oper.uponIn] at h ⊢
          case value => exact h
          case skip => exact h
          case defer => exact h
          case enter => exact ⟨fun e => (by cases e), CallsIn.inRound l (callsIn_wide.2 h)⟩
          case row => refine ⟨fun e => (by cases e), fun c cs _ => ?_⟩; obtain ⟨v, w', r, s⟩ := h c cs; exact ⟨v, w', r, stepsIn_wide.2 s⟩
        | halt x w' => cases x <;> simp only [Oper.upon, Oper.uponIn] at h ⊢; exact h
      · exact absurd h hlo
    · rename_i hw
      rw [if_neg hw] at h
      exact ⟨fun _ _ => trivial, h⟩
theorem wpAnyIn_of (hd : ∀ (i : Nat) (o : Oper), ops[i]? = some o → ∀ c, o.op ≠ .defer c) (hlo : ¬ LetsOut Q) : ∀ (fuel : Nat) (listed : Array Bool) (a : Act) (w : World), wpAny P md ops Q fuel listed a w → wpAnyIn (Fence.wide.inRound l) n P md ops Q fuel listed a w
  | 0, _, _, _, h => h
  | fuel + 1, _, _, _, h => ⟨h.1, fun i hi => wpOpIn_mono (fun a' w' h' => wpAnyIn_of hd hlo fuel _ a' w' h') (wpOpIn_of hd hlo (h.2 i hi))⟩
/-- No operation defers, as a Bool. -/
def noDefer (ops : Array Oper) : Bool := ops.toList.all fun o => match o.op with | .defer _ => false | _ => true
theorem noDefer_spec (h : noDefer ops = true) : ∀ (i : Nat) (o : Oper), ops[i]? = some o → ∀ c, o.op ≠ .defer c := by
  intro i o ho c e
  unfold noDefer at h
  rw [List.all_eq_true] at h
  have := h o (by rw [← Array.getElem?_toList] at ho; exact List.mem_of_getElem? ho)
  rw [e] at this
  cases this
/-- The beginning. -/
theorem wpIn_region_round {S : World → Prop} {id : Nat} {a : Act} {w : World} (hm : P.follows .mixedOrders = true) (hd : noDefer ops = true)
    (h : wpAnyH P .any ops (OnlyN Q) S ops.size (Array.replicate ops.size false) a w.drew) : (Code.region id ops true).wpIn (Fence.wide.inRound l) n P Q a w :=
  wpIn_mono (Q := OnlyN Q) (wpIn_region_any hm (wpAnyIn_of (noDefer_spec hd) (fun ⟨_, _, h⟩ => h) _ _ _ _ (wpAny_of_held _ _ _ _ h))) fun e a w h => by
    cases e <;> first | exact h | exact h.elim
end
end Go.Proofs.Ytlofiinpgkclgaa
