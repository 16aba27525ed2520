/- The dump's head (the long list of the cut's roots) read by its first words alone: the closed facts on the head, without reckoning the whole text at once. -/
import Derived.Test.YtoghmakbdhepfaaRows
import Derived.JoinedOf
import Derived.KernelRfl
namespace Go.Proofs.Ytoghmakbdhepfaa
open Go

def blank : Char := Char.ofNat 32
theorem toList_lit (s : String) (l : List Char) (h : s = String.ofList l) : s.toList = l := by rw [h, String.toList_ofList]

theorem words_nonempty (l : List Char) : wordsSigns l ≠ [] := by
  unfold wordsSigns
  split
  · simp
  · simp
  · split <;> simp
theorem words_append : ∀ (a : List Char) (r : List Char), a.all (· != blank) = true → wordsSigns (a ++ blank :: r) = a :: wordsSigns r
  | [], r, _ => by rw [List.nil_append]; rfl
  | c :: a, r, h => by
    simp only [List.all_cons, Bool.and_eq_true] at h
    have hc : c ≠ blank := by simpa using h.1
    have ih := words_append a r h.2
    rw [List.cons_append, wordsSigns, ih]
    exact hc

def headOf (l : List Char) : Bool := l.take 8 == "harness ".toList && ((l.drop 8).take 64).all (· != blank) && isSumSigns ((l.drop 8).take 64) && (l.drop 72).take 5 == " cut ".toList
theorem behind_cut (l : List Char) (h : headOf l = true) : ∃ r, behindMainWord (wordsSigns l) = "cut".toList :: r := by
  simp only [headOf, Bool.and_eq_true, beq_iff_eq] at h
  obtain ⟨⟨⟨h1, h2⟩, h3⟩, h4⟩ := h
  have e : l = "harness".toList ++ blank :: ((l.drop 8).take 64 ++ blank :: ("cut".toList ++ blank :: l.drop 77)) := by
    have e1 : l = l.take 8 ++ l.drop 8 := (List.take_append_drop 8 l).symm
    have e2 : l.drop 8 = (l.drop 8).take 64 ++ l.drop 72 := by
      have := (List.take_append_drop 64 (l.drop 8)).symm
      rwa [List.drop_drop] at this
    have e3 : l.drop 72 = (l.drop 72).take 5 ++ l.drop 77 := by
      have := (List.take_append_drop 5 (l.drop 72)).symm
      rwa [List.drop_drop] at this
    have k1 : "harness ".toList = "harness".toList ++ [blank] := by decide
    have k2 : " cut ".toList = blank :: ("cut".toList ++ [blank]) := by decide
    rw [h4, k2] at e3
    rw [e3] at e2
    rw [h1, k1, e2] at e1
    refine e1.trans ?_
    simp
  refine ⟨wordsSigns (l.drop 77), ?_⟩
  have hw : wordsSigns l = "harness".toList :: (l.drop 8).take 64 :: "cut".toList :: wordsSigns (l.drop 77) := by
    conv => lhs; rw [e]
    rw [words_append _ _ (by decide), words_append _ _ h2, words_append _ _ (by decide)]
  rw [hw]
  simp only [behindMainWord]
  rw [if_pos]
  rw [h3]
  decide

theorem strip_cut (r : List (List Char)) : stripLifts liftWords ("cut".toList :: r) = ([], "cut".toList :: r) := by
  simp only [liftWords, stripLifts]
  repeat rw [if_neg (by decide)]

set_option maxRecDepth 1000000 in
theorem head_is : ∃ r, behindMainWord (wordsSigns Try.prog.initOrder.toList) = "cut".toList :: r := by
  rw [toList_lit Try.prog.initOrder _ rfl]
  exact behind_cut _ (by decide +kernel)

theorem lays_no : Try.prog.laysLater = false := by kernel_rfl
theorem refl_no : Try.prog.bearsReflect = false := by kernel_rfl
theorem door_fits : Try.prog.doorFits [] = true := by kernel_rfl
theorem head_lifts_of (P : Program) (r : List (List Char)) (hr : behindMainWord (wordsSigns P.initOrder.toList) = "cut".toList :: r) : P.headLifts = [] := by
  unfold Program.headLifts
  rw [hr, strip_cut]
  simp
theorem may_enter_of (P : Program) (r : List (List Char)) (hr : behindMainWord (wordsSigns P.initOrder.toList) = "cut".toList :: r) (h1 : P.laysLater = false) (h2 : P.bearsReflect = false) (h3 : P.doorFits [] = true) : P.mayEnter = true := by
  unfold Program.mayEnter
  rw [hr]
  simp only [strip_cut, h1, h2, h3]
  simp
theorem lifts_final_of (P : Program) (r : List (List Char)) (hr : behindMainWord (wordsSigns P.initOrder.toList) = "cut".toList :: r) : P.liftsFinal = false := by
  unfold Program.liftsFinal
  rw [hr, head_lifts_of P r hr]
  simp
theorem make_cut_of (P : Program) (r : List (List Char)) (hr : behindMainWord (wordsSigns P.initOrder.toList) = "cut".toList :: r) : P.make = some .cut := by
  unfold Program.make
  rw [hr]
  have h1 : ("cut".toList == "gc".toList || "cut".toList == "spec".toList) = false := by decide
  simp only [h1]
  simp
theorem may_enter : Try.prog.mayEnter = true := by
  obtain ⟨r, hr⟩ := head_is
  exact may_enter_of _ r hr lays_no refl_no door_fits
theorem lifts_final : Try.prog.liftsFinal = false := by
  obtain ⟨r, hr⟩ := head_is
  exact lifts_final_of _ r hr
theorem make_cut : Try.prog.make = some .cut := by
  obtain ⟨r, hr⟩ := head_is
  exact make_cut_of _ r hr
end Go.Proofs.Ytoghmakbdhepfaa
