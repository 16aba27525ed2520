/- What Pending of a disk computes; the chapter's example. -/
import Derived.Test.YtoghmakbdhepfaaDiskW5
namespace Go.Proofs.Ytoghmakbdhepfaa
open Go.RowKit

def ivs (l : List Int) : List Value := l.map fun x => .int .i64 x
/-- What Pending leaves. -/
def PendPost (w : World) (l : List (Nat × List UInt8)) (e : Ending) (w' : World) : Prop :=
  ∃ v', e = .returned v' ∧ w'.ownsRow w.heap.size 3 1 v' l.length (ivs (l.map fun x => (x.1 : Int))) ∧ Below w.heap.size w w'
section
variable {w : World} {base p s : Nat} {v : Value} {d : Dk}
theorem pend_take (l : List (Nat × List UInt8)) (k : Nat) (h : k < l.length) : ivs ((l.take (k + 1)).map fun x => (x.1 : Int)) = ivs ((l.take k).map fun x => (x.1 : Int)) ++ [.int .i64 ((penAt l k).1 : Int)] := by
  rw [List.take_succ_eq_append_getElem h, penAt, List.getD_eq_getElem?_getD, List.getElem?_eq_getElem h]
  simp only [ivs, List.map_append, List.map_cons, List.map_nil, Option.getD_some]
set_option maxRecDepth 20000 in
set_option maxHeartbeats 800000 in
theorem disk_Pending (h : DiskAt w base p s v d) (hpl : d.pend.length ≤ 1000000) : Calls Try.prog 25 #[.pointer (some ⟨p, 0, none⟩)] w (PendPost w d.pend) := by
  obtain ⟨A, c, rfl⟩ := own_form h.pen
  have H := Lib.hid h
  have c1 := h.c1
  clear h
  go_enter Try.func25, Try.ntmps25
  go_wp2_with fail
  go_loopw [3, 11] (fun v i wr => ∃ k : Nat, k ≤ d.pend.length ∧ i = .int .i64 k ∧ Hid (wr.ownsRow w.heap.size 3 1 v k (ivs ((d.pend.take k).map fun x => (x.1 : Int)))) ∧ Hid (Below w.heap.size w wr)) (fun _ i _ => d.pend.length - (intOf i).toNat)
  case atStart => exact ⟨0, by omega, rfl, Lib.hid (World.ownsRow_nil _ _ _ _), Lib.hid (Below.refl _ _)⟩
  case round =>
    obtain ⟨k, hk, rfl, HO, HB⟩ := hrel
    by_cases hlt : k < d.pend.length
    · have hd := H.out.below HB.out
      obtain ⟨g, rfl, hg, -, hr⟩ := hd.pcell k hlt
      obtain ⟨-, hln⟩ := hd.pin' k hlt
      have HN := Lib.hid (pend_take d.pend k hlt)
      have HR := Lib.hid hr; have HL := Lib.hid hln
      have hk0 : (0 : Int) ≤ (k : Int) := Int.natCast_nonneg _
      have hk1 : (k : Int) < (d.pend.length : Int) := by omega
      clear hr hln hd
      generalize penAt d.pend k = x at *
      obtain ⟨x1, x2⟩ := x
      go_wp2_with (first | (refine ld157 rfl _ rfl g (k * 129) rfl (x1, x2) HR.out HL.out ?_) | (refine st157 rfl _ _ rfl _ _ rfl rfl (x1, x2) rfl HL.out rfl ?_) | (at_builtin; go_must (refine wpList_append_any (w0 := w) w.heap.size rfl _ _ 58 3 (.int .i64 0) 1 8 rfl Try.underlying58 (by kernel_rfl) rfl (by decide) (by decide) u3 k _ (some ⟨wr.heap.size + 1, 0, none⟩) 1 1 [.int .i64 (x1 : Int)] rfl rfl ((HO.out.alloc _).alloc _) ?_ (by simp [Value.oneCell']) (by omega) ((HB.out.alloc HB.out.size _).alloc (by have := HB.out.size; simp; omega) _) (by have := HB.out.size; simp; omega) ?_; exact rd_one _ _ _ _ (by simp); intro v1 w1 hown1 hb1 _ _)))
      have hown2 : w1.ownsRow w.heap.size 3 1 v1 (k + 1) (ivs ((d.pend.take (k + 1)).map fun x => (x.1 : Int))) := by rw [HN.out]; exact hown1
      have HO2 := Lib.hid hown2
      have HB2 := Lib.hid hb1
      clear hown2 hown1 hb1
      go_roundw
      case rel => exact ⟨k + 1, by omega, by go_num, HO2, HB2⟩
      case measure => simp [intOf]; omega
    · obtain rfl : k = d.pend.length := by omega
      have ho := HO.out
      rw [List.take_of_length_le (Nat.le_refl _)] at ho
      have HO2 := Lib.hid ho
      clear ho
      go_wp2_with fail
      go_ret
      exact ⟨_, rfl, HO2.out, HB.out⟩
end
end Go.Proofs.Ytoghmakbdhepfaa
