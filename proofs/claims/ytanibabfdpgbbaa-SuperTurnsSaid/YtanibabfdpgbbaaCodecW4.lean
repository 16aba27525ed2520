/- The codec's Pack: pack, with giving up turned into an error. -/
import Derived.Test.YtanibabfdpgbbaaCodecW3
namespace Go.Proofs.Ytanibabfdpgbbaa
open Go.RowKit

/-- What Pack answers and leaves. -/
def PackedPost (w : World) (r : Option (List UInt8)) (e : Ending) (w' : World) : Prop :=
  Below w.heap.size w w' ∧ ((∃ v o, r = some o ∧ e = .returned (.tuple #[v, .int .i64 0]) ∧ w'.ownsRow w.heap.size 5 1 v o.length (bv o)) ∨ (r = none ∧ e = .returned (.tuple #[.slice none 0 0, .int .i64 21])))

theorem own_mono {w : World} {base base' n size : Nat} {e : TypeId} {v : Value} {xs : List Value} (h : w.ownsRow base' e size v n xs) (hb : base ≤ base') : w.ownsRow base e size v n xs := by
  refine ⟨h.1, ?_⟩
  rcases h.2 with hn | ⟨g, cap, cur, rfl, hg, rest⟩
  · exact .inl hn
  · exact .inr ⟨g, cap, cur, rfl, Nat.le_trans hb hg, rest⟩
theorem own_set {w : World} {base n size : Nat} {e : TypeId} {v : Value} {xs : List Value} (h : w.ownsRow base e size v n xs) (a : Addr) (u : Value) (hne : v.ownBlock ≠ some a.block) : (w.setCell a u).ownsRow base e size v n xs :=
  h.kept (row := some a.block) ⟨rfl, rfl, rfl, by simp [World.setCell], fun k _ hk => Below.heap_setCell _ _ _ _ (fun e => hk (by rw [e]))⟩ (.inr hne)

set_option maxRecDepth 20000 in
set_option maxHeartbeats 1600000 in
theorem codec_Pack_of (s : ByteArray) (A : Option Addr) (n c : Nat) (r : Option (List UInt8)) (w : World)
    (h : Calls Try.prog 50 #[.string s, .slice A n c] (w.alloc (.cells #[.int .i64 0] 39)) (PackPost (w.alloc (.cells #[.int .i64 0] 39)) r)) :
    Calls Try.prog 36 #[.string s, .slice A n c] w (PackedPost w r) := by
  have hmf : ∀ (fn : Fn) (first cap : Array Value) (w : World), (Instr.makeFunc fn first cap).run Try.prog w = .ok (.func fn first cap) w := fun _ _ _ _ => rfl
  have HP := Lib.hid h
  clear h
  go_enter_defers Try.func36, Try.ntmps36
  go_wp2_with fail
  refine HP.out.mono ?_
  rintro e w1 (⟨v, o, rfl, rfl, hown, hb⟩ | ⟨rfl, rfl, hb⟩)
  · have hw1 : w1.heap[w.heap.size]? = some (.cells #[.int .i64 0] 39 (0, 0)) := (hb.block _ (by simp)).trans (heap_alloc_new w _)
    have c5 : w1.cell? ⟨w.heap.size, 0, none⟩ = some (.int .i64 0) := by rw [cell_of_row w1 w.heap.size 0 _ _ _ hw1]; rfl
    have f5 : w1.frozen? ⟨w.heap.size, 0, none⟩ = false := frozen_of_row w1 w.heap.size 0 _ _ hw1
    have hbf : Below w.heap.size w (w1.setCell ⟨w.heap.size, 0, none⟩ (.int .i64 0)) := ((below_alloc w _).trans (hb.mono (by simp))).setCell (Nat.le_refl _) _
    have c6 : (w1.setCell ⟨w.heap.size, 0, none⟩ (.int .i64 0)).cell? ⟨w.heap.size, 0, none⟩ = some (.int .i64 0) := by
      rw [cell_of_row _ w.heap.size 0 _ _ _ (heap_setCell_same w1 w.heap.size 0 _ _ _ hw1)]
      rfl
    have hrow : (w1.setCell ⟨w.heap.size, 0, none⟩ (.int .i64 0)).ownsRow w.heap.size 5 1 v o.length (bv o) :=
      own_set (own_mono hown (by simp)) _ _ (fun e => by have := (hown.lt _ e).1; simp at this; omega)
    have HBF := Lib.hid hbf; have HO := Lib.hid hrow; have HC6 := Lib.hid c6
    clear hbf hown hb hw1 hrow c6
    go_wp2_with fail
    refine leaves_cons (f := 49) (args := #[.pointer (some ⟨w.heap.size, 0, none⟩)]) (by simp) (by simp [go_sem]) ?_
    refine (caught_idle ⟨w.heap.size, 0, none⟩ _).mono ?_
    rintro e u' w'' ⟨rfl, rfl, rfl⟩
    simp [Leaves, settle, results, Try.results36, go_sem, HC6.out]
    exact ⟨HBF.out, .inl ⟨v, o, rfl, rfl, HO.out⟩⟩
  · have hw1 : w1.heap[w.heap.size]? = some (.cells #[.int .i64 0] 39 (0, 0)) := (hb.block _ (by simp)).trans (heap_alloc_new w _)
    have c5 : w1.cell? ⟨w.heap.size, 0, none⟩ = some (.int .i64 0) := by rw [cell_of_row w1 w.heap.size 0 _ _ _ hw1]; rfl
    have f5 : w1.frozen? ⟨w.heap.size, 0, none⟩ = false := frozen_of_row w1 w.heap.size 0 _ _ hw1
    have c6 : (w1.setCell ⟨w.heap.size, 0, none⟩ (.int .i64 21)).cell? ⟨w.heap.size, 0, none⟩ = some (.int .i64 21) := by
      rw [cell_of_row _ w.heap.size 0 _ _ _ (heap_setCell_same w1 w.heap.size 0 _ _ _ hw1)]
      rfl
    have hbf : Below w.heap.size w (w1.setCell ⟨w.heap.size, 0, none⟩ (.int .i64 21)) := ((below_alloc w _).trans (hb.mono (by simp))).setCell (Nat.le_refl _) _
    refine leaves_cons (f := 49) (args := #[.pointer (some ⟨w.heap.size, 0, none⟩)]) (by simp) (by simp [go_sem]) ?_
    refine (caught_up ⟨w.heap.size, 0, none⟩ 0 _ c5 f5).mono ?_
    rintro e u' w'' ⟨rfl, rfl, rfl⟩
    simp [Leaves, settle, results, Try.results36, go_sem, c6]
    exact ⟨hbf, .inr ⟨rfl, rfl⟩⟩

/-- What pack computes. -/
def packM (sh : List UInt8) (l : List FieldD) : Option (List UInt8) := if 200 < sh.length ∨ sh.length ≠ l.length then none else packTo sh l l.length
set_option maxRecDepth 20000 in
set_option maxHeartbeats 1600000 in
theorem pack_bad (sh : List UInt8) (A : Option Addr) (n c : Nat) (w : World) (h : 200 < sh.length ∨ (sh.length ≤ 200 ∧ sh.length ≠ n)) :
    Calls Try.prog 50 #[.string (strOf sh), .slice A n c] w fun e w' => e = .panicked gaveUp ∧ w = w' := by
  have hsz : (strOf sh).size = sh.length := by simp [strOf, ByteArray.size]
  generalize sh.length = m at *
  rcases h with h | ⟨h, h'⟩
  · have hd : decide ((200 : Int) < (m : Int)) = true := decide_eq_true (by omega)
    go_enter Try.func50, Try.ntmps50
    go_wp2_with fail
    refine (fail_yes _).mono ?_
    rintro e w' ⟨rfl, rfl⟩
    exact ⟨rfl, rfl, rfl⟩
  · have hd : decide ((200 : Int) < (m : Int)) = false := decide_eq_false (by omega)
    have hq : ((m : Int) != (n : Int)) = true := by rw [bne_iff_ne]; omega
    go_enter Try.func50, Try.ntmps50
    go_wp2_with fail
    refine (fail_yes _).mono ?_
    rintro e w' ⟨rfl, rfl⟩
    exact ⟨rfl, rfl, rfl⟩
theorem codec_pack (sh : List UInt8) (A : Option Addr) (n c : Nat) (l : List FieldD) (w : World) (hl : RFields w A n c l) :
    Calls Try.prog 50 #[.string (strOf sh), .slice A n c] w (PackPost w (packM sh l)) := by
  have hn : l.length = n := hl.1
  unfold packM
  by_cases h : 200 < sh.length ∨ sh.length ≠ l.length
  · rw [if_pos h]
    refine (pack_bad sh A n c w (by omega)).mono fun e w' ⟨he, hw⟩ => .inr ⟨rfl, he, hw ▸ Below.refl _ _⟩
  · rw [if_neg h, hn]
    exact pack_main sh A n c l w hl (by omega) (by omega)
/-- Pack. -/
theorem codec_Pack (sh : List UInt8) (A : Option Addr) (n c : Nat) (l : List FieldD) (w : World) (hl : RFields w A n c l) :
    Calls Try.prog 36 #[.string (strOf sh), .slice A n c] w (PackedPost w (packM sh l)) :=
  codec_Pack_of _ A n c _ w (codec_pack sh A n c l _ (hl.below (below_alloc w _)))
end Go.Proofs.Ytanibabfdpgbbaa
