/- The law's example: one field each of two letters, packed and unpacked. -/
import Derived.Test.YtccofdmnljbegaaCodecR3
import Derived.Test.YtccofdmnljbegaaCodecM
import Derived.BigQuiet
import Derived.Deep.QuietTactic
import Derived.Lib.SlBytesConst
namespace Go.Proofs.Ytccofdmnljbegaa
open Go.RowKit

/-- A new block of fields. -/
theorem rfields_new {w : World} (l : List FieldD) (T : TypeId) (b : Nat) (hb : b = w.heap.size) (cs : Array Value) (hcs : cs.toList = fcells l) (hl : l.length ≤ 9223372036854775807) (hok : ∀ f ∈ l, FieldOk w f) : RFields (w.alloc (.cells cs T)) (some ⟨b, 0, none⟩) l.length l.length l := by
  subst hb
  refine ⟨rfl, Nat.le_refl _, hl, fun _ => ⟨_, _, rfl, fun k hk => ⟨fun j u hj => ?_, (hok _ (by rw [fieldAt_get hk]; exact List.getElem_mem _)).below (below_alloc _ _)⟩⟩⟩
  rw [World.cell?_alloc_mark, Nat.zero_add]
  have := fcells_get l k hk j u hj
  rw [← hcs] at this
  simpa using this
theorem rfields_nil (w : World) : RFields w none 0 0 [] := ⟨rfl, Nat.le_refl _, by omega, fun h => absurd h (by omega)⟩
def aliveL (b : Nat) : List FieldD := [⟨7, none, 0, 0, []⟩, ⟨0, some ⟨b, 0, none⟩, 2, 2, [120, 121]⟩]
theorem alive_packM (b : Nat) : packM [49, 98] (aliveL b) = some [7, 0, 2, 120, 121] :=
  (packM_iff _ _ _).2 ⟨by decide, rfl, (by decide : packL [49, 98] [(7, []), (0, [120, 121])] = some [7, 0, 2, 120, 121])⟩
theorem alive_unpackM : unpackM [49, 98] [7, 0, 2, 120, 121] = some [(7, []), (0, [120, 121])] := by decide
theorem vals_two {lk : List FieldD} {a b : Nat × List UInt8} (h : vals lk = [a, b]) : lk.length = 2 ∧ (fieldAt lk 0).num = a.1 ∧ (fieldAt lk 1).bytes = b.2 := by
  match lk, h with
  | [x, y], h =>
    simp only [vals, List.map_cons, List.map_nil, List.cons.injEq, and_true] at h
    exact ⟨rfl, by rw [← h.1]; rfl, by rw [← h.2]; rfl⟩
set_option maxRecDepth 20000 in
set_option maxHeartbeats 3200000 in
theorem codecAlive_true (w : World) : Calls Try.prog 11 #[] w fun e w' => e = .returned (.bool true) ∧ Below w.heap.size w w' := by
  have kc := fun (w : World) (C : Array Value) (n c : Nat) => Lib.run_convert_bytes_const (P := Try.prog) w 22 5 C n c Try.underlying22 Try.underlying5
  go_enter Try.func11, Try.ntmps11
  go_wp2_with fail
  have h1 := rfields_new (w := w.alloc (.cells #[.int .u8 120, .int .u8 121] 5 (2, 3))) (aliveL w.heap.size) 40 (w.heap.size + 1) (by simp) #[.int .u64 7, .slice none 0 0, .int .u64 0, .slice (some ⟨w.heap.size, 0, none⟩) 2 2] rfl (by show 2 ≤ _; omega) (by
    intro f hf
    simp only [aliveL, List.mem_cons, List.not_mem_nil, or_false] at hf
    rcases hf with rfl | rfl
    · exact ⟨by show 7 < _; omega, RB.nil _, Nat.zero_le _⟩
    · exact ⟨by show 0 < _; omega, rb_new w [120, 121] 5 (2, 3) (by decide), by show 2 ≤ _; omega⟩)
  have hp := codec_Pack [49, 98] _ _ _ _ _ h1
  rw [alive_packM] at hp
  refine hp.mono ?_
  clear hp h1
  rintro e w2 ⟨hb2, ⟨v, o, ho, rfl, hown⟩ | ⟨hno, -⟩⟩
  · injection ho with ho
    subst ho
    obtain ⟨A1, c1, rfl, hrb1⟩ := own_rb hown
    rw [show ([7, 0, 2, 120, 121] : List UInt8).length = 5 from rfl] at hrb1
    have HB2 := Lib.hid ((((below_alloc w (.cells #[.int .u8 120, .int .u8 121] 5 (2, 3))).alloc (by simp) (.cells #[.int .u64 7, .slice none 0 0, .int .u64 0, .slice (some ⟨w.heap.size, 0, none⟩) 2 2] 40)).trans (hb2.mono (by simp; omega))))
    have HR1 := Lib.hid hrb1
    clear hown hrb1 hb2
    go_wp2_with fail
    have hu := codec_Unpack [49, 98] _ _ _ _ _ (rb_new' w2 [7, 0, 2, 120, 121] 5 (0, 0) (by decide) w2.heap.size rfl)
    rw [alive_unpackM] at hu
    refine hu.mono ?_
    clear hu
    rintro e w3 ⟨hb3, ⟨v, lk, hlk, rfl, hof⟩ | ⟨hno, -⟩⟩
    · injection hlk with hlk
      obtain ⟨hl2, hn0, hb1⟩ := vals_two hlk.symm
      obtain ⟨A2, c2, rfl, hrf⟩ := hof.read
      rw [hl2] at hrf
      obtain ⟨b, o', rfl, hfs⟩ := hrf.2.2.2 (by omega)
      obtain ⟨hf0, -⟩ := hfs 0 (by omega)
      obtain ⟨hf1, hk1⟩ := hfs 1 (by omega)
      have hcell0 : w3.cell? ⟨b, o', none⟩ = some (.int .u64 7) := by
        have := hf0 0 _ rfl
        rw [hn0] at this
        exact this
      have hcell1 : w3.cell? ⟨b, o' + 2 + 1, none⟩ = some (.slice (fieldAt lk 1).A (fieldAt lk 1).n (fieldAt lk 1).c) := hf1 1 _ rfl
      have hs1 := hk1.rb.string (P := Try.prog) (src := 22) (dst := 9) Try.underlying22 Try.underlying5 Try.underlying9
      rw [hb1] at hs1
      have hb3' := bthen HB2.out (balloc (Below.refl _ w2) (.cells (bv [7, 0, 2, 120, 121]).toArray 5) |>.trans (hb3.mono (by simp)))
      have hs0 := (HR1.out.below (balloc (Below.refl _ w2) (.cells (bv [7, 0, 2, 120, 121]).toArray 5) |>.trans (hb3.mono (by simp)))).string (P := Try.prog) (src := 22) (dst := 9) Try.underlying22 Try.underlying5 Try.underlying9
      have HB3 := Lib.hid hb3'
      rw [hl2]
      generalize (fieldAt lk 1).A = FA at *
      generalize (fieldAt lk 1).n = FN at *
      generalize (fieldAt lk 1).c = FC at *
      have hq0 : ((strOf [7, 0, 2, 120, 121]).toList == [7, 0, 2, 120, 121]) = true := by rw [strOf_toList]; rfl
      have hq1 : ((strOf [120, 121]).toList == [120, 121]) = true := by rw [strOf_toList]; rfl
      have h20 : (0 : Int) < 2 := by decide
      have h21 : (1 : Int) < 2 := by decide
      clear hb3 hb3' hof hrf hfs hf0 hf1 hk1 hlk hl2 hn0 hb1
      go_wp2_with fail
      go_ret
      exact ⟨rfl, HB3.out⟩
    · cases hno
  · cases hno
end Go.Proofs.Ytccofdmnljbegaa
