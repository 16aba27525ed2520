/- What New, Write of a disk compute. -/
import Derived.Test.YtoghmakbdhepfaaDiskW2
namespace Go.Proofs.Ytoghmakbdhepfaa
open Go.RowKit

theorem Try.info37 : (Try.prog.info? 28).map (fun i => (i.zero, i.size, i.bytes)) = some (some (.agg Try.zeroCells28), 128, 128) := by kernel_rfl
theorem Try.info157 : (Try.prog.info? 68).map (fun i => (i.zero, i.size, i.bytes)) = some (some (.agg Try.zeroCells68), 129, 136) := by kernel_rfl

/-- A new disk. -/
def newDk (n : Int) : Dk := ⟨List.replicate (max 0 (min n 1024)).toNat zsec, [], -1, false⟩

theorem made_same (z : Array Value) (u : Value) (m : Nat) (hz : 0 < z.size) (h : ∀ j, j < z.size → z[j]? = some u) : (madeCells z m).toList = List.replicate m u := by
  apply List.ext_getElem
  · simp [madeCells]
  · intro i h1 h2
    obtain ⟨hlt, he⟩ := Array.getElem?_eq_some_iff.1 (h (i % z.size) (Nat.mod_lt _ hz))
    simp only [madeCells, Array.toList_map, List.getElem_map, Array.toList_range, List.getElem_range, List.getElem_replicate]
    rw [getElem!_pos z _ hlt, he]
theorem bv_zsec : bv zsec = List.replicate 128 (.int .u8 0) := by
  unfold bv zsec
  rw [List.map_replicate]
  rfl
theorem made_secs (n : Nat) : (madeCells Try.zeroCells28 (n * 128)).toList = secs (List.replicate n zsec) := by
  have e : secs (List.replicate n zsec) = List.replicate (n * 128) (.int .u8 0) := by
    unfold secs zsec bv
    rw [List.flatten_replicate_replicate, List.map_replicate]
    rfl
  rw [e, Try.zero37, bv_zsec]
  refine made_same _ _ _ (by rw [List.size_toArray, List.length_replicate]; omega) fun j hj => ?_
  rw [List.getElem?_toArray]
  rw [List.size_toArray] at hj
  rw [List.getElem?_eq_getElem hj, List.getElem_replicate]

theorem own_full {w : World} {base n size : Nat} {e : TypeId} {s : Nat} {xs : List Value} (h : w.ownsRow base e size (.slice (some ⟨s, 0, none⟩) n n) n xs) : base ≤ s ∧ w.heap[s]? = some (.cells xs.toArray e (0, 0)) := by
  rcases h.2 with ⟨h0, _⟩ | ⟨g, cap, cur, he, hb, hg, _, _, hs, ht⟩
  · cases h0
  · injection he with e1 e2 e3
    injection e1 with e1
    injection e1 with e1
    subst e1 e3
    refine ⟨hb, ?_⟩
    rw [hg, ← ht, List.take_of_length_le (by simp [hs])]

/-- What New leaves. -/
def NewPost (w : World) (n : Int) (e : Ending) (w' : World) : Prop := ∃ p s, e = .returned (.pointer (some ⟨p, 0, none⟩)) ∧ DiskAt w' w.heap.size p s (.slice none 0 0) (newDk n) ∧ Below w.heap.size w w'
set_option maxRecDepth 20000 in
set_option maxHeartbeats 400000 in
theorem disk_New (n : Int) (w : World) : Calls Try.prog 9 #[.int .i64 n] w (NewPost w n) := by
  obtain ⟨i0, hi0, hz0, hz1, hz2⟩ := info_parts Try.info37
  have HI := Lib.hid hi0; have HI0 := Lib.hid hz0; have HI1 := Lib.hid hz1; have HI2 := Lib.hid hz2
  clear hi0 hz0 hz1 hz2
  have main : ∀ m : Nat, m ≤ 1024 → (max 0 (min n 1024)).toNat = m → ∀ w1 : World, w1.ownsRow w.heap.size 28 128 (.slice (some ⟨w.heap.size, 0, none⟩) m m) m (madeCells (Value.agg Try.zeroCells28).cells (m * 128)).toList → w.grownBy w1 none →
      DiskAt (w1.alloc (.cells #[.slice (some ⟨w.heap.size, 0, none⟩) m m, .slice none 0 0, .int .i64 (-1), .bool false] 65)) w.heap.size w1.heap.size w.heap.size (.slice none 0 0) (newDk n) ∧ Below w.heap.size w (w1.alloc (.cells #[.slice (some ⟨w.heap.size, 0, none⟩) m m, .slice none 0 0, .int .i64 (-1), .bool false] 65)) := by
    intro m hm he w1 hown hg
    have hb : Below w.heap.size w w1 := (Below.refl _ _).grown hg (Nat.le_refl _) (fun k hk => by cases hk)
    obtain ⟨_, hs⟩ := own_full hown
    rw [show (madeCells (Value.agg Try.zeroCells28).cells (m * 128)).toList = secs (List.replicate m zsec) from made_secs m] at hs
    have hl : (newDk n).stable.length = m := by simp [newDk, he]
    have hst : (newDk n).stable = List.replicate m zsec := by simp [newDk, he]
    refine ⟨⟨hb.size, Nat.le_refl _, ?_, ?_, World.ownsRow_nil _ _ _ _, by rw [hl]; exact hm, ?_, fun x hx => by simp [newDk] at hx, by simp [newDk]⟩, balloc hb _⟩
    · rw [hl]
      exact heap_alloc_new _ _
    · rw [Go.heap_alloc_old _ _ (lt_of_heap hs)]
      rw [hst]
      exact hs
    · intro x hx
      rw [hst] at hx
      rw [List.eq_of_mem_replicate hx]
      exact zsec_length
  by_cases h0 : n ≤ 0
  · have HM := Lib.hid (main 0 (by omega) (by omega))
    clear main
    go_enter Try.func9, Try.ntmps9
    go_wp2_with (at_make; refine wpList_make_full _ rfl _ _ 46 rfl w.heap.size 28 i0 _ 128 Try.underlying46 HI.out HI0.out HI1.out .i64 .i64 _ _ 0 rfl rfl rfl rfl (by simp) (by simp) (Nat.le_refl _) ?_; intro w1 hown hg)
    obtain ⟨r1, r2⟩ := HM.out w1 hown hg
    go_ret
    exact ⟨_, _, rfl, r1, r2⟩
  · by_cases h1 : n ≤ 1024
    · obtain ⟨m, rfl⟩ := Int.eq_ofNat_of_zero_le (show 0 ≤ n by omega)
      have HM := Lib.hid (main m (by omega) (by omega))
      clear main
      go_enter Try.func9, Try.ntmps9
      go_wp2_with (at_make; refine wpList_make_full _ rfl _ _ 46 rfl w.heap.size 28 i0 _ 128 Try.underlying46 HI.out HI0.out HI1.out .i64 .i64 _ _ m rfl rfl (by omega) (by omega) (by rw [HI2.out]; omega) (by unfold maxLen; omega) (Nat.le_refl _) ?_; intro w1 hown hg)
      obtain ⟨r1, r2⟩ := HM.out w1 hown hg
      go_ret
      exact ⟨_, _, rfl, r1, r2⟩
    · have HM := Lib.hid (main 1024 (by omega) (by omega))
      clear main
      go_enter Try.func9, Try.ntmps9
      go_wp2_with (at_make; refine wpList_make_full _ rfl _ _ 46 rfl w.heap.size 28 i0 _ 128 Try.underlying46 HI.out HI0.out HI1.out .i64 .i64 _ _ 1024 rfl rfl (by omega) (by omega) (by rw [HI2.out]; omega) (by unfold maxLen; omega) (Nat.le_refl _) ?_; intro w1 hown hg)
      obtain ⟨r1, r2⟩ := HM.out w1 hown hg
      go_ret
      exact ⟨_, _, rfl, r1, r2⟩
end Go.Proofs.Ytoghmakbdhepfaa
