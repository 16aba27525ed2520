/- The document's disk: New, Put, Flush. -/
import Derived.Test.YtoghmakbdhepfaaRef04b
namespace Go.Proofs.Ytoghmakbdhepfaa
open Go.RowKit
attribute [local go_sem ↓] build37

/-! ### Rows of one's own -/
theorem own_rd {w : World} {base n size : Nat} {e : TypeId} {v : Value} {xs : List Value} (h : w.ownsRow base e size v n xs) : ∃ A c, v = .slice A n c ∧ Rd w A n size xs ∧ n ≤ c ∧ c ≤ 9223372036854775807 := by
  rcases h.2 with ⟨rfl, rfl⟩ | ⟨g, cap, cur, rfl, _, hh, hnc, hcm, _⟩
  · have hl := h.1
    rw [Nat.zero_mul] at hl
    obtain rfl := List.eq_nil_of_length_eq_zero hl
    exact ⟨none, 0, rfl, ⟨by simp, fun hp => by simp at hp⟩, Nat.le_refl _, by omega⟩
  · refine ⟨_, cap, rfl, ⟨h.1, fun _ => ⟨g, 0, rfl, fun j u hj => ?_⟩⟩, hnc, by simpa [maxLen] using hcm⟩
    have := h.cells (g := g) rfl j u hj
    rw [add_none] at this
    exact this
theorem splice_take {α : Type} (c : List α) (o m : Nat) (xs : List α) (h : o + xs.length ≤ m) (hm : m ≤ c.length) : (splice c o xs).take m = splice (c.take m) o xs := by
  unfold splice
  have h1 : (c.take o).length = o := by rw [List.length_take, Nat.min_eq_left (by omega)]
  have e1 : (c.take o).take m = c.take o := List.take_of_length_le (by omega)
  have e2 : xs.take (m - o) = xs := List.take_of_length_le (by omega)
  rw [List.take_append, h1, List.take_append, e1, e2, List.take_take, Nat.min_eq_left (show o ≤ m by omega), List.drop_take, Nat.sub_sub]
/-- Cells of a row of one's own are written. -/
theorem own_setCells {w : World} {base n size cap g : Nat} {e : TypeId} {xs : List Value} (h : w.ownsRow base e size (.slice (some ⟨g, 0, none⟩) n cap) n xs) (o : Nat) (cs : List Value) (ho : o + cs.length ≤ xs.length) :
    (w.setCells g o cs).ownsRow base e size (.slice (some ⟨g, 0, none⟩) n cap) n (splice xs o cs) ∧ Kp (· = g) w (w.setCells g o cs) ∧ base ≤ g := by
  have hx := h.1
  rcases h.2 with ⟨h0, _⟩ | ⟨g', cap', cur, he, hb, hg, hnc, hcm, hs, ht⟩
  · cases h0
  · injection he with e1 _ e3
    injection e1 with e1
    injection e1 with e1
    subst e1 e3
    have hle : n * size ≤ cap * size := Nat.mul_le_mul_right _ hnc
    obtain ⟨h1, h2⟩ := setCells_heap g e cs cur o w hg (by omega)
    refine ⟨⟨?_, .inr ⟨g, cap, _, rfl, hb, h1, hnc, hcm, ?_, ?_⟩⟩, h2, hb⟩
    · unfold splice
      simp
      omega
    · unfold splice
      simp
      omega
    · rw [List.toList_toArray, splice_take _ _ _ _ (by omega) (by simp; omega), ht]
theorem own_there {w : World} {base n size cap g : Nat} {e : TypeId} {xs : List Value} (h : w.ownsRow base e size (.slice (some ⟨g, 0, none⟩) n cap) n xs) (o m : Nat) (ho : o + m ≤ xs.length) : w.there g o m := by
  intro j hj
  have hx := h.1
  refine ⟨?_, h.frozenAt _⟩
  rw [h.cellAt (o + j) (by omega), List.getElem?_eq_getElem (by omega)]
  rfl
theorem secs_len {st : List (List UInt8)} (h : ∀ x ∈ st, x.length = 128) : (secs st).length = st.length * 128 := secs_length st h
theorem set_wid {st : List (List UInt8)} (h : ∀ x ∈ st, x.length = 128) (k : Nat) (l : List UInt8) (hl : l.length = 128) : ∀ x ∈ st.set k l, x.length = 128 := by
  intro x hx
  rcases List.mem_or_eq_of_mem_set hx with hx | rfl
  · exact h x hx
  · exact hl
/-- A sector of a row of one's own is written. -/
theorem own_setSec {w : World} {base n cap g : Nat} {e : TypeId} {st : List (List UInt8)} (h : w.ownsRow base e 128 (.slice (some ⟨g, 0, none⟩) n cap) n (secs st)) (hw : ∀ x ∈ st, x.length = 128) (k : Nat) (l : List UInt8) (hk : k < st.length) (hl : l.length = 128) :
    w.there g (k * 128) 128 ∧ (w.setCells g (k * 128) (bv l)).ownsRow base e 128 (.slice (some ⟨g, 0, none⟩) n cap) n (secs (st.set k l)) ∧ Kp (· = g) w (w.setCells g (k * 128) (bv l)) ∧ base ≤ g := by
  have hle := secs_length st hw
  have hkk := Nat.mul_le_mul_right 128 (show k + 1 ≤ st.length from hk)
  have h1 := own_setCells h (k * 128) (bv l) (by rw [hle, bv_length, hl]; omega)
  rw [secs_set st k l hk hl hw] at h1
  exact ⟨own_there h _ _ (by rw [hle]; omega), h1⟩
theorem applyW_wid (l : List (Nat × List UInt8)) : ∀ st : List (List UInt8), (∀ x ∈ st, x.length = 128) → (∀ x ∈ l, x.2.length = 128) → ∀ x ∈ applyW st l, x.length = 128 := by
  induction l with
  | nil => intro st h _; exact h
  | cons x l ih => intro st h h2; exact ih _ (set_wid h _ _ (h2 x List.mem_cons_self)) (fun y hy => h2 y (List.mem_cons_of_mem _ hy))
section
variable {ops : Array Oper} {rest : List Oper} {op : Oper} {a : Act} {w : World} {Q : Exit → Act → World → Prop}
/-- A sector is stored where there is room for one. -/
theorem st37_mid (hgd : op.guard = none) (x y : Operand) (ho : op.op = .store 28 x y) (g o : Nat) (hx : a.eval x = .pointer (some ⟨g, o, none⟩)) (l : List UInt8) (hy : a.eval y = secV l) (hl : l.length = 128) (ht : w.there g o 128)
    (h : wpList Try.prog ops Q rest (a.put op.dst undef) (w.setCells g o (bv l))) : wpList Try.prog ops Q (op :: rest) a w := by
  refine wpList_store_mid hgd _ x y ho _ o (bv l).toArray hx hy ?_ (Try.size37.trans (by simp [bv_length, hl])) (all_oneCell_toArray (bv_one l)) (by simpa using h)
  simpa [bv_length, hl] using ht
end
theorem RowAt.setCell {w : World} {g : Nat} {t : TypeId} {cs : List Value} (h : RowAt w g t cs) (j : Nat) (u : Value) : RowAt (w.setCell ⟨g, j, none⟩ u) g t (cs.set j u) := by
  unfold RowAt
  rw [heap_setCell_same w g j _ _ u h]
  simp
theorem Try.infoRW : (Try.prog.info? 61).map (fun i => (i.zero, i.size, i.bytes)) = some (some (.agg Try.zeroCells61), 129, 136) := by kernel_rfl
theorem Try.info37r : (Try.prog.info? 28).map (fun i => (i.zero, i.size, i.bytes)) = some (some (.agg Try.zeroCells28), 128, 128) := by kernel_rfl
/-- A write of the document's, and a slice of one of them, are built: behind names. -/
def bldRW (parts : Array (Nat × Value)) : Sem Value := Instr.build 61 parts
theorem buildRW (parts : Array (Nat × Value)) : Instr.build 61 parts = bldRW parts := rfl
def bldRWs (n : Nat) (parts : Array (Nat × Value)) : Sem Value := Instr.buildSlice 47 n parts
theorem buildSliceRW (parts : Array (Nat × Value)) : Instr.buildSlice 47 1 parts = bldRWs 1 parts := rfl
set_option maxRecDepth 20000 in
theorem run_bldRW (w : World) (k : Nat) (l : List UInt8) (hl : l.length = 128) : (bldRW #[(0, .int .i64 k), (1, .agg (bv l).toArray)]).run Try.prog w = .ok (.agg (penC (k, l)).toArray) w := by
  have hb : (bv l).length = 128 := by rw [bv_length, hl]
  unfold bldRW
  simp [go_sem, hb]
  exact fold_one _ _ _ (by rw [hb]; rfl)
set_option maxRecDepth 20000 in
theorem run_bldRWs (w : World) (cs : List Value) (hl : cs.length = 129) : (bldRWs 1 #[(0, .agg cs.toArray)]).run Try.prog w = .ok (.slice (some ⟨w.heap.size, 0, none⟩) 1 1) (w.alloc (.cells cs.toArray 61)) := by
  unfold bldRWs
  simp [go_sem, hl]
  rw [fold_full _ _ (by rw [hl]; rfl)]

section
variable {w : World} {A : Option Addr} {c : Nat} {B : Option Addr} {k : Nat} {d : Dk}
set_option maxRecDepth 20000 in
set_option maxHeartbeats 800000 in
theorem ref_New (n : Int) (w : World) : Calls Try.prog 19 #[.int .i64 n] w fun e w' => ∃ A c, e = .returned (.agg (rdC A c none 0 (newDk n)).toArray) ∧ RDk w' A c none 0 (newDk n) ∧ Below w.heap.size w w' ∧ FrA w w' A := by
  obtain ⟨i0, hi0, hz0, hz1, hz2⟩ := info_parts Try.info37r
  have HI := Lib.hid hi0; have HI0 := Lib.hid hz0; have HI1 := Lib.hid hz1; have HI2 := Lib.hid hz2
  clear hi0 hz0 hz1 hz2
  have main : ∀ m : Nat, m ≤ 1024 → (max 0 (min n 1024)).toNat = m → ∀ w1 : World, w1.ownsRow (w.heap.size + 1) 28 128 (.slice (some ⟨w.heap.size + 1, 0, none⟩) m m) m (madeCells (Value.agg Try.zeroCells28).cells (m * 128)).toList → (w.alloc (.cells #[.slice none 0 0, .slice none 0 0, .int .i64 0, .bool false] 49)).grownBy w1 none →
      RowAt w1 w.heap.size 49 [.slice none 0 0, .slice none 0 0, .int .i64 0, .bool false] ∧ Below w.heap.size w w1 ∧ [Value.slice (some ⟨w.heap.size + 1, 0, none⟩) m m, .slice none 0 0, .int .i64 (-1), .bool false] = rdC (some ⟨w.heap.size + 1, 0, none⟩) m none 0 (newDk n) ∧ (∀ w2, Kp (· = w.heap.size) w1 w2 → RDk w2 (some ⟨w.heap.size + 1, 0, none⟩) m none 0 (newDk n)) ∧ ∀ w2, Kp (· = w.heap.size) w1 w2 → w.heap.size + 1 < w2.heap.size := by
    intro m hm he w1 hown hg
    have hb : Below (w.heap.size + 1) (w.alloc (.cells #[.slice none 0 0, .slice none 0 0, .int .i64 0, .bool false] 49)) w1 := (Below.refl _ _).grown hg (by simp) (fun k hk => by cases hk)
    have hb1 : Below w.heap.size w w1 := (below_alloc w _).trans (hb.mono (by omega))
    have hst : (newDk n).stable = List.replicate m zsec := by simp [newDk, he]
    have hl : (newDk n).stable.length = m := by rw [hst, List.length_replicate]
    have hrow := RowAt.new w 49 [.slice none 0 0, .slice none 0 0, .int .i64 0, .bool false]
    refine ⟨(hb.block _ (by omega)).trans hrow, hb1, by unfold rdC; rw [hl]; rfl, fun w2 hk => ?_, fun w2 hk => Nat.lt_of_lt_of_le (lt_of_heap (own_full hown).2) hk.size⟩
    rw [show (madeCells (Value.agg Try.zeroCells28).cells (m * 128)).toList = secs (List.replicate m zsec) from made_secs m] at hown
    have hwid : ∀ x ∈ (newDk n).stable, x.length = 128 := by
      intro x hx
      rw [hst] at hx
      rw [List.eq_of_mem_replicate hx]
      exact zsec_length
    obtain ⟨_, hs⟩ := own_full hown
    have hs2 : w2.heap[w.heap.size + 1]? = some (.cells (secs (List.replicate m zsec)).toArray 28 (0, 0)) := (hk.block _ (lt_of_heap hs) (by omega)).trans hs
    refine ⟨⟨by rw [secs_length _ hwid], fun _ => ⟨_, 0, rfl, fun j u hj => ?_⟩⟩, ⟨by simp [newDk, pcells], fun hp => by simp [newDk, pcells] at hp⟩, by rw [hl]; exact Nat.le_refl _, by omega, by simp [newDk], by omega, by rw [hl]; exact hm, hwid, fun x hx => by simp [newDk] at hx, by simp [newDk]⟩
    rw [cell_of_row w2 _ _ _ _ _ hs2, List.getElem?_toArray, Nat.zero_add, ← hst]
    exact hj
  by_cases h0 : n < 0
  · have HM := Lib.hid (main 0 (by omega) (by omega))
    clear main
    go_enter Try.func19, Try.ntmps19
    go_wp2_with (first
      | (at_make; refine wpList_make_full _ rfl _ _ 46 rfl (w.heap.size + 1) 28 i0 _ 128 Try.underlying46 HI.out HI0.out HI1.out .i64 .i64 _ _ 0 rfl rfl rfl rfl (by simp) (by simp) (by simp) ?_; intro w1 hown hg; simp only [World.size_alloc] at hown; obtain ⟨r1, r2, r3, r4, r5⟩ := HM.out w1 hown hg; have R1 := Lib.hid r1; have R2 := Lib.hid r2; have R3 := Lib.hid r3; have R4 := Lib.hid r4; have R5 := Lib.hid r5; clear hown hg r1 r2 r3 r4 r5)
      | (refine stN_at 49 [.slice (some ⟨w.heap.size + 1, 0, none⟩) 0 0, .slice none 0 0, .int .i64 (-1), .bool false] _ rfl _ _ rfl w.heap.size rfl R1.out rfl (by simp [Value.oneCell']) Try.sizeRD rfl ?_; intro w2 hs2 hk2; have HS2 := Lib.hid hs2; have HK2 := Lib.hid hk2; clear hs2 hk2))
    have hs3 := HS2.out
    rw [R3.out] at hs3
    exact bodyPost_ret (ret_rd Try.results19 _ _ _ _ _ _ _ _ rfl hs3) rfl ⟨_, _, rfl, R4.out _ HK2.out, R2.out.trans (HK2.out.below R2.out.size (fun i e => by subst e; omega)), fun b o e => by cases e; exact ⟨by omega, R5.out _ HK2.out⟩⟩
  · by_cases h1 : n ≤ 1024
    · obtain ⟨m, rfl⟩ := Int.eq_ofNat_of_zero_le (show 0 ≤ n by omega)
      have HM := Lib.hid (main m (by omega) (by omega))
      clear main
      go_enter Try.func19, Try.ntmps19
      go_wp2_with (first
        | (at_make; refine wpList_make_full _ rfl _ _ 46 rfl (w.heap.size + 1) 28 i0 _ 128 Try.underlying46 HI.out HI0.out HI1.out .i64 .i64 _ _ m rfl rfl (by omega) (by omega) (by rw [HI2.out]; omega) (by unfold maxLen; omega) (by simp) ?_; intro w1 hown hg; simp only [World.size_alloc] at hown; obtain ⟨r1, r2, r3, r4, r5⟩ := HM.out w1 hown hg; have R1 := Lib.hid r1; have R2 := Lib.hid r2; have R3 := Lib.hid r3; have R4 := Lib.hid r4; have R5 := Lib.hid r5; clear hown hg r1 r2 r3 r4 r5)
        | (refine stN_at 49 [.slice (some ⟨w.heap.size + 1, 0, none⟩) m m, .slice none 0 0, .int .i64 (-1), .bool false] _ rfl _ _ rfl w.heap.size rfl R1.out rfl (by simp [Value.oneCell']) Try.sizeRD rfl ?_; intro w2 hs2 hk2; have HS2 := Lib.hid hs2; have HK2 := Lib.hid hk2; clear hs2 hk2))
      have hs3 := HS2.out
      rw [R3.out] at hs3
      exact bodyPost_ret (ret_rd Try.results19 _ _ _ _ _ _ _ _ rfl hs3) rfl ⟨_, _, rfl, R4.out _ HK2.out, R2.out.trans (HK2.out.below R2.out.size (fun i e => by subst e; omega)), fun b o e => by cases e; exact ⟨by omega, R5.out _ HK2.out⟩⟩
    · have HM := Lib.hid (main 1024 (by omega) (by omega))
      clear main
      go_enter Try.func19, Try.ntmps19
      go_wp2_with (first
        | (at_make; refine wpList_make_full _ rfl _ _ 46 rfl (w.heap.size + 1) 28 i0 _ 128 Try.underlying46 HI.out HI0.out HI1.out .i64 .i64 _ _ 1024 rfl rfl (by omega) (by omega) (by rw [HI2.out]; omega) (by unfold maxLen; omega) (by simp) ?_; intro w1 hown hg; simp only [World.size_alloc] at hown; obtain ⟨r1, r2, r3, r4, r5⟩ := HM.out w1 hown hg; have R1 := Lib.hid r1; have R2 := Lib.hid r2; have R3 := Lib.hid r3; have R4 := Lib.hid r4; have R5 := Lib.hid r5; clear hown hg r1 r2 r3 r4 r5)
        | (refine stN_at 49 [.slice (some ⟨w.heap.size + 1, 0, none⟩) 1024 1024, .slice none 0 0, .int .i64 (-1), .bool false] _ rfl _ _ rfl w.heap.size rfl R1.out rfl (by simp [Value.oneCell']) Try.sizeRD rfl ?_; intro w2 hs2 hk2; have HS2 := Lib.hid hs2; have HK2 := Lib.hid hk2; clear hs2 hk2))
      have hs3 := HS2.out
      rw [R3.out] at hs3
      exact bodyPost_ret (ret_rd Try.results19 _ _ _ _ _ _ _ _ rfl hs3) rfl ⟨_, _, rfl, R4.out _ HK2.out, R2.out.trans (HK2.out.below R2.out.size (fun i e => by subst e; omega)), fun b o e => by cases e; exact ⟨by omega, R5.out _ HK2.out⟩⟩
end
end Go.Proofs.Ytoghmakbdhepfaa
