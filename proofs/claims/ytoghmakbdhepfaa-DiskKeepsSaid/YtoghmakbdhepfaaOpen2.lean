/- Openers for nested data: arrays of bytes, slices of bools, structs in slices; no program in sight. -/
import Derived.Test.YtoghmakbdhepfaaOpen
import Derived.Deep.MidRow
namespace Go.Proofs.Ytoghmakbdhepfaa
open Go.ChangeShapes Go.WideShapes Go.ChangeAt Go.RowKit

section
variable {H : Type} {enc : TypeId × Value → H} {P : Program} {w : World} {t e : TypeId} {fuel : Nat} {cs : List Value} {x : DataW H × List MemPlace}

theorem i64_wf {n : Int} (h : (Lit.int .i64 n).wf = true) : -9223372036854775808 ≤ n ∧ n ≤ 9223372036854775807 := by
  simpa [Lit.wf, IntKind.min, IntKind.max, IntKind.signed, IntKind.bits] using h
theorem u64_wf {n : Int} (h : (Lit.int .u64 n).wf = true) : 0 ≤ n ∧ n ≤ 18446744073709551615 := by
  simpa [Lit.wf, IntKind.min, IntKind.max, IntKind.signed, IntKind.bits] using h

/-- Cells whose every one is a byte's. -/
theorem bytes_of_cells : ∀ (cs : List Value), (∀ i, i < cs.length → ∃ z, cs[i]? = some (.int .u8 z) ∧ (Lit.int .u8 z).wf = true) → ∃ l : List UInt8, cs = bv l
  | [], _ => ⟨[], rfl⟩
  | c :: cs, h => by
    obtain ⟨z, hz, hw⟩ := h 0 (by simp)
    obtain ⟨l, hl⟩ := bytes_of_cells cs fun i hi => by
      have := h (i + 1) (by simp; omega)
      simpa using this
    simp at hz
    exact ⟨UInt8.ofNat z.toNat :: l, by rw [hz, hl]; simp only [bv, List.map_cons]; rw [u8_of z hw]⟩
/-- An array of bytes. -/
theorem trod_bytes {base : Nat} {spare : Nat → Bool} {held : Bool} {n : Nat} (ht : P.underlying t = some (.array n e)) (he : P.underlying e = some (.int .u8)) (hc : P.cellsOf e = 1) (hct : P.cellsOf t = n) (h : DataW.trod enc P w base spare held fuel t cs = some x) :
    ∃ l : List UInt8, cs = bv l ∧ l.length = n := by
  obtain ⟨xs, m, _, _, hl, hxl, hf⟩ := DataW.trod_array ht h
  rw [hct] at hl
  obtain ⟨l, rfl⟩ := bytes_of_cells cs fun i hi => by
    have h1 := hf i (by omega)
    rw [hc, Nat.mul_one, List.getElem?_eq_getElem (by omega)] at h1
    obtain ⟨z, hz, _, hw⟩ := DataW.trod_int he h1
    refine ⟨z, ?_, hw⟩
    have h2 := congrArg List.head? hz
    rw [List.head?_take, if_neg (by decide), List.head?_drop] at h2
    exact h2
  exact ⟨l, rfl, by rw [bv_length] at hl; exact hl⟩

theorem cells_range {base : Nat} {a : Addr} {n : Nat} {cs : List Value} (h : w.cells? base a n = some cs) : cs.length = n ∧ ∀ j u, cs[j]? = some u → w.cell? (a.add j) = some u := by
  unfold World.cells? at h
  split at h
  · have hl := mapM_some_length h
    rw [List.length_range] at hl
    refine ⟨hl, fun j u hj => ?_⟩
    have hlt : j < n := by have := (List.getElem?_eq_some_iff.1 hj).1; omega
    have := mapM_some_get h j j (by simp [hlt])
    rw [hj] at this
    exact this
  · cases h
theorem spot_none {a : Addr} {j : Nat} {u : Value} (h : w.cell? (a.add j) = some u) : (a.add j).spot = none := World.cell?_spot h
theorem add_add (a : Addr) (i j : Nat) : (a.add i).add j = a.add (i + j) := by
  unfold Addr.add
  by_cases h1 : i = 0 <;> by_cases h2 : j = 0 <;> simp [h1, h2, Nat.add_assoc]

/-- A slice of bools. -/
theorem trod_bools (hu : P.underlying t = some (.slice e)) (he : P.underlying e = some .bool) (hc : P.cellsOf e = 1) (hb : P.bytesOf e = 1) (h : DataW.trod enc P w 0 (fun _ => true) true fuel t cs = some x) (z : ∀ n ∈ x.1.weights P t, n ≤ reachBytes) :
    ∃ A n c bs, cs = [.slice A n c] ∧ RBl w A n c bs ∧ n ≤ 140737488351232 := by
  rcases Go.Deep.open_slice hu h with ⟨rfl, _⟩ | ⟨a, len, cap, m, n, D, Pl, rfl, _, hl, hm, hmm, hx, hel⟩
  · exact ⟨none, 0, 0, [], rfl, RBl.nil w, by omega⟩
  · simp only [if_true] at hmm
    subst hmm
    have hget : ∀ i, i < m → ∃ b : Bool, w.cell? (a.add i) = some (.bool b) := by
      intro i hi
      obtain ⟨cs', h1, h2⟩ := hel i hi
      rw [hc, Nat.mul_one] at h1
      obtain ⟨b, rfl, _⟩ := DataW.trod_bool he h2
      obtain ⟨_, h3⟩ := cells_range h1
      have := h3 0 _ rfl
      rw [add_add, Nat.add_zero] at this
      exact ⟨b, this⟩
    have hlt : len ≤ 140737488351232 := by
      have hw := z ((((List.range len).map D).length + ((List.range (m - len)).map fun j => D (len + j)).length) * P.bytesOf e) (by rw [hx]; simp [DataW.weights, hu])
      rw [hb] at hw
      simp only [List.length_map, List.length_range, reachBytes] at hw
      omega
    obtain ⟨f, hf⟩ : ∃ f : Nat → Bool, ∀ i, i < m → w.cell? (a.add i) = some (.bool (f i)) :=
      ⟨fun i => if h : i < m then (hget i h).choose else false, fun i hi => by
        show w.cell? (a.add i) = some (.bool (if h : i < m then (hget i h).choose else false))
        rw [dif_pos hi]
        exact (hget i hi).choose_spec⟩
    refine ⟨some a, len, m, (List.range len).map f, rfl, ⟨by simp, hl, by simpa [maxLen] using hm, fun hp => ?_⟩, hlt⟩
    obtain ⟨b, o, spot⟩ := a
    have h0 := hf 0 (by omega)
    have hs : spot = none := by simpa [Addr.add] using World.cell?_spot h0
    subst hs
    refine ⟨b, o, rfl, fun k hk => ?_⟩
    have hc1 := hf k (by omega)
    rw [add_none] at hc1
    rw [hc1, atB]
    simp [List.getD_eq_getElem?_getD, hk]
end
end Go.Proofs.Ytoghmakbdhepfaa
