/- Slices of structs that came in, by a law on one of them. -/
import Derived.Test.YtanibabfdpgbbaaOpenU
namespace Go.Proofs.Ytanibabfdpgbbaa
open Go.ChangeShapes Go.WideShapes Go.ChangeAt Go.RowKit

/-- The slice's elements are read: the k-th is f k. -/
def RElems {α : Type} (cells : α → List Value) (m : Nat) (w : World) (A : Option Addr) (n c : Nat) (f : Nat → α) : Prop :=
  n ≤ c ∧ c ≤ 9223372036854775807 ∧ (0 < n → ∃ b o, A = some ⟨b, o, none⟩ ∧ ∀ k, k < n → w.rangeAt b (o + k * m) (cells (f k)))
theorem RElems.below {α : Type} {cells : α → List Value} {m : Nat} {w w' : World} {A : Option Addr} {n c : Nat} {f : Nat → α} (h : RElems cells m w A n c f) (hb : Below w.heap.size w w') : RElems cells m w' A n c f := by
  obtain ⟨h1, h2, h3⟩ := h
  refine ⟨h1, h2, fun hp => ?_⟩
  obtain ⟨b, o, e, hc⟩ := h3 hp
  exact ⟨b, o, e, fun k hk => range_belowF (hc k hk) hb⟩
section
variable {H : Type} {enc : TypeId × Value → H} {P : Program} {W : World} {base : Nat} {t e : TypeId} {v : Value} {d : DataW H} {p : List MemPlace}
theorem open_elems {α : Type} [Inhabited α] (cells : α → List Value) (m : Nat) (hu : P.underlying t = some (.slice e)) (hce : P.cellsOf e = m) (hm : ∀ a, 0 < (cells a).length)
    (el : ∀ fuel cs (x : DataW H × List MemPlace), DataW.trod enc P W 0 (fun _ => true) true fuel e cs = some x → ∃ a, cs = cells a)
    (o : Value.okWide P W .any base t v) (r : DataW.Trod enc P W 0 (fun _ => true) true t v d p) :
    ∃ A n c f, v = .slice A n c ∧ RElems cells m W A n c f := by
  obtain ⟨A0, len0, cap0, rfl⟩ := okWide_slice hu o
  obtain ⟨fuel, hf⟩ := r
  rcases Go.Deep.open_slice hu hf with ⟨hcs, _⟩ | ⟨a, len, cap, m0, n, D, Pl, hcs, _, hl, hm0, hmm, hx, hel⟩
  · simp [Value.cells] at hcs
    obtain ⟨rfl, rfl, rfl⟩ := hcs
    exact ⟨none, 0, 0, fun _ => default, rfl, Nat.le_refl _, by omega, fun hp => absurd hp (by omega)⟩
  · simp [Value.cells] at hcs
    obtain ⟨rfl, rfl, rfl⟩ := hcs
    simp only [if_true] at hmm
    subst hmm
    have hget : ∀ i, i < len0 → ∃ ac : α, ∀ j u, (cells ac)[j]? = some u → W.cell? ((a.add (i * m)).add j) = some u := by
      intro i hi
      obtain ⟨cs', h1, h2⟩ := hel i (by omega)
      rw [hce] at h1
      obtain ⟨ac, rfl⟩ := el _ _ _ h2
      exact ⟨ac, (cells_range h1).2⟩
    obtain ⟨f, hf2⟩ : ∃ f : Nat → α, ∀ i, i < len0 → ∀ j u, (cells (f i))[j]? = some u → W.cell? ((a.add (i * m)).add j) = some u := by
      refine ⟨fun i => if h : i < len0 then (hget i h).choose else default, fun i hi => ?_⟩
      show ∀ j u, (cells (if h : i < len0 then (hget i h).choose else default))[j]? = some u → W.cell? ((a.add (i * m)).add j) = some u
      rw [dif_pos hi]
      exact (hget i hi).choose_spec
    refine ⟨some a, len0, m0, f, rfl, hl, by simpa [maxLen] using hm0, fun hp => ?_⟩
    obtain ⟨b, off, spot⟩ := a
    have h0 := hf2 0 hp 0 _ (List.getElem?_eq_getElem (hm _))
    rw [Nat.zero_mul, add_add, Nat.add_zero] at h0
    have hs : spot = none := by simpa [Addr.add] using World.cell?_spot h0
    subst hs
    refine ⟨b, off, rfl, fun k hk => ?_⟩
    intro j u hj
    have := hf2 k hk j u hj
    rwa [add_add, add_none, ← Nat.add_assoc] at this
end
section
variable {H : Type} {enc : TypeId × Value → H} {W : World}
set_option maxRecDepth 100000 in
theorem trod_super {fuel : Nat} {cs : List Value} {x : DataW H × List MemPlace} (hf : DataW.trod enc Try.prog W 0 (fun _ => true) true fuel 24 cs = some x) : ∃ s : SD, cs = s.cells := by
  have hc85 : Try.prog.cellsOf 22 = 1 := by kernel_rfl
  have hc3 : Try.prog.cellsOf 3 = 1 := by kernel_rfl
  have hct : Try.prog.cellsOf 24 = 6 := by kernel_rfl
  obtain ⟨xs, m, _, hx, hl, hxl, hfe⟩ := DataW.trod_struct Try.underlying24 hf
  rw [hct] at hl
  have hxl : xs.length = 6 := hxl
  have f0 : DataW.trod enc Try.prog W 0 (fun _ => true) true m 22 ((cs.drop 0).take (Try.prog.cellsOf 22)) = xs[0]? := hfe 0 _ rfl
  have f1 : DataW.trod enc Try.prog W 0 (fun _ => true) true m 3 ((cs.drop 1).take (Try.prog.cellsOf 3)) = xs[1]? := hfe 1 _ rfl
  have f2 : DataW.trod enc Try.prog W 0 (fun _ => true) true m 3 ((cs.drop 2).take (Try.prog.cellsOf 3)) = xs[2]? := hfe 2 _ rfl
  have f3 : DataW.trod enc Try.prog W 0 (fun _ => true) true m 3 ((cs.drop 3).take (Try.prog.cellsOf 3)) = xs[3]? := hfe 3 _ rfl
  have f4 : DataW.trod enc Try.prog W 0 (fun _ => true) true m 3 ((cs.drop 4).take (Try.prog.cellsOf 3)) = xs[4]? := hfe 4 _ rfl
  have f5 : DataW.trod enc Try.prog W 0 (fun _ => true) true m 3 ((cs.drop 5).take (Try.prog.cellsOf 3)) = xs[5]? := hfe 5 _ rfl
  rw [hc85, List.getElem?_eq_getElem (by omega)] at f0
  rw [hc3, List.getElem?_eq_getElem (by omega)] at f1 f2 f3 f4 f5
  obtain ⟨n0, e0, _, w0⟩ := DataW.trod_int Try.underlying22 f0
  obtain ⟨n1, e1, _, _⟩ := DataW.trod_int Try.underlying3 f1
  obtain ⟨n2, e2, _, _⟩ := DataW.trod_int Try.underlying3 f2
  obtain ⟨n3, e3, _, _⟩ := DataW.trod_int Try.underlying3 f3
  obtain ⟨n4, e4, _, _⟩ := DataW.trod_int Try.underlying3 f4
  obtain ⟨n5, e5, _, _⟩ := DataW.trod_int Try.underlying3 f5
  obtain ⟨h0, h0'⟩ := u64_wf w0
  obtain ⟨g, rfl⟩ := Int.eq_ofNat_of_zero_le h0
  refine ⟨⟨g, n1, n2, n3, n4, n5⟩, ?_⟩
  have g0 := take1F e0
  have g1 := take1F e1
  have g2 := take1F e2
  have g3 := take1F e3
  have g4 := take1F e4
  have g5 := take1F e5
  match cs, hl, g0, g1, g2, g3, g4, g5 with
  | [a, b, c, d, e, f], _, g0, g1, g2, g3, g4, g5 =>
    simp at g0 g1 g2 g3 g4 g5
    subst g0 g1 g2 g3 g4 g5
    rfl
def pairCells (x : Int × Int) : List Value := [.int .i64 x.1, .int .i64 x.2]
set_option maxRecDepth 100000 in
theorem trod_pair {fuel : Nat} {cs : List Value} {x : DataW H × List MemPlace} (hf : DataW.trod enc Try.prog W 0 (fun _ => true) true fuel 51 cs = some x) : ∃ y : { y : Int × Int // y.1 ≤ 9223372036854775807 }, cs = pairCells y.1 := by
  have hct : Try.prog.cellsOf 51 = 2 := by kernel_rfl
  have hc : Try.prog.cellsOf 3 = 1 := by kernel_rfl
  obtain ⟨xs, m, _, _, hl, hxl, hfe⟩ := DataW.trod_array Try.underlying51 hf
  rw [hct] at hl
  have f0 := hfe 0 (by omega)
  have f1 := hfe 1 (by omega)
  rw [hc, List.getElem?_eq_getElem (by omega)] at f0 f1
  obtain ⟨n0, e0, _, w0⟩ := DataW.trod_int Try.underlying3 f0
  obtain ⟨n1, e1, _, _⟩ := DataW.trod_int Try.underlying3 f1
  refine ⟨⟨(n0, n1), (i64_wf w0).2⟩, ?_⟩
  have g0 := take1F e0
  have g1 := take1F e1
  match cs, hl, g0, g1 with
  | [x, y], _, g0, g1 =>
    simp at g0 g1
    subst g0 g1
    rfl
end
set_option maxRecDepth 100000 in
/-- A slice of bools that came in. -/
theorem open_bools {H : Type} {enc : TypeId × Value → H} {W : World} {base : Nat} {v : Value} {d : DataW H} {p : List MemPlace} (o : Value.okWide Try.prog W .any base 49 v) (r : DataW.Trod enc Try.prog W 0 (fun _ => true) true 49 v d p) (z : ∀ n ∈ d.weights Try.prog 49, n ≤ reachBytes) :
    ∃ A n c keep, v = .slice A n c ∧ RBl W A n c keep ∧ n ≤ 140737488351232 := by
  obtain ⟨A0, n0, c0, rfl⟩ := okWide_slice Try.underlying49 o
  obtain ⟨fuel, hf⟩ := r
  obtain ⟨A, n, c, keep, h1, h2, h3⟩ := trod_bools Try.underlying49 Try.underlying4 (by kernel_rfl) (by kernel_rfl) hf z
  simp [Value.cells] at h1
  obtain ⟨rfl, rfl, rfl⟩ := h1
  exact ⟨_, _, _, keep, rfl, h2, h3⟩
end Go.Proofs.Ytanibabfdpgbbaa
