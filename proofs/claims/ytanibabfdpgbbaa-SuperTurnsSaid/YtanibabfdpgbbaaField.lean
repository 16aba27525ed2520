/- Fields (a number and bytes) as data: read in memory, and how they came in. -/
import Derived.Test.YtanibabfdpgbbaaOpen2
import Derived.Test.YtanibabfdpgbbaaMem
import Derived.Test.YtanibabfdpgbbaaProg
import Derived.KernelRfl
namespace Go.Proofs.Ytanibabfdpgbbaa
open Go.ChangeShapes Go.WideShapes Go.ChangeAt Go.RowKit

structure FieldD where
  num : Nat
  A : Option Addr
  n : Nat
  c : Nat
  bytes : List UInt8
def fieldCells (f : FieldD) : List Value := [.int .u64 f.num, .slice f.A f.n f.c]
structure FieldOk (w : World) (f : FieldD) : Prop where
  num : f.num < 18446744073709551616
  rb : RB w f.A f.n f.c f.bytes
  len : f.n ≤ 140737488351232
theorem FieldOk.below {w w' : World} {f : FieldD} (h : FieldOk w f) (hb : Below w.heap.size w w') : FieldOk w' f := ⟨h.num, h.rb.below hb, h.len⟩
/-- The k-th field (a name that the walk leaves alone). -/
def fieldAt (l : List FieldD) (k : Nat) : FieldD := l.getD k ⟨0, none, 0, 0, []⟩
/-- The slice value's elements are the fields l. -/
def RFields (w : World) (A : Option Addr) (n c : Nat) (l : List FieldD) : Prop :=
  l.length = n ∧ n ≤ c ∧ c ≤ 9223372036854775807 ∧ (0 < n → ∃ b o, A = some ⟨b, o, none⟩ ∧ ∀ k, k < n → w.rangeAt b (o + k * 2) (fieldCells (fieldAt l k)) ∧ FieldOk w (fieldAt l k))
theorem range_belowF {w w1 : World} {b o : Nat} {cs : List Value} (h : w.rangeAt b o cs) (hb : Below w.heap.size w w1) : w1.rangeAt b o cs := by
  intro j u hj
  have h1 := h j u hj
  rw [← h1]
  exact World.cell?_of_block (hb.block b (World.block_lt_of_cell? w _ h1))
theorem RFields.below {w w1 : World} {A : Option Addr} {n c : Nat} {l : List FieldD} (h : RFields w A n c l) (hb : Below w.heap.size w w1) : RFields w1 A n c l := by
  obtain ⟨h1, h2, h3, h4⟩ := h
  refine ⟨h1, h2, h3, fun hp => ?_⟩
  obtain ⟨b, o, e, hc⟩ := h4 hp
  exact ⟨b, o, e, fun k hk => ⟨range_belowF (hc k hk).1 hb, (hc k hk).2.below hb⟩⟩

section
variable {H : Type} {enc : TypeId × Value → H} {P : Program} {w : World} {t e : TypeId} {fuel : Nat} {cs : List Value} {x : DataW H × List MemPlace}
theorem take1F {α : Type} {cs : List α} {i : Nat} {u : α} (h : (cs.drop i).take 1 = [u]) : cs[i]? = some u := by
  have h2 := congrArg List.head? h
  rw [List.head?_take, if_neg (by decide), List.head?_drop] at h2
  exact h2
/-- A slice of bytes within something. -/
theorem trod_u8s (hu : P.underlying t = some (.slice e)) (he : P.underlying e = some (.int .u8)) (hc : P.cellsOf e = 1) (hb : P.bytesOf e = 1) (h : DataW.trod enc P w 0 (fun _ => true) true fuel t cs = some x) (z : ∀ n ∈ x.1.weights P t, n ≤ reachBytes) :
    ∃ A n c xs, cs = [.slice A n c] ∧ RB w A n c xs ∧ n ≤ 140737488351232 := by
  rcases Go.Deep.open_slice hu h with ⟨rfl, _⟩ | ⟨a, len, cap, m, n, D, Pl, rfl, _, hl, hm, hmm, hx, hel⟩
  · exact ⟨none, 0, 0, [], rfl, RB.nil w, by omega⟩
  · simp only [if_true] at hmm
    subst hmm
    have hget : ∀ i, i < m → ∃ b : UInt8, w.cell? (a.add i) = some (.int .u8 (b.toNat : Int)) := by
      intro i hi
      obtain ⟨cs', h1, h2⟩ := hel i hi
      rw [hc, Nat.mul_one] at h1
      obtain ⟨b, rfl, _, hw⟩ := DataW.trod_int he h2
      obtain ⟨_, h3⟩ := cells_range h1
      have := h3 0 _ rfl
      rw [add_add, Nat.add_zero] at this
      exact ⟨UInt8.ofNat b.toNat, by rw [u8_of b hw]; exact this⟩
    have hlt : len ≤ 140737488351232 := by
      have hw := z ((((List.range len).map D).length + ((List.range (m - len)).map fun j => D (len + j)).length) * P.bytesOf e) (by rw [hx]; simp [DataW.weights, hu])
      rw [hb] at hw
      simp only [List.length_map, List.length_range, reachBytes] at hw
      omega
    obtain ⟨f, hf⟩ : ∃ f : Nat → UInt8, ∀ i, i < m → w.cell? (a.add i) = some (.int .u8 ((f i).toNat : Int)) :=
      ⟨fun i => if h : i < m then (hget i h).choose else 0, fun i hi => by
        simp only [dif_pos hi]
        exact (hget i hi).choose_spec⟩
    refine ⟨some a, len, m, (List.range len).map f, rfl, ⟨by simp, hl, by simpa [maxLen] using hm, fun hp => ?_⟩, hlt⟩
    obtain ⟨b, o, spot⟩ := a
    have h0 := hf 0 (by omega)
    have hs : spot = none := by simpa [Addr.add] using World.cell?_spot h0
    subst hs
    refine ⟨b, o, rfl, fun k hk => ?_⟩
    have hc1 := hf k (by omega)
    rw [add_none] at hc1
    rw [hc1, at8]
    simp [List.getD_eq_getElem?_getD, hk]
end
section
variable {H : Type} {enc : TypeId × Value → H} {w : World} {fuel : Nat} {cs : List Value} {x : DataW H × List MemPlace}
set_option maxRecDepth 100000 in
/-- A field that came in. -/
theorem trod_field (h : DataW.trod enc Try.prog w 0 (fun _ => true) true fuel 83 cs = some x) (z : ∀ n ∈ x.1.weights Try.prog 83, n ≤ reachBytes) :
    ∃ f : FieldD, cs = fieldCells f ∧ FieldOk w f := by
  have hc85 : Try.prog.cellsOf 22 = 1 := by kernel_rfl
  have hc24 : Try.prog.cellsOf 76 = 1 := by kernel_rfl
  have hc87 : Try.prog.cellsOf 83 = 2 := by kernel_rfl
  obtain ⟨xs, m, _, hx, hl, hxl, hf⟩ := DataW.trod_struct Try.underlying83 h
  rw [hc87] at hl
  have hxl : xs.length = 2 := hxl
  have f0 : DataW.trod enc Try.prog w 0 (fun _ => true) true m 22 ((cs.drop 0).take (Try.prog.cellsOf 22)) = xs[0]? := hf 0 _ rfl
  rw [hc85, List.getElem?_eq_getElem (by omega)] at f0
  have f1 : DataW.trod enc Try.prog w 0 (fun _ => true) true m 76 ((cs.drop 1).take (Try.prog.cellsOf 76)) = xs[1]? := hf 1 _ rfl
  rw [hc24, List.getElem?_eq_getElem (by omega)] at f1
  obtain ⟨n0, e0, _, w0⟩ := DataW.trod_int Try.underlying22 f0
  obtain ⟨A, n, c, bs, e1, hrb, hn⟩ := trod_u8s Try.underlying76 Try.underlying5 (by kernel_rfl) (by kernel_rfl) f1 (fun n hn => z n (by
    rw [hx]
    have hd : (xs.map (·.1))[1]? = some xs[1].1 := by rw [List.getElem?_map, List.getElem?_eq_getElem (by omega)]; rfl
    simp only [DataW.weights, Try.underlying83]
    exact DataW.weights_mem_each (j := 1) rfl hd n hn))
  obtain ⟨h0, h1⟩ := u64_wf w0
  obtain ⟨k, rfl⟩ := Int.eq_ofNat_of_zero_le h0
  refine ⟨⟨k, A, n, c, bs⟩, ?_, ⟨show k < 18446744073709551616 by omega, hrb, hn⟩⟩
  have g0 := take1F e0
  have g1 := take1F e1
  match cs, hl, g0, g1 with
  | [a, b], _, g0, g1 =>
    simp at g0 g1
    subst g0 g1
    rfl
set_option maxRecDepth 100000 in
/-- The fields that came in. -/
theorem open_fields {base : Nat} {v : Value} {d : DataW H} {p : List MemPlace} {W : World} (o : Value.okWide Try.prog W .any base 79 v) (r : DataW.Trod enc Try.prog W 0 (fun _ => true) true 79 v d p) (z : ∀ n ∈ d.weights Try.prog 79, n ≤ reachBytes) :
    ∃ A n c l, v = .slice A n c ∧ RFields W A n c l ∧ n * 32 ≤ 140737488351232 := by
  have hc87 : Try.prog.cellsOf 83 = 2 := by kernel_rfl
  have hb87 : Try.prog.bytesOf 83 = 32 := by kernel_rfl
  obtain ⟨A0, len0, cap0, rfl⟩ := okWide_slice Try.underlying79 o
  obtain ⟨fuel, hf⟩ := r
  rcases Go.Deep.open_slice Try.underlying79 hf with ⟨hcs, _⟩ | ⟨a, len, cap, m, n, D, Pl, hcs, _, hl, hm, hmm, hx, hel⟩
  · simp [Value.cells] at hcs
    obtain ⟨rfl, rfl, rfl⟩ := hcs
    exact ⟨none, 0, 0, [], rfl, ⟨rfl, Nat.le_refl _, by omega, fun hp => absurd hp (by omega)⟩, by omega⟩
  · simp [Value.cells] at hcs
    obtain ⟨rfl, rfl, rfl⟩ := hcs
    simp only [if_true] at hmm
    subst hmm
    have hd : d = .slice ((List.range len0).map D) ((List.range (m - len0)).map fun j => D (len0 + j)) := (Prod.mk.inj hx).1
    have hlt : len0 * 32 ≤ 140737488351232 := by
      have hw := z ((((List.range len0).map D).length + ((List.range (m - len0)).map fun j => D (len0 + j)).length) * Try.prog.bytesOf 83) (by rw [hd]; simp [DataW.weights, Try.underlying79])
      rw [hb87] at hw
      simp only [List.length_map, List.length_range, reachBytes] at hw
      omega
    have hget : ∀ i, i < len0 → ∃ ac : FieldD, (∀ j u, (fieldCells ac)[j]? = some u → W.cell? ((a.add (i * 2)).add j) = some u) ∧ FieldOk W ac := by
      intro i hi
      obtain ⟨cs', h1, h2⟩ := hel i (by omega)
      rw [hc87] at h1
      obtain ⟨ac, rfl, hok⟩ := trod_field h2 (fun q hq => z q (by
        rw [hd]
        exact weights_elem Try.underlying79 (List.mem_map.2 ⟨i, by simpa using hi, rfl⟩) q hq))
      exact ⟨ac, (cells_range h1).2, hok⟩
    obtain ⟨f, hf⟩ : ∃ f : Nat → FieldD, ∀ i, i < len0 → (∀ j u, (fieldCells (f i))[j]? = some u → W.cell? ((a.add (i * 2)).add j) = some u) ∧ FieldOk W (f i) :=
      ⟨fun i => if h : i < len0 then (hget i h).choose else ⟨0, none, 0, 0, []⟩, fun i hi => by
        simp only [dif_pos hi]
        exact (hget i hi).choose_spec⟩
    refine ⟨some a, len0, m, (List.range len0).map f, rfl, ⟨by simp, hl, by simpa [maxLen] using hm, fun hp => ?_⟩, hlt⟩
    obtain ⟨b, o, spot⟩ := a
    have h0 := (hf 0 hp).1 0 _ rfl
    rw [Nat.zero_mul, add_add, Nat.add_zero] at h0
    have hs : spot = none := by simpa [Addr.add] using World.cell?_spot h0
    subst hs
    refine ⟨b, _, rfl, fun k hk => ?_⟩
    have e : fieldAt ((List.range len0).map f) k = f k := by simp [fieldAt, List.getD_eq_getElem?_getD, hk]
    rw [e]
    refine ⟨fun j u hj => ?_, (hf k hk).2⟩
    have := (hf k hk).1 j u hj
    rwa [add_add, add_none, ← Nat.add_assoc] at this
end
end Go.Proofs.Ytanibabfdpgbbaa
