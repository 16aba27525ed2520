/- The acts of the disk's laws as data, and how they came in. -/
import Derived.Test.YtoghmakbdhepfaaOpen2
import Derived.Test.YtoghmakbdhepfaaSec
namespace Go.Proofs.Ytoghmakbdhepfaa
open Go.ChangeShapes Go.WideShapes Go.ChangeAt Go.RowKit

structure ActD where
  kind : Int
  at_ : Int
  cut : Int
  data : List UInt8
  ka : Option Addr
  kn : Nat
  kc : Nat
  keep : List Bool
def actCells (a : ActD) : List Value := .int .i64 a.kind :: .int .i64 a.at_ :: .int .i64 a.cut :: (bv a.data ++ [.slice a.ka a.kn a.kc])
theorem actCells_length (a : ActD) (h : a.data.length = 128) : (actCells a).length = 132 := by simp [actCells, bv_length, h]
/-- What is known of an act. -/
structure ActOk (w : World) (a : ActD) : Prop where
  data : a.data.length = 128
  kind : -9223372036854775808 ≤ a.kind ∧ a.kind ≤ 9223372036854775807
  at_ : -9223372036854775808 ≤ a.at_ ∧ a.at_ ≤ 9223372036854775807
  cut : -9223372036854775808 ≤ a.cut ∧ a.cut ≤ 9223372036854775807
  keep : RBl w a.ka a.kn a.kc a.keep
  keepn : a.kn ≤ 140737488351232
theorem ActOk.below {w w' : World} {a : ActD} (h : ActOk w a) (hb : Below w.heap.size w w') : ActOk w' a := ⟨h.data, h.kind, h.at_, h.cut, h.keep.below hb, h.keepn⟩
/-- The k-th act (a name that the walk leaves alone). -/
def actAt (l : List ActD) (k : Nat) : ActD := l.getD k ⟨0, 0, 0, zsec, none, 0, 0, []⟩
/-- The slice value's elements are the acts l. -/
def RActs (w : World) (A : Option Addr) (n c : Nat) (l : List ActD) : Prop :=
  l.length = n ∧ n ≤ c ∧ c ≤ 9223372036854775807 ∧ (0 < n → ∃ b o, A = some ⟨b, o, none⟩ ∧ ∀ k, k < n → w.rangeAt b (o + k * 132) (actCells (actAt l k)) ∧ ActOk w (actAt l k))
theorem range_below {w w1 : World} {b o : Nat} {cs : List Value} (h : w.rangeAt b o cs) (hb : Below w.heap.size w w1) : w1.rangeAt b o cs := range_kp (S := fun _ => False) h (Kp.of_below hb) (fun hf => hf)
theorem RActs.below {w w1 : World} {A : Option Addr} {n c : Nat} {l : List ActD} (h : RActs w A n c l) (hb : Below w.heap.size w w1) : RActs w1 A n c l := by
  obtain ⟨h1, h2, h3, h4⟩ := h
  refine ⟨h1, h2, h3, fun hp => ?_⟩
  obtain ⟨b, o, e, hc⟩ := h4 hp
  exact ⟨b, o, e, fun k hk => ⟨range_below (hc k hk).1 hb, (hc k hk).2.below hb⟩⟩

section
variable {H : Type} {enc : TypeId × Value → H} {w : World} {fuel : Nat} {cs : List Value} {x : DataW H × List MemPlace}
theorem take1 {α : Type} {cs : List α} {i : Nat} {u : α} (h : (cs.drop i).take 1 = [u]) : cs[i]? = some u := by
  have h2 := congrArg List.head? h
  rw [List.head?_take, if_neg (by decide), List.head?_drop] at h2
  exact h2
/-- An act that came in. -/
theorem trod_act (h : DataW.trod enc Try.prog w 0 (fun _ => true) true fuel 31 cs = some x) (z : ∀ n ∈ x.1.weights Try.prog 31, n ≤ reachBytes) :
    ∃ a : ActD, cs = actCells a ∧ ActOk w a := by
  have hc3 : Try.prog.cellsOf 3 = 1 := by kernel_rfl
  have hc37 : Try.prog.cellsOf 28 = 128 := by kernel_rfl
  have hc38 : Try.prog.cellsOf 29 = 1 := by kernel_rfl
  have hc40 : Try.prog.cellsOf 31 = 132 := by kernel_rfl
  obtain ⟨xs, m, _, hx, hl, hxl, hf⟩ := DataW.trod_struct Try.underlying31 h
  rw [hc40] at hl
  have hxl : xs.length = 5 := hxl
  have f0 : DataW.trod enc Try.prog w 0 (fun _ => true) true m 3 ((cs.drop 0).take (Try.prog.cellsOf 3)) = xs[0]? := hf 0 _ rfl
  rw [hc3, List.getElem?_eq_getElem (by omega)] at f0
  have f1 : DataW.trod enc Try.prog w 0 (fun _ => true) true m 3 ((cs.drop 1).take (Try.prog.cellsOf 3)) = xs[1]? := hf 1 _ rfl
  rw [hc3, List.getElem?_eq_getElem (by omega)] at f1
  have f2 : DataW.trod enc Try.prog w 0 (fun _ => true) true m 3 ((cs.drop 2).take (Try.prog.cellsOf 3)) = xs[2]? := hf 2 _ rfl
  rw [hc3, List.getElem?_eq_getElem (by omega)] at f2
  have f3 : DataW.trod enc Try.prog w 0 (fun _ => true) true m 28 ((cs.drop 3).take (Try.prog.cellsOf 28)) = xs[3]? := hf 3 _ rfl
  rw [hc37, List.getElem?_eq_getElem (by omega)] at f3
  have f4 : DataW.trod enc Try.prog w 0 (fun _ => true) true m 29 ((cs.drop 131).take (Try.prog.cellsOf 29)) = xs[4]? := hf 4 _ rfl
  rw [hc38, List.getElem?_eq_getElem (by omega)] at f4
  obtain ⟨n0, e0, _, w0⟩ := DataW.trod_int Try.underlying3 f0
  obtain ⟨n1, e1, _, w1⟩ := DataW.trod_int Try.underlying3 f1
  obtain ⟨n2, e2, _, w2⟩ := DataW.trod_int Try.underlying3 f2
  obtain ⟨l, e3, hll⟩ := trod_bytes Try.underlying28 Try.underlying5 (by kernel_rfl) hc37 f3
  obtain ⟨A, n, c, bs, e4, hrb, hn⟩ := trod_bools Try.underlying29 Try.underlying4 (by kernel_rfl) (by kernel_rfl) f4 (fun n hn => z n (by
    rw [hx]
    have hd : (xs.map (·.1))[4]? = some xs[4].1 := by rw [List.getElem?_map, List.getElem?_eq_getElem (by omega)]; rfl
    simp only [DataW.weights, Try.underlying31]
    exact DataW.weights_mem_each (j := 4) rfl hd n hn))
  refine ⟨⟨n0, n1, n2, l, A, n, c, bs⟩, ?_, ⟨hll, i64_wf w0, i64_wf w1, i64_wf w2, hrb, hn⟩⟩
  apply List.ext_getElem?
  intro i
  have g0 := take1 e0
  have g1 := take1 e1
  have g2 := take1 e2
  have g4 := take1 e4
  unfold actCells
  match i with
  | 0 => exact g0
  | 1 => exact g1
  | 2 => exact g2
  | i + 3 =>
    simp only [List.getElem?_cons_succ]
    by_cases h1 : i < 128
    · have h2 : ((cs.drop 3).take 128)[i]? = (bv l)[i]? := by rw [e3]
      rw [List.getElem?_take, if_pos h1, List.getElem?_drop, Nat.add_comm] at h2
      rw [h2, List.getElem?_append_left (by rw [bv_length]; omega)]
    · by_cases h2 : i = 128
      · subst h2
        rw [List.getElem?_append_right (by rw [bv_length]; omega), bv_length, hll]
        exact g4
      · rw [List.getElem?_eq_none (by omega), List.getElem?_eq_none (by simp [bv_length]; omega)]
set_option maxRecDepth 100000 in
/-- The acts that came in. -/
theorem open_acts {base : Nat} {v : Value} {d : DataW H} {p : List MemPlace} {W : World} (o : Value.okWide Try.prog W .any base 26 v) (r : DataW.Trod enc Try.prog W 0 (fun _ => true) true 26 v d p) (z : ∀ n ∈ d.weights Try.prog 26, n ≤ reachBytes) :
    ∃ A n c l, v = .slice A n c ∧ RActs W A n c l := by
  have hc40 : Try.prog.cellsOf 31 = 132 := by kernel_rfl
  obtain ⟨A0, len0, cap0, rfl⟩ := okWide_slice Try.underlying26 o
  obtain ⟨fuel, hf⟩ := r
  rcases Go.Deep.open_slice Try.underlying26 hf with ⟨hcs, _⟩ | ⟨a, len, cap, m, n, D, Pl, hcs, _, hl, hm, hmm, hx, hel⟩
  · simp [Value.cells] at hcs
    obtain ⟨rfl, rfl, rfl⟩ := hcs
    exact ⟨none, 0, 0, [], rfl, rfl, Nat.le_refl _, by omega, fun hp => absurd hp (by omega)⟩
  · simp [Value.cells] at hcs
    obtain ⟨rfl, rfl, rfl⟩ := hcs
    simp only [if_true] at hmm
    subst hmm
    have hd : d = .slice ((List.range len0).map D) ((List.range (m - len0)).map fun j => D (len0 + j)) := (Prod.mk.inj hx).1
    have hget : ∀ i, i < len0 → ∃ ac : ActD, (∀ j u, (actCells ac)[j]? = some u → W.cell? ((a.add (i * 132)).add j) = some u) ∧ ActOk W ac := by
      intro i hi
      obtain ⟨cs', h1, h2⟩ := hel i (by omega)
      rw [hc40] at h1
      obtain ⟨ac, rfl, hok⟩ := trod_act h2 (fun q hq => z q (by
        rw [hd]
        exact weights_elem Try.underlying26 (List.mem_map.2 ⟨i, by simpa using hi, rfl⟩) q hq))
      exact ⟨ac, (cells_range h1).2, hok⟩
    obtain ⟨f, hf⟩ : ∃ f : Nat → ActD, ∀ i, i < len0 → (∀ j u, (actCells (f i))[j]? = some u → W.cell? ((a.add (i * 132)).add j) = some u) ∧ ActOk W (f i) :=
      ⟨fun i => if h : i < len0 then (hget i h).choose else ⟨0, 0, 0, zsec, none, 0, 0, []⟩, fun i hi => by
        simp only [dif_pos hi]
        exact (hget i hi).choose_spec⟩
    refine ⟨some a, len0, m, (List.range len0).map f, rfl, by simp, hl, by simpa [maxLen] using hm, fun hp => ?_⟩
    obtain ⟨b, o, spot⟩ := a
    have h0 := (hf 0 hp).1 0 _ rfl
    rw [Nat.zero_mul, add_add, Nat.add_zero] at h0
    have hs : spot = none := by simpa [Addr.add] using World.cell?_spot h0
    subst hs
    refine ⟨b, _, rfl, fun k hk => ?_⟩
    have e : actAt ((List.range len0).map f) k = f k := by simp [actAt, List.getD_eq_getElem?_getD, hk]
    rw [e]
    refine ⟨fun j u hj => ?_, (hf k hk).2⟩
    have := (hf k hk).1 j u hj
    rwa [add_add, add_none, ← Nat.add_assoc] at this
end
end Go.Proofs.Ytoghmakbdhepfaa
