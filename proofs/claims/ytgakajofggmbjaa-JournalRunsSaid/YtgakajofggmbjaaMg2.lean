/- Fields (a number and bytes) as data: read in memory, and how they came in. -/
import Derived.Test.YtgakajofggmbjaaMg1
import Derived.Test.YtgakajofggmbjaaProg
import Derived.KernelRfl
import Derived.Laws.CopyOwn
import Derived.WalkKit
import Derived.Tactics
import Derived.Tactics2
import Derived.Defers
import Derived.Recover
import Derived.Laws.Pointers
import Derived.Lib.Hide
import Derived.WalkSpells
import Derived.WalkLawsBesides
import Derived.Deep.MidRow
import Derived.Deep.AppendLies
import Derived.Deep.RegionHeld3
namespace Go.Proofs.Ytgakajofggmbjaa
open Go.ChangeShapes Go.WideShapes Go.ChangeAt Go.RowKit

structure FieldD where
  num : Nat
  A : Option Addr
  n : Nat
  c : Nat
  bytes : List UInt8
def fieldCells (f : FieldD) : List Value := [.int .u64 f.num, .slice f.A f.n f.c]
structure FieldOk (w : World) (f : FieldD) : Prop where
  num : f.num < 18446744073709551616
  rb : RB w f.A f.n f.c f.bytes
  len : f.n ≤ 140737488351232
theorem FieldOk.below {w w' : World} {f : FieldD} (h : FieldOk w f) (hb : Below w.heap.size w w') : FieldOk w' f := ⟨h.num, h.rb.below hb, h.len⟩
/-- The k-th field (a name that the walk leaves alone). -/
def fieldAt (l : List FieldD) (k : Nat) : FieldD := l.getD k ⟨0, none, 0, 0, []⟩
/-- The slice value's elements are the fields l. -/
def RFields (w : World) (A : Option Addr) (n c : Nat) (l : List FieldD) : Prop :=
  l.length = n ∧ n ≤ c ∧ c ≤ 9223372036854775807 ∧ (0 < n → ∃ b o, A = some ⟨b, o, none⟩ ∧ ∀ k, k < n → w.rangeAt b (o + k * 2) (fieldCells (fieldAt l k)) ∧ FieldOk w (fieldAt l k))
theorem range_belowF {w w1 : World} {b o : Nat} {cs : List Value} (h : w.rangeAt b o cs) (hb : Below w.heap.size w w1) : w1.rangeAt b o cs := by
  intro j u hj
  have h1 := h j u hj
  rw [← h1]
  exact World.cell?_of_block (hb.block b (World.block_lt_of_cell? w _ h1))
theorem RFields.below {w w1 : World} {A : Option Addr} {n c : Nat} {l : List FieldD} (h : RFields w A n c l) (hb : Below w.heap.size w w1) : RFields w1 A n c l := by
  obtain ⟨h1, h2, h3, h4⟩ := h
  refine ⟨h1, h2, h3, fun hp => ?_⟩
  obtain ⟨b, o, e, hc⟩ := h4 hp
  exact ⟨b, o, e, fun k hk => ⟨range_belowF (hc k hk).1 hb, (hc k hk).2.below hb⟩⟩

section
variable {H : Type} {enc : TypeId × Value → H} {P : Program} {w : World} {t e : TypeId} {fuel : Nat} {cs : List Value} {x : DataW H × List MemPlace}
theorem take1F {α : Type} {cs : List α} {i : Nat} {u : α} (h : (cs.drop i).take 1 = [u]) : cs[i]? = some u := by
  have h2 := congrArg List.head? h
  rw [List.head?_take, if_neg (by decide), List.head?_drop] at h2
  exact h2
/-- A slice of bytes within something. -/
theorem trod_u8s (hu : P.underlying t = some (.slice e)) (he : P.underlying e = some (.int .u8)) (hc : P.cellsOf e = 1) (hb : P.bytesOf e = 1) (h : DataW.trod enc P w 0 (fun _ => true) true fuel t cs = some x) (z : ∀ n ∈ x.1.weights P t, n ≤ reachBytes) :
    ∃ A n c xs, cs = [.slice A n c] ∧ RB w A n c xs ∧ n ≤ 140737488351232 := by
  rcases Go.Deep.open_slice hu h with ⟨rfl, _⟩ | ⟨a, len, cap, m, n, D, Pl, rfl, _, hl, hm, hmm, hx, hel⟩
  · exact ⟨none, 0, 0, [], rfl, RB.nil w, by omega⟩
  · simp only [if_true] at hmm
    subst hmm
    have hget : ∀ i, i < m → ∃ b : UInt8, w.cell? (a.add i) = some (.int .u8 (b.toNat : Int)) := by
      intro i hi
      obtain ⟨cs', h1, h2⟩ := hel i hi
      rw [hc, Nat.mul_one] at h1
      obtain ⟨b, rfl, _, hw⟩ := DataW.trod_int he h2
      obtain ⟨_, h3⟩ := cells_range h1
      have := h3 0 _ rfl
      rw [add_add, Nat.add_zero] at this
      exact ⟨UInt8.ofNat b.toNat, by rw [u8_of b hw]; exact this⟩
    have hlt : len ≤ 140737488351232 := by
      have hw := z ((((List.range len).map D).length + ((List.range (m - len)).map fun j => D (len + j)).length) * P.bytesOf e) (by rw [hx]; simp [DataW.weights, hu])
      rw [hb] at hw
      simp only [List.length_map, List.length_range, reachBytes] at hw
      omega
    obtain ⟨f, hf⟩ : ∃ f : Nat → UInt8, ∀ i, i < m → w.cell? (a.add i) = some (.int .u8 ((f i).toNat : Int)) :=
      ⟨fun i => if h : i < m then (hget i h).choose else 0, fun i hi => by
        simp only [dif_pos hi]
        exact (hget i hi).choose_spec⟩
    refine ⟨some a, len, m, (List.range len).map f, rfl, ⟨by simp, hl, by simpa [maxLen] using hm, fun hp => ?_⟩, hlt⟩
    obtain ⟨b, o, spot⟩ := a
    have h0 := hf 0 (by omega)
    have hs : spot = none := by simpa [Addr.add] using World.cell?_spot h0
    subst hs
    refine ⟨b, o, rfl, fun k hk => ?_⟩
    have hc1 := hf k (by omega)
    rw [add_none] at hc1
    rw [hc1, at8]
    simp [List.getD_eq_getElem?_getD, hk]
end
section
variable {H : Type} {enc : TypeId × Value → H} {w : World} {fuel : Nat} {cs : List Value} {x : DataW H × List MemPlace}
set_option maxRecDepth 100000 in
/-- A field that came in. -/
theorem trod_field (h : DataW.trod enc Try.prog w 0 (fun _ => true) true fuel 78 cs = some x) (z : ∀ n ∈ x.1.weights Try.prog 78, n ≤ reachBytes) :
    ∃ f : FieldD, cs = fieldCells f ∧ FieldOk w f := by
  have hc85 : Try.prog.cellsOf 22 = 1 := by kernel_rfl
  have hc24 : Try.prog.cellsOf 37 = 1 := by kernel_rfl
  have hc87 : Try.prog.cellsOf 78 = 2 := by kernel_rfl
  obtain ⟨xs, m, _, hx, hl, hxl, hf⟩ := DataW.trod_struct Try.underlying78 h
  rw [hc87] at hl
  have hxl : xs.length = 2 := hxl
  have f0 : DataW.trod enc Try.prog w 0 (fun _ => true) true m 22 ((cs.drop 0).take (Try.prog.cellsOf 22)) = xs[0]? := hf 0 _ rfl
  rw [hc85, List.getElem?_eq_getElem (by omega)] at f0
  have f1 : DataW.trod enc Try.prog w 0 (fun _ => true) true m 37 ((cs.drop 1).take (Try.prog.cellsOf 37)) = xs[1]? := hf 1 _ rfl
  rw [hc24, List.getElem?_eq_getElem (by omega)] at f1
  obtain ⟨n0, e0, _, w0⟩ := DataW.trod_int Try.underlying22 f0
  obtain ⟨A, n, c, bs, e1, hrb, hn⟩ := trod_u8s Try.underlying37 Try.underlying5 (by kernel_rfl) (by kernel_rfl) f1 (fun n hn => z n (by
    rw [hx]
    have hd : (xs.map (·.1))[1]? = some xs[1].1 := by rw [List.getElem?_map, List.getElem?_eq_getElem (by omega)]; rfl
    simp only [DataW.weights, Try.underlying78]
    exact DataW.weights_mem_each (j := 1) rfl hd n hn))
  obtain ⟨h0, h1⟩ := u64_wf w0
  obtain ⟨k, rfl⟩ := Int.eq_ofNat_of_zero_le h0
  refine ⟨⟨k, A, n, c, bs⟩, ?_, ⟨show k < 18446744073709551616 by omega, hrb, hn⟩⟩
  have g0 := take1F e0
  have g1 := take1F e1
  match cs, hl, g0, g1 with
  | [a, b], _, g0, g1 =>
    simp at g0 g1
    subst g0 g1
    rfl
set_option maxRecDepth 100000 in
/-- The fields that came in. -/
theorem open_fields {base : Nat} {v : Value} {d : DataW H} {p : List MemPlace} {W : World} (o : Value.okWide Try.prog W .any base 90 v) (r : DataW.Trod enc Try.prog W 0 (fun _ => true) true 90 v d p) (z : ∀ n ∈ d.weights Try.prog 90, n ≤ reachBytes) :
    ∃ A n c l, v = .slice A n c ∧ RFields W A n c l ∧ n * 32 ≤ 140737488351232 := by
  have hc87 : Try.prog.cellsOf 78 = 2 := by kernel_rfl
  have hb87 : Try.prog.bytesOf 78 = 32 := by kernel_rfl
  obtain ⟨A0, len0, cap0, rfl⟩ := okWide_slice Try.underlying90 o
  obtain ⟨fuel, hf⟩ := r
  rcases Go.Deep.open_slice Try.underlying90 hf with ⟨hcs, _⟩ | ⟨a, len, cap, m, n, D, Pl, hcs, _, hl, hm, hmm, hx, hel⟩
  · simp [Value.cells] at hcs
    obtain ⟨rfl, rfl, rfl⟩ := hcs
    exact ⟨none, 0, 0, [], rfl, ⟨rfl, Nat.le_refl _, by omega, fun hp => absurd hp (by omega)⟩, by omega⟩
  · simp [Value.cells] at hcs
    obtain ⟨rfl, rfl, rfl⟩ := hcs
    simp only [if_true] at hmm
    subst hmm
    have hd : d = .slice ((List.range len0).map D) ((List.range (m - len0)).map fun j => D (len0 + j)) := (Prod.mk.inj hx).1
    have hlt : len0 * 32 ≤ 140737488351232 := by
      have hw := z ((((List.range len0).map D).length + ((List.range (m - len0)).map fun j => D (len0 + j)).length) * Try.prog.bytesOf 78) (by rw [hd]; simp [DataW.weights, Try.underlying90])
      rw [hb87] at hw
      simp only [List.length_map, List.length_range, reachBytes] at hw
      omega
    have hget : ∀ i, i < len0 → ∃ ac : FieldD, (∀ j u, (fieldCells ac)[j]? = some u → W.cell? ((a.add (i * 2)).add j) = some u) ∧ FieldOk W ac := by
      intro i hi
      obtain ⟨cs', h1, h2⟩ := hel i (by omega)
      rw [hc87] at h1
      obtain ⟨ac, rfl, hok⟩ := trod_field h2 (fun q hq => z q (by
        rw [hd]
        exact weights_elem Try.underlying90 (List.mem_map.2 ⟨i, by simpa using hi, rfl⟩) q hq))
      exact ⟨ac, (cells_range h1).2, hok⟩
    obtain ⟨f, hf⟩ : ∃ f : Nat → FieldD, ∀ i, i < len0 → (∀ j u, (fieldCells (f i))[j]? = some u → W.cell? ((a.add (i * 2)).add j) = some u) ∧ FieldOk W (f i) :=
      ⟨fun i => if h : i < len0 then (hget i h).choose else ⟨0, none, 0, 0, []⟩, fun i hi => by
        simp only [dif_pos hi]
        exact (hget i hi).choose_spec⟩
    refine ⟨some a, len0, m, (List.range len0).map f, rfl, ⟨by simp, hl, by simpa [maxLen] using hm, fun hp => ?_⟩, hlt⟩
    obtain ⟨b, o, spot⟩ := a
    have h0 := (hf 0 hp).1 0 _ rfl
    rw [Nat.zero_mul, add_add, Nat.add_zero] at h0
    have hs : spot = none := by simpa [Addr.add] using World.cell?_spot h0
    subst hs
    refine ⟨b, _, rfl, fun k hk => ?_⟩
    have e : fieldAt ((List.range len0).map f) k = f k := by simp [fieldAt, List.getD_eq_getElem?_getD, hk]
    rw [e]
    refine ⟨fun j u hj => ?_, (hf k hk).2⟩
    have := (hf k hk).1 j u hj
    rwa [add_add, add_none, ← Nat.add_assoc] at this
end
end Go.Proofs.Ytgakajofggmbjaa

/- What a call that appends to a row of one's own leaves alone. -/
namespace Go.Proofs.Ytgakajofggmbjaa
open Go.RowKit

/-- From w to w' nothing but the row v's block has changed and what is new; the row v' lies in that block or in a new one. -/
structure Onto (w w' : World) (v v' : Value) : Prop where
  size : w.heap.size ≤ w'.heap.size
  block : ∀ k, k < w.heap.size → v.ownBlock ≠ some k → w'.heap[k]? = w.heap[k]?
  at_ : ∀ g, v'.ownBlock = some g → v.ownBlock = some g ∨ w.heap.size ≤ g
section
variable {w w1 w2 : World} {v v1 v2 : Value}
theorem Onto.refl (w : World) (v : Value) : Onto w w v v := ⟨Nat.le_refl _, fun _ _ _ => rfl, fun _ h => .inl h⟩
theorem Onto.alloc (h : Onto w w1 v v1) (o : Obj) : Onto w (w1.alloc o) v v1 :=
  ⟨by simp; have := h.size; omega, fun k hk hv => (Go.heap_alloc_old _ _ (Nat.lt_of_lt_of_le hk h.size)).trans (h.block k hk hv), h.at_⟩
theorem Onto.drew (h : Onto w w1 v v1) : Onto w w1.drew v v1 := ⟨h.size, h.block, h.at_⟩
theorem Onto.trans (h : Onto w w1 v v1) (k : Onto w1 w2 v1 v2) : Onto w w2 v v2 :=
  ⟨Nat.le_trans h.size k.size, fun i hi hv => (k.block i (Nat.lt_of_lt_of_le hi h.size) (fun e => by
    rcases h.at_ i e with e | e
    · exact hv e
    · omega)).trans (h.block i hi hv), fun g hg => by
    rcases k.at_ g hg with e | e
    · exact h.at_ g e
    · exact .inr (Nat.le_trans h.size e)⟩
theorem Onto.grown (h : Onto w w1 v v1) (hg : w1.grownBy w2 v1.ownBlock) (ha : v2.ownBlock = v1.ownBlock ∨ v2.ownBlock = some w1.heap.size) : Onto w w2 v v2 :=
  ⟨Nat.le_trans h.size hg.size, fun i hi hv => (hg.block i (Nat.lt_of_lt_of_le hi h.size) (fun e => by
    rcases h.at_ i e.symm with e | e
    · exact hv e
    · omega)).trans (h.block i hi hv), fun g hgg => by
    rcases ha with e | e
    · exact h.at_ g (e ▸ hgg)
    · rw [e] at hgg
      injection hgg with hgg
      exact .inr (hgg ▸ h.size)⟩
theorem Onto.below (h : Onto w w1 v v1) (hb : Below w1.heap.size w1 w2) : Onto w w2 v v1 :=
  ⟨Nat.le_trans h.size hb.size, fun i hi hv => (hb.block i (Nat.lt_of_lt_of_le hi h.size)).trans (h.block i hi hv), h.at_⟩
end
end Go.Proofs.Ytgakajofggmbjaa

/- The small functions of the codec: fail, width, and the deferred one that turns giving up into an error. -/
namespace Go.Proofs.Ytgakajofggmbjaa
open Go.RowKit

/-- What giving up looks like. -/
def gaveUp : List PanicEntry := [{ v := .iface 41 (.int .i64 21), recovered := false }]

theorem fail_no (w : World) : Calls Try.prog 59 #[.bool false] w fun e w' => e = .returned (.tuple #[]) ∧ w = w' := by
  go_enter Try.func59, Try.ntmps59
  go_wp2_with fail
  go_end0
  exact ⟨rfl, rfl⟩
theorem fail_yes (w : World) : Calls Try.prog 59 #[.bool true] w fun e w' => e = .panicked gaveUp ∧ w = w' := by
  go_enter Try.func59, Try.ntmps59
  go_wp2_with fail
  exact ⟨rfl, rfl, rfl⟩

/-- How many bytes a letter's number has; 0: bytes; none: no letter. -/
def letterW (c : UInt8) : Option Nat := if c = 49 then some 1 else if c = 50 then some 2 else if c = 52 then some 4 else if c = 56 then some 8 else if c = 98 then some 0 else none
theorem width_digit (c : UInt8) (k : Nat) (h : (c = 49 ∧ k = 1) ∨ (c = 50 ∧ k = 2) ∨ (c = 52 ∧ k = 4) ∨ (c = 56 ∧ k = 8)) (w : World) :
    Calls Try.prog 60 #[.int .u8 (c.toNat : Int)] w fun e w' => e = .returned (.int .i64 k) ∧ w = w' := by
  rcases h with ⟨rfl, rfl⟩ | ⟨rfl, rfl⟩ | ⟨rfl, rfl⟩ | ⟨rfl, rfl⟩
  all_goals
    go_enter Try.func60, Try.ntmps60
    go_wp2_with fail
    go_ret
    exact ⟨rfl, rfl⟩
theorem width_b (w : World) : Calls Try.prog 60 #[.int .u8 98] w fun e w' => e = .returned (.int .i64 0) ∧ w = w' := by
  go_enter Try.func60, Try.ntmps60
  go_wp2_with fail
  refine (fail_no _).mono ?_
  rintro e w' ⟨rfl, rfl⟩
  go_wp2_with fail
  go_ret
  exact ⟨rfl, rfl⟩
theorem width_none (c : UInt8) (h : letterW c = none) (w : World) :
    Calls Try.prog 60 #[.int .u8 (c.toNat : Int)] w fun e w' => e = .panicked gaveUp ∧ w = w' := by
  have hn : c ≠ 49 ∧ c ≠ 50 ∧ c ≠ 52 ∧ c ≠ 56 ∧ c ≠ 98 := by
    unfold letterW at h
    refine ⟨?_, ?_, ?_, ?_, ?_⟩ <;> (rintro rfl; revert h; decide)
  obtain ⟨h1, h2, h3, h4, h5⟩ := hn
  have key : ∀ d : UInt8, c ≠ d → ((c.toNat : Int) == (d.toNat : Int)) = false := fun d hd => by
    rw [beq_eq_false_iff_ne]
    exact fun e => hd (UInt8.toNat_inj.1 (by omega))
  have q1 : ((c.toNat : Int) == 49) = false := key 49 h1
  have q2 : ((c.toNat : Int) == 50) = false := key 50 h2
  have q3 : ((c.toNat : Int) == 52) = false := key 52 h3
  have q4 : ((c.toNat : Int) == 56) = false := key 56 h4
  have q5 : ((c.toNat : Int) != 98) = true := by rw [bne, show ((c.toNat : Int) == 98) = false from key 98 h5]; rfl
  clear key h h1 h2 h3 h4 h5
  go_enter Try.func60, Try.ntmps60
  go_wp2_with fail
  refine (fail_yes _).mono ?_
  rintro e w' ⟨rfl, rfl⟩
  go_wp2_with fail
  exact ⟨rfl, rfl, rfl⟩

theorem errno_assert (v : Value) (xT : TypeId) (w : World) : (Instr.typeAssert (.iface 41 v) xT 41 false).run Try.prog w = .ok v w := by
  unfold Instr.typeAssert
  simp [go_sem]
set_option maxRecDepth 20000 in
/-- The deferred function of a call that gave up, and of one that didn't. -/
theorem caught_up (p : Addr) (x : Int) (w : World) (hc : w.cell? p = some (.int .i64 x)) (hz : w.frozen? p = false) :
    CallsD Try.prog 48 #[.pointer (some p)] (.panicking gaveUp) w fun e u' w' =>
      e = .returned (.tuple #[]) ∧ u' = .panicking [{ v := .iface 41 (.int .i64 21), recovered := true }] ∧ w' = w.setCell p (.int .i64 21) := by
  refine callsD_of_wpS Try.func48 rfl fun c₀ cs hu => ?_
  apply wpS_seq
  apply wpS_region
  simp [wpOpsS, go_sem, recoverD, hu, gaveUp, Try.ntmps48, Exit.thenS]
  apply wpS_seq
  apply wpS_region
  simp [wpOpsS, go_sem, recoverD, hu, gaveUp, Exit.thenS]
  refine wpS_cond (t := true) (by simp [Act.eval, Array.replicate]) ?_
  simp only [if_true]
  apply wpS_region
  simp [wpOpsS, go_sem, errno_assert, hc, hz, bodyPostS, results, Try.results48]
set_option maxRecDepth 20000 in
theorem caught_idle (p : Addr) (w : World) :
    CallsD Try.prog 48 #[.pointer (some p)] .returning w fun e u' w' => e = .returned (.tuple #[]) ∧ u' = .returning ∧ w' = w := by
  refine callsD_of_wpS Try.func48 rfl fun c₀ cs hu => ?_
  apply wpS_seq
  apply wpS_region
  simp [wpOpsS, go_sem, recoverD, hu, Try.ntmps48, Exit.thenS]
  apply wpS_seq
  apply wpS_region
  simp [wpOpsS, go_sem, recoverD, hu, Exit.thenS]
  refine wpS_cond (t := false) (by simp [Act.eval, Array.replicate]) ?_
  simp only [Bool.false_eq_true, if_false]
  refine wpS_of_wp (wp_skip ?_)
  cases c₀
  simp_all [bodyPostS, results, Try.results48]
end Go.Proofs.Ytgakajofggmbjaa

/- The codec's put: a number as bytes, the highest first. -/
namespace Go.Proofs.Ytgakajofggmbjaa
open Go.RowKit

/-- A number as wd bytes, the highest first. -/
def be (n wd : Nat) : List UInt8 := (List.range wd).map fun j => UInt8.ofNat (n / 256 ^ (wd - 1 - j))
theorem be_length (n wd : Nat) : (be n wd).length = wd := by simp [be]
theorem Try.infoU8' : (Try.prog.info? 5).map (fun i => (i.zero, i.size, i.bytes)) = some (some (.int .u8 0), 1, 1) := by kernel_rfl

theorem shr_cast (n e : Nat) : (n : Int) / 2 ^ e = ((n / 2 ^ e : Nat) : Int) := by simp
theorem fit_quo {n e : Nat} (h : n < 2 ^ e) : ((n : Int) / 2 ^ e != 0) = false := by
  rw [shr_cast, Nat.div_eq_of_lt h]
  rfl
theorem unfit_quo {n e : Nat} (h : 2 ^ e ≤ n) : ((n : Int) / 2 ^ e != 0) = true := by
  have h1 : 0 < n / 2 ^ e := Nat.div_pos h (Nat.pow_pos (by decide))
  rw [shr_cast, bne_iff_ne]
  omega
theorem pow_256 (e : Nat) : 256 ^ e = 2 ^ (8 * e) := by rw [Nat.pow_mul]
/-- The byte that put appends. -/
theorem byte_of (n j : Nat) : (n : Int) / 2 ^ (8 * j) % 256 = ((UInt8.ofNat (n / 256 ^ j)).toNat : Int) := by
  rw [shr_cast, pow_256]
  simp
theorem be_take (n wd j : Nat) (h : j < wd) : (be n wd).take (wd - (j + 1)) ++ [UInt8.ofNat (n / 256 ^ j)] = (be n wd).take (wd - j) := by
  have e : wd - j = (wd - (j + 1)) + 1 := by omega
  rw [e, List.take_succ_eq_append_getElem (by rw [be_length]; omega)]
  congr 2
  simp only [be, List.getElem_map, List.getElem_range]
  congr 3
  omega

set_option maxRecDepth 20000 in
set_option maxHeartbeats 1600000 in
theorem put_fit (wd : Nat) (hw1 : 1 ≤ wd) (hw8 : wd ≤ 8) (n : Nat) (hn : n < 256 ^ wd) (base k : Nat) (v : Value) (xs : List UInt8) (w : World) (ho : w.ownsRow base 5 1 v k (bv xs)) (hb : base ≤ w.heap.size) (hk : k ≤ 1000000) :
    Calls Try.prog 61 #[v, .int .u64 n, .int .i64 wd] w fun e w' => ∃ v', e = .returned v' ∧ w'.ownsRow base 5 1 v' (k + wd) (bv (xs ++ be n wd)) ∧ Below base w w' ∧ Onto w w' v v' := by
  have HO := Lib.hid ho
  have HN := Lib.hid hn
  clear ho hn
  have hw0 : (0 : Int) ≤ (wd : Int) := Int.natCast_nonneg _
  have main : ∀ (Q : Prop), (((wd : Int) < 8 ∧ ((n : Int) / 2 ^ (8 * wd) != 0) = false) → Q) → (¬ (wd : Int) < 8 → Q) → Q := fun Q h1 h2 => by
    by_cases h : (wd : Int) < 8
    · exact h1 ⟨h, fit_quo (by rw [← pow_256]; exact HN.out)⟩
    · exact h2 h
  have MAIN := Lib.hid main
  clear main
  go_enter Try.func61, Try.ntmps61
  refine MAIN.out _ (fun ⟨h8, hq⟩ => ?_) (fun h8 => ?_)
  all_goals
    go_wp2_with fail
    refine (fail_no _).mono ?_
    rintro e w' ⟨rfl, rfl⟩
    go_wp2_with fail
    go_loopw [0, 7] (fun u i wr => ∃ r : Nat, r ≤ wd ∧ i = .int .i64 ((r : Int) - 1) ∧ Hid (wr.ownsRow base 5 1 u (k + (wd - r)) (bv (xs ++ (be n wd).take (wd - r)))) ∧ Hid (Below base w wr) ∧ Hid (Onto w wr v u)) (fun _ i _ => (intOf i + 1).toNat)
    case atStart => exact ⟨wd, by omega, rfl, by simpa using HO, Lib.hid (Below.refl _ _), Lib.hid (Onto.refl _ _)⟩
    case round =>
      obtain ⟨r, hr, rfl, HV, HB, HT0⟩ := hrel
      cases r with
      | succ j =>
        have e : (((j + 1 : Nat) : Int) - 1) = (j : Int) := by omega
        rw [e]
        clear e
        have hj0 : (0 : Int) ≤ (j : Int) := Int.natCast_nonneg _
        have hj8 : (j : Int) < 8 := by omega
        have hby := byte_of n j
        have HT := Lib.hid (be_take n wd j (by omega))
        generalize UInt8.ofNat (n / 256 ^ j) = y at hby HT
        go_wp2_with (at_builtin; go_must (refine wpList_append_any (w0 := w) base rfl _ _ 37 5 (.int .u8 0) 1 1 rfl Try.underlying37 Try.infoU8' rfl (by decide) (by decide) u0 (k + (wd - (j + 1))) _ (some ⟨wr.heap.size, 0, none⟩) 1 1 [.int .u8 (y.toNat : Int)] rfl rfl (HV.out.alloc _) (rd_one wr _ _ _ rfl) (by simp [Value.oneCell']) (by omega) (HB.out.alloc (Nat.le_trans hb HB.out.size) _) (by have := HB.out.size; simp; omega) ?_; intro v1 w2 hown hb2 hg2 ha2; have HW2 := Lib.hid hown; have HB2 := Lib.hid hb2; have HT2 := Lib.hid ((HT0.out.alloc _).grown hg2 ha2); clear hown hb2 hg2 ha2))
        go_roundw
        case rel => exact ⟨j, by omega, by go_num, by
          have := HW2.out
          rw [show k + (wd - (j + 1)) + 1 = k + (wd - j) by omega] at this
          rw [← HT.out, ← List.append_assoc, bv_append]
          exact this, HB2, HT2⟩
        case measure => simp [intOf]
      | zero =>
        go_wp2_with fail
        go_ret
        exact ⟨u0, rfl, by simpa [List.take_of_length_le, be_length] using HV.out, HB.out, HT0.out⟩

set_option maxRecDepth 20000 in
set_option maxHeartbeats 1600000 in
theorem put_unfit (wd : Nat) (hw8 : wd < 8) (n : Nat) (hn : 256 ^ wd ≤ n) (v : Value) (w : World) :
    Calls Try.prog 61 #[v, .int .u64 n, .int .i64 wd] w fun e w' => e = .panicked gaveUp ∧ w = w' := by
  have hw0 : (0 : Int) ≤ (wd : Int) := Int.natCast_nonneg _
  have h8 : (wd : Int) < 8 := by omega
  have hq : ((n : Int) / 2 ^ (8 * wd) != 0) = true := unfit_quo (by rw [← pow_256]; exact hn)
  clear hn
  go_enter Try.func61, Try.ntmps61
  go_wp2_with fail
  refine (fail_yes _).mono ?_
  rintro e w' ⟨rfl, rfl⟩
  exact ⟨rfl, rfl, rfl⟩
end Go.Proofs.Ytgakajofggmbjaa

/- Loads and stores of structs of a few cells; no program in sight but for sizes. -/
namespace Go.Proofs.Ytgakajofggmbjaa
open Go.RowKit

theorem Try.size87 : (Try.prog.info? 78).map (·.size) = some 2 := by kernel_rfl
section
variable {P : Program} {ops : Array Oper} {rest : List Oper} {op : Oper} {a : Act} {w : World} {Q : Exit → Act → World → Prop}
theorem ld2 (t : TypeId) (hgd : op.guard = none) (x : Operand) (ho : op.op = .load t x) (b o : Nat) (hx : a.eval x = .pointer (some ⟨b, o, none⟩)) (u v : Value) (hc : w.rangeAt b o [u, v]) {d : TypeDesc} (hu : P.underlying t = some d) (hd : d.isRow = true) (hi : (P.info? t).map (·.size) = some 2)
    (h : wpList P ops Q rest (a.put op.dst (.agg #[u, v])) w) : wpList P ops Q (op :: rest) a w :=
  wpList_load_mid hgd _ x ho b o hx _ _ hc hu hd hi h
/-- A struct of two cells is stored into a new variable of its own. -/
theorem st2 (t : TypeId) (hgd : op.guard = none) (x y : Operand) (ho : op.op = .store t x y) (c : Array Value) (b : Nat) (hx : a.eval x = .pointer (some ⟨b, 0, none⟩)) (hb : b = w.heap.size) (u v : Value) (hy : a.eval y = .agg #[u, v]) (h1 : u.oneCell' = true) (h2 : v.oneCell' = true) (hi : (P.info? t).map (·.size) = some 2) (hs : c.size = 2)
    (h : wpList P ops Q rest (a.put op.dst undef) (w.alloc (.cells #[u, v] t))) : wpList P ops Q (op :: rest) a (w.alloc (.cells c t)) := by
  subst hb
  refine wpList_store_mid hgd _ x y ho _ 0 #[u, v] hx hy ?_ hi (by simp [h1, h2]) ?_
  · intro j hj
    rw [Nat.zero_add]
    have hj : j < c.size := by rw [hs]; simpa using hj
    refine ⟨?_, frozen_of_row _ _ _ c t (heap_alloc_new w _)⟩
    rw [World.cell?_alloc_mark, Array.getElem?_eq_getElem hj]
    rfl
  · match c, hs with
    | ⟨[x, y]⟩, _ =>
      simp only [World.setCells]
      rw [World.setCell_alloc_new, World.setCell_alloc_new]
      exact h
end
end Go.Proofs.Ytgakajofggmbjaa

/- append of any bytes (or cells) that are read, at a step of a region that draws its order; no program in sight. -/
namespace Go.Proofs.Ytgakajofggmbjaa
open Go.RowKit
section
variable {P : Program} {W : World}
theorem wp_append_any {o : Oper} {a : Act} {K : Act → World → Prop} {Q : Exit → Act → World → Prop} (s x : Operand) (t e : TypeId) (z : Value) (size bytes : Nat)
    (ho : o.op = .call { callee := .builtin .append, args := #[s, x], argTypes := #[t, t] })
    (ht : P.underlying t = some (.slice e)) (hinfo : (P.info? e).map (fun i => (i.zero, i.size, i.bytes)) = some (some z, size, bytes)) (hzs : z.cells.size = size) (hsz : 0 < size) (hb0 : 0 < bytes)
    (base : Nat) (v : Value) (n : Nat) (xs : List Value) (A : Option Addr) (m c : Nat) (ys : List Value) (hs : a.eval s = v) (hx : a.eval x = .slice A m c)
    (HO : W.ownsRow base e size v n xs) (HR : Rd W A m size ys) (h1 : ∀ u ∈ ys, u.oneCell' = true) (hbytes : (n + m) * bytes ≤ 140737488355328) (hbase : base ≤ W.heap.size)
    (h : ∀ v1 w1, w1.ownsRow base e size v1 (n + m) (xs ++ ys) → W.grownBy w1 v.ownBlock → (v1.ownBlock = v.ownBlock ∨ v1.ownBlock = some W.heap.size) → K (a.put o.dst v1) w1) :
    Oper.wp P o a W K Q := by
  obtain ⟨v1, w1, hr, hown, hg, hat⟩ := run_append_any (P := P) W base t o.type e z size bytes ht hinfo hzs hsz v n xs HO A m c ys HR h1 hbytes hb0 hbase
  unfold Oper.wp execOp
  simp only [ho, resolve, invoke, builtin, Sem.run_bind, Sem.run_pure, Result.andThen_ok, List.map_toArray, List.map_cons, List.map_nil, hs, hx, hr]
  exact h v1 w1 hown hg hat
theorem step_append_any {ops : Array Oper} {o : Oper} {a : Act} {K : Act → World → Prop} {Q : Exit → Act → World → Prop} {E : Prop} (hgd : o.guard = none) (s x : Operand) (t e : TypeId) (z : Value) (size bytes : Nat)
    (ho : o.op = .call { callee := .builtin .append, args := #[s, x], argTypes := #[t, t] })
    (ht : P.underlying t = some (.slice e)) (hinfo : (P.info? e).map (fun i => (i.zero, i.size, i.bytes)) = some (some z, size, bytes)) (hzs : z.cells.size = size) (hsz : 0 < size) (hb0 : 0 < bytes)
    (base : Nat) (v : Value) (n : Nat) (xs : List Value) (A : Option Addr) (m c : Nat) (ys : List Value) (hs : a.eval s = v) (hx : a.eval x = .slice A m c)
    (HO : W.ownsRow base e size v n xs) (HR : Rd W A m size ys) (h1 : ∀ u ∈ ys, u.oneCell' = true) (hbytes : (n + m) * bytes ≤ 140737488355328) (hbase : base ≤ W.heap.size)
    (h : ∀ v1 w1, w1.ownsRow base e size v1 (n + m) (xs ++ ys) → W.grownBy w1 v.ownBlock → (v1.ownBlock = v.ownBlock ∨ v1.ownBlock = some W.heap.size) → K (a.put o.dst v1) w1) :
    if Region.wanted o (yielded ops a.tmps) = true then Oper.wp P o a W K Q else E := by
  have hw : Region.wanted o (yielded ops a.tmps) = true := by simp [Region.wanted, hgd]
  rw [if_pos hw]
  exact wp_append_any s x t e z size bytes ho ht hinfo hzs hsz hb0 base v n xs A m c ys hs hx HO HR h1 hbytes hbase h
end
end Go.Proofs.Ytgakajofggmbjaa

/- The codec's pack. -/
namespace Go.Proofs.Ytgakajofggmbjaa
open Go.RowKit

/-- A field as bytes, after a letter. -/
def encF (c : UInt8) (f : FieldD) : Option (List UInt8) :=
  match letterW c with
  | none => none
  | some 0 => if 1024 < f.bytes.length then none else some (be f.bytes.length 2 ++ f.bytes)
  | some (w + 1) => if f.num < 256 ^ (w + 1) then some (be f.num (w + 1)) else none
/-- The first k fields as bytes. -/
def packTo (sh : List UInt8) (l : List FieldD) : Nat → Option (List UInt8)
  | 0 => some []
  | k + 1 => match packTo sh l k, encF (at8 sh k) (fieldAt l k) with
    | some o, some x => some (o ++ x)
    | _, _ => none
theorem packTo_none (sh : List UInt8) (l : List FieldD) (k : Nat) (h : packTo sh l k = none) : ∀ m, k ≤ m → packTo sh l m = none := by
  intro m hm
  induction m with
  | zero => obtain rfl : k = 0 := by omega
            exact h
  | succ m ih =>
    by_cases e : k = m + 1
    · rw [← e]; exact h
    · rw [packTo, ih (by omega)]
/-- What pack does with memory. -/
def PackPost (w : World) (r : Option (List UInt8)) (e : Ending) (w' : World) : Prop :=
  (∃ v o, r = some o ∧ e = .returned v ∧ w'.ownsRow w.heap.size 5 1 v o.length (bv o) ∧ Below w.heap.size w w') ∨ (r = none ∧ e = .panicked gaveUp ∧ Below w.heap.size w w')

theorem strOf_get (sh : List UInt8) (k : Nat) (h : k < (strOf sh).size) : (strOf sh)[k]'h = at8 sh k := by
  have h' : k < sh.length := by simpa [strOf, ByteArray.size] using h
  rw [at8, List.getD_eq_getElem?_getD, List.getElem?_eq_getElem h']
  rfl
theorem letterW_cases (c : UInt8) : letterW c = none ∨ (letterW c = some 0 ∧ c = 98) ∨ ∃ w, letterW c = some (w + 1) ∧ ((c = 49 ∧ w + 1 = 1) ∨ (c = 50 ∧ w + 1 = 2) ∨ (c = 52 ∧ w + 1 = 4) ∨ (c = 56 ∧ w + 1 = 8)) := by
  unfold letterW
  split
  · exact .inr (.inr ⟨0, rfl, .inl ⟨by assumption, rfl⟩⟩)
  · split
    · exact .inr (.inr ⟨1, rfl, .inr (.inl ⟨by assumption, rfl⟩)⟩)
    · split
      · exact .inr (.inr ⟨3, rfl, .inr (.inr (.inl ⟨by assumption, rfl⟩))⟩)
      · split
        · exact .inr (.inr ⟨7, rfl, .inr (.inr (.inr ⟨by assumption, rfl⟩))⟩)
        · split
          · exact .inr (.inl ⟨rfl, by assumption⟩)
          · exact .inl rfl
theorem packTo_step {sh : List UInt8} {l : List FieldD} {k : Nat} {o : List UInt8} (h : packTo sh l k = some o) : packTo sh l (k + 1) = (encF (at8 sh k) (fieldAt l k)).map (o ++ ·) := by
  rw [packTo, h]
  cases encF (at8 sh k) (fieldAt l k) <;> rfl

theorem wrap_u64 (n : Nat) (h : n < 18446744073709551616) : IntKind.u64.wrap (n : Int) = (n : Int) := by
  simp [IntKind.wrap, IntKind.signed, IntKind.bits]
  omega
set_option maxRecDepth 20000 in
set_option maxHeartbeats 3200000 in
theorem pack_main (sh : List UInt8) (A : Option Addr) (n c : Nat) (l : List FieldD) (w : World) (hl : RFields w A n c l) (hs : sh.length = n) (hn : n ≤ 200) :
    Calls Try.prog 49 #[.string (strOf sh), .slice A n c] w (PackPost w (packTo sh l n)) := by
  have HL := Lib.hid hl
  have hsz : (strOf sh).size = n := by simp [strOf, hs, ByteArray.size]
  have hd : decide ((200 : Int) < (n : Int)) = false := decide_eq_false (by omega)
  clear hl
  go_enter Try.func49, Try.ntmps49
  go_wp2_with fail
  refine (fail_no _).mono ?_
  rintro e w' ⟨rfl, rfl⟩
  go_wp2_with fail
  go_loopw [5, 22] (fun u i wr => ∃ k o, k ≤ n ∧ i = .int .i64 (k : Nat) ∧ Hid (packTo sh l k = some o) ∧ Hid (wr.ownsRow w.heap.size 5 1 u o.length (bv o)) ∧ Hid (Below w.heap.size w wr) ∧ Hid (o.length ≤ k * 2000)) (fun _ i _ => n - (intOf i).toNat)
  case atStart => exact ⟨0, [], by omega, rfl, Lib.hid rfl, Lib.hid (World.ownsRow_nil _ _ _ _), Lib.hid (Below.refl _ _), Lib.hid (by simp)⟩
  case round =>
    obtain ⟨k, o, hk, rfl, HP, HV, HB, HK⟩ := hrel
    by_cases hlt : k < n
    · have hk0 : (0 : Int) ≤ (k : Int) := Int.natCast_nonneg _
      have hk1 : (k : Int) < (n : Int) := by omega
      obtain ⟨b, o', rfl, hfs⟩ := (HL.out.below HB.out).2.2.2 (by omega)
      obtain ⟨hrg, hok⟩ := hfs k hlt
      have hokw : FieldOk w (fieldAt l k) := by
        obtain ⟨_, _, _, h⟩ := HL.out.2.2.2 (by omega)
        exact (h k hlt).2
      generalize hf : fieldAt l k = f at *
      obtain ⟨num, fA, fn, fc, fb⟩ := f
      have hst := packTo_step HP.out
      rw [hf] at hst
      have hg := strOf_get sh k
      have HRG := Lib.hid hrg
      have HOK := Lib.hid hok
      have HOW := Lib.hid hokw
      clear hf hrg hok hfs hokw
      have HNO : Hid (packTo sh l (k + 1) = none → packTo sh l n = none) := Lib.hid fun h => packTo_none sh l (k + 1) h n (by omega)
      generalize at8 sh k = ch at hst hg
      have HBW := Lib.hid (HB.out.alloc HB.out.size (.cells #[.int .u64 (num : Int), .slice fA fn fc] 78))
      have HVW := Lib.hid (HV.out.alloc (.cells #[.int .u64 (num : Int), .slice fA fn fc] 78))
      rcases letterW_cases ch with hlw | ⟨hlw, rfl⟩ | ⟨wd, hlw, hcw⟩
      · have HST : Hid (packTo sh l (k + 1) = none) := Lib.hid (by rw [hst, encF, hlw]; rfl)
        have HW := Lib.hid (width_none ch hlw)
        clear hst hlw
        go_wp2_with (first | (refine ld2 78 rfl _ rfl b (o' + k * 2) rfl (.int .u64 num) (.slice fA fn fc) HRG.out Try.underlying78 rfl Try.size87 ?_) | (refine st2 78 rfl _ _ rfl _ _ rfl rfl (.int .u64 num) (.slice fA fn fc) rfl rfl rfl Try.size87 rfl ?_))
        refine (HW.out _).mono ?_
        rintro e w' ⟨rfl, rfl⟩
        exact ⟨rfl, .inr ⟨HNO.out HST.out, rfl, HBW.out⟩⟩
      · have hfb : fb.length = fn := HOK.out.rb.1
        by_cases h1024 : 1024 < fn
        · have HST : Hid (packTo sh l (k + 1) = none) := Lib.hid (by rw [hst, encF, hlw]; simp only []; rw [if_pos (by rw [hfb]; exact h1024)]; rfl)
          have hd1 : decide ((1024 : Int) < (fn : Int)) = true := decide_eq_true (by omega)
          clear hst hlw h1024 hfb
          go_wp2_with (first | (refine ld2 78 rfl _ rfl b (o' + k * 2) rfl (.int .u64 num) (.slice fA fn fc) HRG.out Try.underlying78 rfl Try.size87 ?_) | (refine st2 78 rfl _ _ rfl _ _ rfl rfl (.int .u64 num) (.slice fA fn fc) rfl rfl rfl Try.size87 rfl ?_))
          refine (width_b _).mono ?_
          rintro e w' ⟨rfl, rfl⟩
          go_wp2_with fail
          refine (fail_yes _).mono ?_
          rintro e w' ⟨rfl, rfl⟩
          exact ⟨rfl, .inr ⟨HNO.out HST.out, rfl, HBW.out⟩⟩
        · have HST : Hid (packTo sh l (k + 1) = some (o ++ (be fn 2 ++ fb))) := Lib.hid (by rw [hst, encF, hlw]; simp only []; rw [if_neg (by rw [hfb]; exact h1024), hfb]; rfl)
          have hd1 : decide ((1024 : Int) < (fn : Int)) = false := decide_eq_false (by omega)
          have hpt := fun W (hv : W.ownsRow w.heap.size 5 1 u5 o.length (bv o)) (hb : w.heap.size ≤ W.heap.size) => put_fit 2 (by omega) (by omega) fn (by omega) w.heap.size o.length u5 o W hv hb (by have := HK.out; omega)
          have HPT := Lib.hid hpt
          have HH : Hid (fn ≤ 1024) := Lib.hid (by omega)
          have hfn0 : (0 : Int) ≤ (fn : Int) := Int.natCast_nonneg _
          have hfn1 : (fn : Int) ≤ 1024 := by omega
          have HWR : Hid (IntKind.u64.wrap (fn : Int) = (fn : Int)) := Lib.hid (wrap_u64 fn (by omega))
          have hub : u5.ownBlock ≠ some wr.heap.size := fun e => by have := (HV.out.lt _ e).2; omega
          have HU := Lib.hid hub
          have HFB := Lib.hid hfb
          clear hst hlw h1024 hfb hpt hub
          go_wp2_with (first | (refine ld2 78 rfl _ rfl b (o' + k * 2) rfl (.int .u64 num) (.slice fA fn fc) HRG.out Try.underlying78 rfl Try.size87 ?_) | (refine st2 78 rfl _ _ rfl _ _ rfl rfl (.int .u64 num) (.slice fA fn fc) rfl rfl rfl Try.size87 rfl ?_))
          refine (width_b _).mono ?_
          rintro e w' ⟨rfl, rfl⟩
          go_wp2_with fail
          refine (fail_no _).mono ?_
          rintro e w' ⟨rfl, rfl⟩
          go_wp2_with fail
          clear HRG HOK HP HL HV
          go_region_held3 (fun w' => w'.cell? ⟨wr.heap.size, 1, none⟩ = some (.slice fA fn fc)) (first | go_keep | assumption)
            (first
              | (go_at_call 61
                 rw [HWR.out]
                 refine (HPT.out _ HVW.out.drew HBW.out.drew.size).mono ?_
                 rintro e w3 ⟨v', rfl, hown3, hb3, hto3⟩
                 have hb3' : Below w.heap.size w w3 := HBW.out.drew.trans hb3
                 have hS : w3.cell? ⟨wr.heap.size, 1, none⟩ = some (.slice fA fn fc) := by
                   have h1 := World.cell?_of_block (a := ⟨wr.heap.size, 1, none⟩) (hto3.block wr.heap.size (by simp) HU.out)
                   rw [h1]
                   simp [go_sem]
                 have hne3 : v'.ownBlock ≠ some wr.heap.size := fun e => by
                   rcases hto3.at_ _ e with e | e
                   · exact HU.out e
                   · simp at e
                     omega
                 have HNE := Lib.hid hne3
                 have HSZ := Lib.hid hto3.size
                 have HO3 := Lib.hid hown3
                 have HB3 := Lib.hid hb3'
                 clear hown3 hb3 hto3 hb3' hne3)
              | (refine step_append_any (by rfl) _ _ 37 5 (.int .u8 0) 1 1 (by rfl) Try.underlying37 Try.infoU8' rfl (by decide) (by decide) w.heap.size v' (o.length + 2) _ fA fn fc (bv fb) (by rfl) (by rfl) HO3.out ((HOW.out.rb.below HB3.out).rd) (bv_one _) (by have := HK.out; have := HH.out; omega) HB3.out.size ?_
                 intro v1 w4 hown4 hg4 ha4
                 have hb4 : Below w.heap.size w w4 := Below.grown HB3.out hg4 HB3.out.size (fun b' hb' => (HO3.out.lt b' hb').1)
                 have hS4 : w4.cell? ⟨wr.heap.size, 1, none⟩ = some (.slice fA fn fc) := (hg4.cell_far _ (by have := HSZ.out; simp at this; simp; omega) (fun e => HNE.out e.symm)).trans (by assumption)
                 have HO4 := Lib.hid hown4
                 have HB4 := Lib.hid hb4
                 clear hown4 hg4 ha4 hb4))
          go_wp2
          go_roundw
          case rel => exact ⟨k + 1, _, by omega, by go_num, HST, by
            have := HO4.out
            rw [← bv_append, show o.length + 2 + fn = (o ++ (be fn 2 ++ fb)).length by rw [List.length_append, List.length_append, be_length, HFB.out]; omega, List.append_assoc] at this
            exact this, HB4, by
            have := HK.out
            have := HH.out
            show (o ++ (be fn 2 ++ fb)).length ≤ (k + 1) * 2000
            rw [List.length_append, List.length_append, be_length, HFB.out]
            omega⟩
          case measure => simp [intOf]; omega
      · have HW := Lib.hid (width_digit ch (wd + 1) hcw)
        have hw8 : wd + 1 ≤ 8 := by omega
        by_cases hfit : num < 256 ^ (wd + 1)
        · have HST : Hid (packTo sh l (k + 1) = some (o ++ be num (wd + 1))) := Lib.hid (by rw [hst, encF, hlw]; simp only []; rw [if_pos hfit]; rfl)
          have hpt := put_fit (wd + 1) (by omega) hw8 num hfit w.heap.size o.length u5 o _ HVW.out HBW.out.size (by have := HK.out; omega)
          have HPT := Lib.hid hpt
          clear hst hlw hcw hpt hfit
          go_wp2_with (first | (refine ld2 78 rfl _ rfl b (o' + k * 2) rfl (.int .u64 num) (.slice fA fn fc) HRG.out Try.underlying78 rfl Try.size87 ?_) | (refine st2 78 rfl _ _ rfl _ _ rfl rfl (.int .u64 num) (.slice fA fn fc) rfl rfl rfl Try.size87 rfl ?_))
          refine (HW.out _).mono ?_
          rintro e w' ⟨rfl, rfl⟩
          go_wp2_with fail
          refine HPT.out.mono ?_
          rintro e w3 ⟨v', rfl, hown, hb3, _⟩
          have HO3 := Lib.hid hown
          have HB3 := Lib.hid (HBW.out.trans hb3)
          clear hown hb3
          go_wp2_with fail
          go_roundw
          case rel => exact ⟨k + 1, _, by omega, by go_num, HST, by
            have := HO3.out
            rw [show o.length + (wd + 1) = (o ++ be num (wd + 1)).length by rw [List.length_append, be_length]] at this
            exact this, HB3, by
            have := HK.out
            show (o ++ be num (wd + 1)).length ≤ (k + 1) * 2000
            rw [List.length_append, be_length]
            omega⟩
          case measure => simp [intOf]; omega
        · have HST : Hid (packTo sh l (k + 1) = none) := Lib.hid (by rw [hst, encF, hlw]; simp only []; rw [if_neg hfit]; rfl)
          have hlt8 : wd + 1 < 8 := by
            have := HOK.out.num
            rcases hcw with ⟨_, h⟩ | ⟨_, h⟩ | ⟨_, h⟩ | ⟨_, h⟩
            · omega
            · omega
            · omega
            · rw [h] at hfit
              exact absurd this hfit
          have HPT := Lib.hid (put_unfit (wd + 1) hlt8 num (by omega) u5)
          clear hst hlw hcw hfit hlt8
          go_wp2_with (first | (refine ld2 78 rfl _ rfl b (o' + k * 2) rfl (.int .u64 num) (.slice fA fn fc) HRG.out Try.underlying78 rfl Try.size87 ?_) | (refine st2 78 rfl _ _ rfl _ _ rfl rfl (.int .u64 num) (.slice fA fn fc) rfl rfl rfl Try.size87 rfl ?_))
          refine (HW.out _).mono ?_
          rintro e w' ⟨rfl, rfl⟩
          go_wp2_with fail
          refine (HPT.out _).mono ?_
          rintro e w' ⟨rfl, rfl⟩
          exact ⟨rfl, .inr ⟨HNO.out HST.out, rfl, HBW.out⟩⟩
    · obtain rfl : k = n := by omega
      go_wp2_with fail
      go_ret
      exact .inl ⟨u5, o, HP.out, rfl, HV.out, HB.out⟩
end Go.Proofs.Ytgakajofggmbjaa
