/- What is flushed stays: the plain law, and what the rounds keep. -/
import Derived.Test.YtoghmakbdhepfaaDiskW8
import Derived.Test.YtoghmakbdhepfaaDiskDo2
import Derived.Test.YtoghmakbdhepfaaRowN
namespace Go.Proofs.Ytoghmakbdhepfaa
open Go.RowKit

/-- Each byte behind a crash is that which was flushed, or that of a pending write. -/
theorem crash_byte (keep : List Bool) (torn : Int) (m : Nat) (hm : m ≤ 128) (st : List (List UInt8)) (l : List (Nat × List UInt8)) (hst : ∀ x ∈ st, x.length = 128) (hl : ∀ x ∈ l, x.1 < st.length ∧ x.2.length = 128) (i k : Nat) (hk : k < 128) :
    ∀ n, n ≤ l.length → at8 (secAt (crashTo keep torn m st l n) i) k = at8 (secAt st i) k ∨ ∃ j, j < n ∧ (penAt l j).1 = i ∧ at8 (penAt l j).2 k = at8 (secAt (crashTo keep torn m st l n) i) k := by
  intro n
  induction n with
  | zero => intro _; exact .inl rfl
  | succ n ih =>
    intro hn
    have ih := ih (by omega)
    obtain ⟨hp1, hp2⟩ := hl _ (penAt_mem (show n < l.length by omega))
    have hlen := crashTo_length keep torn m st l n
    have hwid : ∀ n, n ≤ l.length → ∀ x ∈ crashTo keep torn m st l n, x.length = 128 := by
      intro n
      induction n with
      | zero => intro _; exact hst
      | succ n ih =>
        intro hn x hx
        have ih := ih (by omega)
        obtain ⟨hp1, hp2⟩ := hl _ (penAt_mem (show n < l.length by omega))
        have hlt : (penAt l n).1 < (crashTo keep torn m st l n).length := by rw [crashTo_length]; exact hp1
        have hx' : x ∈ crashStep keep torn m (crashTo keep torn m st l n) n (penAt l n) := hx
        unfold crashStep at hx'
        split at hx'
        · rcases List.mem_or_eq_of_mem_set hx' with h | rfl
          · exact ih x h
          · have := ih _ (secAt_mem hlt)
            simp [tornSec, hp2, this]
            omega
        · split at hx'
          · rcases List.mem_or_eq_of_mem_set hx' with h | rfl
            · exact ih x h
            · exact hp2
          · exact ih x hx'
    have hlt : (penAt l n).1 < (crashTo keep torn m st l n).length := by rw [hlen]; exact hp1
    have hold := hwid n (by omega) _ (secAt_mem hlt)
    have keepIt : secAt (crashTo keep torn m st l (n + 1)) i = secAt (crashTo keep torn m st l n) i → at8 (secAt (crashTo keep torn m st l (n + 1)) i) k = at8 (secAt st i) k ∨ ∃ j, j < n + 1 ∧ (penAt l j).1 = i ∧ at8 (penAt l j).2 k = at8 (secAt (crashTo keep torn m st l (n + 1)) i) k := fun e => by
      rw [e]
      rcases ih with h | ⟨j, h1, h2, h3⟩
      · exact .inl h
      · exact .inr ⟨j, by omega, h2, h3⟩
    have hset : ∀ y, secAt ((crashTo keep torn m st l n).set (penAt l n).1 y) i = if (penAt l n).1 = i then y else secAt (crashTo keep torn m st l n) i := fun y => by
      unfold secAt
      rw [List.getD_eq_getElem?_getD, List.getD_eq_getElem?_getD, List.getElem?_set]
      by_cases h : (penAt l n).1 = i
      · rw [if_pos h, if_pos h, if_pos hlt]
        rfl
      · rw [if_neg h, if_neg h]
    have hstep : crashTo keep torn m st l (n + 1) = crashStep keep torn m (crashTo keep torn m st l n) n (penAt l n) := rfl
    unfold crashStep at hstep
    by_cases ht : (n : Int) = torn
    · rw [if_pos ht] at hstep
      by_cases hi : (penAt l n).1 = i
      · have e : secAt (crashTo keep torn m st l (n + 1)) i = tornSec (secAt (crashTo keep torn m st l n) i) (penAt l n).2 m := by rw [hstep, hset, if_pos hi, hi]
        rw [hi] at hold
        by_cases hkm : k < m
        · refine .inr ⟨n, by omega, hi, ?_⟩
          rw [e]
          have hkl : k < (penAt l n).2.length := by omega
          simp [at8, tornSec, List.getD_eq_getElem?_getD, List.getElem?_append, hp2, hkm, Nat.min_eq_left hm, List.getElem?_eq_getElem hkl]
        · have e2 : at8 (secAt (crashTo keep torn m st l (n + 1)) i) k = at8 (secAt (crashTo keep torn m st l n) i) k := by
            rw [e]
            simp [at8, tornSec, List.getD_eq_getElem?_getD, List.getElem?_append, hp2, hkm, Nat.min_eq_left hm]
            congr 1
            congr 1
            omega
          rw [e2]
          rcases ih with h | ⟨j, h1, h2, h3⟩
          · exact .inl h
          · exact .inr ⟨j, by omega, h2, h3⟩
      · exact keepIt (by rw [hstep, hset, if_neg hi])
    · rw [if_neg ht] at hstep
      by_cases hk2 : atB keep n = true
      · rw [if_pos hk2] at hstep
        by_cases hi : (penAt l n).1 = i
        · exact .inr ⟨n, by omega, hi, by rw [hstep, hset, if_pos hi]⟩
        · exact keepIt (by rw [hstep, hset, if_neg hi])
      · rw [if_neg hk2] at hstep
        exact keepIt (by rw [hstep])
/-- The cells of acts in a row; the writes that they are. -/
def acells (l : List ActD) : List Value := l.flatMap actCells
def pendOf (l : List ActD) : List (Nat × List UInt8) := l.map fun a => (a.at_.toNat, a.data)
theorem acells_push (l : List ActD) (a : ActD) : acells (l ++ [a]) = acells l ++ actCells a := by simp [acells]
theorem acells_one (l : List ActD) : ∀ u ∈ acells l, u.oneCell' = true := by
  intro u hu
  simp only [acells, List.mem_flatMap] at hu
  obtain ⟨a, _, ha⟩ := hu
  exact actCells_one a u ha
theorem acells_length (l : List ActD) (h : ∀ a ∈ l, a.data.length = 128) : (acells l).length = l.length * 132 := by
  induction l with
  | nil => rfl
  | cons a l ih =>
    have := ih fun y hy => h y (List.mem_cons_of_mem _ hy)
    have ha := actCells_length a (h a List.mem_cons_self)
    simp only [acells, List.flatMap_cons, List.length_append, List.length_cons] at this ⊢
    omega
theorem actAt_mem {l : List ActD} {k : Nat} (h : k < l.length) : actAt l k ∈ l := by
  rw [actAt, List.getD_eq_getElem?_getD, List.getElem?_eq_getElem h]; exact List.getElem_mem _
theorem acells_split (l : List ActD) (k : Nat) (h : k < l.length) : acells l = acells (l.take k) ++ (actCells (actAt l k) ++ acells (l.drop (k + 1))) := by
  have e : l = l.take k ++ actAt l k :: l.drop (k + 1) := by
    have : actAt l k = l[k] := by rw [actAt, List.getD_eq_getElem?_getD, List.getElem?_eq_getElem h]; rfl
    rw [this, List.getElem_cons_drop, List.take_append_drop]
  conv => lhs; rw [e]
  simp [acells]
theorem penAt_pendOf (l : List ActD) (k : Nat) (h : k < l.length) : penAt (pendOf l) k = ((actAt l k).at_.toNat, (actAt l k).data) := by
  rw [penAt, List.getD_eq_getElem?_getD, pendOf, List.getElem?_map, actAt, List.getD_eq_getElem?_getD, List.getElem?_eq_getElem h]
  rfl
/-- The k-th act of a row of one's own is read. -/
theorem own_act {w : World} {base : Nat} {A : Option Addr} {c : Nat} {l : List ActD} (h : w.ownsRow base 31 132 (.slice A l.length c) l.length (acells l)) (hok : ∀ a ∈ l, a.data.length = 128) (k : Nat) (hk : k < l.length) :
    ∃ g, A = some ⟨g, 0, none⟩ ∧ w.rangeAt g (k * 132) (actCells (actAt l k)) := by
  rcases h.2 with ⟨_, h0⟩ | ⟨g, _, _, he, _⟩
  · omega
  · injection he with e1 _ _
    subst e1
    refine ⟨g, rfl, fun j u hj => ?_⟩
    have hl : (acells (l.take k)).length = k * 132 := by
      rw [acells_length _ (fun a ha => hok a (List.mem_of_mem_take ha)), List.length_take]
      congr 1
      omega
    have := mid_get (acells (l.take k)) (actCells (actAt l k)) (acells (l.drop (k + 1))) j u hj
    rw [hl, ← acells_split l k hk] at this
    have hc := h.cells (g := g) rfl _ u this
    rw [add_none, Nat.zero_add] at hc
    exact hc
theorem own_apart {w : World} {b1 n1 s1 b2 n2 s2 : Nat} {e1 e2 : TypeId} {v1 v2 : Value} {x1 x2 : List Value} (h1 : w.ownsRow b1 e1 s1 v1 n1 x1) (h2 : w.ownsRow b2 e2 s2 v2 n2 x2) (he : e1 ≠ e2) (k : Nat) (hk : v1.ownBlock = some k) : v2.ownBlock ≠ some k := by
  rcases h1.2 with ⟨rfl, _⟩ | ⟨g, cap, cur, rfl, _, hg, _⟩
  · simp [Value.ownBlock] at hk
  · have : g = k := by simpa [Value.ownBlock] using hk
    subst this
    exact own_ne h2 hg (fun e => he e.symm)
/-- Where the rounds stand: what was flushed lies in the box g8, what was written since in the row v9. -/
structure KI (w1 wr : World) (p s g8 : Nat) (v v9 : Value) (d : Dk) (l : List ActD) : Prop where
  disk : DiskAt wr w1.heap.size p s v d
  len : d.stable.length = 8
  box : RowAt wr g8 39 (secs d.stable)
  own : wr.ownsRow w1.heap.size 31 132 v9 l.length (acells l)
  pe : d.pend = pendOf l
  ok : ∀ a ∈ l, 0 ≤ a.at_ ∧ a.at_ < 8 ∧ a.data.length = 128
  bl : Below w1.heap.size w1 wr
section
variable {w1 wr w' : World} {p s g8 : Nat} {v v' v9 : Value} {d d' : Dk} {l : List ActD}
theorem KI.below (h : KI w1 wr p s g8 v v9 d l) (hb : Below wr.heap.size wr w') : KI w1 w' p s g8 v v9 d l :=
  ⟨h.disk.below hb, h.len, h.box.below hb, h.own.kept (row := none) ⟨hb.os, hb.tape, hb.output, hb.size, fun k hk _ => hb.block k hk⟩ (by cases hv : v9.ownBlock <;> simp), h.pe, h.ok, bthen h.bl hb⟩
theorem KI.boxNot (h : KI w1 wr p s g8 v v9 d l) : ¬ foot p s v g8 := by
  rintro (rfl | rfl | e)
  · exact ne_of_types h.disk.obj h.box (by decide) rfl
  · exact ne_of_types h.disk.sta h.box (by decide) rfl
  · exact own_ne h.disk.pen h.box (by decide) e
theorem KI.ownNot (h : KI w1 wr p s g8 v v9 d l) : ∀ k, v9.ownBlock = some k → ¬ foot p s v k := by
  intro k hk
  rintro (rfl | rfl | e)
  · exact own_ne h.own h.disk.obj (by decide) hk
  · exact own_ne h.own h.disk.sta (by decide) hk
  · exact own_apart h.own h.disk.pen (by decide) k hk e
/-- What a deed with the disk leaves alone. -/
theorem KI.side (h : KI w1 wr p s g8 v v9 d l) (hk : Kp (foot p s v) wr w') : RowAt w' g8 39 (secs d.stable) ∧ w'.ownsRow w1.heap.size 31 132 v9 l.length (acells l) ∧ Below w1.heap.size w1 w' := by
  refine ⟨h.box.kp hk h.boxNot, ?_, h.bl.trans (hk.below h.bl.size (fun i hi => h.disk.foot_base i hi))⟩
  have hn := h.ownNot
  refine ⟨h.own.1, ?_⟩
  rcases h.own.2 with hz | ⟨g, cap, cur, rfl, hb, hgg, rest⟩
  · exact .inl hz
  · exact .inr ⟨g, cap, cur, rfl, hb, (hk.block g (lt_of_heap hgg) (hn g rfl)).trans hgg, rest⟩
theorem own_notFoot {w : World} {base n : Nat} {xs : List Value} (hd : DiskAt w base p s v d) (ho : w.ownsRow base 31 132 v9 n xs) : ∀ k, v9.ownBlock = some k → ¬ foot p s v k := by
  intro k hk
  rintro (rfl | rfl | e)
  · exact own_ne ho hd.obj (by decide) hk
  · exact own_ne ho hd.sta (by decide) hk
  · exact own_apart ho hd.pen (by decide) k hk e
theorem KI.push {w6 w7 : World} {v6 v7 : Value} {d6 : Dk} {y : ActD} {o : Obj} (h : KI w1 wr p s g8 v v9 d l) (hk : Kp (foot p s v) wr w6) (hd6 : DiskAt w6 w1.heap.size p s v6 d6) (hst : d6.stable = d.stable) (hpe : d6.pend = d.pend ++ [(y.at_.toNat, y.data)]) (hy : 0 ≤ y.at_ ∧ y.at_ < 8 ∧ y.data.length = 128)
    (hg : (w6.alloc o).grownBy w7 v9.ownBlock) (hown : w7.ownsRow w1.heap.size 31 132 v7 (l.length + 1) (acells l ++ actCells y)) : KI w1 w7 p s g8 v6 v7 d6 (l ++ [y]) := by
  obtain ⟨s1, s2, s3⟩ := h.side hk
  have hn := own_notFoot hd6 s2
  have hkg : Kp (fun k => v9.ownBlock = some k) (w6.alloc o) w7 := Kp.of_grown hg (fun k e => e)
  refine ⟨(hd6.below (below_alloc _ _)).kept hkg (fun k hf e => hn k e hf), by rw [hst]; exact h.len, ?_, by rw [List.length_append, acells_push]; exact hown, ?_, ?_, Below.grown (balloc s3 o) hg (balloc s3 o).size (fun k hk => (s2.lt k hk).1)⟩
  · rw [hst]
    exact (s1.below (below_alloc _ _)).kp hkg (own_ne s2 s1 (by decide))
  · rw [hpe, h.pe]
    simp [pendOf]
  · intro a ha
    rcases List.mem_append.1 ha with ha | ha
    · exact h.ok a ha
    · obtain rfl := List.mem_singleton.1 ha
      exact hy
end
theorem own_kpK {w w' : World} {base n size q : Nat} {e : TypeId} {v : Value} {xs : List Value} (h : w.ownsRow base e size v n xs) (hk : Kp (· = q) w w') (hq : v.ownBlock ≠ some q) : w'.ownsRow base e size v n xs := by
  refine ⟨h.1, ?_⟩
  rcases h.2 with hn | ⟨g, cap, cur, rfl, hb, hgg, rest⟩
  · exact .inl hn
  · exact .inr ⟨g, cap, cur, rfl, hb, (hk.block g (lt_of_heap hgg) (fun e => hq (by rw [← e]; rfl))).trans hgg, rest⟩
/-- A sector of the box is written. -/
theorem box_set {w : World} {g : Nat} {st : List (List UInt8)} (h : RowAt w g 39 (secs st)) (hw : ∀ x ∈ st, x.length = 128) (k : Nat) (x : List UInt8) (hk : k < st.length) (hx : x.length = 128) :
    w.there g (k * 128) 128 ∧ RowAt (w.setCells g (k * 128) (bv x)) g 39 (secs (st.set k x)) ∧ Kp (· = g) w (w.setCells g (k * 128) (bv x)) := by
  have hl := secs_length st hw
  have hkk := Nat.mul_le_mul_right 128 (show k + 1 ≤ st.length from hk)
  refine ⟨fun j hj => ⟨?_, frozen_of_row _ _ _ _ _ h⟩, ?_, kp_setCells g _ _ _ (Kp.refl _ _) (fun _ => rfl)⟩
  · rw [h.cell (k * 128 + j) _ (List.getElem?_eq_getElem (by rw [hl]; omega))]
    rfl
  · have := heap_setCells_same g (bv x) (k * 128) w (secs st) _ h (by rw [bv_length, hx, hl]; omega)
    rw [secs_set st k x hk hx hw] at this
    exact this
theorem applyW_widK (l : List (Nat × List UInt8)) : ∀ st : List (List UInt8), (∀ x ∈ st, x.length = 128) → (∀ x ∈ l, x.2.length = 128) → ∀ x ∈ applyW st l, x.length = 128 := by
  induction l with
  | nil => intro st h _; exact h
  | cons x l ih =>
    intro st h h2
    refine ih _ (fun y hy => ?_) (fun y hy => h2 y (List.mem_cons_of_mem _ hy))
    rcases List.mem_or_eq_of_mem_set hy with hy | rfl
    · exact h y hy
    · exact h2 x List.mem_cons_self
/-- Is the byte that of one of the first acts? (b: or as it was flushed) -/
def okTo (l : List ActD) (i k : Nat) (x : UInt8) (b : Bool) : Nat → Bool
  | 0 => b
  | j + 1 => okTo l i k x b j || (decide ((actAt l j).at_ = (i : Int)) && decide (at8 (actAt l j).data k = x))
theorem okTo_mono {l : List ActD} {i k : Nat} {x : UInt8} {b : Bool} {j : Nat} (h : okTo l i k x b j = true) : ∀ n, okTo l i k x b (j + n) = true
  | 0 => h
  | n + 1 => by
    show (okTo l i k x b (j + n) || _) = true
    rw [okTo_mono h n]
    rfl
theorem okTo_true {l : List ActD} {i k : Nat} {x : UInt8} {b : Bool} (n : Nat) (h : b = true ∨ ∃ j, j < n ∧ (actAt l j).at_ = (i : Int) ∧ at8 (actAt l j).data k = x) : okTo l i k x b n = true := by
  rcases h with h | ⟨j, h1, h2, h3⟩
  · have := okTo_mono (l := l) (i := i) (k := k) (x := x) (b := b) (j := 0) h n
    rwa [Nat.zero_add] at this
  · have h4 : okTo l i k x b (j + 1) = true := by
      show (okTo l i k x b j || (decide ((actAt l j).at_ = (i : Int)) && decide (at8 (actAt l j).data k = x))) = true
      rw [decide_eq_true h2, decide_eq_true h3]
      simp
    have := okTo_mono h4 (n - (j + 1))
    rwa [show j + 1 + (n - (j + 1)) = n by omega] at this
/-- The law: behind a crash each byte is that which was flushed, or that of an act since. -/
theorem keeps_ok {d : Dk} {l : List ActD} (hpe : d.pend = pendOf l) (hw : ∀ x ∈ d.stable, x.length = 128) (hp : ∀ x ∈ d.pend, x.1 < d.stable.length ∧ x.2.length = 128) (hok : ∀ a ∈ l, 0 ≤ a.at_ ∧ a.at_ < 8 ∧ a.data.length = 128) (keep : List Bool) (torn cut : Int) (i k : Nat) (hk : k < 128) :
    okTo l i k (at8 (secAt (d.crashed keep torn cut).stable i) k) (decide (at8 (secAt (d.crashed keep torn cut).stable i) k = at8 (secAt d.stable i) k)) l.length = true := by
  refine okTo_true _ ?_
  rcases crash_byte keep torn (max 0 (min cut 128)).toNat (by omega) d.stable d.pend hw hp i k hk d.pend.length (Nat.le_refl _) with h | ⟨j, h1, h2, h3⟩
  · exact .inl (decide_eq_true h)
  · have hlen : d.pend.length = l.length := by rw [hpe]; simp [pendOf]
    rw [hpe, penAt_pendOf l j (by omega)] at h2 h3
    have ha := hok _ (actAt_mem (show j < l.length by omega))
    refine .inr ⟨j, by omega, ?_, ?_⟩
    · have h4 : (actAt l j).at_.toNat = i := h2
      omega
    · rw [← hpe] at h3
      exact h3
theorem box_byte {w : World} {g : Nat} {st : List (List UInt8)} (h : RowAt w g 39 (secs st)) (hw : ∀ x ∈ st, x.length = 128) (i k : Nat) (hi : i < st.length) (hk : k < 128) : w.cell? ⟨g, i * 128 + k, none⟩ = some (.int .u8 ((at8 (secAt st i) k).toNat : Int)) := by
  refine h.cell _ _ ?_
  have hl : (secs (st.take i)).length = i * 128 := by
    rw [secs_length _ (fun x hx => hw x (List.mem_of_mem_take hx)), List.length_take]
    congr 1
    omega
  have := mid_get (secs (st.take i)) (bv (secAt st i)) (secs (st.drop (i + 1))) k _ (bv_get (secAt st i) k (by rw [hw _ (secAt_mem hi)]; exact hk))
  rwa [hl, ← secs_split st i hi] at this
end Go.Proofs.Ytoghmakbdhepfaa
