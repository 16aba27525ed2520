/- labelOf: the label of bytes. -/
import Derived.Test.YtlofiinpgkclgaaMg4
import Derived.Test.YtlofiinpgkclgaaMg6
import Derived.RangeFuncBound
import Derived.RangeFuncCalls
import Derived.RangeFuncLeaves
import Derived.Shelf.Abstract
import Derived.Shelf.RegionOpen
import Derived.OwnWalkIn
import Derived.TacticsInMore
namespace Go.Proofs.Ytlofiinpgkclgaa
open Go.RowKit Go.Shelf
attribute [local go_sem] Oper.semAt_some

theorem Try.infoCat : (Try.prog.info? 65).map (fun i => (i.zero, i.size, i.bytes)) = some (some (.agg #[.int .u64 0, .int .i64 0]), 2, 16) := by kernel_rfl
/-- What labelOf answers and leaves. -/
def LabelPost (w : World) (bs : List UInt8) (e : Ending) (w' : World) : Prop :=
  Below w.heap.size w w' ∧ ((bs.length % 9 = 1 ∧ bs.length ≤ 91 ∧ ∃ v, e = .returned (.tuple #[.agg #[.int .i64 (labOf bs).dflt, v], .bool true]) ∧ w'.ownsRow w.heap.size 65 2 v (labOf bs).cats.length (ccells (labOf bs).cats)) ∨
    (¬ (bs.length % 9 = 1 ∧ bs.length ≤ 91) ∧ e = .returned (.tuple #[.agg #[.int .i64 0, .slice none 0 0], .bool false])))
/-- The categories that have come. -/
def came (bs : List UInt8) {q : Nat} (pre : List (Fin q)) : List CatD := pre.map fun x => catOf bs x.1
theorem came_push (bs : List UInt8) {q : Nat} (pre : List (Fin q)) (x : Fin q) : came bs (pre ++ [x]) = came bs pre ++ [catOf bs x.1] := by simp [came]
theorem came_length (bs : List UInt8) {q : Nat} (pre : List (Fin q)) : (came bs pre).length = pre.length := by simp [came]
theorem came_all (bs : List UInt8) {q : Nat} (ys : List (Fin q)) (h : ys.map (·.1) = List.range q) : came bs ys = catsOf bs q := by
  unfold catsOf came
  rw [← h, List.map_map]
  rfl
/-- Between two rounds. -/
def LabI (bs : List UInt8) (w : World) (q : Nat) (pre : List (Fin q)) (W : World) : Prop :=
  (∃ v, Box2 W w.heap.size 26 (.int .i64 ((at8 bs 0).toNat : Int)) v ∧ W.ownsRow (w.heap.size + 3) 65 2 v pre.length (ccells (came bs pre)) ∧ True) ∧ Below w.heap.size w W ∧ w.heap.size + 3 ≤ W.heap.size
theorem labI_own (bs : List UInt8) (w : World) (q B : Nat) (h : w.heap.size ≤ B) : OwnFrom B (LabI bs w q) :=
  OwnFrom.and (Own.from (holds2_own (w.heap.size + 3) w.heap.size 26 65 (.int .i64 ((at8 bs 0).toNat : Int)) 2 (fun pre => pre.length) (fun (pre : List (Fin q)) => ccells (came bs pre)) (fun _ => True)) _)
    (OwnFrom.and (ownFrom_below (Nat.le_refl _) h) (fun _ _ _ _ hs hg _ => Nat.le_trans hs hg.size))
theorem cell_al {w : World} {a : Addr} {v : Value} (o : Obj) (h : w.cell? a = some v) : (w.alloc o).cell? a = some v := ((below_alloc w o).cell (World.block_lt_of_cell? w _ h)).trans h
theorem vals_two' {lk : List FieldD} {a b : Nat × List UInt8} (h : vals lk = [a, b]) : lk.length = 2 ∧ (fieldAt lk 0).num = a.1 ∧ (fieldAt lk 1).num = b.1 := by
  match lk, h with
  | [x, y], h =>
    simp only [vals, List.map_cons, List.map_nil, List.cons.injEq, and_true] at h
    exact ⟨rfl, by rw [← h.1]; rfl, by rw [← h.2]; rfl⟩
theorem call_unpack81 (A : Option Addr) (c : Nat) (p : List UInt8) (x y : Nat) (w : World) (hr : RB w A 9 c p) (hu : unpackM [56, 49] p = some [(x, []), (y, [])]) :
    Calls Try.prog 23 #[.string (strOf [56, 49]), .slice A 9 c] w fun e w' => ∃ g o2 c2, e = .returned (.tuple #[.slice (some ⟨g, o2, none⟩) 2 c2, .int .i64 0]) ∧ w.heap.size ≤ g ∧ Below w.heap.size w w' ∧
      w'.cell? ⟨g, o2, none⟩ = some (.int .u64 (x : Nat)) ∧ w'.cell? ⟨g, o2 + 2, none⟩ = some (.int .u64 (y : Nat)) := by
  have h := codec_Unpack [56, 49] A 9 c p w hr
  rw [hu] at h
  refine h.mono ?_
  rintro e w' ⟨hb, ⟨v, lk, hlk, rfl, hof⟩ | ⟨hno, -⟩⟩
  · injection hlk with hlk
    obtain ⟨h2, hx, hy⟩ := vals_two' hlk.symm
    obtain ⟨A2, c2, rfl, hrf⟩ := hof.read
    rw [h2] at hrf ⊢
    obtain ⟨g, o2, rfl, hfs⟩ := hrf.2.2.2 (by omega)
    have g0 := (hfs 0 (by omega)).1 0 _ rfl
    have g1 := (hfs 1 (by omega)).1 0 _ rfl
    rw [hx] at g0
    rw [hy] at g1
    exact ⟨g, o2, c2, rfl, (hof.row.lt g rfl).1, hb, g0, g1⟩
  · cases hno
set_option maxRecDepth 100000 in
set_option maxHeartbeats 1000000 in
theorem call_labelOf (A : Option Addr) (n c : Nat) (bs : List UInt8) (w : World) (hr : RB w A n c bs) (hn : n ≤ 140737488351232) :
    Calls Try.prog 24 #[.slice A n c] w (LabelPost w bs) := by
  refine (callsIn_wide (n := 9)).1 ?_
  refine callsIn_of_wp_marks Try.func24 rfl trivial ?_ rfl
  simp only [Try.ntmps24, List.size_toArray, List.length_cons, List.length_nil, Nat.reduceAdd, Nat.reduceSub, Array.replicate_succ, Array.replicate_zero, List.push_toArray, List.append_toArray, List.nil_append, List.cons_append]
  have hn9 : (n : Int) ≤ 9223372036854775807 := by omega
  have HR := Lib.hid hr
  have hl : bs.length = n := hr.1
  have HB0 := Lib.hid (below_alloc w (.cells #[.int .i64 0, .slice none 0 0] 26))
  clear hr
  by_cases h1 : n % 9 = 1
  · have q1 : ((n : Int) % 9 != 1) = false := by rw [bne_eq_false_iff_eq]; omega
    by_cases h2 : n ≤ 91
    · have q2 : decide ((91 : Int) < (n : Int)) = false := decide_eq_false (by omega)
      obtain ⟨q, HQ⟩ : ∃ q, Hid (n = 9 * q + 1) := ⟨n / 9, Lib.hid (by omega)⟩
      obtain ⟨b, o, rfl, hcs⟩ := HR.out.2.2.2 (by omega)
      have hlt0 : (0 : Int) < (n : Int) := by omega
      have HCC : Hid (n ≤ c ∧ c ≤ 9223372036854775807) := Lib.hid ⟨HR.out.2.1, HR.out.2.2.1⟩
      have hc0 := hcs 0 (by omega)
      have hbw : b < w.heap.size := World.block_lt_of_cell? w _ hc0
      have hc0' : (w.alloc (.cells #[.int .i64 0, .slice none 0 0] 26)).cell? ⟨b, o, none⟩ = some (.int .u8 ((at8 bs 0).toNat : Int)) := (HB0.out.cell (p := ⟨b, o, none⟩) hbw).trans hc0
      have hw0 : wrap64 ((at8 bs 0).toNat : Int) = ((at8 bs 0).toNat : Int) := by have := (at8 bs 0).toNat_lt; simp [wrap64]; omega
      have HL : Hid (labOf bs = ⟨((at8 bs 0).toNat : Int), catsOf bs q⟩) := Lib.hid (by simp only [labOf]; rw [hl]; congr 2; have := HQ.out; omega)
      clear hcs hc0
      have hq9 : n - 1 = 9 * q := by have := HQ.out; omega
      by_cases hc1 : c = 1
      · gi_wp2_with (refine ⟨trivial, ?_⟩; gi_at_call 34; refine (callsIn_wide.2 (chunk_make _ _ _ _)).mono ?_; rintro e w' ⟨rfl, rfl⟩)
        have HA : ∀ A' : Option Addr, ∀ cap, (c = 1 ∧ cap = 0) ∨ (¬ c = 1 ∧ A' = some ⟨b, o + 1, none⟩ ∧ cap = c - 1) → 0 < q → A' = some ⟨b, o + 1, none⟩ ∧ 9 * q ≤ cap := fun A' cap h hq => by
          have := HQ.out; have := HCC.out
          rcases h with ⟨h, _⟩ | ⟨_, rfl, rfl⟩
          · omega
          · exact ⟨rfl, by omega⟩
        obtain ⟨W0, hW0⟩ : ∃ W0, w.alloc (.cells #[.int .i64 ((at8 bs 0).toNat : Int), .slice none 0 0] 26) = W0 := ⟨_, rfl⟩
        rw [hW0]
        have b2 : Box2 W0 w.heap.size 26 (.int .i64 ((at8 bs 0).toNat : Int)) (.slice none 0 0) := by rw [← hW0]; exact Box2.new _ _ _ _
        have hB0 : Below w.heap.size w W0 := by rw [← hW0]; exact below_alloc _ _
        have hs0 : W0.heap.size = w.heap.size + 1 := by rw [← hW0]; simp
        have k1 : ∀ (A' : Option Addr) (cap : Nat) (T T' : TypeId), ((W0.alloc (.cells #[.slice A' (9 * q) cap] T)).alloc (.cells #[.int .i64 9] T')).cell? ⟨w.heap.size + 1, 0, none⟩ = some (.slice A' (9 * q) cap) := fun A' cap T T' => by rw [← hs0]; exact ((Boxed.new W0 T _).alloc _).cell
        have k2 : ∀ (A' : Option Addr) (cap : Nat) (T T' : TypeId), ((W0.alloc (.cells #[.slice A' (9 * q) cap] T)).alloc (.cells #[.int .i64 9] T')).cell? ⟨w.heap.size + 1 + 1, 0, none⟩ = some (.int .i64 9) := fun A' cap T T' => by
          have h := (Boxed.new (W0.alloc (.cells #[.slice A' (9 * q) cap] T)) T' (.int .i64 9)).cell
          rw [World.size_alloc, hs0] at h
          exact h
        refine' wpIn_rangeFunc_ownG (F := Fence.wide) rfl (by omega) (gf := 42) (lb := #[.pointer (some ⟨w.heap.size + 1, 0, none⟩), .pointer (some ⟨w.heap.size + 1 + 1, 0, none⟩)]) rfl trivial (enters_of Try.func42 (by kernel_rfl) rfl)
          (chunk_any _ (by omega) (w.heap.size + 1) (w.heap.size + 1 + 1) b (o + 1) q _ _ (HA _ _ (by first | exact .inl ⟨hc1, rfl⟩ | exact .inr ⟨hc1, rfl, rfl⟩)) (by have := HCC.out; omega) _ (by simp [hs0]) (by simp [hs0]) (k1 _ _ _ _) (k2 _ _ _ _)) KC.trans (KC.put (by simp [hs0]) (by simp [hs0])) (Below.refl _ _) (fun _ => rfl)
          (LabI bs w q) (fun _ _ _ => False) (labI_own bs w q _ (by simp [hs0]; omega))
          (fun _ _ _ _ _ hs _ _ => hs)
          ⟨⟨_, (b2.alloc _).alloc _, World.ownsRow_nil _ _ _ _, trivial⟩, (balloc (balloc hB0 _) _), by simp [hs0]⟩ _ ?assign1 ?body1 ?done1 ?stop1
        case assign1 =>
          intro l x W K hK
          gi_wp2
          exact hK
        case stop1 =>
          rintro D c pre W _ _ h _
          exact h.elim
        case body1 =>
          rintro l pre x W ⟨⟨v, hv, hrow, -⟩, hB, hB3⟩ hlt
          have hx := x.2
          have hxl := HQ.out
          have hrb : RB W (some ⟨b, o + 1 + 9 * x.1, none⟩) 9 9 (((bs.drop 1).drop (9 * x.1)).take 9) := by
            have h := (HR.out.cut (1 + 9 * x.1) 9 (by omega)).below hB
            have hne : ¬ c = 1 + 9 * x.1 := by have := HCC.out; omega
            rw [cutA, if_neg hne, Option.map_some, add_none, ← List.drop_drop, ← Nat.add_assoc] at h
            exact ⟨h.1, by omega, by omega, h.2.2.2⟩
          have hun := call_unpack81 _ _ _ _ _ W hrb (piece_bytes bs x.1 (by rw [hl]; omega))
          have hmx : Try.prog.follows .mixedOrders = true := by kernel_rfl
          gi_wp2_with (refine ⟨trivial, ?_⟩; gi_at_call 23; refine (CallsIn.inRound l (callsIn_wide.2 hun)).mono ?_; clear hun; rintro e w1 ⟨g, o2, c2, rfl, hg0, hb1, g0, g1⟩)
          have hd1 : Box2 w1.drew w.heap.size 26 (.int .i64 ((at8 bs 0).toNat : Int)) v := hv.below hb1.drew hv.lt
          have hrow1 : w1.drew.ownsRow (w.heap.size + 3) 65 2 v pre.length (ccells (came bs pre)) := (own_below hrow hb1).drew
          have hpq : pre.length < 100 := by omega
          have HD1 := Lib.hid hd1
          have HROW0 := Lib.hid hrow1
          have HSZ0 : Hid (w.heap.size ≤ w1.drew.heap.size) := Lib.hid (Nat.le_trans hB.size hb1.size)
          have HSZ1 : Hid (w.heap.size + 3 ≤ w1.drew.heap.size) := Lib.hid (Nat.le_trans hB3 hb1.size)
          have HROW := Lib.hid (hrow1.alloc (.cells #[.int .u64 ((catOf bs x.1).id : Nat), .int .i64 ((at8 bs (9 + 9 * x.1)).toNat : Nat)] 65))
          have HSZ : Hid (w.heap.size + 3 ≤ (w1.drew.alloc (.cells #[.int .u64 ((catOf bs x.1).id : Nat), .int .i64 ((at8 bs (9 + 9 * x.1)).toNat : Nat)] 65)).heap.size) := Lib.hid (by rw [World.size_alloc]; exact Nat.le_succ_of_le HSZ1.out)
          have HRD : Hid (Rd (w1.drew.alloc (.cells #[.int .u64 ((catOf bs x.1).id : Nat), .int .i64 ((at8 bs (9 + 9 * x.1)).toNat : Nat)] 65)) (some ⟨w1.heap.size, 0, none⟩) 1 2 [.int .u64 ((catOf bs x.1).id : Nat), .int .i64 ((at8 bs (9 + 9 * x.1)).toNat : Nat)]) :=
            Lib.hid ⟨rfl, fun _ => ⟨_, _, rfl, fun j u hj => by rw [show w1.heap.size = w1.drew.heap.size from rfl, World.cell?_alloc_mark, Nat.zero_add, ← hj]; simp⟩⟩
          have HKA := Lib.hid (fun (o' : Obj) (h : w1.drew.cell? ⟨g, o2, none⟩ = some (.int .u64 ((catOf bs x.1).id : Nat)) ∧ w1.drew.cell? ⟨g, o2 + 2, none⟩ = some (.int .u64 ((at8 bs (9 + 9 * x.1)).toNat : Nat))) => (⟨cell_al o' h.1, cell_al o' h.2⟩ : (w1.drew.alloc o').cell? ⟨g, o2, none⟩ = some (.int .u64 ((catOf bs x.1).id : Nat)) ∧ (w1.drew.alloc o').cell? ⟨g, o2 + 2, none⟩ = some (.int .u64 ((at8 bs (9 + 9 * x.1)).toNat : Nat))))
          have HKG := Lib.hid (fun (o' : Obj) (w2 : World) (h : (w1.drew.alloc o').grownBy w2 v.ownBlock) => (⟨h.cell (cell_al o' g0) (fun e => by have := (hrow.lt _ e.symm).2; simp at this; omega), h.cell (cell_al o' g1) (fun e => by have := (hrow.lt _ e.symm).2; simp at this; omega)⟩ : w2.cell? ⟨g, o2, none⟩ = some (.int .u64 ((catOf bs x.1).id : Nat)) ∧ w2.cell? ⟨g, o2 + 2, none⟩ = some (.int .u64 ((at8 bs (9 + 9 * x.1)).toNat : Nat))))
          have HKS := Lib.hid (fun (w2 : World) (u : Value) (h : w2.cell? ⟨g, o2, none⟩ = some (.int .u64 ((catOf bs x.1).id : Nat)) ∧ w2.cell? ⟨g, o2 + 2, none⟩ = some (.int .u64 ((at8 bs (9 + 9 * x.1)).toNat : Nat))) => (⟨(World.cell?_of_block (Below.heap_setCell _ _ _ _ (by have := hv.lt; simp; omega))).trans h.1, (World.cell?_of_block (Below.heap_setCell _ _ _ _ (by have := hv.lt; simp; omega))).trans h.2⟩ : (w2.setCell ⟨w.heap.size, 1, none⟩ u).cell? ⟨g, o2, none⟩ = some (.int .u64 ((catOf bs x.1).id : Nat)) ∧ (w2.setCell ⟨w.heap.size, 1, none⟩ u).cell? ⟨g, o2 + 2, none⟩ = some (.int .u64 ((at8 bs (9 + 9 * x.1)).toNat : Nat))))
          have hsz1 : W.heap.size ≤ w1.heap.size := hb1.size
          have HKC := Lib.hid (fun (o' : Obj) (w2 : World) (u : Value) (h : (w1.drew.alloc o').grownBy w2 v.ownBlock) => (KC.trans (KC.of_below hb1.drew (by omega) (by omega)) ⟨(Below.heap_setCell _ _ _ _ (by show _ ≠ w.heap.size; omega)).trans ((h.block _ (by rw [World.size_alloc]; show _ < w1.heap.size + 1; omega) (fun e => by have := (hrow.lt _ e.symm).1; omega)).trans (heap_alloc_old _ _ (by show _ < w1.heap.size; omega))), (Below.heap_setCell _ _ _ _ (by show _ ≠ w.heap.size; omega)).trans ((h.block _ (by rw [World.size_alloc]; show _ < w1.heap.size + 1; omega) (fun e => by have := (hrow.lt _ e.symm).1; omega)).trans (heap_alloc_old _ _ (by show _ < w1.heap.size; omega)))⟩ : KC (w.heap.size + 1) (w.heap.size + 1 + 1) W (w2.setCell ⟨w.heap.size, 1, none⟩ u)))
          have hc1 := hd1.cell1
          have hc1a : (w1.alloc (.cells #[.int .u64 ((catOf bs x.1).id : Nat), .int .i64 ((at8 bs (9 + 9 * x.1)).toNat : Nat)] 65)).cell? ⟨w.heap.size, 1, none⟩ = some v := cell_al (w := w1) _ hc1
          have hwy : IntKind.i64.wrap ((at8 bs (9 + 9 * x.1)).toNat : Int) = ((at8 bs (9 + 9 * x.1)).toNat : Int) := by have := (at8 bs (9 + 9 * x.1)).toNat_lt; simp [IntKind.wrap, IntKind.signed, IntKind.bits]; omega
          have HFIN := Lib.hid (fun (W' : World) (u : Value) (hk : KeepsOthers w1.drew W') (hkc : KC (w.heap.size + 1) (w.heap.size + 1 + 1) W W') (hb : Below w.heap.size w1.drew W') (h2 : Box2 W' w.heap.size 26 (.int .i64 ((at8 bs 0).toNat : Int)) u) (hr : W'.ownsRow (w.heap.size + 3) 65 2 u (pre.length + 1) (ccells (came bs pre) ++ [.int .u64 ((catOf bs x.1).id : Nat), .int .i64 ((at8 bs (9 + 9 * x.1)).toNat : Nat)])) =>
            (⟨((keeps_of_below hb1).trans (KeepsOthers.drew w1)).trans hk, hkc, ⟨u, h2, by rw [came_push, ccells_push, show (pre ++ [x]).length = pre.length + 1 by simp]; exact hr, trivial⟩, (hB.trans (hb1.drew.mono hB.size)).trans hb, Nat.le_trans hB3 (Nat.le_trans hb1.size hk.size)⟩ : KeepsOthers W W' ∧ KC (w.heap.size + 1) (w.heap.size + 1 + 1) W W' ∧ LabI bs w q (pre ++ [x]) W'))
          clear hrb hxl hB3 hrow hrow1 hd1 hB hv k1 k2 HA b2 hB0 hb1
          refine wpIn_region_round (S := fun W' => W'.cell? ⟨g, o2, none⟩ = some (.int .u64 ((catOf bs x.1).id : Nat)) ∧ W'.cell? ⟨g, o2 + 2, none⟩ = some (.int .u64 ((at8 bs (9 + 9 * x.1)).toNat : Nat))) hmx (by kernel_rfl) ?_
          have hS : w1.drew.cell? ⟨g, o2, none⟩ = some (.int .u64 ((catOf bs x.1).id : Nat)) ∧ w1.drew.cell? ⟨g, o2 + 2, none⟩ = some (.int .u64 ((at8 bs (9 + 9 * x.1)).toNat : Nat)) := ⟨g0, g1⟩
          refine wpAnyH_take (i := 0) (v := ?_) rfl (by kernel_rfl) (by kernel_rfl) (by kernel_rfl) (fun _ _ _ h => h) (Or.inl ⟨by rfl, ?_⟩) hS ?_
          rotate_left
          · intro w hSw
            try dsimp only at hSw
            go_simp
            try with_reducible rfl
          try simp only [Act.put, List.setIfInBounds_toArray, List.set_cons_zero, List.set_cons_succ]
          refine wpAnyH_take (i := 2) (v := ?_) rfl (by kernel_rfl) (by kernel_rfl) (by kernel_rfl) (fun _ _ _ h => h) (Or.inl ⟨by rfl, ?_⟩) hS ?_
          rotate_left
          · intro w hSw
            try dsimp only at hSw
            go_simp
            try with_reducible rfl
          try simp only [Act.put, List.setIfInBounds_toArray, List.set_cons_zero, List.set_cons_succ]
          refine wpAnyH_take (i := 3) (v := ?_) rfl (by kernel_rfl) (by kernel_rfl) (by kernel_rfl) (fun _ _ _ h => h) (Or.inl ⟨by rfl, ?_⟩) hS ?_
          rotate_left
          · intro w hSw
            try dsimp only at hSw
            go_simp
            try with_reducible rfl
          try simp only [Act.put, List.setIfInBounds_toArray, List.set_cons_zero, List.set_cons_succ]
          refine wpAnyH_take (i := 4) (v := ?_) rfl (by kernel_rfl) (by kernel_rfl) (by kernel_rfl) (fun _ _ _ h => h) (Or.inl ⟨by rfl, ?_⟩) hS ?_
          rotate_left
          · intro w hSw
            try dsimp only at hSw
            go_simp
            try with_reducible rfl
          try simp only [Act.put, List.setIfInBounds_toArray, List.set_cons_zero, List.set_cons_succ]
          refine wpAnyH_take (i := 5) (v := ?_) rfl (by kernel_rfl) (by kernel_rfl) (by kernel_rfl) (fun _ _ _ h => h) (Or.inl ⟨by rfl, ?_⟩) hS ?_
          rotate_left
          · intro w hSw
            try dsimp only at hSw
            go_simp
            try with_reducible rfl
          try simp only [Act.put, List.setIfInBounds_toArray, List.set_cons_zero, List.set_cons_succ]
          refine wpAnyH_take (i := 6) (v := ?_) rfl (by kernel_rfl) (by kernel_rfl) (by kernel_rfl) (fun _ _ _ h => h) (Or.inl ⟨by rfl, ?_⟩) hS ?_
          rotate_left
          · intro w hSw
            try dsimp only at hSw
            go_simp
            try with_reducible rfl
          try simp only [Act.put, List.setIfInBounds_toArray, List.set_cons_zero, List.set_cons_succ]
          refine wpAnyH_take (i := 7) (v := ?_) rfl (by kernel_rfl) (by kernel_rfl) (by kernel_rfl) (fun _ _ _ h => h) (Or.inl ⟨by rfl, ?_⟩) hS ?_
          rotate_left
          · intro w hSw
            try dsimp only at hSw
            go_simp
            try with_reducible rfl
          try simp only [Act.put, List.setIfInBounds_toArray, List.set_cons_zero, List.set_cons_succ]
          refine wpAnyH_take (i := 8) (v := ?_) rfl (by kernel_rfl) (by kernel_rfl) (by kernel_rfl) (fun _ _ _ h => h) (Or.inl ⟨by rfl, ?_⟩) hS ?_
          rotate_left
          · intro w hSw
            try dsimp only at hSw
            go_simp
            try with_reducible rfl
          try simp only [Act.put, List.setIfInBounds_toArray, List.set_cons_zero, List.set_cons_succ]
          refine wpAnyH_take (i := 9) (v := ?_) rfl (by kernel_rfl) (by kernel_rfl) (by kernel_rfl) (fun _ _ _ h => h) (Or.inl ⟨by rfl, ?_⟩) hS ?_
          rotate_left
          · intro w hSw
            try dsimp only at hSw
            go_simp
            try with_reducible rfl
          try simp only [Act.put, List.setIfInBounds_toArray, List.set_cons_zero, List.set_cons_succ]
          refine wpAnyH_take (i := 10) (v := ?_) rfl (by kernel_rfl) (by kernel_rfl) (by kernel_rfl) (fun _ _ _ h => h) (Or.inl ⟨by rfl, ?_⟩) hS ?_
          rotate_left
          · intro w hSw
            try dsimp only at hSw
            go_simp
            try with_reducible rfl
          try simp only [Act.put, List.setIfInBounds_toArray, List.set_cons_zero, List.set_cons_succ]
          refine wpAnyH_take (i := 11) (v := ?_) rfl (by kernel_rfl) (by kernel_rfl) (by kernel_rfl) (fun _ _ _ h => h) (Or.inl ⟨by rfl, ?_⟩) hS ?_
          rotate_left
          · intro w hSw
            try dsimp only at hSw
            go_simp
            try with_reducible rfl
          try simp only [Act.put, List.setIfInBounds_toArray, List.set_cons_zero, List.set_cons_succ]
          refine wpAnyH_ready (rs := [1, 12]) (by kernel_rfl) (by simp) (AllReadyH.cons rfl (fun K hK => ?_) (AllReadyH.cons rfl (fun K hK => ?_) AllReadyH.nil))
          · go_simp
            refine hK.out _ _ ?_ (fun hS => ?_)
            · exact hS
            clear hK K
            try simp only [Act.put, List.setIfInBounds_toArray, List.set_cons_zero, List.set_cons_succ]
            refine wpAnyH_ready (rs := [12]) (by kernel_rfl) (by simp) (AllReadyH.cons rfl (fun K hK => ?_) AllReadyH.nil)
            go_simp
            refine hK.out _ _ ?_ (fun hS => ?_)
            · exact HKA.out _ hS
            clear hK K
            try simp only [Act.put, List.setIfInBounds_toArray, List.set_cons_zero, List.set_cons_succ]
            refine wpAnyH_ready (rs := [13]) (by kernel_rfl) (by simp) (AllReadyH.cons rfl (fun K hK => ?_) AllReadyH.nil)
            refine step_append_any rfl _ _ 24 65 _ 2 16 rfl Try.underlying24 Try.infoCat rfl (by decide) (by decide) (w.heap.size + 3) v pre.length _ (some ⟨w1.heap.size, 0, none⟩) 1 1 [.int .u64 ((catOf bs x.1).id : Nat), .int .i64 ((at8 bs (9 + 9 * x.1)).toNat : Nat)] rfl rfl HROW.out HRD.out (by simp [Value.oneCell']) (by omega) HSZ.out ?_
            intro v1 w2 hown2 hg2 hat2
            obtain ⟨g', cap', rfl⟩ := ownsRow_succ hown2
            obtain ⟨hv1, hv2, hr2, hk2, hb2⟩ := HD1.out.appended' (by decide) HROW0.out (Nat.le_succ_of_le (Nat.le_succ_of_le (Nat.le_succ _))) HSZ0.out (Nat.le_refl _) hown2 hg2
            have hc2 := hv1.cell1
            have hf2 := hv1.frozen 1
            have HS2 := Lib.hid (HKG.out _ _ hg2); have HKC2 := Lib.hid (HKC.out _ _ (.slice (some ⟨g', 0, none⟩) (pre.length + 1) cap') hg2)
            have HV2 := Lib.hid hv2; have HR2 := Lib.hid hr2; have HK2 := Lib.hid hk2; have HB2 := Lib.hid hb2
            clear hown2 hg2 hat2 hv1 hv2 hr2 hk2 hb2
            try simp only [Act.put, List.setIfInBounds_toArray, List.set_cons_zero, List.set_cons_succ]
            refine hK.out _ _ ?_ (fun hS => ?_)
            · exact HS2.out
            clear hK K
            try simp only [Act.put, List.setIfInBounds_toArray, List.set_cons_zero, List.set_cons_succ]
            refine wpAnyH_take (i := 14) (v := ?_) rfl (by kernel_rfl) (by kernel_rfl) (by kernel_rfl) (fun _ _ _ h => h) (Or.inl ⟨by rfl, ?_⟩) hS ?_
            rotate_left
            · intro w hSw
              try dsimp only at hSw
              go_simp
              try with_reducible rfl
            try simp only [Act.put, List.setIfInBounds_toArray, List.set_cons_zero, List.set_cons_succ]
            refine wpAnyH_ready (rs := [15]) (by kernel_rfl) (by simp) (AllReadyH.cons rfl (fun K hK => ?_) AllReadyH.nil)
            go_simp
            refine hK.out _ _ ?_ (fun hS => ?_)
            · exact HKS.out _ _ HS2.out
            clear hK K
            try simp only [Act.put, List.setIfInBounds_toArray, List.set_cons_zero, List.set_cons_succ]
            refine wpAnyH_done (by kernel_rfl) ?_ _
            change Exit.inBlock 1 _ Exit.normal _ _
            gi_wp2
            exact ⟨(HFIN.out _ _ HK2.out HKC2.out HB2.out HV2.out HR2.out).1.from _, (HFIN.out _ _ HK2.out HKC2.out HB2.out HV2.out HR2.out).2⟩
          · go_simp
            refine hK.out _ _ ?_ (fun hS => ?_)
            · exact HKA.out _ hS
            clear hK K
            try simp only [Act.put, List.setIfInBounds_toArray, List.set_cons_zero, List.set_cons_succ]
            refine wpAnyH_ready (rs := [1]) (by kernel_rfl) (by simp) (AllReadyH.cons rfl (fun K hK => ?_) AllReadyH.nil)
            go_simp
            refine hK.out _ _ ?_ (fun hS => ?_)
            · exact hS
            clear hK K
            try simp only [Act.put, List.setIfInBounds_toArray, List.set_cons_zero, List.set_cons_succ]
            refine wpAnyH_ready (rs := [13]) (by kernel_rfl) (by simp) (AllReadyH.cons rfl (fun K hK => ?_) AllReadyH.nil)
            refine step_append_any rfl _ _ 24 65 _ 2 16 rfl Try.underlying24 Try.infoCat rfl (by decide) (by decide) (w.heap.size + 3) v pre.length _ (some ⟨w1.heap.size, 0, none⟩) 1 1 [.int .u64 ((catOf bs x.1).id : Nat), .int .i64 ((at8 bs (9 + 9 * x.1)).toNat : Nat)] rfl rfl HROW.out HRD.out (by simp [Value.oneCell']) (by omega) HSZ.out ?_
            intro v1 w2 hown2 hg2 hat2
            obtain ⟨g', cap', rfl⟩ := ownsRow_succ hown2
            obtain ⟨hv1, hv2, hr2, hk2, hb2⟩ := HD1.out.appended' (by decide) HROW0.out (Nat.le_succ_of_le (Nat.le_succ_of_le (Nat.le_succ _))) HSZ0.out (Nat.le_refl _) hown2 hg2
            have hc2 := hv1.cell1
            have hf2 := hv1.frozen 1
            have HS2 := Lib.hid (HKG.out _ _ hg2); have HKC2 := Lib.hid (HKC.out _ _ (.slice (some ⟨g', 0, none⟩) (pre.length + 1) cap') hg2)
            have HV2 := Lib.hid hv2; have HR2 := Lib.hid hr2; have HK2 := Lib.hid hk2; have HB2 := Lib.hid hb2
            clear hown2 hg2 hat2 hv1 hv2 hr2 hk2 hb2
            try simp only [Act.put, List.setIfInBounds_toArray, List.set_cons_zero, List.set_cons_succ]
            refine hK.out _ _ ?_ (fun hS => ?_)
            · exact HS2.out
            clear hK K
            try simp only [Act.put, List.setIfInBounds_toArray, List.set_cons_zero, List.set_cons_succ]
            refine wpAnyH_take (i := 14) (v := ?_) rfl (by kernel_rfl) (by kernel_rfl) (by kernel_rfl) (fun _ _ _ h => h) (Or.inl ⟨by rfl, ?_⟩) hS ?_
            rotate_left
            · intro w hSw
              try dsimp only at hSw
              go_simp
              try with_reducible rfl
            try simp only [Act.put, List.setIfInBounds_toArray, List.set_cons_zero, List.set_cons_succ]
            refine wpAnyH_ready (rs := [15]) (by kernel_rfl) (by simp) (AllReadyH.cons rfl (fun K hK => ?_) AllReadyH.nil)
            go_simp
            refine hK.out _ _ ?_ (fun hS => ?_)
            · exact HKS.out _ _ HS2.out
            clear hK K
            try simp only [Act.put, List.setIfInBounds_toArray, List.set_cons_zero, List.set_cons_succ]
            refine wpAnyH_done (by kernel_rfl) ?_ _
            change Exit.inBlock 1 _ Exit.normal _ _
            gi_wp2
            exact ⟨(HFIN.out _ _ HK2.out HKC2.out HB2.out HV2.out HR2.out).1.from _, (HFIN.out _ _ HK2.out HKC2.out HB2.out HV2.out HR2.out).2⟩
        case done1 =>
          rintro D ys W hD hys ⟨⟨v, hv, hrow, -⟩, hB, hB3⟩ hK
          obtain ⟨A2, c2, rfl, -⟩ := own_rcats hrow
          have hc0 := hv.cell0
          have hc1 := hv.cell1
          have hf0 := hv.frozen 0
          have hf1 := hv.frozen 1
          have hvs := (hv.set0 (.int .i64 ((at8 bs 0).toNat : Int))).set1 (.slice A2 ys.length c2)
          have hrs := own_set (own_set hrow ⟨w.heap.size, 0, none⟩ (.int .i64 ((at8 bs 0).toNat : Int)) (fun e => by have h3 : w.heap.size + 3 ≤ w.heap.size := (hrow.lt _ e).1; omega)) ⟨w.heap.size, 1, none⟩ (.slice A2 ys.length c2) (fun e => by have h3 : w.heap.size + 3 ≤ w.heap.size := (hrow.lt _ e).1; omega)
          have hbs := (hB.setCell (p := ⟨w.heap.size, 0, none⟩) (Nat.le_refl _) (.int .i64 ((at8 bs 0).toNat : Int))).setCell (p := ⟨w.heap.size, 1, none⟩) (Nat.le_refl _) (.slice A2 ys.length c2)
          have hks := ((KeepsOthers.setCell W ⟨w.heap.size, 0, none⟩ (.int .i64 ((at8 bs 0).toNat : Int))).trans (KeepsOthers.setCell _ ⟨w.heap.size, 1, none⟩ (.slice A2 ys.length c2))).same D _ hK rfl
          have HVS := Lib.hid hvs; have HRS := Lib.hid hrs; have HBS := Lib.hid hbs; have HKS := Lib.hid hks; have HY := Lib.hid hys
          clear hvs hrs hbs hks hrow hB hys
          gi_wp2
          have hDw : w.heap.size ≠ D := by simp [hs0] at hD; omega
          have hv5 := HVS.out.kept (grownBy_putObj' _ D (.deferred none)) (fun e => hDw (by cases e; rfl))
          have c50 := hv5.cell0
          have c51 := hv5.cell1
          refine ⟨by simp, .inl ⟨_, _, rfl, run_takeDeferred HKS.out, ?_⟩⟩
          refine ⟨.tuple #[.agg #[.int .i64 ((at8 bs 0).toNat : Int), .slice A2 ys.length c2], .bool true], ?_, ?_⟩
          · simp [results, Try.f24, go_sem, c50, c51]
          · have hyl : ys.length = q := by have := congrArg List.length HY.out; simpa using this
            have hro := own_mono (ownsRow_putObj HRS.out (.deferred none) HKS.out rfl) (show w.heap.size ≤ w.heap.size + 3 by omega)
            rw [came_all bs ys HY.out] at hro
            refine ⟨HBS.out.trans (belowK_b (w := w) (Nat.le_refl _) _ D _ _ (by simp [hs0] at hD; omega) HKS.out rfl rfl), .inl ⟨by rw [hl]; exact h1, by rw [hl]; exact h2, _, by rw [HL.out], ?_⟩⟩
            rw [HL.out]
            dsimp only
            rw [catsOf_length]
            exact Eq.mp (congrArg (fun m => World.ownsRow _ w.heap.size 65 2 (.slice A2 ys.length c2) m (ccells (catsOf bs q))) hyl) hro
      · gi_wp2_with (refine ⟨trivial, ?_⟩; gi_at_call 34; refine (callsIn_wide.2 (chunk_make _ _ _ _)).mono ?_; rintro e w' ⟨rfl, rfl⟩)
        have HA : ∀ A' : Option Addr, ∀ cap, (c = 1 ∧ cap = 0) ∨ (¬ c = 1 ∧ A' = some ⟨b, o + 1, none⟩ ∧ cap = c - 1) → 0 < q → A' = some ⟨b, o + 1, none⟩ ∧ 9 * q ≤ cap := fun A' cap h hq => by
          have := HQ.out; have := HCC.out
          rcases h with ⟨h, _⟩ | ⟨_, rfl, rfl⟩
          · omega
          · exact ⟨rfl, by omega⟩
        obtain ⟨W0, hW0⟩ : ∃ W0, w.alloc (.cells #[.int .i64 ((at8 bs 0).toNat : Int), .slice none 0 0] 26) = W0 := ⟨_, rfl⟩
        rw [hW0]
        have b2 : Box2 W0 w.heap.size 26 (.int .i64 ((at8 bs 0).toNat : Int)) (.slice none 0 0) := by rw [← hW0]; exact Box2.new _ _ _ _
        have hB0 : Below w.heap.size w W0 := by rw [← hW0]; exact below_alloc _ _
        have hs0 : W0.heap.size = w.heap.size + 1 := by rw [← hW0]; simp
        have k1 : ∀ (A' : Option Addr) (cap : Nat) (T T' : TypeId), ((W0.alloc (.cells #[.slice A' (9 * q) cap] T)).alloc (.cells #[.int .i64 9] T')).cell? ⟨w.heap.size + 1, 0, none⟩ = some (.slice A' (9 * q) cap) := fun A' cap T T' => by rw [← hs0]; exact ((Boxed.new W0 T _).alloc _).cell
        have k2 : ∀ (A' : Option Addr) (cap : Nat) (T T' : TypeId), ((W0.alloc (.cells #[.slice A' (9 * q) cap] T)).alloc (.cells #[.int .i64 9] T')).cell? ⟨w.heap.size + 1 + 1, 0, none⟩ = some (.int .i64 9) := fun A' cap T T' => by
          have h := (Boxed.new (W0.alloc (.cells #[.slice A' (9 * q) cap] T)) T' (.int .i64 9)).cell
          rw [World.size_alloc, hs0] at h
          exact h
        refine' wpIn_rangeFunc_ownG (F := Fence.wide) rfl (by omega) (gf := 42) (lb := #[.pointer (some ⟨w.heap.size + 1, 0, none⟩), .pointer (some ⟨w.heap.size + 1 + 1, 0, none⟩)]) rfl trivial (enters_of Try.func42 (by kernel_rfl) rfl)
          (chunk_any _ (by omega) (w.heap.size + 1) (w.heap.size + 1 + 1) b (o + 1) q _ _ (HA _ _ (by first | exact .inl ⟨hc1, rfl⟩ | exact .inr ⟨hc1, rfl, rfl⟩)) (by have := HCC.out; omega) _ (by simp [hs0]) (by simp [hs0]) (k1 _ _ _ _) (k2 _ _ _ _)) KC.trans (KC.put (by simp [hs0]) (by simp [hs0])) (Below.refl _ _) (fun _ => rfl)
          (LabI bs w q) (fun _ _ _ => False) (labI_own bs w q _ (by simp [hs0]; omega))
          (fun _ _ _ _ _ hs _ _ => hs)
          ⟨⟨_, (b2.alloc _).alloc _, World.ownsRow_nil _ _ _ _, trivial⟩, (balloc (balloc hB0 _) _), by simp [hs0]⟩ _ ?assign2 ?body2 ?done2 ?stop2
        case assign2 =>
          intro l x W K hK
          gi_wp2
          exact hK
        case stop2 =>
          rintro D c pre W _ _ h _
          exact h.elim
        case body2 =>
          rintro l pre x W ⟨⟨v, hv, hrow, -⟩, hB, hB3⟩ hlt
          have hx := x.2
          have hxl := HQ.out
          have hrb : RB W (some ⟨b, o + 1 + 9 * x.1, none⟩) 9 9 (((bs.drop 1).drop (9 * x.1)).take 9) := by
            have h := (HR.out.cut (1 + 9 * x.1) 9 (by omega)).below hB
            have hne : ¬ c = 1 + 9 * x.1 := by have := HCC.out; omega
            rw [cutA, if_neg hne, Option.map_some, add_none, ← List.drop_drop, ← Nat.add_assoc] at h
            exact ⟨h.1, by omega, by omega, h.2.2.2⟩
          have hun := call_unpack81 _ _ _ _ _ W hrb (piece_bytes bs x.1 (by rw [hl]; omega))
          have hmx : Try.prog.follows .mixedOrders = true := by kernel_rfl
          gi_wp2_with (refine ⟨trivial, ?_⟩; gi_at_call 23; refine (CallsIn.inRound l (callsIn_wide.2 hun)).mono ?_; clear hun; rintro e w1 ⟨g, o2, c2, rfl, hg0, hb1, g0, g1⟩)
          have hd1 : Box2 w1.drew w.heap.size 26 (.int .i64 ((at8 bs 0).toNat : Int)) v := hv.below hb1.drew hv.lt
          have hrow1 : w1.drew.ownsRow (w.heap.size + 3) 65 2 v pre.length (ccells (came bs pre)) := (own_below hrow hb1).drew
          have hpq : pre.length < 100 := by omega
          have HD1 := Lib.hid hd1
          have HROW0 := Lib.hid hrow1
          have HSZ0 : Hid (w.heap.size ≤ w1.drew.heap.size) := Lib.hid (Nat.le_trans hB.size hb1.size)
          have HSZ1 : Hid (w.heap.size + 3 ≤ w1.drew.heap.size) := Lib.hid (Nat.le_trans hB3 hb1.size)
          have HROW := Lib.hid (hrow1.alloc (.cells #[.int .u64 ((catOf bs x.1).id : Nat), .int .i64 ((at8 bs (9 + 9 * x.1)).toNat : Nat)] 65))
          have HSZ : Hid (w.heap.size + 3 ≤ (w1.drew.alloc (.cells #[.int .u64 ((catOf bs x.1).id : Nat), .int .i64 ((at8 bs (9 + 9 * x.1)).toNat : Nat)] 65)).heap.size) := Lib.hid (by rw [World.size_alloc]; exact Nat.le_succ_of_le HSZ1.out)
          have HRD : Hid (Rd (w1.drew.alloc (.cells #[.int .u64 ((catOf bs x.1).id : Nat), .int .i64 ((at8 bs (9 + 9 * x.1)).toNat : Nat)] 65)) (some ⟨w1.heap.size, 0, none⟩) 1 2 [.int .u64 ((catOf bs x.1).id : Nat), .int .i64 ((at8 bs (9 + 9 * x.1)).toNat : Nat)]) :=
            Lib.hid ⟨rfl, fun _ => ⟨_, _, rfl, fun j u hj => by rw [show w1.heap.size = w1.drew.heap.size from rfl, World.cell?_alloc_mark, Nat.zero_add, ← hj]; simp⟩⟩
          have HKA := Lib.hid (fun (o' : Obj) (h : w1.drew.cell? ⟨g, o2, none⟩ = some (.int .u64 ((catOf bs x.1).id : Nat)) ∧ w1.drew.cell? ⟨g, o2 + 2, none⟩ = some (.int .u64 ((at8 bs (9 + 9 * x.1)).toNat : Nat))) => (⟨cell_al o' h.1, cell_al o' h.2⟩ : (w1.drew.alloc o').cell? ⟨g, o2, none⟩ = some (.int .u64 ((catOf bs x.1).id : Nat)) ∧ (w1.drew.alloc o').cell? ⟨g, o2 + 2, none⟩ = some (.int .u64 ((at8 bs (9 + 9 * x.1)).toNat : Nat))))
          have HKG := Lib.hid (fun (o' : Obj) (w2 : World) (h : (w1.drew.alloc o').grownBy w2 v.ownBlock) => (⟨h.cell (cell_al o' g0) (fun e => by have := (hrow.lt _ e.symm).2; simp at this; omega), h.cell (cell_al o' g1) (fun e => by have := (hrow.lt _ e.symm).2; simp at this; omega)⟩ : w2.cell? ⟨g, o2, none⟩ = some (.int .u64 ((catOf bs x.1).id : Nat)) ∧ w2.cell? ⟨g, o2 + 2, none⟩ = some (.int .u64 ((at8 bs (9 + 9 * x.1)).toNat : Nat))))
          have HKS := Lib.hid (fun (w2 : World) (u : Value) (h : w2.cell? ⟨g, o2, none⟩ = some (.int .u64 ((catOf bs x.1).id : Nat)) ∧ w2.cell? ⟨g, o2 + 2, none⟩ = some (.int .u64 ((at8 bs (9 + 9 * x.1)).toNat : Nat))) => (⟨(World.cell?_of_block (Below.heap_setCell _ _ _ _ (by have := hv.lt; simp; omega))).trans h.1, (World.cell?_of_block (Below.heap_setCell _ _ _ _ (by have := hv.lt; simp; omega))).trans h.2⟩ : (w2.setCell ⟨w.heap.size, 1, none⟩ u).cell? ⟨g, o2, none⟩ = some (.int .u64 ((catOf bs x.1).id : Nat)) ∧ (w2.setCell ⟨w.heap.size, 1, none⟩ u).cell? ⟨g, o2 + 2, none⟩ = some (.int .u64 ((at8 bs (9 + 9 * x.1)).toNat : Nat))))
          have hsz1 : W.heap.size ≤ w1.heap.size := hb1.size
          have HKC := Lib.hid (fun (o' : Obj) (w2 : World) (u : Value) (h : (w1.drew.alloc o').grownBy w2 v.ownBlock) => (KC.trans (KC.of_below hb1.drew (by omega) (by omega)) ⟨(Below.heap_setCell _ _ _ _ (by show _ ≠ w.heap.size; omega)).trans ((h.block _ (by rw [World.size_alloc]; show _ < w1.heap.size + 1; omega) (fun e => by have := (hrow.lt _ e.symm).1; omega)).trans (heap_alloc_old _ _ (by show _ < w1.heap.size; omega))), (Below.heap_setCell _ _ _ _ (by show _ ≠ w.heap.size; omega)).trans ((h.block _ (by rw [World.size_alloc]; show _ < w1.heap.size + 1; omega) (fun e => by have := (hrow.lt _ e.symm).1; omega)).trans (heap_alloc_old _ _ (by show _ < w1.heap.size; omega)))⟩ : KC (w.heap.size + 1) (w.heap.size + 1 + 1) W (w2.setCell ⟨w.heap.size, 1, none⟩ u)))
          have hc1 := hd1.cell1
          have hc1a : (w1.alloc (.cells #[.int .u64 ((catOf bs x.1).id : Nat), .int .i64 ((at8 bs (9 + 9 * x.1)).toNat : Nat)] 65)).cell? ⟨w.heap.size, 1, none⟩ = some v := cell_al (w := w1) _ hc1
          have hwy : IntKind.i64.wrap ((at8 bs (9 + 9 * x.1)).toNat : Int) = ((at8 bs (9 + 9 * x.1)).toNat : Int) := by have := (at8 bs (9 + 9 * x.1)).toNat_lt; simp [IntKind.wrap, IntKind.signed, IntKind.bits]; omega
          have HFIN := Lib.hid (fun (W' : World) (u : Value) (hk : KeepsOthers w1.drew W') (hkc : KC (w.heap.size + 1) (w.heap.size + 1 + 1) W W') (hb : Below w.heap.size w1.drew W') (h2 : Box2 W' w.heap.size 26 (.int .i64 ((at8 bs 0).toNat : Int)) u) (hr : W'.ownsRow (w.heap.size + 3) 65 2 u (pre.length + 1) (ccells (came bs pre) ++ [.int .u64 ((catOf bs x.1).id : Nat), .int .i64 ((at8 bs (9 + 9 * x.1)).toNat : Nat)])) =>
            (⟨((keeps_of_below hb1).trans (KeepsOthers.drew w1)).trans hk, hkc, ⟨u, h2, by rw [came_push, ccells_push, show (pre ++ [x]).length = pre.length + 1 by simp]; exact hr, trivial⟩, (hB.trans (hb1.drew.mono hB.size)).trans hb, Nat.le_trans hB3 (Nat.le_trans hb1.size hk.size)⟩ : KeepsOthers W W' ∧ KC (w.heap.size + 1) (w.heap.size + 1 + 1) W W' ∧ LabI bs w q (pre ++ [x]) W'))
          clear hrb hxl hB3 hrow hrow1 hd1 hB hv k1 k2 HA b2 hB0 hb1
          refine wpIn_region_round (S := fun W' => W'.cell? ⟨g, o2, none⟩ = some (.int .u64 ((catOf bs x.1).id : Nat)) ∧ W'.cell? ⟨g, o2 + 2, none⟩ = some (.int .u64 ((at8 bs (9 + 9 * x.1)).toNat : Nat))) hmx (by kernel_rfl) ?_
          have hS : w1.drew.cell? ⟨g, o2, none⟩ = some (.int .u64 ((catOf bs x.1).id : Nat)) ∧ w1.drew.cell? ⟨g, o2 + 2, none⟩ = some (.int .u64 ((at8 bs (9 + 9 * x.1)).toNat : Nat)) := ⟨g0, g1⟩
          refine wpAnyH_take (i := 0) (v := ?_) rfl (by kernel_rfl) (by kernel_rfl) (by kernel_rfl) (fun _ _ _ h => h) (Or.inl ⟨by rfl, ?_⟩) hS ?_
          rotate_left
          · intro w hSw
            try dsimp only at hSw
            go_simp
            try with_reducible rfl
          try simp only [Act.put, List.setIfInBounds_toArray, List.set_cons_zero, List.set_cons_succ]
          refine wpAnyH_take (i := 2) (v := ?_) rfl (by kernel_rfl) (by kernel_rfl) (by kernel_rfl) (fun _ _ _ h => h) (Or.inl ⟨by rfl, ?_⟩) hS ?_
          rotate_left
          · intro w hSw
            try dsimp only at hSw
            go_simp
            try with_reducible rfl
          try simp only [Act.put, List.setIfInBounds_toArray, List.set_cons_zero, List.set_cons_succ]
          refine wpAnyH_take (i := 3) (v := ?_) rfl (by kernel_rfl) (by kernel_rfl) (by kernel_rfl) (fun _ _ _ h => h) (Or.inl ⟨by rfl, ?_⟩) hS ?_
          rotate_left
          · intro w hSw
            try dsimp only at hSw
            go_simp
            try with_reducible rfl
          try simp only [Act.put, List.setIfInBounds_toArray, List.set_cons_zero, List.set_cons_succ]
          refine wpAnyH_take (i := 4) (v := ?_) rfl (by kernel_rfl) (by kernel_rfl) (by kernel_rfl) (fun _ _ _ h => h) (Or.inl ⟨by rfl, ?_⟩) hS ?_
          rotate_left
          · intro w hSw
            try dsimp only at hSw
            go_simp
            try with_reducible rfl
          try simp only [Act.put, List.setIfInBounds_toArray, List.set_cons_zero, List.set_cons_succ]
          refine wpAnyH_take (i := 5) (v := ?_) rfl (by kernel_rfl) (by kernel_rfl) (by kernel_rfl) (fun _ _ _ h => h) (Or.inl ⟨by rfl, ?_⟩) hS ?_
          rotate_left
          · intro w hSw
            try dsimp only at hSw
            go_simp
            try with_reducible rfl
          try simp only [Act.put, List.setIfInBounds_toArray, List.set_cons_zero, List.set_cons_succ]
          refine wpAnyH_take (i := 6) (v := ?_) rfl (by kernel_rfl) (by kernel_rfl) (by kernel_rfl) (fun _ _ _ h => h) (Or.inl ⟨by rfl, ?_⟩) hS ?_
          rotate_left
          · intro w hSw
            try dsimp only at hSw
            go_simp
            try with_reducible rfl
          try simp only [Act.put, List.setIfInBounds_toArray, List.set_cons_zero, List.set_cons_succ]
          refine wpAnyH_take (i := 7) (v := ?_) rfl (by kernel_rfl) (by kernel_rfl) (by kernel_rfl) (fun _ _ _ h => h) (Or.inl ⟨by rfl, ?_⟩) hS ?_
          rotate_left
          · intro w hSw
            try dsimp only at hSw
            go_simp
            try with_reducible rfl
          try simp only [Act.put, List.setIfInBounds_toArray, List.set_cons_zero, List.set_cons_succ]
          refine wpAnyH_take (i := 8) (v := ?_) rfl (by kernel_rfl) (by kernel_rfl) (by kernel_rfl) (fun _ _ _ h => h) (Or.inl ⟨by rfl, ?_⟩) hS ?_
          rotate_left
          · intro w hSw
            try dsimp only at hSw
            go_simp
            try with_reducible rfl
          try simp only [Act.put, List.setIfInBounds_toArray, List.set_cons_zero, List.set_cons_succ]
          refine wpAnyH_take (i := 9) (v := ?_) rfl (by kernel_rfl) (by kernel_rfl) (by kernel_rfl) (fun _ _ _ h => h) (Or.inl ⟨by rfl, ?_⟩) hS ?_
          rotate_left
          · intro w hSw
            try dsimp only at hSw
            go_simp
            try with_reducible rfl
          try simp only [Act.put, List.setIfInBounds_toArray, List.set_cons_zero, List.set_cons_succ]
          refine wpAnyH_take (i := 10) (v := ?_) rfl (by kernel_rfl) (by kernel_rfl) (by kernel_rfl) (fun _ _ _ h => h) (Or.inl ⟨by rfl, ?_⟩) hS ?_
          rotate_left
          · intro w hSw
            try dsimp only at hSw
            go_simp
            try with_reducible rfl
          try simp only [Act.put, List.setIfInBounds_toArray, List.set_cons_zero, List.set_cons_succ]
          refine wpAnyH_take (i := 11) (v := ?_) rfl (by kernel_rfl) (by kernel_rfl) (by kernel_rfl) (fun _ _ _ h => h) (Or.inl ⟨by rfl, ?_⟩) hS ?_
          rotate_left
          · intro w hSw
            try dsimp only at hSw
            go_simp
            try with_reducible rfl
          try simp only [Act.put, List.setIfInBounds_toArray, List.set_cons_zero, List.set_cons_succ]
          refine wpAnyH_ready (rs := [1, 12]) (by kernel_rfl) (by simp) (AllReadyH.cons rfl (fun K hK => ?_) (AllReadyH.cons rfl (fun K hK => ?_) AllReadyH.nil))
          · go_simp
            refine hK.out _ _ ?_ (fun hS => ?_)
            · exact hS
            clear hK K
            try simp only [Act.put, List.setIfInBounds_toArray, List.set_cons_zero, List.set_cons_succ]
            refine wpAnyH_ready (rs := [12]) (by kernel_rfl) (by simp) (AllReadyH.cons rfl (fun K hK => ?_) AllReadyH.nil)
            go_simp
            refine hK.out _ _ ?_ (fun hS => ?_)
            · exact HKA.out _ hS
            clear hK K
            try simp only [Act.put, List.setIfInBounds_toArray, List.set_cons_zero, List.set_cons_succ]
            refine wpAnyH_ready (rs := [13]) (by kernel_rfl) (by simp) (AllReadyH.cons rfl (fun K hK => ?_) AllReadyH.nil)
            refine step_append_any rfl _ _ 24 65 _ 2 16 rfl Try.underlying24 Try.infoCat rfl (by decide) (by decide) (w.heap.size + 3) v pre.length _ (some ⟨w1.heap.size, 0, none⟩) 1 1 [.int .u64 ((catOf bs x.1).id : Nat), .int .i64 ((at8 bs (9 + 9 * x.1)).toNat : Nat)] rfl rfl HROW.out HRD.out (by simp [Value.oneCell']) (by omega) HSZ.out ?_
            intro v1 w2 hown2 hg2 hat2
            obtain ⟨g', cap', rfl⟩ := ownsRow_succ hown2
            obtain ⟨hv1, hv2, hr2, hk2, hb2⟩ := HD1.out.appended' (by decide) HROW0.out (Nat.le_succ_of_le (Nat.le_succ_of_le (Nat.le_succ _))) HSZ0.out (Nat.le_refl _) hown2 hg2
            have hc2 := hv1.cell1
            have hf2 := hv1.frozen 1
            have HS2 := Lib.hid (HKG.out _ _ hg2); have HKC2 := Lib.hid (HKC.out _ _ (.slice (some ⟨g', 0, none⟩) (pre.length + 1) cap') hg2)
            have HV2 := Lib.hid hv2; have HR2 := Lib.hid hr2; have HK2 := Lib.hid hk2; have HB2 := Lib.hid hb2
            clear hown2 hg2 hat2 hv1 hv2 hr2 hk2 hb2
            try simp only [Act.put, List.setIfInBounds_toArray, List.set_cons_zero, List.set_cons_succ]
            refine hK.out _ _ ?_ (fun hS => ?_)
            · exact HS2.out
            clear hK K
            try simp only [Act.put, List.setIfInBounds_toArray, List.set_cons_zero, List.set_cons_succ]
            refine wpAnyH_take (i := 14) (v := ?_) rfl (by kernel_rfl) (by kernel_rfl) (by kernel_rfl) (fun _ _ _ h => h) (Or.inl ⟨by rfl, ?_⟩) hS ?_
            rotate_left
            · intro w hSw
              try dsimp only at hSw
              go_simp
              try with_reducible rfl
            try simp only [Act.put, List.setIfInBounds_toArray, List.set_cons_zero, List.set_cons_succ]
            refine wpAnyH_ready (rs := [15]) (by kernel_rfl) (by simp) (AllReadyH.cons rfl (fun K hK => ?_) AllReadyH.nil)
            go_simp
            refine hK.out _ _ ?_ (fun hS => ?_)
            · exact HKS.out _ _ HS2.out
            clear hK K
            try simp only [Act.put, List.setIfInBounds_toArray, List.set_cons_zero, List.set_cons_succ]
            refine wpAnyH_done (by kernel_rfl) ?_ _
            change Exit.inBlock 1 _ Exit.normal _ _
            gi_wp2
            exact ⟨(HFIN.out _ _ HK2.out HKC2.out HB2.out HV2.out HR2.out).1.from _, (HFIN.out _ _ HK2.out HKC2.out HB2.out HV2.out HR2.out).2⟩
          · go_simp
            refine hK.out _ _ ?_ (fun hS => ?_)
            · exact HKA.out _ hS
            clear hK K
            try simp only [Act.put, List.setIfInBounds_toArray, List.set_cons_zero, List.set_cons_succ]
            refine wpAnyH_ready (rs := [1]) (by kernel_rfl) (by simp) (AllReadyH.cons rfl (fun K hK => ?_) AllReadyH.nil)
            go_simp
            refine hK.out _ _ ?_ (fun hS => ?_)
            · exact hS
            clear hK K
            try simp only [Act.put, List.setIfInBounds_toArray, List.set_cons_zero, List.set_cons_succ]
            refine wpAnyH_ready (rs := [13]) (by kernel_rfl) (by simp) (AllReadyH.cons rfl (fun K hK => ?_) AllReadyH.nil)
            refine step_append_any rfl _ _ 24 65 _ 2 16 rfl Try.underlying24 Try.infoCat rfl (by decide) (by decide) (w.heap.size + 3) v pre.length _ (some ⟨w1.heap.size, 0, none⟩) 1 1 [.int .u64 ((catOf bs x.1).id : Nat), .int .i64 ((at8 bs (9 + 9 * x.1)).toNat : Nat)] rfl rfl HROW.out HRD.out (by simp [Value.oneCell']) (by omega) HSZ.out ?_
            intro v1 w2 hown2 hg2 hat2
            obtain ⟨g', cap', rfl⟩ := ownsRow_succ hown2
            obtain ⟨hv1, hv2, hr2, hk2, hb2⟩ := HD1.out.appended' (by decide) HROW0.out (Nat.le_succ_of_le (Nat.le_succ_of_le (Nat.le_succ _))) HSZ0.out (Nat.le_refl _) hown2 hg2
            have hc2 := hv1.cell1
            have hf2 := hv1.frozen 1
            have HS2 := Lib.hid (HKG.out _ _ hg2); have HKC2 := Lib.hid (HKC.out _ _ (.slice (some ⟨g', 0, none⟩) (pre.length + 1) cap') hg2)
            have HV2 := Lib.hid hv2; have HR2 := Lib.hid hr2; have HK2 := Lib.hid hk2; have HB2 := Lib.hid hb2
            clear hown2 hg2 hat2 hv1 hv2 hr2 hk2 hb2
            try simp only [Act.put, List.setIfInBounds_toArray, List.set_cons_zero, List.set_cons_succ]
            refine hK.out _ _ ?_ (fun hS => ?_)
            · exact HS2.out
            clear hK K
            try simp only [Act.put, List.setIfInBounds_toArray, List.set_cons_zero, List.set_cons_succ]
            refine wpAnyH_take (i := 14) (v := ?_) rfl (by kernel_rfl) (by kernel_rfl) (by kernel_rfl) (fun _ _ _ h => h) (Or.inl ⟨by rfl, ?_⟩) hS ?_
            rotate_left
            · intro w hSw
              try dsimp only at hSw
              go_simp
              try with_reducible rfl
            try simp only [Act.put, List.setIfInBounds_toArray, List.set_cons_zero, List.set_cons_succ]
            refine wpAnyH_ready (rs := [15]) (by kernel_rfl) (by simp) (AllReadyH.cons rfl (fun K hK => ?_) AllReadyH.nil)
            go_simp
            refine hK.out _ _ ?_ (fun hS => ?_)
            · exact HKS.out _ _ HS2.out
            clear hK K
            try simp only [Act.put, List.setIfInBounds_toArray, List.set_cons_zero, List.set_cons_succ]
            refine wpAnyH_done (by kernel_rfl) ?_ _
            change Exit.inBlock 1 _ Exit.normal _ _
            gi_wp2
            exact ⟨(HFIN.out _ _ HK2.out HKC2.out HB2.out HV2.out HR2.out).1.from _, (HFIN.out _ _ HK2.out HKC2.out HB2.out HV2.out HR2.out).2⟩
        case done2 =>
          rintro D ys W hD hys ⟨⟨v, hv, hrow, -⟩, hB, hB3⟩ hK
          obtain ⟨A2, c2, rfl, -⟩ := own_rcats hrow
          have hc0 := hv.cell0
          have hc1 := hv.cell1
          have hf0 := hv.frozen 0
          have hf1 := hv.frozen 1
          have hvs := (hv.set0 (.int .i64 ((at8 bs 0).toNat : Int))).set1 (.slice A2 ys.length c2)
          have hrs := own_set (own_set hrow ⟨w.heap.size, 0, none⟩ (.int .i64 ((at8 bs 0).toNat : Int)) (fun e => by have h3 : w.heap.size + 3 ≤ w.heap.size := (hrow.lt _ e).1; omega)) ⟨w.heap.size, 1, none⟩ (.slice A2 ys.length c2) (fun e => by have h3 : w.heap.size + 3 ≤ w.heap.size := (hrow.lt _ e).1; omega)
          have hbs := (hB.setCell (p := ⟨w.heap.size, 0, none⟩) (Nat.le_refl _) (.int .i64 ((at8 bs 0).toNat : Int))).setCell (p := ⟨w.heap.size, 1, none⟩) (Nat.le_refl _) (.slice A2 ys.length c2)
          have hks := ((KeepsOthers.setCell W ⟨w.heap.size, 0, none⟩ (.int .i64 ((at8 bs 0).toNat : Int))).trans (KeepsOthers.setCell _ ⟨w.heap.size, 1, none⟩ (.slice A2 ys.length c2))).same D _ hK rfl
          have HVS := Lib.hid hvs; have HRS := Lib.hid hrs; have HBS := Lib.hid hbs; have HKS := Lib.hid hks; have HY := Lib.hid hys
          clear hvs hrs hbs hks hrow hB hys
          gi_wp2
          have hDw : w.heap.size ≠ D := by simp [hs0] at hD; omega
          have hv5 := HVS.out.kept (grownBy_putObj' _ D (.deferred none)) (fun e => hDw (by cases e; rfl))
          have c50 := hv5.cell0
          have c51 := hv5.cell1
          refine ⟨by simp, .inl ⟨_, _, rfl, run_takeDeferred HKS.out, ?_⟩⟩
          refine ⟨.tuple #[.agg #[.int .i64 ((at8 bs 0).toNat : Int), .slice A2 ys.length c2], .bool true], ?_, ?_⟩
          · simp [results, Try.f24, go_sem, c50, c51]
          · have hyl : ys.length = q := by have := congrArg List.length HY.out; simpa using this
            have hro := own_mono (ownsRow_putObj HRS.out (.deferred none) HKS.out rfl) (show w.heap.size ≤ w.heap.size + 3 by omega)
            rw [came_all bs ys HY.out] at hro
            refine ⟨HBS.out.trans (belowK_b (w := w) (Nat.le_refl _) _ D _ _ (by simp [hs0] at hD; omega) HKS.out rfl rfl), .inl ⟨by rw [hl]; exact h1, by rw [hl]; exact h2, _, by rw [HL.out], ?_⟩⟩
            rw [HL.out]
            dsimp only
            rw [catsOf_length]
            exact Eq.mp (congrArg (fun m => World.ownsRow _ w.heap.size 65 2 (.slice A2 ys.length c2) m (ccells (catsOf bs q))) hyl) hro
    · have q2 : decide ((91 : Int) < (n : Int)) = true := decide_eq_true (by omega)
      gi_wp2
      have b2 := Box2.new w 26 (.int .i64 0) (.slice none 0 0)
      have c0 := b2.cell0
      have c1 := b2.cell1
      refine ⟨.tuple #[.agg #[.int .i64 0, .slice none 0 0], .bool false], ?_, HB0.out, .inr ⟨fun h => h2 (by omega), rfl⟩⟩
      simp [results, Try.f24, go_sem, c0, c1]
  · have q1 : ((n : Int) % 9 != 1) = true := by rw [bne_iff_ne]; omega
    gi_wp2
    have b2 := Box2.new w 26 (.int .i64 0) (.slice none 0 0)
    have c0 := b2.cell0
    have c1 := b2.cell1
    refine ⟨.tuple #[.agg #[.int .i64 0, .slice none 0 0], .bool false], ?_, HB0.out, .inr ⟨fun h => h1 (by omega), rfl⟩⟩
    simp [results, Try.f24, go_sem, c0, c1]
end Go.Proofs.Ytlofiinpgkclgaa
