/- The dump's head (the long list of the cut's roots) read by its first words alone: the closed facts on the head, without reckoning the whole text at once. -/
import Derived.Test.YtgakajofggmbjaaRows
import Derived.JoinedOf
import Derived.KernelRfl
import Derived.WalkKit
import Derived.Maps.AppendAt
import Derived.Laws.BytesArg
import Derived.Deep.AppendLies
import Derived.Lib.Hide
import Derived.WalkSpells
import Derived.WalkLawsBesides
import Derived.ProofKit
import Derived.OpenShut
import Derived.ShutString
import Derived.SizedLaws
import Derived.Deep.Matrix
import Derived.Deep.MidRow
namespace Go.Proofs.Ytgakajofggmbjaa
open Go

def blank : Char := Char.ofNat 32
theorem toList_lit (s : String) (l : List Char) (h : s = String.ofList l) : s.toList = l := by rw [h, String.toList_ofList]

theorem words_nonempty (l : List Char) : wordsSigns l ≠ [] := by
  unfold wordsSigns
  split
  · simp
  · simp
  · split <;> simp
theorem words_append : ∀ (a : List Char) (r : List Char), a.all (· != blank) = true → wordsSigns (a ++ blank :: r) = a :: wordsSigns r
  | [], r, _ => by rw [List.nil_append]; rfl
  | c :: a, r, h => by
    simp only [List.all_cons, Bool.and_eq_true] at h
    have hc : c ≠ blank := by simpa using h.1
    have ih := words_append a r h.2
    rw [List.cons_append, wordsSigns, ih]
    exact hc

def headOf (l : List Char) : Bool := l.take 8 == "harness ".toList && ((l.drop 8).take 64).all (· != blank) && isSumSigns ((l.drop 8).take 64) && (l.drop 72).take 5 == " cut ".toList
theorem behind_cut (l : List Char) (h : headOf l = true) : ∃ r, behindMainWord (wordsSigns l) = "cut".toList :: r := by
  simp only [headOf, Bool.and_eq_true, beq_iff_eq] at h
  obtain ⟨⟨⟨h1, h2⟩, h3⟩, h4⟩ := h
  have e : l = "harness".toList ++ blank :: ((l.drop 8).take 64 ++ blank :: ("cut".toList ++ blank :: l.drop 77)) := by
    have e1 : l = l.take 8 ++ l.drop 8 := (List.take_append_drop 8 l).symm
    have e2 : l.drop 8 = (l.drop 8).take 64 ++ l.drop 72 := by
      have := (List.take_append_drop 64 (l.drop 8)).symm
      rwa [List.drop_drop] at this
    have e3 : l.drop 72 = (l.drop 72).take 5 ++ l.drop 77 := by
      have := (List.take_append_drop 5 (l.drop 72)).symm
      rwa [List.drop_drop] at this
    have k1 : "harness ".toList = "harness".toList ++ [blank] := by decide
    have k2 : " cut ".toList = blank :: ("cut".toList ++ [blank]) := by decide
    rw [h4, k2] at e3
    rw [e3] at e2
    rw [h1, k1, e2] at e1
    refine e1.trans ?_
    simp
  refine ⟨wordsSigns (l.drop 77), ?_⟩
  have hw : wordsSigns l = "harness".toList :: (l.drop 8).take 64 :: "cut".toList :: wordsSigns (l.drop 77) := by
    conv => lhs; rw [e]
    rw [words_append _ _ (by decide), words_append _ _ h2, words_append _ _ (by decide)]
  rw [hw]
  simp only [behindMainWord]
  rw [if_pos]
  rw [h3]
  decide

theorem strip_cut (r : List (List Char)) : stripLifts liftWords ("cut".toList :: r) = ([], "cut".toList :: r) := by
  simp only [liftWords, stripLifts]
  repeat rw [if_neg (by decide)]

set_option maxRecDepth 1000000 in
theorem head_is : ∃ r, behindMainWord (wordsSigns Try.prog.initOrder.toList) = "cut".toList :: r := by
  rw [toList_lit Try.prog.initOrder _ rfl]
  exact behind_cut _ (by decide +kernel)

theorem lays_no : Try.prog.laysLater = false := by kernel_rfl
theorem refl_no : Try.prog.bearsReflect = false := by kernel_rfl
theorem door_fits : Try.prog.doorFits [] = true := by kernel_rfl
theorem head_lifts_of (P : Program) (r : List (List Char)) (hr : behindMainWord (wordsSigns P.initOrder.toList) = "cut".toList :: r) : P.headLifts = [] := by
  unfold Program.headLifts
  rw [hr, strip_cut]
  simp
theorem may_enter_of (P : Program) (r : List (List Char)) (hr : behindMainWord (wordsSigns P.initOrder.toList) = "cut".toList :: r) (h1 : P.laysLater = false) (h2 : P.bearsReflect = false) (h3 : P.doorFits [] = true) : P.mayEnter = true := by
  unfold Program.mayEnter
  rw [hr]
  simp only [strip_cut, h1, h2, h3]
  simp
theorem lifts_final_of (P : Program) (r : List (List Char)) (hr : behindMainWord (wordsSigns P.initOrder.toList) = "cut".toList :: r) : P.liftsFinal = false := by
  unfold Program.liftsFinal
  rw [hr, head_lifts_of P r hr]
  simp
theorem make_cut_of (P : Program) (r : List (List Char)) (hr : behindMainWord (wordsSigns P.initOrder.toList) = "cut".toList :: r) : P.make = some .cut := by
  unfold Program.make
  rw [hr]
  have h1 : ("cut".toList == "gc".toList || "cut".toList == "spec".toList) = false := by decide
  simp only [h1]
  simp
theorem may_enter : Try.prog.mayEnter = true := by
  obtain ⟨r, hr⟩ := head_is
  exact may_enter_of _ r hr lays_no refl_no door_fits
theorem lifts_final : Try.prog.liftsFinal = false := by
  obtain ⟨r, hr⟩ := head_is
  exact lifts_final_of _ r hr
theorem make_cut : Try.prog.make = some .cut := by
  obtain ⟨r, hr⟩ := head_is
  exact make_cut_of _ r hr
end Go.Proofs.Ytgakajofggmbjaa

/- Words on memory: bytes that are read (RB), rows of bytes that are read (RRB), and what keeps them. No program in sight. -/
namespace Go.Proofs.Ytgakajofggmbjaa
open Go.RowKit

/-- Bytes as the model's values. -/
def bv (xs : List UInt8) : List Value := xs.map fun x => .int .u8 (x.toNat : Int)
theorem bv_length (xs : List UInt8) : (bv xs).length = xs.length := by simp [bv]
theorem bv_append (xs ys : List UInt8) : bv (xs ++ ys) = bv xs ++ bv ys := by simp [bv]
/-- The k-th byte (a name that the walk leaves alone). -/
def at8 (xs : List UInt8) (k : Nat) : UInt8 := xs.getD k 0
theorem bv_get (xs : List UInt8) (i : Nat) (h : i < xs.length) : (bv xs)[i]? = some (.int .u8 ((at8 xs i).toNat : Int)) := by
  simp [bv, at8, List.getElem?_eq_getElem h, List.getD_eq_getElem?_getD]

/-- The slice value's elements are the bytes xs (they are only read). -/
def RB (w : World) (A : Option Addr) (n c : Nat) (xs : List UInt8) : Prop :=
  xs.length = n ∧ n ≤ c ∧ c ≤ 9223372036854775807 ∧ (0 < n → ∃ b o, A = some ⟨b, o, none⟩ ∧ ∀ k, k < n → w.cell? ⟨b, o + k, none⟩ = some (.int .u8 ((at8 xs k).toNat : Int)))
/-- The k-th row of bytes (a name that the walk leaves alone). -/
def atL (xss : List (List UInt8)) (k : Nat) : List UInt8 := xss.getD k []
/-- The slice value's elements are slices whose elements are the bytes xss. -/
def RRB (w : World) (A : Option Addr) (n c : Nat) (xss : List (List UInt8)) : Prop :=
  xss.length = n ∧ n ≤ c ∧ c ≤ 9223372036854775807 ∧ (0 < n → ∃ b o, A = some ⟨b, o, none⟩ ∧ ∀ k, k < n → ∃ A' n' c', w.cell? ⟨b, o + k, none⟩ = some (.slice A' n' c') ∧ RB w A' n' c' (atL xss k))

theorem RB.below {w w1 : World} {A : Option Addr} {n c : Nat} {xs : List UInt8} (h : RB w A n c xs) (hb : Below w.heap.size w w1) : RB w1 A n c xs := by
  obtain ⟨h1, h2, h3, h4⟩ := h
  refine ⟨h1, h2, h3, fun hp => ?_⟩
  obtain ⟨b, o, e, hc⟩ := h4 hp
  refine ⟨b, o, e, fun k hk => ?_⟩
  have hk' := hc k hk
  rw [hb.cell (p := ⟨b, o + k, none⟩) (World.block_lt_of_cell? w _ hk')]
  exact hk'
theorem RRB.below {w w1 : World} {A : Option Addr} {n c : Nat} {xss : List (List UInt8)} (h : RRB w A n c xss) (hb : Below w.heap.size w w1) : RRB w1 A n c xss := by
  obtain ⟨h1, h2, h3, h4⟩ := h
  refine ⟨h1, h2, h3, fun hp => ?_⟩
  obtain ⟨b, o, e, hc⟩ := h4 hp
  refine ⟨b, o, e, fun k hk => ?_⟩
  obtain ⟨A', n', c', hk', hr⟩ := hc k hk
  refine ⟨A', n', c', ?_, hr.below hb⟩
  rw [hb.cell (p := ⟨b, o + k, none⟩) (World.block_lt_of_cell? w _ hk')]
  exact hk'
theorem below_alloc (w : World) (o : Obj) : Below w.heap.size w (w.alloc o) := (Below.refl _ _).alloc (Nat.le_refl _) o
theorem bthen {w w1 w2 : World} (h : Below w.heap.size w w1) (k : Below w1.heap.size w1 w2) : Below w.heap.size w w2 := h.trans (k.mono h.size)
theorem balloc {w w1 : World} (h : Below w.heap.size w w1) (o : Obj) : Below w.heap.size w (w1.alloc o) := h.alloc h.size o
theorem RB.alloc {w : World} {A : Option Addr} {n c : Nat} {xs : List UInt8} (h : RB w A n c xs) (o : Obj) : RB (w.alloc o) A n c xs := h.below (below_alloc w o)
theorem RRB.alloc {w : World} {A : Option Addr} {n c : Nat} {xss : List (List UInt8)} (h : RRB w A n c xss) (o : Obj) : RRB (w.alloc o) A n c xss := h.below (below_alloc w o)
theorem RB.nil (w : World) : RB w none 0 0 [] := ⟨rfl, Nat.le_refl _, by omega, fun h => absurd h (by omega)⟩
theorem RRB.nil (w : World) : RRB w none 0 0 [] := ⟨rfl, Nat.le_refl _, by omega, fun h => absurd h (by omega)⟩
/-- A new block of bytes. -/
theorem rb_new (w : World) (xs : List UInt8) (T : TypeId) (fr : Nat × Nat) (hl : xs.length ≤ 9223372036854775807) : RB (w.alloc (.cells (bv xs).toArray T fr)) (some ⟨w.heap.size, 0, none⟩) xs.length xs.length xs := by
  refine ⟨rfl, Nat.le_refl _, hl, fun _ => ⟨_, _, rfl, fun k hk => ?_⟩⟩
  rw [World.cell?_alloc_mark, Nat.zero_add, List.getElem?_toArray]
  exact bv_get xs k hk
/-- A new block of one slice. -/
theorem rrb_one {w : World} {A : Option Addr} {n c : Nat} {xs : List UInt8} (h : RB w A n c xs) (T : TypeId) : RRB (w.alloc (.cells #[.slice A n c] T)) (some ⟨w.heap.size, 0, none⟩) 1 1 [xs] := by
  refine ⟨rfl, Nat.le_refl _, by omega, fun _ => ⟨_, _, rfl, fun k hk => ?_⟩⟩
  obtain rfl : k = 0 := by omega
  exact ⟨A, n, c, by rw [World.cell?_alloc_mark]; rfl, h.alloc _⟩
/-- The same, the block's number spelled as it may be. -/
theorem rrb_one' {w : World} {A : Option Addr} {n c : Nat} {xs : List UInt8} (h : RB w A n c xs) (T : TypeId) (b : Nat) (hb : b = w.heap.size) : RRB (w.alloc (.cells #[.slice A n c] T)) (some ⟨b, 0, none⟩) 1 1 [xs] := by
  subst hb; exact rrb_one h T
theorem rb_new' (w : World) (xs : List UInt8) (T : TypeId) (fr : Nat × Nat) (hl : xs.length ≤ 9223372036854775807) (b : Nat) (hb : b = w.heap.size) : RB (w.alloc (.cells (bv xs).toArray T fr)) (some ⟨b, 0, none⟩) xs.length xs.length xs := by
  subst hb; exact rb_new w xs T fr hl

/-! ### Any cells that are read; append onto a row of the call's own -/
/-- The slice value's elements (n of them, of size cells) are the cells cs. -/
def Rd (w : World) (A : Option Addr) (n size : Nat) (cs : List Value) : Prop :=
  cs.length = n * size ∧ (0 < cs.length → ∃ b o, A = some ⟨b, o, none⟩ ∧ ∀ j u, cs[j]? = some u → w.cell? ⟨b, o + j, none⟩ = some u)
theorem Rd.below {w w1 : World} {A : Option Addr} {n size : Nat} {cs : List Value} (h : Rd w A n size cs) (hb : Below w.heap.size w w1) : Rd w1 A n size cs := by
  refine ⟨h.1, fun hp => ?_⟩
  obtain ⟨b, o, e, hc⟩ := h.2 hp
  refine ⟨b, o, e, fun j u hj => ?_⟩
  have hk := hc j u hj
  rw [hb.cell (p := ⟨b, o + j, none⟩) (World.block_lt_of_cell? w _ hk)]
  exact hk
theorem RB.rd {w : World} {A : Option Addr} {n c : Nat} {xs : List UInt8} (h : RB w A n c xs) : Rd w A n 1 (bv xs) := by
  obtain ⟨h1, h2, h3, h4⟩ := h
  refine ⟨by rw [bv_length, h1, Nat.mul_one], fun hp => ?_⟩
  obtain ⟨b, o, e, hc⟩ := h4 (by rw [bv_length, h1] at hp; exact hp)
  refine ⟨b, o, e, fun j u hj => ?_⟩
  have hlt : j < xs.length := by
    have := (List.getElem?_eq_some_iff.1 hj).1
    rwa [bv_length] at this
  rw [bv_get xs j hlt] at hj
  cases hj
  exact hc j (by omega)
theorem bv_one (xs : List UInt8) : ∀ u ∈ bv xs, u.oneCell' = true := by
  intro u hu
  simp only [bv, List.mem_map] at hu
  obtain ⟨x, _, rfl⟩ := hu
  rfl
theorem add_none (b o j : Nat) : (⟨b, o, none⟩ : Addr).add j = ⟨b, o + j, none⟩ := by unfold Addr.add; split <;> simp_all

theorem run_append_any {P : Program} (W : World) (base : Nat) (t ty e : TypeId) (z : Value) (size bytes : Nat)
    (ht : P.underlying t = some (.slice e)) (hinfo : (P.info? e).map (fun i => (i.zero, i.size, i.bytes)) = some (some z, size, bytes)) (hzs : z.cells.size = size) (hsz : 0 < size)
    (v : Value) (n : Nat) (xs : List Value) (HO : W.ownsRow base e size v n xs) (A : Option Addr) (m c : Nat) (ys : List Value) (HR : Rd W A m size ys) (h1 : ∀ u ∈ ys, u.oneCell' = true)
    (hbytes : (n + m) * bytes ≤ 140737488355328) (hb0 : 0 < bytes) (hbase : base ≤ W.heap.size) :
    ∃ v1 w1, (Builtin.append_ #[t, t] ty #[v, .slice A m c]).run P W = .ok v1 w1 ∧ w1.ownsRow base e size v1 (n + m) (xs ++ ys) ∧ W.grownBy w1 v.ownBlock ∧ (v1.ownBlock = v.ownBlock ∨ v1.ownBlock = some W.heap.size) := by
  obtain ⟨i, hi, hzz⟩ := Option.map_eq_some_iff.1 hinfo
  simp only [Prod.mk.injEq] at hzz
  obtain ⟨hz0, hz1, hz2⟩ := hzz
  have hlen : n + m ≤ 140737488355328 := Nat.le_trans (Nat.le_mul_of_pos_right _ hb0) hbytes
  have go : ∀ ad : Addr, (∀ j u, ys[j]? = some u → W.cell? (ad.add j) = some u) → A = some ad → ∃ v1 w1, (Builtin.append_ #[t, t] ty #[v, .slice A m c]).run P W = .ok v1 w1 ∧ w1.ownsRow base e size v1 (n + m) (xs ++ ys) ∧ W.grownBy w1 v.ownBlock ∧ (v1.ownBlock = v.ownBlock ∨ v1.ownBlock = some W.heap.size) := by
    intro ad hn hA
    subst hA
    obtain ⟨v1, w1, hr, h2, h3, _, h5⟩ := run_append_own_at (P := P) W base t ty e i z size bytes ht hi hz0 hz1 hz2 hzs hsz v n xs HO ad m c ys HR.1 hn h1 (by simp only [maxLen]; omega) hbytes hbase
    exact ⟨v1, w1, hr, h2, h3, h5⟩
  rcases Nat.eq_zero_or_pos ys.length with h0 | h0
  · obtain rfl : ys = [] := List.eq_nil_of_length_eq_zero h0
    rcases A with _ | ad
    · have hm : m = 0 := by
        have h := HR.1
        rcases Nat.eq_zero_or_pos m with hm | hm
        · exact hm
        · have := Nat.mul_pos hm hsz
          simp only [List.length_nil] at h
          omega
      subst hm
      refine ⟨v, W, ?_, by simpa using HO, World.grownBy.refl W _, .inl rfl⟩
      rcases HO.2 with ⟨rfl, hn⟩ | ⟨g, cap, cur, rfl, _, _, hnc, _⟩
      · simp [Builtin.append_, run_underlying ht, sizeOf, typeInfo, hi, Builtin.lenOf, Builtin.firstCells]
      · simp [Builtin.append_, run_underlying ht, sizeOf, typeInfo, hi, Builtin.lenOf, Builtin.firstCells, hnc, storeCells]
    · exact go ad (fun j u hj => by simp at hj) rfl
  · obtain ⟨b, o, hA, hc⟩ := HR.2 h0
    exact go ⟨b, o, none⟩ (fun j u hj => by rw [add_none]; exact hc j u hj) hA

section
variable {P : Program} {ops : Array Oper} {rest : List Oper} {o : Oper} {a : Act} {Q : Exit → Act → World → Prop}
theorem wpList_append_any {w0 W : World} (base : Nat) (hgd : o.guard = none) (s x : Operand) (t e : TypeId) (z : Value) (size bytes : Nat)
    (ho : o.op = .call { callee := .builtin .append, args := #[s, x], argTypes := #[t, t] })
    (ht : P.underlying t = some (.slice e)) (hinfo : (P.info? e).map (fun i => (i.zero, i.size, i.bytes)) = some (some z, size, bytes)) (hzs : z.cells.size = size) (hsz : 0 < size) (hb0 : 0 < bytes)
    (v : Value) (n : Nat) (xs : List Value) (A : Option Addr) (m c : Nat) (ys : List Value) (hs : a.eval s = v) (hx : a.eval x = .slice A m c)
    (HO : W.ownsRow base e size v n xs) (HR : Rd W A m size ys) (h1 : ∀ u ∈ ys, u.oneCell' = true) (hbytes : (n + m) * bytes ≤ 140737488355328) (HB : Below base w0 W) (hbase : base ≤ W.heap.size)
    (h : ∀ v1 w1, w1.ownsRow base e size v1 (n + m) (xs ++ ys) → Below base w0 w1 → W.grownBy w1 v.ownBlock → (v1.ownBlock = v.ownBlock ∨ v1.ownBlock = some W.heap.size) → wpList P ops Q rest (a.put o.dst v1) w1) :
    wpList P ops Q (o :: rest) a W := by
  obtain ⟨v1, w1, hr, hown, hg, hat⟩ := run_append_any (P := P) W base t o.type e z size bytes ht hinfo hzs hsz v n xs HO A m c ys HR h1 hbytes hb0 hbase
  refine wpList_plain hgd fun K hK => ?_
  unfold Oper.wp execOp
  simp only [ho, resolve, invoke, builtin, Sem.run_bind, Sem.run_pure, Result.andThen_ok, List.map_toArray, List.map_cons, List.map_nil, hs, hx, hr]
  refine hK _ _ (h v1 w1 hown (HB.grown hg hbase (fun k hk => (HO.lt k hk).1)) hg hat)
end

/-- A row of bytes of the call's own is read. -/
theorem own_rb {w : World} {base n : Nat} {e : TypeId} {v : Value} {xs : List UInt8} (h : w.ownsRow base e 1 v n (bv xs)) : ∃ A c, v = .slice A n c ∧ RB w A n c xs := by
  have hl : xs.length = n := by have := h.1; rw [bv_length, Nat.mul_one] at this; exact this
  have hr := h.2
  rcases hr with ⟨rfl, rfl⟩ | ⟨g, cap, cur, rfl, _, hh, hnc, hcm, _⟩
  · exact ⟨none, 0, rfl, hl, Nat.le_refl _, by omega, fun hp => absurd hp (by omega)⟩
  · refine ⟨_, cap, rfl, hl, hnc, by simpa [maxLen] using hcm, fun _ => ⟨g, 0, rfl, fun k hk => ?_⟩⟩
    have := h.cells (g := g) rfl k _ (bv_get xs k (by omega))
    rwa [add_none] at this
/-- The bytes as a string. -/
def strOf (xs : List UInt8) : ByteArray := ⟨xs.toArray⟩
theorem strOf_nums (xs : List UInt8) : strOfNums (xs.map fun x => (x.toNat : Int)) = strOf xs := by
  unfold strOfNums strOf
  rw [List.map_map]
  congr 2
  refine (List.map_congr_left fun x _ => ?_).trans (List.map_id _)
  show UInt8.ofNat ((x.toNat : Int)).toNat = x
  rw [Int.toNat_natCast, UInt8.ofNat_toNat]
theorem strOf_inj {xs ys : List UInt8} : strOf xs = strOf ys ↔ xs = ys := by
  unfold strOf
  constructor
  · intro h
    injection h with h
    injection h
  · rintro rfl; rfl
/-- string(b), b read. -/
theorem RB.string {P : Program} {w : World} {A : Option Addr} {n c : Nat} {xs : List UInt8} (h : RB w A n c xs) {src e dst : TypeId} (hs : P.underlying src = some (.slice e)) (he : P.underlying e = some (.int .u8)) (hd : P.underlying dst = some .string) :
    (convert src dst (.slice A n c)).run P w = .ok (.string (strOf xs)) w := by
  obtain ⟨h1, h2, h3, h4⟩ := h
  rcases A with _ | ad
  · rcases Nat.eq_zero_or_pos n with h0 | h0
    · subst h0
      obtain rfl := List.eq_nil_of_length_eq_zero h1
      exact run_convert_bytes_nil w src e hs he 0 c dst hd
    · obtain ⟨b, o, hA, _⟩ := h4 h0
      cases hA
  · rw [← strOf_nums]
    rcases Nat.eq_zero_or_pos n with h0 | h0
    · subst h0
      obtain rfl := List.eq_nil_of_length_eq_zero h1
      rw [run_convert_bytes_string w src dst e _ 0 c hs he hd]
      simp [loadCells, loadCellsFrom, strOfNums, Conv.bytesToString]; rfl
    · obtain ⟨b, o, hA, hc⟩ := h4 h0
      cases hA
      refine run_convert_bytes_arg w src e hs he b o n c _ (by simp [h1]) (fun i hi => ?_) dst hd
      rw [hc i hi, at8]
      simp [List.getD_eq_getElem?_getD, List.getElem?_eq_getElem (show i < xs.length by omega)]
theorem bv_set (xs : List UInt8) (j : Nat) (y : UInt8) : (bv xs).set j (.int .u8 (y.toNat : Int)) = bv (xs.set j y) := by simp [bv, List.map_set]
/-- An element of a row of bytes of the call's own: its cell, and the row when it has been written. -/
theorem own_at8 {w : World} {base g n cap : Nat} {e : TypeId} {xs : List UInt8} (h : w.ownsRow base e 1 (.slice (some ⟨g, 0, none⟩) n cap) n (bv xs)) (j : Nat) (hj : j < n) :
    w.cell? ⟨g, j, none⟩ = some (.int .u8 ((at8 xs j).toNat : Int)) ∧ w.frozen? ⟨g, j, none⟩ = false ∧
    ∀ y : UInt8, (w.setCell ⟨g, j, none⟩ (.int .u8 (y.toNat : Int))).ownsRow base e 1 (.slice (some ⟨g, 0, none⟩) n cap) n (bv (xs.set j y)) := by
  have hl : xs.length = n := by have := h.1; rw [bv_length, Nat.mul_one] at this; exact this
  refine ⟨?_, h.frozenAt j, fun y => ?_⟩
  · rw [h.cellAt j (by omega)]
    exact bv_get xs j (by omega)
  · have := (h.stored j (.int .u8 (y.toNat : Int))).1
    rwa [bv_set] at this
theorem own_empty (W : World) (base : Nat) (e : TypeId) (size : Nat) (hb : base ≤ W.heap.size) : (W.alloc (.cells #[] e)).ownsRow base e size (.slice (some ⟨W.heap.size, 0, none⟩) 0 0) 0 [] :=
  World.ownsRow_made W #[] 0 hb (by simp [maxLen]) (by simp)
section
variable {P : Program} {ops : Array Oper} {rest : List Oper} {o : Oper} {a : Act} {Q : Exit → Act → World → Prop}
/-- append([]byte{}, b...): a copy of bytes that are read, in new memory. -/
theorem wpList_copy_bytes {W : World} (hgd : o.guard = none) (s x : Operand) (t e : TypeId)
    (ho : o.op = .call { callee := .builtin .append, args := #[s, x], argTypes := #[t, t] })
    (ht : P.underlying t = some (.slice e)) (hinfo : (P.info? e).map (fun i => (i.zero, i.size, i.bytes)) = some (some (.int .u8 0), 1, 1))
    (A : Option Addr) (n c : Nat) (xs : List UInt8) (b : Nat) (hs : a.eval s = .slice (some ⟨b, 0, none⟩) 0 0) (hx : a.eval x = .slice A n c) (hbs : b = W.heap.size)
    (HR : RB W A n c xs) (hn : n ≤ 140737488355328)
    (h : ∀ A1 c1 w1, w1.ownsRow W.heap.size e 1 (.slice A1 n c1) n (bv xs) → RB w1 A1 n c1 xs → Below W.heap.size W w1 → wpList P ops Q rest (a.put o.dst (.slice A1 n c1)) w1) :
    wpList P ops Q (o :: rest) a (W.alloc (.cells #[] e)) := by
  subst hbs
  refine wpList_append_any (w0 := W) W.heap.size hgd s x t e (.int .u8 0) 1 1 ho ht hinfo rfl (by decide) (by decide) _ 0 [] A n c (bv xs) hs hx (own_empty W _ _ _ (Nat.le_refl _)) (HR.alloc _).rd (bv_one xs) (by omega) (below_alloc _ _) (by simp) ?_
  intro v1 w1 hown hb _ _
  rw [Nat.zero_add, List.nil_append] at hown
  obtain ⟨A1, c1, rfl, h1⟩ := own_rb hown
  exact h A1 c1 w1 hown h1 hb
end
/-- A new block of one cell. -/
theorem rd_one (w : World) (u : Value) (T : TypeId) (b : Nat) (hb : b = w.heap.size) : Rd (w.alloc (.cells #[u] T)) (some ⟨b, 0, none⟩) 1 1 [u] := by
  subst hb
  refine ⟨rfl, fun _ => ⟨_, _, rfl, fun j v hj => ?_⟩⟩
  rw [World.cell?_alloc_mark, Nat.zero_add]
  simpa using hj
/-! ### Bools that are read -/
def atB (bs : List Bool) (k : Nat) : Bool := bs.getD k false
def RBl (w : World) (A : Option Addr) (n c : Nat) (bs : List Bool) : Prop :=
  bs.length = n ∧ n ≤ c ∧ c ≤ 9223372036854775807 ∧ (0 < n → ∃ b o, A = some ⟨b, o, none⟩ ∧ ∀ k, k < n → w.cell? ⟨b, o + k, none⟩ = some (.bool (atB bs k)))
theorem RBl.nil (w : World) : RBl w none 0 0 [] := ⟨rfl, Nat.le_refl _, by omega, fun h => absurd h (by omega)⟩
theorem RBl.below {w w1 : World} {A : Option Addr} {n c : Nat} {xs : List Bool} (h : RBl w A n c xs) (hb : Below w.heap.size w w1) : RBl w1 A n c xs := by
  obtain ⟨h1, h2, h3, h4⟩ := h
  refine ⟨h1, h2, h3, fun hp => ?_⟩
  obtain ⟨b, o, e, hc⟩ := h4 hp
  refine ⟨b, o, e, fun k hk => ?_⟩
  have hk' := hc k hk
  rw [hb.cell (p := ⟨b, o + k, none⟩) (World.block_lt_of_cell? w _ hk')]
  exact hk'
def blv (bs : List Bool) : List Value := bs.map fun x => .bool x
theorem blv_length (bs : List Bool) : (blv bs).length = bs.length := by simp [blv]
theorem blv_get (bs : List Bool) (i : Nat) (h : i < bs.length) : (blv bs)[i]? = some (.bool (atB bs i)) := by
  simp [blv, atB, List.getElem?_eq_getElem h, List.getD_eq_getElem?_getD]
theorem blv_one (bs : List Bool) : ∀ u ∈ blv bs, u.oneCell' = true := by
  intro u hu
  simp only [blv, List.mem_map] at hu
  obtain ⟨x, _, rfl⟩ := hu
  rfl
theorem RBl.rd {w : World} {A : Option Addr} {n c : Nat} {xs : List Bool} (h : RBl w A n c xs) : Rd w A n 1 (blv xs) := by
  obtain ⟨h1, h2, h3, h4⟩ := h
  refine ⟨by rw [blv_length, h1, Nat.mul_one], fun hp => ?_⟩
  obtain ⟨b, o, e, hc⟩ := h4 (by rw [blv_length, h1] at hp; exact hp)
  refine ⟨b, o, e, fun j u hj => ?_⟩
  have hlt : j < xs.length := by
    have := (List.getElem?_eq_some_iff.1 hj).1
    rwa [blv_length] at this
  rw [blv_get xs j hlt] at hj
  cases hj
  exact hc j (by omega)
theorem rbl_new' (w : World) (bs : List Bool) (T : TypeId) (b : Nat) (hb : b = w.heap.size) (hl : bs.length ≤ 9223372036854775807) : RBl (w.alloc (.cells (blv bs).toArray T)) (some ⟨b, 0, none⟩) bs.length bs.length bs := by
  subst hb
  refine ⟨rfl, Nat.le_refl _, hl, fun _ => ⟨_, _, rfl, fun k hk => ?_⟩⟩
  rw [World.cell?_alloc_mark, Nat.zero_add, List.getElem?_toArray]
  exact blv_get bs k hk
theorem own_rbl {w : World} {base n : Nat} {e : TypeId} {v : Value} {xs : List Bool} (h : w.ownsRow base e 1 v n (blv xs)) : ∃ A c, v = .slice A n c ∧ RBl w A n c xs := by
  have hl : xs.length = n := by have := h.1; rw [blv_length, Nat.mul_one] at this; exact this
  rcases h.2 with ⟨rfl, rfl⟩ | ⟨g, cap, cur, rfl, _, hh, hnc, hcm, _⟩
  · exact ⟨none, 0, rfl, hl, Nat.le_refl _, by omega, fun hp => absurd hp (by omega)⟩
  · refine ⟨_, cap, rfl, hl, hnc, by simpa [maxLen] using hcm, fun _ => ⟨g, 0, rfl, fun k hk => ?_⟩⟩
    have := h.cells (g := g) rfl k _ (blv_get xs k (by omega))
    rwa [add_none] at this
section
variable {P : Program} {ops : Array Oper} {rest : List Oper} {o : Oper} {a : Act} {Q : Exit → Act → World → Prop}
/-- append([]bool{}, b...): a copy of bools that are read, in new memory. -/
theorem wpList_copy_bools {W : World} (hgd : o.guard = none) (s x : Operand) (t e : TypeId)
    (ho : o.op = .call { callee := .builtin .append, args := #[s, x], argTypes := #[t, t] })
    (ht : P.underlying t = some (.slice e)) (hinfo : (P.info? e).map (fun i => (i.zero, i.size, i.bytes)) = some (some (.bool false), 1, 1))
    (A : Option Addr) (n c : Nat) (xs : List Bool) (b : Nat) (hs : a.eval s = .slice (some ⟨b, 0, none⟩) 0 0) (hx : a.eval x = .slice A n c) (hbs : b = W.heap.size)
    (HR : RBl W A n c xs) (hn : n ≤ 140737488355328)
    (h : ∀ A1 c1 w1, w1.ownsRow W.heap.size e 1 (.slice A1 n c1) n (blv xs) → RBl w1 A1 n c1 xs → Below W.heap.size W w1 → wpList P ops Q rest (a.put o.dst (.slice A1 n c1)) w1) :
    wpList P ops Q (o :: rest) a (W.alloc (.cells #[] e)) := by
  subst hbs
  refine wpList_append_any (w0 := W) W.heap.size hgd s x t e (.bool false) 1 1 ho ht hinfo rfl (by decide) (by decide) _ 0 [] A n c (blv xs) hs hx (own_empty W _ _ _ (Nat.le_refl _)) ((HR.below (below_alloc W _)).rd) (blv_one xs) (by omega) (below_alloc _ _) (by simp) ?_
  intro v1 w1 hown hb _ _
  rw [Nat.zero_add, List.nil_append] at hown
  obtain ⟨A1, c1, rfl, h1⟩ := own_rbl hown
  exact h A1 c1 w1 hown h1 hb
end
end Go.Proofs.Ytgakajofggmbjaa

/- What a law's arguments are told to be: whole numbers, strings, slices of bytes, with the bounds of the row's reach. -/
namespace Go.Proofs.Ytgakajofggmbjaa
open Go.ChangeShapes Go.WideShapes Go.ChangeAt Go.RowKit
open Go.ChangeMaps (open_string shut_string)

section
variable {H : Type} {enc : TypeId × Value → H} {P : Program} {W : World} {base : Nat} {t e : TypeId} {v : Value} {d : DataW H} {p : List MemPlace}

theorem u8_of (z : Int) (h : (Lit.int .u8 z).wf = true) : ((UInt8.ofNat z.toNat).toNat : Int) = z := by
  have hb : 0 ≤ z ∧ z ≤ 255 := by simpa [Lit.wf, IntKind.min, IntKind.max, IntKind.signed, IntKind.bits] using h
  rw [UInt8.toNat_ofNat']
  omega

/-- A slice of bytes that came in. -/
theorem open_bytes (hu : P.underlying t = some (.slice e)) (he : P.underlying e = some (.int .u8)) (hc : P.cellsOf e = 1) (hb : P.bytesOf e = 1)
    (o : Value.okWide P W .any base t v) (r : DataW.Trod enc P W 0 (fun _ => true) true t v d p) (z : ∀ n ∈ d.weights P t, n ≤ reachBytes) :
    ∃ A n c xs, v = .slice A n c ∧ RB W A n c xs ∧ n ≤ 140737488351232 := by
  obtain ⟨A, len, cap, rfl⟩ := okWide_slice hu o
  obtain ⟨fuel, hf⟩ := r
  rcases open_ints hu he hc hf with ⟨hcs, _⟩ | ⟨x, l, c, zs, hcs, _, hl, hm, hz, hx, hcell, hwz⟩
  · simp [Value.cells] at hcs
    obtain ⟨rfl, rfl, rfl⟩ := hcs
    exact ⟨none, 0, 0, [], rfl, RB.nil W, by omega⟩
  · simp [Value.cells] at hcs
    obtain ⟨rfl, rfl, rfl⟩ := hcs
    obtain ⟨hx, _⟩ := Prod.mk.inj hx
    subst hx
    have hzl : zs.length = cap := by simpa using hz
    have hlt : len ≤ 140737488351232 := by
      have hw := z (((lits (H := H) .u8 (zs.take len)).length + (lits (H := H) .u8 (zs.drop len)).length) * P.bytesOf e) (by simp [DataW.weights, hu])
      have hn : (lits (H := H) .u8 (zs.take len)).length + (lits (H := H) .u8 (zs.drop len)).length = cap := by simp [lits]; omega
      rw [hn, hb, Nat.mul_one] at hw
      simp only [reachBytes] at hw
      omega
    refine ⟨_, len, cap, (zs.take len).map fun q => UInt8.ofNat q.toNat, rfl, ⟨by simp; omega, hl, by simpa [maxLen] using hm, fun hp => ?_⟩, hlt⟩
    obtain ⟨b, off, spot⟩ := x
    have h0 := hcell 0 (by omega)
    have hs : spot = none := by simpa [Addr.add] using World.cell?_spot h0
    subst hs
    refine ⟨b, off, rfl, fun k hk => ?_⟩
    have hk' := hcell k (by omega)
    rw [add_none] at hk'
    rw [hk', at8]
    have hg : ((zs.take len).map fun q => UInt8.ofNat q.toNat).getD k 0 = UInt8.ofNat (zs.getD k 0).toNat := by
      simp [List.getD_eq_getElem?_getD, hk, List.getElem?_eq_getElem (show k < zs.length by omega)]
    rw [hg, u8_of]
    refine hwz _ ?_
    rw [List.getD_eq_getElem?_getD, List.getElem?_eq_getElem (show k < zs.length by omega)]
    exact List.getElem_mem _

theorem u32_of (x : Int) (h : (Lit.int .u32 x).wf = true) : ∃ s : BitVec 32, (s.toNat : Int) = x := by
  have hb : 0 ≤ x ∧ x ≤ 4294967295 := by simpa [Lit.wf, IntKind.min, IntKind.max, IntKind.signed, IntKind.bits] using h
  refine ⟨BitVec.ofNat 32 x.toNat, ?_⟩
  rw [BitVec.toNat_ofNat]
  omega
/-- A number of 32 bits that came in. -/
theorem open_u32 (hu : P.underlying t = some (.int .u32)) (o : Value.okWide P W .any base t v) (r : DataW.Trod enc P W 0 (fun _ => true) true t v d p) : ∃ s : BitVec 32, v = .int .u32 (s.toNat : Int) := by
  obtain ⟨x, rfl, _, _, wx⟩ := open_int hu o r
  obtain ⟨s, hs⟩ := u32_of x wx
  exact ⟨s, by rw [hs]⟩
theorem weights_all {H : Type} {P : Program} {e : TypeId} : ∀ {ds : List (DataW H)} {d : DataW H}, d ∈ ds → ∀ n ∈ d.weights P e, n ∈ DataW.weightsAll P e ds
  | x :: r, d, h, n, hn => by
    simp only [DataW.weightsAll, List.mem_append]
    rcases List.mem_cons.1 h with rfl | h
    · exact .inl hn
    · exact .inr (weights_all h n hn)
/-- The weights of a slice's element. -/
theorem weights_elem {H : Type} {P : Program} {t e : TypeId} (hu : P.underlying t = some (.slice e)) {es sp : List (DataW H)} {d : DataW H} (h : d ∈ es) : ∀ n ∈ d.weights P e, n ∈ (DataW.slice es sp).weights P t := by
  intro n hn
  simp only [DataW.weights, hu, List.mem_cons, List.mem_append]
  exact .inr (.inl (weights_all h n hn))
/-- A slice of slices of bytes that came in: its rows, and what its datum says of them. -/
theorem open_rows {q : TypeId} (hu : P.underlying t = some (.slice e)) (he : P.underlying e = some (.slice q)) (hq : P.underlying q = some (.int .u8)) (hc : P.cellsOf e = 1) (hcq : P.cellsOf q = 1) (hb : P.bytesOf e = 24) (hbq : P.bytesOf q = 1)
    (o : Value.okWide P W .any base t v) (r : DataW.Trod enc P W 0 (fun _ => true) true t v d p) (z : ∀ n ∈ d.weights P t, n ≤ reachBytes) :
    ∃ A n c xss, v = .slice A n c ∧ RRB W A n c xss ∧ n * 24 ≤ 140737488351232 ∧ (∀ k, k < n → (atL xss k).length ≤ 140737488351232) ∧
      ((d = .nil ∧ n = 0) ∨ ∃ D sp, d = .slice ((List.range n).map D) sp ∧ ∀ k, k < n → (D k = .nil ∧ (atL xss k).length = 0) ∨ ∃ es sp', D k = .slice es sp' ∧ es.length = (atL xss k).length) := by
  obtain ⟨A0, len0, cap0, rfl⟩ := okWide_slice hu o
  obtain ⟨fuel, hf⟩ := r
  rcases Go.Deep.open_int_rows hu he hq hc hcq hf with ⟨hcs, hx⟩ | ⟨x, len, cap, A, L, C, Z, hcs, _, hl, hm, hx, hrow⟩
  · simp [Value.cells] at hcs
    obtain ⟨rfl, rfl, rfl⟩ := hcs
    obtain ⟨rfl, _⟩ := Prod.mk.inj hx
    exact ⟨none, 0, 0, [], rfl, RRB.nil W, by omega, fun k hk => absurd hk (by omega), .inl ⟨rfl, rfl⟩⟩
  · simp [Value.cells] at hcs
    obtain ⟨rfl, rfl, rfl⟩ := hcs
    obtain ⟨rfl, _⟩ := Prod.mk.inj hx
    have hn : cap0 * 24 ≤ 140737488351232 := by
      have hw := z ((((List.range len0).map fun r => Go.Deep.intRow (H := H) .u8 (A r) (L r) (Z r)).length + ((List.range (cap0 - len0)).map fun j => Go.Deep.intRow (H := H) .u8 (A (len0 + j)) (L (len0 + j)) (Z (len0 + j))).length) * P.bytesOf e) (by simp [DataW.weights, hu])
      rw [hb] at hw
      simp only [List.length_map, List.length_range, reachBytes] at hw
      omega
    have hat : ∀ k, k < len0 → atL ((List.range len0).map fun r => ((Z r).take (L r)).map fun q => UInt8.ofNat q.toNat) k = ((Z k).take (L k)).map fun q => UInt8.ofNat q.toNat := by
      intro k hk
      simp [atL, List.getD_eq_getElem?_getD, hk]
    have hlen : ∀ k, k < len0 → (((Z k).take (L k)).map fun q => UInt8.ofNat q.toNat).length = L k := by
      intro k hk
      obtain ⟨_, h2, _, h4, _⟩ := hrow k (by omega)
      simp
      omega
    refine ⟨some x, len0, cap0, (List.range len0).map fun r => ((Z r).take (L r)).map fun q => UInt8.ofNat q.toNat, rfl, ⟨by simp, hl, by simpa [maxLen] using hm, fun hp => ?_⟩, by omega, fun k hk => ?_, .inr ⟨_, _, rfl, fun k hk => ?_⟩⟩
    · obtain ⟨b, off, spot⟩ := x
      have h0 := (hrow 0 (by omega)).1
      have hs : spot = none := by simpa [Addr.add] using World.cell?_spot h0
      subst hs
      refine ⟨b, off, rfl, fun k hk => ?_⟩
      obtain ⟨h1, h2, h3, h4, h5, h6, h7⟩ := hrow k (by omega)
      rw [add_none] at h1
      refine ⟨A k, L k, C k, h1, ?_⟩
      rw [hat k hk]
      refine ⟨hlen k hk, h2, by simpa [maxLen] using h3, fun hp => ?_⟩
      cases hA : A k with
      | none => exact absurd (h6 hA) (by omega)
      | some x' =>
        obtain ⟨b', o', spot'⟩ := x'
        obtain ⟨_, h8⟩ := h7 _ hA
        have h80 := h8 0 (by omega)
        have hs' : spot' = none := by simpa [Addr.add] using World.cell?_spot h80
        subst hs'
        refine ⟨b', o', rfl, fun j hj => ?_⟩
        have hk' := h8 j (by omega)
        rw [add_none] at hk'
        rw [hk', at8]
        have hg : (((Z k).take (L k)).map fun q => UInt8.ofNat q.toNat).getD j 0 = UInt8.ofNat ((Z k).getD j 0).toNat := by
          simp [List.getD_eq_getElem?_getD, hj, List.getElem?_eq_getElem (show j < (Z k).length by omega)]
        rw [hg, u8_of]
        refine h5 _ ?_
        rw [List.getD_eq_getElem?_getD, List.getElem?_eq_getElem (show j < (Z k).length by omega)]
        exact List.getElem_mem _
    · rw [hat k hk, hlen k hk]
      obtain ⟨_, h2, _, h4, _, h6, _⟩ := hrow k (by omega)
      cases hA : A k with
      | none => have := h6 hA; omega
      | some x' =>
        have hmem : Go.Deep.intRow (H := H) .u8 (A k) (L k) (Z k) ∈ (List.range len0).map fun r => Go.Deep.intRow (H := H) .u8 (A r) (L r) (Z r) := List.mem_map.2 ⟨k, by simpa using hk, rfl⟩
        have hw := z (((lits (H := H) .u8 ((Z k).take (L k))).length + (lits (H := H) .u8 ((Z k).drop (L k))).length) * P.bytesOf q) (weights_elem hu hmem _ (by rw [hA]; simp [Go.Deep.intRow, DataW.weights, he]))
        rw [hbq, Nat.mul_one] at hw
        have hn2 : (lits (H := H) .u8 ((Z k).take (L k))).length + (lits (H := H) .u8 ((Z k).drop (L k))).length = (Z k).length := by simp [lits]; omega
        rw [hn2] at hw
        simp only [reachBytes] at hw
        omega
    · rw [hat k hk, hlen k hk]
      obtain ⟨_, h2, _, h4, _, h6, _⟩ := hrow k (by omega)
      cases hA : A k with
      | none => left; exact ⟨by simp [Go.Deep.intRow], by have := h6 hA; omega⟩
      | some x' => right; exact ⟨_, _, by simp only [Go.Deep.intRow]; rfl, by simp [lits]; omega⟩
/-- An int that came in. -/
theorem open_i64 (hu : P.underlying t = some (.int .i64)) (o : Value.okWide P W .any base t v) (r : DataW.Trod enc P W 0 (fun _ => true) true t v d p) : ∃ x : Int, v = .int .i64 x ∧ -9223372036854775808 ≤ x ∧ x ≤ 9223372036854775807 := by
  obtain ⟨x, rfl, _, _, wx⟩ := open_int hu o r
  have hb : -9223372036854775808 ≤ x ∧ x ≤ 9223372036854775807 := by simpa [Lit.wf, IntKind.min, IntKind.max, IntKind.signed, IntKind.bits] using wx
  exact ⟨x, rfl, hb⟩
/-- A byte that came in. -/
theorem open_u8 (hu : P.underlying t = some (.int .u8)) (o : Value.okWide P W .any base t v) (r : DataW.Trod enc P W 0 (fun _ => true) true t v d p) : ∃ x : UInt8, v = .int .u8 (x.toNat : Int) := by
  obtain ⟨x, rfl, _, _, wx⟩ := open_int hu o r
  exact ⟨UInt8.ofNat x.toNat, by rw [u8_of x wx]⟩
end
end Go.Proofs.Ytgakajofggmbjaa

/- Openers for nested data: arrays of bytes, slices of bools, structs in slices; no program in sight. -/
namespace Go.Proofs.Ytgakajofggmbjaa
open Go.ChangeShapes Go.WideShapes Go.ChangeAt Go.RowKit

section
variable {H : Type} {enc : TypeId × Value → H} {P : Program} {w : World} {t e : TypeId} {fuel : Nat} {cs : List Value} {x : DataW H × List MemPlace}

theorem i64_wf {n : Int} (h : (Lit.int .i64 n).wf = true) : -9223372036854775808 ≤ n ∧ n ≤ 9223372036854775807 := by
  simpa [Lit.wf, IntKind.min, IntKind.max, IntKind.signed, IntKind.bits] using h
theorem u64_wf {n : Int} (h : (Lit.int .u64 n).wf = true) : 0 ≤ n ∧ n ≤ 18446744073709551615 := by
  simpa [Lit.wf, IntKind.min, IntKind.max, IntKind.signed, IntKind.bits] using h

/-- Cells whose every one is a byte's. -/
theorem bytes_of_cells : ∀ (cs : List Value), (∀ i, i < cs.length → ∃ z, cs[i]? = some (.int .u8 z) ∧ (Lit.int .u8 z).wf = true) → ∃ l : List UInt8, cs = bv l
  | [], _ => ⟨[], rfl⟩
  | c :: cs, h => by
    obtain ⟨z, hz, hw⟩ := h 0 (by simp)
    obtain ⟨l, hl⟩ := bytes_of_cells cs fun i hi => by
      have := h (i + 1) (by simp; omega)
      simpa using this
    simp at hz
    exact ⟨UInt8.ofNat z.toNat :: l, by rw [hz, hl]; simp only [bv, List.map_cons]; rw [u8_of z hw]⟩
/-- An array of bytes. -/
theorem trod_bytes {base : Nat} {spare : Nat → Bool} {held : Bool} {n : Nat} (ht : P.underlying t = some (.array n e)) (he : P.underlying e = some (.int .u8)) (hc : P.cellsOf e = 1) (hct : P.cellsOf t = n) (h : DataW.trod enc P w base spare held fuel t cs = some x) :
    ∃ l : List UInt8, cs = bv l ∧ l.length = n := by
  obtain ⟨xs, m, _, _, hl, hxl, hf⟩ := DataW.trod_array ht h
  rw [hct] at hl
  obtain ⟨l, rfl⟩ := bytes_of_cells cs fun i hi => by
    have h1 := hf i (by omega)
    rw [hc, Nat.mul_one, List.getElem?_eq_getElem (by omega)] at h1
    obtain ⟨z, hz, _, hw⟩ := DataW.trod_int he h1
    refine ⟨z, ?_, hw⟩
    have h2 := congrArg List.head? hz
    rw [List.head?_take, if_neg (by decide), List.head?_drop] at h2
    exact h2
  exact ⟨l, rfl, by rw [bv_length] at hl; exact hl⟩

theorem cells_range {base : Nat} {a : Addr} {n : Nat} {cs : List Value} (h : w.cells? base a n = some cs) : cs.length = n ∧ ∀ j u, cs[j]? = some u → w.cell? (a.add j) = some u := by
  unfold World.cells? at h
  split at h
  · have hl := mapM_some_length h
    rw [List.length_range] at hl
    refine ⟨hl, fun j u hj => ?_⟩
    have hlt : j < n := by have := (List.getElem?_eq_some_iff.1 hj).1; omega
    have := mapM_some_get h j j (by simp [hlt])
    rw [hj] at this
    exact this
  · cases h
theorem spot_none {a : Addr} {j : Nat} {u : Value} (h : w.cell? (a.add j) = some u) : (a.add j).spot = none := World.cell?_spot h
theorem add_add (a : Addr) (i j : Nat) : (a.add i).add j = a.add (i + j) := by
  unfold Addr.add
  by_cases h1 : i = 0 <;> by_cases h2 : j = 0 <;> simp [h1, h2, Nat.add_assoc]

/-- A slice of bools. -/
theorem trod_bools (hu : P.underlying t = some (.slice e)) (he : P.underlying e = some .bool) (hc : P.cellsOf e = 1) (hb : P.bytesOf e = 1) (h : DataW.trod enc P w 0 (fun _ => true) true fuel t cs = some x) (z : ∀ n ∈ x.1.weights P t, n ≤ reachBytes) :
    ∃ A n c bs, cs = [.slice A n c] ∧ RBl w A n c bs ∧ n ≤ 140737488351232 := by
  rcases Go.Deep.open_slice hu h with ⟨rfl, _⟩ | ⟨a, len, cap, m, n, D, Pl, rfl, _, hl, hm, hmm, hx, hel⟩
  · exact ⟨none, 0, 0, [], rfl, RBl.nil w, by omega⟩
  · simp only [if_true] at hmm
    subst hmm
    have hget : ∀ i, i < m → ∃ b : Bool, w.cell? (a.add i) = some (.bool b) := by
      intro i hi
      obtain ⟨cs', h1, h2⟩ := hel i hi
      rw [hc, Nat.mul_one] at h1
      obtain ⟨b, rfl, _⟩ := DataW.trod_bool he h2
      obtain ⟨_, h3⟩ := cells_range h1
      have := h3 0 _ rfl
      rw [add_add, Nat.add_zero] at this
      exact ⟨b, this⟩
    have hlt : len ≤ 140737488351232 := by
      have hw := z ((((List.range len).map D).length + ((List.range (m - len)).map fun j => D (len + j)).length) * P.bytesOf e) (by rw [hx]; simp [DataW.weights, hu])
      rw [hb] at hw
      simp only [List.length_map, List.length_range, reachBytes] at hw
      omega
    obtain ⟨f, hf⟩ : ∃ f : Nat → Bool, ∀ i, i < m → w.cell? (a.add i) = some (.bool (f i)) :=
      ⟨fun i => if h : i < m then (hget i h).choose else false, fun i hi => by
        show w.cell? (a.add i) = some (.bool (if h : i < m then (hget i h).choose else false))
        rw [dif_pos hi]
        exact (hget i hi).choose_spec⟩
    refine ⟨some a, len, m, (List.range len).map f, rfl, ⟨by simp, hl, by simpa [maxLen] using hm, fun hp => ?_⟩, hlt⟩
    obtain ⟨b, o, spot⟩ := a
    have h0 := hf 0 (by omega)
    have hs : spot = none := by simpa [Addr.add] using World.cell?_spot h0
    subst hs
    refine ⟨b, o, rfl, fun k hk => ?_⟩
    have hc1 := hf k (by omega)
    rw [add_none] at hc1
    rw [hc1, atB]
    simp [List.getD_eq_getElem?_getD, hk]
end
end Go.Proofs.Ytgakajofggmbjaa
