/- The codec's put: a number as bytes, the highest first. -/
import Derived.Test.YtanibabfdpgbbaaMg3
import Derived.Test.YtanibabfdpgbbaaMg1
import Derived.Deep.MidRow
import Derived.KernelRfl
import Derived.Test.YtanibabfdpgbbaaProg
import Derived.Deep.AppendLies
import Derived.Deep.RegionHeld3
import Derived.Laws.Strings
namespace Go.Proofs.Ytanibabfdpgbbaa
open Go.RowKit

/-- A number as wd bytes, the highest first. -/
def be (n wd : Nat) : List UInt8 := (List.range wd).map fun j => UInt8.ofNat (n / 256 ^ (wd - 1 - j))
theorem be_length (n wd : Nat) : (be n wd).length = wd := by simp [be]
theorem Try.infoU8' : (Try.prog.info? 5).map (fun i => (i.zero, i.size, i.bytes)) = some (some (.int .u8 0), 1, 1) := by kernel_rfl

theorem shr_cast (n e : Nat) : (n : Int) / 2 ^ e = ((n / 2 ^ e : Nat) : Int) := by simp
theorem fit_quo {n e : Nat} (h : n < 2 ^ e) : ((n : Int) / 2 ^ e != 0) = false := by
  rw [shr_cast, Nat.div_eq_of_lt h]
  rfl
theorem unfit_quo {n e : Nat} (h : 2 ^ e ≤ n) : ((n : Int) / 2 ^ e != 0) = true := by
  have h1 : 0 < n / 2 ^ e := Nat.div_pos h (Nat.pow_pos (by decide))
  rw [shr_cast, bne_iff_ne]
  omega
theorem pow_256 (e : Nat) : 256 ^ e = 2 ^ (8 * e) := by rw [Nat.pow_mul]
/-- The byte that put appends. -/
theorem byte_of (n j : Nat) : (n : Int) / 2 ^ (8 * j) % 256 = ((UInt8.ofNat (n / 256 ^ j)).toNat : Int) := by
  rw [shr_cast, pow_256]
  simp
theorem be_take (n wd j : Nat) (h : j < wd) : (be n wd).take (wd - (j + 1)) ++ [UInt8.ofNat (n / 256 ^ j)] = (be n wd).take (wd - j) := by
  have e : wd - j = (wd - (j + 1)) + 1 := by omega
  rw [e, List.take_succ_eq_append_getElem (by rw [be_length]; omega)]
  congr 2
  simp only [be, List.getElem_map, List.getElem_range]
  congr 3
  omega

set_option maxRecDepth 20000 in
set_option maxHeartbeats 1600000 in
theorem put_fit (wd : Nat) (hw1 : 1 ≤ wd) (hw8 : wd ≤ 8) (n : Nat) (hn : n < 256 ^ wd) (base k : Nat) (v : Value) (xs : List UInt8) (w : World) (ho : w.ownsRow base 5 1 v k (bv xs)) (hb : base ≤ w.heap.size) (hk : k ≤ 1000000) :
    Calls Try.prog 59 #[v, .int .u64 n, .int .i64 wd] w fun e w' => ∃ v', e = .returned v' ∧ w'.ownsRow base 5 1 v' (k + wd) (bv (xs ++ be n wd)) ∧ Below base w w' ∧ Onto w w' v v' := by
  have HO := Lib.hid ho
  have HN := Lib.hid hn
  clear ho hn
  have hw0 : (0 : Int) ≤ (wd : Int) := Int.natCast_nonneg _
  have main : ∀ (Q : Prop), (((wd : Int) < 8 ∧ ((n : Int) / 2 ^ (8 * wd) != 0) = false) → Q) → (¬ (wd : Int) < 8 → Q) → Q := fun Q h1 h2 => by
    by_cases h : (wd : Int) < 8
    · exact h1 ⟨h, fit_quo (by rw [← pow_256]; exact HN.out)⟩
    · exact h2 h
  have MAIN := Lib.hid main
  clear main
  go_enter Try.func59, Try.ntmps59
  refine MAIN.out _ (fun ⟨h8, hq⟩ => ?_) (fun h8 => ?_)
  all_goals
    go_wp2_with fail
    refine (fail_no _).mono ?_
    rintro e w' ⟨rfl, rfl⟩
    go_wp2_with fail
    go_loopw [0, 7] (fun u i wr => ∃ r : Nat, r ≤ wd ∧ i = .int .i64 ((r : Int) - 1) ∧ Hid (wr.ownsRow base 5 1 u (k + (wd - r)) (bv (xs ++ (be n wd).take (wd - r)))) ∧ Hid (Below base w wr) ∧ Hid (Onto w wr v u)) (fun _ i _ => (intOf i + 1).toNat)
    case atStart => exact ⟨wd, by omega, rfl, by simpa using HO, Lib.hid (Below.refl _ _), Lib.hid (Onto.refl _ _)⟩
    case round =>
      obtain ⟨r, hr, rfl, HV, HB, HT0⟩ := hrel
      cases r with
      | succ j =>
        have e : (((j + 1 : Nat) : Int) - 1) = (j : Int) := by omega
        rw [e]
        clear e
        have hj0 : (0 : Int) ≤ (j : Int) := Int.natCast_nonneg _
        have hj8 : (j : Int) < 8 := by omega
        have hby := byte_of n j
        have HT := Lib.hid (be_take n wd j (by omega))
        generalize UInt8.ofNat (n / 256 ^ j) = y at hby HT
        go_wp2_with (at_builtin; go_must (refine wpList_append_any (w0 := w) base rfl _ _ 76 5 (.int .u8 0) 1 1 rfl Try.underlying76 Try.infoU8' rfl (by decide) (by decide) u0 (k + (wd - (j + 1))) _ (some ⟨wr.heap.size, 0, none⟩) 1 1 [.int .u8 (y.toNat : Int)] rfl rfl (HV.out.alloc _) (rd_one wr _ _ _ rfl) (by simp [Value.oneCell']) (by omega) (HB.out.alloc (Nat.le_trans hb HB.out.size) _) (by have := HB.out.size; simp; omega) ?_; intro v1 w2 hown hb2 hg2 ha2; have HW2 := Lib.hid hown; have HB2 := Lib.hid hb2; have HT2 := Lib.hid ((HT0.out.alloc _).grown hg2 ha2); clear hown hb2 hg2 ha2))
        go_roundw
        case rel => exact ⟨j, by omega, by go_num, by
          have := HW2.out
          rw [show k + (wd - (j + 1)) + 1 = k + (wd - j) by omega] at this
          rw [← HT.out, ← List.append_assoc, bv_append]
          exact this, HB2, HT2⟩
        case measure => simp [intOf]
      | zero =>
        go_wp2_with fail
        go_ret
        exact ⟨u0, rfl, by simpa [List.take_of_length_le, be_length] using HV.out, HB.out, HT0.out⟩

set_option maxRecDepth 20000 in
set_option maxHeartbeats 1600000 in
theorem put_unfit (wd : Nat) (hw8 : wd < 8) (n : Nat) (hn : 256 ^ wd ≤ n) (v : Value) (w : World) :
    Calls Try.prog 59 #[v, .int .u64 n, .int .i64 wd] w fun e w' => e = .panicked gaveUp ∧ w = w' := by
  have hw0 : (0 : Int) ≤ (wd : Int) := Int.natCast_nonneg _
  have h8 : (wd : Int) < 8 := by omega
  have hq : ((n : Int) / 2 ^ (8 * wd) != 0) = true := unfit_quo (by rw [← pow_256]; exact hn)
  clear hn
  go_enter Try.func59, Try.ntmps59
  go_wp2_with fail
  refine (fail_yes _).mono ?_
  rintro e w' ⟨rfl, rfl⟩
  exact ⟨rfl, rfl, rfl⟩
end Go.Proofs.Ytanibabfdpgbbaa

/- Loads and stores of structs of a few cells; no program in sight but for sizes. -/
namespace Go.Proofs.Ytanibabfdpgbbaa
open Go.RowKit

theorem Try.size87 : (Try.prog.info? 83).map (·.size) = some 2 := by kernel_rfl
section
variable {P : Program} {ops : Array Oper} {rest : List Oper} {op : Oper} {a : Act} {w : World} {Q : Exit → Act → World → Prop}
theorem ld2 (t : TypeId) (hgd : op.guard = none) (x : Operand) (ho : op.op = .load t x) (b o : Nat) (hx : a.eval x = .pointer (some ⟨b, o, none⟩)) (u v : Value) (hc : w.rangeAt b o [u, v]) {d : TypeDesc} (hu : P.underlying t = some d) (hd : d.isRow = true) (hi : (P.info? t).map (·.size) = some 2)
    (h : wpList P ops Q rest (a.put op.dst (.agg #[u, v])) w) : wpList P ops Q (op :: rest) a w :=
  wpList_load_mid hgd _ x ho b o hx _ _ hc hu hd hi h
/-- A struct of two cells is stored into a new variable of its own. -/
theorem st2 (t : TypeId) (hgd : op.guard = none) (x y : Operand) (ho : op.op = .store t x y) (c : Array Value) (b : Nat) (hx : a.eval x = .pointer (some ⟨b, 0, none⟩)) (hb : b = w.heap.size) (u v : Value) (hy : a.eval y = .agg #[u, v]) (h1 : u.oneCell' = true) (h2 : v.oneCell' = true) (hi : (P.info? t).map (·.size) = some 2) (hs : c.size = 2)
    (h : wpList P ops Q rest (a.put op.dst undef) (w.alloc (.cells #[u, v] t))) : wpList P ops Q (op :: rest) a (w.alloc (.cells c t)) := by
  subst hb
  refine wpList_store_mid hgd _ x y ho _ 0 #[u, v] hx hy ?_ hi (by simp [h1, h2]) ?_
  · intro j hj
    rw [Nat.zero_add]
    have hj : j < c.size := by rw [hs]; simpa using hj
    refine ⟨?_, frozen_of_row _ _ _ c t (heap_alloc_new w _)⟩
    rw [World.cell?_alloc_mark, Array.getElem?_eq_getElem hj]
    rfl
  · match c, hs with
    | ⟨[x, y]⟩, _ =>
      simp only [World.setCells]
      rw [World.setCell_alloc_new, World.setCell_alloc_new]
      exact h
end
end Go.Proofs.Ytanibabfdpgbbaa

/- append of any bytes (or cells) that are read, at a step of a region that draws its order; no program in sight. -/
namespace Go.Proofs.Ytanibabfdpgbbaa
open Go.RowKit
section
variable {P : Program} {W : World}
theorem wp_append_any {o : Oper} {a : Act} {K : Act → World → Prop} {Q : Exit → Act → World → Prop} (s x : Operand) (t e : TypeId) (z : Value) (size bytes : Nat)
    (ho : o.op = .call { callee := .builtin .append, args := #[s, x], argTypes := #[t, t] })
    (ht : P.underlying t = some (.slice e)) (hinfo : (P.info? e).map (fun i => (i.zero, i.size, i.bytes)) = some (some z, size, bytes)) (hzs : z.cells.size = size) (hsz : 0 < size) (hb0 : 0 < bytes)
    (base : Nat) (v : Value) (n : Nat) (xs : List Value) (A : Option Addr) (m c : Nat) (ys : List Value) (hs : a.eval s = v) (hx : a.eval x = .slice A m c)
    (HO : W.ownsRow base e size v n xs) (HR : Rd W A m size ys) (h1 : ∀ u ∈ ys, u.oneCell' = true) (hbytes : (n + m) * bytes ≤ 140737488355328) (hbase : base ≤ W.heap.size)
    (h : ∀ v1 w1, w1.ownsRow base e size v1 (n + m) (xs ++ ys) → W.grownBy w1 v.ownBlock → (v1.ownBlock = v.ownBlock ∨ v1.ownBlock = some W.heap.size) → K (a.put o.dst v1) w1) :
    Oper.wp P o a W K Q := by
  obtain ⟨v1, w1, hr, hown, hg, hat⟩ := run_append_any (P := P) W base t o.type e z size bytes ht hinfo hzs hsz v n xs HO A m c ys HR h1 hbytes hb0 hbase
  unfold Oper.wp execOp
  simp only [ho, resolve, invoke, builtin, Sem.run_bind, Sem.run_pure, Result.andThen_ok, List.map_toArray, List.map_cons, List.map_nil, hs, hx, hr]
  exact h v1 w1 hown hg hat
theorem step_append_any {ops : Array Oper} {o : Oper} {a : Act} {K : Act → World → Prop} {Q : Exit → Act → World → Prop} {E : Prop} (hgd : o.guard = none) (s x : Operand) (t e : TypeId) (z : Value) (size bytes : Nat)
    (ho : o.op = .call { callee := .builtin .append, args := #[s, x], argTypes := #[t, t] })
    (ht : P.underlying t = some (.slice e)) (hinfo : (P.info? e).map (fun i => (i.zero, i.size, i.bytes)) = some (some z, size, bytes)) (hzs : z.cells.size = size) (hsz : 0 < size) (hb0 : 0 < bytes)
    (base : Nat) (v : Value) (n : Nat) (xs : List Value) (A : Option Addr) (m c : Nat) (ys : List Value) (hs : a.eval s = v) (hx : a.eval x = .slice A m c)
    (HO : W.ownsRow base e size v n xs) (HR : Rd W A m size ys) (h1 : ∀ u ∈ ys, u.oneCell' = true) (hbytes : (n + m) * bytes ≤ 140737488355328) (hbase : base ≤ W.heap.size)
    (h : ∀ v1 w1, w1.ownsRow base e size v1 (n + m) (xs ++ ys) → W.grownBy w1 v.ownBlock → (v1.ownBlock = v.ownBlock ∨ v1.ownBlock = some W.heap.size) → K (a.put o.dst v1) w1) :
    if Region.wanted o (yielded ops a.tmps) = true then Oper.wp P o a W K Q else E := by
  have hw : Region.wanted o (yielded ops a.tmps) = true := by simp [Region.wanted, hgd]
  rw [if_pos hw]
  exact wp_append_any s x t e z size bytes ho ht hinfo hzs hsz hb0 base v n xs A m c ys hs hx HO HR h1 hbytes hbase h
end
end Go.Proofs.Ytanibabfdpgbbaa

/- The codec's pack. -/
namespace Go.Proofs.Ytanibabfdpgbbaa
open Go.RowKit

/-- A field as bytes, after a letter. -/
def encF (c : UInt8) (f : FieldD) : Option (List UInt8) :=
  match letterW c with
  | none => none
  | some 0 => if 1024 < f.bytes.length then none else some (be f.bytes.length 2 ++ f.bytes)
  | some (w + 1) => if f.num < 256 ^ (w + 1) then some (be f.num (w + 1)) else none
/-- The first k fields as bytes. -/
def packTo (sh : List UInt8) (l : List FieldD) : Nat → Option (List UInt8)
  | 0 => some []
  | k + 1 => match packTo sh l k, encF (at8 sh k) (fieldAt l k) with
    | some o, some x => some (o ++ x)
    | _, _ => none
theorem packTo_none (sh : List UInt8) (l : List FieldD) (k : Nat) (h : packTo sh l k = none) : ∀ m, k ≤ m → packTo sh l m = none := by
  intro m hm
  induction m with
  | zero => obtain rfl : k = 0 := by omega
            exact h
  | succ m ih =>
    by_cases e : k = m + 1
    · rw [← e]; exact h
    · rw [packTo, ih (by omega)]
/-- What pack does with memory. -/
def PackPost (w : World) (r : Option (List UInt8)) (e : Ending) (w' : World) : Prop :=
  (∃ v o, r = some o ∧ e = .returned v ∧ w'.ownsRow w.heap.size 5 1 v o.length (bv o) ∧ Below w.heap.size w w') ∨ (r = none ∧ e = .panicked gaveUp ∧ Below w.heap.size w w')

theorem strOf_get (sh : List UInt8) (k : Nat) (h : k < (strOf sh).size) : (strOf sh)[k]'h = at8 sh k := by
  have h' : k < sh.length := by simpa [strOf, ByteArray.size] using h
  rw [at8, List.getD_eq_getElem?_getD, List.getElem?_eq_getElem h']
  rfl
theorem letterW_cases (c : UInt8) : letterW c = none ∨ (letterW c = some 0 ∧ c = 98) ∨ ∃ w, letterW c = some (w + 1) ∧ ((c = 49 ∧ w + 1 = 1) ∨ (c = 50 ∧ w + 1 = 2) ∨ (c = 52 ∧ w + 1 = 4) ∨ (c = 56 ∧ w + 1 = 8)) := by
  unfold letterW
  split
  · exact .inr (.inr ⟨0, rfl, .inl ⟨by assumption, rfl⟩⟩)
  · split
    · exact .inr (.inr ⟨1, rfl, .inr (.inl ⟨by assumption, rfl⟩)⟩)
    · split
      · exact .inr (.inr ⟨3, rfl, .inr (.inr (.inl ⟨by assumption, rfl⟩))⟩)
      · split
        · exact .inr (.inr ⟨7, rfl, .inr (.inr (.inr ⟨by assumption, rfl⟩))⟩)
        · split
          · exact .inr (.inl ⟨rfl, by assumption⟩)
          · exact .inl rfl
theorem packTo_step {sh : List UInt8} {l : List FieldD} {k : Nat} {o : List UInt8} (h : packTo sh l k = some o) : packTo sh l (k + 1) = (encF (at8 sh k) (fieldAt l k)).map (o ++ ·) := by
  rw [packTo, h]
  cases encF (at8 sh k) (fieldAt l k) <;> rfl

theorem wrap_u64 (n : Nat) (h : n < 18446744073709551616) : IntKind.u64.wrap (n : Int) = (n : Int) := by
  simp [IntKind.wrap, IntKind.signed, IntKind.bits]
  omega
set_option maxRecDepth 20000 in
set_option maxHeartbeats 3200000 in
theorem pack_main (sh : List UInt8) (A : Option Addr) (n c : Nat) (l : List FieldD) (w : World) (hl : RFields w A n c l) (hs : sh.length = n) (hn : n ≤ 200) :
    Calls Try.prog 50 #[.string (strOf sh), .slice A n c] w (PackPost w (packTo sh l n)) := by
  have HL := Lib.hid hl
  have hsz : (strOf sh).size = n := by simp [strOf, hs, ByteArray.size]
  have hd : decide ((200 : Int) < (n : Int)) = false := decide_eq_false (by omega)
  clear hl
  go_enter Try.func50, Try.ntmps50
  go_wp2_with fail
  refine (fail_no _).mono ?_
  rintro e w' ⟨rfl, rfl⟩
  go_wp2_with fail
  go_loopw [5, 22] (fun u i wr => ∃ k o, k ≤ n ∧ i = .int .i64 (k : Nat) ∧ Hid (packTo sh l k = some o) ∧ Hid (wr.ownsRow w.heap.size 5 1 u o.length (bv o)) ∧ Hid (Below w.heap.size w wr) ∧ Hid (o.length ≤ k * 2000)) (fun _ i _ => n - (intOf i).toNat)
  case atStart => exact ⟨0, [], by omega, rfl, Lib.hid rfl, Lib.hid (World.ownsRow_nil _ _ _ _), Lib.hid (Below.refl _ _), Lib.hid (by simp)⟩
  case round =>
    obtain ⟨k, o, hk, rfl, HP, HV, HB, HK⟩ := hrel
    by_cases hlt : k < n
    · have hk0 : (0 : Int) ≤ (k : Int) := Int.natCast_nonneg _
      have hk1 : (k : Int) < (n : Int) := by omega
      obtain ⟨b, o', rfl, hfs⟩ := (HL.out.below HB.out).2.2.2 (by omega)
      obtain ⟨hrg, hok⟩ := hfs k hlt
      have hokw : FieldOk w (fieldAt l k) := by
        obtain ⟨_, _, _, h⟩ := HL.out.2.2.2 (by omega)
        exact (h k hlt).2
      generalize hf : fieldAt l k = f at *
      obtain ⟨num, fA, fn, fc, fb⟩ := f
      have hst := packTo_step HP.out
      rw [hf] at hst
      have hg := strOf_get sh k
      have HRG := Lib.hid hrg
      have HOK := Lib.hid hok
      have HOW := Lib.hid hokw
      clear hf hrg hok hfs hokw
      have HNO : Hid (packTo sh l (k + 1) = none → packTo sh l n = none) := Lib.hid fun h => packTo_none sh l (k + 1) h n (by omega)
      generalize at8 sh k = ch at hst hg
      have HBW := Lib.hid (HB.out.alloc HB.out.size (.cells #[.int .u64 (num : Int), .slice fA fn fc] 83))
      have HVW := Lib.hid (HV.out.alloc (.cells #[.int .u64 (num : Int), .slice fA fn fc] 83))
      rcases letterW_cases ch with hlw | ⟨hlw, rfl⟩ | ⟨wd, hlw, hcw⟩
      · have HST : Hid (packTo sh l (k + 1) = none) := Lib.hid (by rw [hst, encF, hlw]; rfl)
        have HW := Lib.hid (width_none ch hlw)
        clear hst hlw
        go_wp2_with (first | (refine ld2 83 rfl _ rfl b (o' + k * 2) rfl (.int .u64 num) (.slice fA fn fc) HRG.out Try.underlying83 rfl Try.size87 ?_) | (refine st2 83 rfl _ _ rfl _ _ rfl rfl (.int .u64 num) (.slice fA fn fc) rfl rfl rfl Try.size87 rfl ?_))
        refine (HW.out _).mono ?_
        rintro e w' ⟨rfl, rfl⟩
        exact ⟨rfl, .inr ⟨HNO.out HST.out, rfl, HBW.out⟩⟩
      · have hfb : fb.length = fn := HOK.out.rb.1
        by_cases h1024 : 1024 < fn
        · have HST : Hid (packTo sh l (k + 1) = none) := Lib.hid (by rw [hst, encF, hlw]; simp only []; rw [if_pos (by rw [hfb]; exact h1024)]; rfl)
          have hd1 : decide ((1024 : Int) < (fn : Int)) = true := decide_eq_true (by omega)
          clear hst hlw h1024 hfb
          go_wp2_with (first | (refine ld2 83 rfl _ rfl b (o' + k * 2) rfl (.int .u64 num) (.slice fA fn fc) HRG.out Try.underlying83 rfl Try.size87 ?_) | (refine st2 83 rfl _ _ rfl _ _ rfl rfl (.int .u64 num) (.slice fA fn fc) rfl rfl rfl Try.size87 rfl ?_))
          refine (width_b _).mono ?_
          rintro e w' ⟨rfl, rfl⟩
          go_wp2_with fail
          refine (fail_yes _).mono ?_
          rintro e w' ⟨rfl, rfl⟩
          exact ⟨rfl, .inr ⟨HNO.out HST.out, rfl, HBW.out⟩⟩
        · have HST : Hid (packTo sh l (k + 1) = some (o ++ (be fn 2 ++ fb))) := Lib.hid (by rw [hst, encF, hlw]; simp only []; rw [if_neg (by rw [hfb]; exact h1024), hfb]; rfl)
          have hd1 : decide ((1024 : Int) < (fn : Int)) = false := decide_eq_false (by omega)
          have hpt := fun W (hv : W.ownsRow w.heap.size 5 1 u5 o.length (bv o)) (hb : w.heap.size ≤ W.heap.size) => put_fit 2 (by omega) (by omega) fn (by omega) w.heap.size o.length u5 o W hv hb (by have := HK.out; omega)
          have HPT := Lib.hid hpt
          have HH : Hid (fn ≤ 1024) := Lib.hid (by omega)
          have hfn0 : (0 : Int) ≤ (fn : Int) := Int.natCast_nonneg _
          have hfn1 : (fn : Int) ≤ 1024 := by omega
          have HWR : Hid (IntKind.u64.wrap (fn : Int) = (fn : Int)) := Lib.hid (wrap_u64 fn (by omega))
          have hub : u5.ownBlock ≠ some wr.heap.size := fun e => by have := (HV.out.lt _ e).2; omega
          have HU := Lib.hid hub
          have HFB := Lib.hid hfb
          clear hst hlw h1024 hfb hpt hub
          go_wp2_with (first | (refine ld2 83 rfl _ rfl b (o' + k * 2) rfl (.int .u64 num) (.slice fA fn fc) HRG.out Try.underlying83 rfl Try.size87 ?_) | (refine st2 83 rfl _ _ rfl _ _ rfl rfl (.int .u64 num) (.slice fA fn fc) rfl rfl rfl Try.size87 rfl ?_))
          refine (width_b _).mono ?_
          rintro e w' ⟨rfl, rfl⟩
          go_wp2_with fail
          refine (fail_no _).mono ?_
          rintro e w' ⟨rfl, rfl⟩
          go_wp2_with fail
          clear HRG HOK HP HL HV
          go_region_held3 (fun w' => w'.cell? ⟨wr.heap.size, 1, none⟩ = some (.slice fA fn fc)) (first | go_keep | assumption)
            (first
              | (go_at_call 59
                 rw [HWR.out]
                 refine (HPT.out _ HVW.out.drew HBW.out.drew.size).mono ?_
                 rintro e w3 ⟨v', rfl, hown3, hb3, hto3⟩
                 have hb3' : Below w.heap.size w w3 := HBW.out.drew.trans hb3
                 have hS : w3.cell? ⟨wr.heap.size, 1, none⟩ = some (.slice fA fn fc) := by
                   have h1 := World.cell?_of_block (a := ⟨wr.heap.size, 1, none⟩) (hto3.block wr.heap.size (by simp) HU.out)
                   rw [h1]
                   simp [go_sem]
                 have hne3 : v'.ownBlock ≠ some wr.heap.size := fun e => by
                   rcases hto3.at_ _ e with e | e
                   · exact HU.out e
                   · simp at e
                     omega
                 have HNE := Lib.hid hne3
                 have HSZ := Lib.hid hto3.size
                 have HO3 := Lib.hid hown3
                 have HB3 := Lib.hid hb3'
                 clear hown3 hb3 hto3 hb3' hne3)
              | (refine step_append_any (by rfl) _ _ 76 5 (.int .u8 0) 1 1 (by rfl) Try.underlying76 Try.infoU8' rfl (by decide) (by decide) w.heap.size v' (o.length + 2) _ fA fn fc (bv fb) (by rfl) (by rfl) HO3.out ((HOW.out.rb.below HB3.out).rd) (bv_one _) (by have := HK.out; have := HH.out; omega) HB3.out.size ?_
                 intro v1 w4 hown4 hg4 ha4
                 have hb4 : Below w.heap.size w w4 := Below.grown HB3.out hg4 HB3.out.size (fun b' hb' => (HO3.out.lt b' hb').1)
                 have hS4 : w4.cell? ⟨wr.heap.size, 1, none⟩ = some (.slice fA fn fc) := (hg4.cell_far _ (by have := HSZ.out; simp at this; simp; omega) (fun e => HNE.out e.symm)).trans (by assumption)
                 have HO4 := Lib.hid hown4
                 have HB4 := Lib.hid hb4
                 clear hown4 hg4 ha4 hb4))
          go_wp2
          go_roundw
          case rel => exact ⟨k + 1, _, by omega, by go_num, HST, by
            have := HO4.out
            rw [← bv_append, show o.length + 2 + fn = (o ++ (be fn 2 ++ fb)).length by rw [List.length_append, List.length_append, be_length, HFB.out]; omega, List.append_assoc] at this
            exact this, HB4, by
            have := HK.out
            have := HH.out
            show (o ++ (be fn 2 ++ fb)).length ≤ (k + 1) * 2000
            rw [List.length_append, List.length_append, be_length, HFB.out]
            omega⟩
          case measure => simp [intOf]; omega
      · have HW := Lib.hid (width_digit ch (wd + 1) hcw)
        have hw8 : wd + 1 ≤ 8 := by omega
        by_cases hfit : num < 256 ^ (wd + 1)
        · have HST : Hid (packTo sh l (k + 1) = some (o ++ be num (wd + 1))) := Lib.hid (by rw [hst, encF, hlw]; simp only []; rw [if_pos hfit]; rfl)
          have hpt := put_fit (wd + 1) (by omega) hw8 num hfit w.heap.size o.length u5 o _ HVW.out HBW.out.size (by have := HK.out; omega)
          have HPT := Lib.hid hpt
          clear hst hlw hcw hpt hfit
          go_wp2_with (first | (refine ld2 83 rfl _ rfl b (o' + k * 2) rfl (.int .u64 num) (.slice fA fn fc) HRG.out Try.underlying83 rfl Try.size87 ?_) | (refine st2 83 rfl _ _ rfl _ _ rfl rfl (.int .u64 num) (.slice fA fn fc) rfl rfl rfl Try.size87 rfl ?_))
          refine (HW.out _).mono ?_
          rintro e w' ⟨rfl, rfl⟩
          go_wp2_with fail
          refine HPT.out.mono ?_
          rintro e w3 ⟨v', rfl, hown, hb3, _⟩
          have HO3 := Lib.hid hown
          have HB3 := Lib.hid (HBW.out.trans hb3)
          clear hown hb3
          go_wp2_with fail
          go_roundw
          case rel => exact ⟨k + 1, _, by omega, by go_num, HST, by
            have := HO3.out
            rw [show o.length + (wd + 1) = (o ++ be num (wd + 1)).length by rw [List.length_append, be_length]] at this
            exact this, HB3, by
            have := HK.out
            show (o ++ be num (wd + 1)).length ≤ (k + 1) * 2000
            rw [List.length_append, be_length]
            omega⟩
          case measure => simp [intOf]; omega
        · have HST : Hid (packTo sh l (k + 1) = none) := Lib.hid (by rw [hst, encF, hlw]; simp only []; rw [if_neg hfit]; rfl)
          have hlt8 : wd + 1 < 8 := by
            have := HOK.out.num
            rcases hcw with ⟨_, h⟩ | ⟨_, h⟩ | ⟨_, h⟩ | ⟨_, h⟩
            · omega
            · omega
            · omega
            · rw [h] at hfit
              exact absurd this hfit
          have HPT := Lib.hid (put_unfit (wd + 1) hlt8 num (by omega) u5)
          clear hst hlw hcw hfit hlt8
          go_wp2_with (first | (refine ld2 83 rfl _ rfl b (o' + k * 2) rfl (.int .u64 num) (.slice fA fn fc) HRG.out Try.underlying83 rfl Try.size87 ?_) | (refine st2 83 rfl _ _ rfl _ _ rfl rfl (.int .u64 num) (.slice fA fn fc) rfl rfl rfl Try.size87 rfl ?_))
          refine (HW.out _).mono ?_
          rintro e w' ⟨rfl, rfl⟩
          go_wp2_with fail
          refine (HPT.out _).mono ?_
          rintro e w' ⟨rfl, rfl⟩
          exact ⟨rfl, .inr ⟨HNO.out HST.out, rfl, HBW.out⟩⟩
    · obtain rfl : k = n := by omega
      go_wp2_with fail
      go_ret
      exact .inl ⟨u5, o, HP.out, rfl, HV.out, HB.out⟩
end Go.Proofs.Ytanibabfdpgbbaa

/- The codec's Pack: pack, with giving up turned into an error. -/
namespace Go.Proofs.Ytanibabfdpgbbaa
open Go.RowKit

/-- What Pack answers and leaves. -/
def PackedPost (w : World) (r : Option (List UInt8)) (e : Ending) (w' : World) : Prop :=
  Below w.heap.size w w' ∧ ((∃ v o, r = some o ∧ e = .returned (.tuple #[v, .int .i64 0]) ∧ w'.ownsRow w.heap.size 5 1 v o.length (bv o)) ∨ (r = none ∧ e = .returned (.tuple #[.slice none 0 0, .int .i64 21])))

theorem own_mono {w : World} {base base' n size : Nat} {e : TypeId} {v : Value} {xs : List Value} (h : w.ownsRow base' e size v n xs) (hb : base ≤ base') : w.ownsRow base e size v n xs := by
  refine ⟨h.1, ?_⟩
  rcases h.2 with hn | ⟨g, cap, cur, rfl, hg, rest⟩
  · exact .inl hn
  · exact .inr ⟨g, cap, cur, rfl, Nat.le_trans hb hg, rest⟩
theorem own_set {w : World} {base n size : Nat} {e : TypeId} {v : Value} {xs : List Value} (h : w.ownsRow base e size v n xs) (a : Addr) (u : Value) (hne : v.ownBlock ≠ some a.block) : (w.setCell a u).ownsRow base e size v n xs :=
  h.kept (row := some a.block) ⟨rfl, rfl, rfl, by simp [World.setCell], fun k _ hk => Below.heap_setCell _ _ _ _ (fun e => hk (by rw [e]))⟩ (.inr hne)

set_option maxRecDepth 20000 in
set_option maxHeartbeats 1600000 in
theorem codec_Pack_of (s : ByteArray) (A : Option Addr) (n c : Nat) (r : Option (List UInt8)) (w : World)
    (h : Calls Try.prog 50 #[.string s, .slice A n c] (w.alloc (.cells #[.int .i64 0] 39)) (PackPost (w.alloc (.cells #[.int .i64 0] 39)) r)) :
    Calls Try.prog 36 #[.string s, .slice A n c] w (PackedPost w r) := by
  have hmf : ∀ (fn : Fn) (first cap : Array Value) (w : World), (Instr.makeFunc fn first cap).run Try.prog w = .ok (.func fn first cap) w := fun _ _ _ _ => rfl
  have HP := Lib.hid h
  clear h
  go_enter_defers Try.func36, Try.ntmps36
  go_wp2_with fail
  refine HP.out.mono ?_
  rintro e w1 (⟨v, o, rfl, rfl, hown, hb⟩ | ⟨rfl, rfl, hb⟩)
  · have hw1 : w1.heap[w.heap.size]? = some (.cells #[.int .i64 0] 39 (0, 0)) := (hb.block _ (by simp)).trans (heap_alloc_new w _)
    have c5 : w1.cell? ⟨w.heap.size, 0, none⟩ = some (.int .i64 0) := by rw [cell_of_row w1 w.heap.size 0 _ _ _ hw1]; rfl
    have f5 : w1.frozen? ⟨w.heap.size, 0, none⟩ = false := frozen_of_row w1 w.heap.size 0 _ _ hw1
    have hbf : Below w.heap.size w (w1.setCell ⟨w.heap.size, 0, none⟩ (.int .i64 0)) := ((below_alloc w _).trans (hb.mono (by simp))).setCell (Nat.le_refl _) _
    have c6 : (w1.setCell ⟨w.heap.size, 0, none⟩ (.int .i64 0)).cell? ⟨w.heap.size, 0, none⟩ = some (.int .i64 0) := by
      rw [cell_of_row _ w.heap.size 0 _ _ _ (heap_setCell_same w1 w.heap.size 0 _ _ _ hw1)]
      rfl
    have hrow : (w1.setCell ⟨w.heap.size, 0, none⟩ (.int .i64 0)).ownsRow w.heap.size 5 1 v o.length (bv o) :=
      own_set (own_mono hown (by simp)) _ _ (fun e => by have := (hown.lt _ e).1; simp at this; omega)
    have HBF := Lib.hid hbf; have HO := Lib.hid hrow; have HC6 := Lib.hid c6
    clear hbf hown hb hw1 hrow c6
    go_wp2_with fail
    refine leaves_cons (f := 49) (args := #[.pointer (some ⟨w.heap.size, 0, none⟩)]) (by simp) (by simp [go_sem]) ?_
    refine (caught_idle ⟨w.heap.size, 0, none⟩ _).mono ?_
    rintro e u' w'' ⟨rfl, rfl, rfl⟩
    simp [Leaves, settle, results, Try.results36, go_sem, HC6.out]
    exact ⟨HBF.out, .inl ⟨v, o, rfl, rfl, HO.out⟩⟩
  · have hw1 : w1.heap[w.heap.size]? = some (.cells #[.int .i64 0] 39 (0, 0)) := (hb.block _ (by simp)).trans (heap_alloc_new w _)
    have c5 : w1.cell? ⟨w.heap.size, 0, none⟩ = some (.int .i64 0) := by rw [cell_of_row w1 w.heap.size 0 _ _ _ hw1]; rfl
    have f5 : w1.frozen? ⟨w.heap.size, 0, none⟩ = false := frozen_of_row w1 w.heap.size 0 _ _ hw1
    have c6 : (w1.setCell ⟨w.heap.size, 0, none⟩ (.int .i64 21)).cell? ⟨w.heap.size, 0, none⟩ = some (.int .i64 21) := by
      rw [cell_of_row _ w.heap.size 0 _ _ _ (heap_setCell_same w1 w.heap.size 0 _ _ _ hw1)]
      rfl
    have hbf : Below w.heap.size w (w1.setCell ⟨w.heap.size, 0, none⟩ (.int .i64 21)) := ((below_alloc w _).trans (hb.mono (by simp))).setCell (Nat.le_refl _) _
    refine leaves_cons (f := 49) (args := #[.pointer (some ⟨w.heap.size, 0, none⟩)]) (by simp) (by simp [go_sem]) ?_
    refine (caught_up ⟨w.heap.size, 0, none⟩ 0 _ c5 f5).mono ?_
    rintro e u' w'' ⟨rfl, rfl, rfl⟩
    simp [Leaves, settle, results, Try.results36, go_sem, c6]
    exact ⟨hbf, .inr ⟨rfl, rfl⟩⟩

/-- What pack computes. -/
def packM (sh : List UInt8) (l : List FieldD) : Option (List UInt8) := if 200 < sh.length ∨ sh.length ≠ l.length then none else packTo sh l l.length
set_option maxRecDepth 20000 in
set_option maxHeartbeats 1600000 in
theorem pack_bad (sh : List UInt8) (A : Option Addr) (n c : Nat) (w : World) (h : 200 < sh.length ∨ (sh.length ≤ 200 ∧ sh.length ≠ n)) :
    Calls Try.prog 50 #[.string (strOf sh), .slice A n c] w fun e w' => e = .panicked gaveUp ∧ w = w' := by
  have hsz : (strOf sh).size = sh.length := by simp [strOf, ByteArray.size]
  generalize sh.length = m at *
  rcases h with h | ⟨h, h'⟩
  · have hd : decide ((200 : Int) < (m : Int)) = true := decide_eq_true (by omega)
    go_enter Try.func50, Try.ntmps50
    go_wp2_with fail
    refine (fail_yes _).mono ?_
    rintro e w' ⟨rfl, rfl⟩
    exact ⟨rfl, rfl, rfl⟩
  · have hd : decide ((200 : Int) < (m : Int)) = false := decide_eq_false (by omega)
    have hq : ((m : Int) != (n : Int)) = true := by rw [bne_iff_ne]; omega
    go_enter Try.func50, Try.ntmps50
    go_wp2_with fail
    refine (fail_yes _).mono ?_
    rintro e w' ⟨rfl, rfl⟩
    exact ⟨rfl, rfl, rfl⟩
theorem codec_pack (sh : List UInt8) (A : Option Addr) (n c : Nat) (l : List FieldD) (w : World) (hl : RFields w A n c l) :
    Calls Try.prog 50 #[.string (strOf sh), .slice A n c] w (PackPost w (packM sh l)) := by
  have hn : l.length = n := hl.1
  unfold packM
  by_cases h : 200 < sh.length ∨ sh.length ≠ l.length
  · rw [if_pos h]
    refine (pack_bad sh A n c w (by omega)).mono fun e w' ⟨he, hw⟩ => .inr ⟨rfl, he, hw ▸ Below.refl _ _⟩
  · rw [if_neg h, hn]
    exact pack_main sh A n c l w hl (by omega) (by omega)
/-- Pack. -/
theorem codec_Pack (sh : List UInt8) (A : Option Addr) (n c : Nat) (l : List FieldD) (w : World) (hl : RFields w A n c l) :
    Calls Try.prog 36 #[.string (strOf sh), .slice A n c] w (PackedPost w (packM sh l)) :=
  codec_Pack_of _ A n c _ w (codec_pack sh A n c l _ (hl.below (below_alloc w _)))
end Go.Proofs.Ytanibabfdpgbbaa

/- Rows of fields of one's own; no program in sight but for the types' numbers. -/
namespace Go.Proofs.Ytanibabfdpgbbaa
open Go.RowKit

/-- What a field says, wherever its bytes lie. -/
def vals (l : List FieldD) : List (Nat × List UInt8) := l.map fun f => (f.num, f.bytes)
/-- The cells of fields in a row. -/
def fcells (l : List FieldD) : List Value := l.flatMap fieldCells
theorem fcells_length (l : List FieldD) : (fcells l).length = l.length * 2 := by
  induction l with
  | nil => rfl
  | cons x l ih =>
    simp only [fcells, List.flatMap_cons, List.length_append, List.length_cons, fieldCells, List.length_nil] at ih ⊢
    omega
theorem fieldAt_get {l : List FieldD} {k : Nat} (h : k < l.length) : fieldAt l k = l[k] := by
  rw [fieldAt, List.getD_eq_getElem?_getD, List.getElem?_eq_getElem h]; rfl
theorem fcells_get (l : List FieldD) (k : Nat) (h : k < l.length) (j : Nat) (u : Value) (hj : (fieldCells (fieldAt l k))[j]? = some u) : (fcells l)[k * 2 + j]? = some u := by
  have e : fcells l = fcells (l.take k) ++ (fieldCells (fieldAt l k) ++ fcells (l.drop (k + 1))) := by
    have e0 : l = l.take k ++ fieldAt l k :: l.drop (k + 1) := by
      rw [fieldAt_get h, List.getElem_cons_drop, List.take_append_drop]
    conv => lhs; rw [e0]
    simp [fcells]
  have hl : (fcells (l.take k)).length = k * 2 := by rw [fcells_length, List.length_take]; congr 1; omega
  rw [e, List.getElem?_append_right (by omega), hl, Nat.add_sub_cancel_left, List.getElem?_append_left (List.getElem?_eq_some_iff.1 hj).1]
  exact hj
/-- Fields in rows of one's own: the row of fields, and each field's bytes. -/
structure OFields (w : World) (base : Nat) (v : Value) (l : List FieldD) : Prop where
  row : w.ownsRow base 83 2 v l.length (fcells l)
  num : ∀ f ∈ l, f.num < 18446744073709551616
  bytes : ∀ f ∈ l, w.ownsRow base 5 1 (.slice f.A f.n f.c) f.n (bv f.bytes)
  len : ∀ f ∈ l, f.n ≤ 140737488351232
/-- They are read as fields. -/
theorem OFields.read {w : World} {base : Nat} {v : Value} {l : List FieldD} (h : OFields w base v l) : ∃ A c, v = .slice A l.length c ∧ RFields w A l.length c l := by
  have ok : ∀ f ∈ l, FieldOk w f := fun f hf => by
    refine ⟨h.num f hf, ?_, h.len f hf⟩
    obtain ⟨A, c, e, hr⟩ := own_rb (h.bytes f hf)
    injection e with e1 _ e3
    subst e1 e3
    exact hr
  rcases h.row.2 with ⟨rfl, h0⟩ | ⟨g, cap, cur, rfl, _, hg, hnc, hcm, _⟩
  · rw [h0]
    exact ⟨none, 0, rfl, h0, Nat.le_refl _, by omega, fun hp => absurd hp (by omega)⟩
  · refine ⟨_, cap, rfl, rfl, hnc, by simpa [maxLen] using hcm, fun _ => ⟨g, 0, rfl, fun k hk => ⟨fun j u hj => ?_, ok _ (by rw [fieldAt_get hk]; exact List.getElem_mem _)⟩⟩⟩
    have := h.row.cells (g := g) rfl (k * 2 + j) u (fcells_get l k hk j u hj)
    rw [add_none] at this
    rw [Nat.zero_add]
    simpa using this

theorem own_apart {w : World} {base base' n n' size size' : Nat} {e e' : TypeId} {v v' : Value} {xs xs' : List Value} (h : w.ownsRow base e size v n xs) (h' : w.ownsRow base' e' size' v' n' xs') (ht : e ≠ e') (g : Nat) (hg : v.ownBlock = some g) : v'.ownBlock ≠ some g := by
  intro hg'
  rcases h.2 with ⟨rfl, _⟩ | ⟨a, cap, cur, rfl, _, ha, _⟩
  · simp [Value.ownBlock] at hg
  · rcases h'.2 with ⟨rfl, _⟩ | ⟨a', cap', cur', rfl, _, ha', _⟩
    · simp [Value.ownBlock] at hg'
    · have e1 : a = g := by simpa [Value.ownBlock] using hg
      have e2 : a' = g := by simpa [Value.ownBlock] using hg'
      subst e1
      subst e2
      rw [ha] at ha'
      injection ha' with ha'
      injection ha' with _ h2
      exact ht h2
section
variable {w w' : World} {base : Nat} {v : Value} {l : List FieldD}
theorem OFields.alloc (h : OFields w base v l) (o : Obj) : OFields (w.alloc o) base v l := ⟨h.row.alloc o, h.num, fun f hf => (h.bytes f hf).alloc o, h.len⟩
theorem OFields.drew (h : OFields w base v l) : OFields w.drew base v l := ⟨h.row.drew, h.num, fun f hf => (h.bytes f hf).drew, h.len⟩
/-- A new block grows: the fields stay. -/
theorem OFields.beside (h : OFields w base v l) {o : Obj} (hg : (w.alloc o).grownBy w' (some w.heap.size)) : OFields w' base v l :=
  ⟨(h.row.alloc o).kept hg (.inr fun e => by have := (h.row.lt _ e).2; omega), h.num, fun f hf => ((h.bytes f hf).alloc o).kept hg (.inr fun e => by have := ((h.bytes f hf).lt _ e).2; omega), h.len⟩
/-- One field more. -/
theorem OFields.push (h : OFields w base v l) (f : FieldD) (hn : f.num < 18446744073709551616) (hl : f.n ≤ 140737488351232) (hb : w.ownsRow base 5 1 (.slice f.A f.n f.c) f.n (bv f.bytes)) {v' : Value} (hg : w.grownBy w' v.ownBlock)
    (hr : w'.ownsRow base 83 2 v' (l.length + 1) (fcells l ++ fieldCells f)) : OFields w' base v' (l ++ [f]) := by
  have keep : ∀ f' : FieldD, w.ownsRow base 5 1 (.slice f'.A f'.n f'.c) f'.n (bv f'.bytes) → w'.ownsRow base 5 1 (.slice f'.A f'.n f'.c) f'.n (bv f'.bytes) := fun f' hf' =>
    hf'.kept hg (by
      cases hv : v.ownBlock with
      | none =>
        cases hv' : (Value.slice f'.A f'.n f'.c).ownBlock with
        | none => exact .inl rfl
        | some g => exact .inr (fun e => by cases e)
      | some g => exact .inr (own_apart h.row hf' (by decide) g hv))
  refine ⟨?_, fun f' hf' => ?_, fun f' hf' => ?_, fun f' hf' => ?_⟩
  · rw [List.length_append, List.length_singleton]
    have e : fcells (l ++ [f]) = fcells l ++ fieldCells f := by simp [fcells]
    rw [e]
    exact hr
  · rcases List.mem_append.1 hf' with hf' | hf'
    · exact h.num _ hf'
    · rw [List.mem_singleton.1 hf']; exact hn
  · rcases List.mem_append.1 hf' with hf' | hf'
    · exact keep _ (h.bytes _ hf')
    · rw [List.mem_singleton.1 hf']; exact keep _ hb
  · rcases List.mem_append.1 hf' with hf' | hf'
    · exact h.len _ hf'
    · rw [List.mem_singleton.1 hf']; exact hl
end
theorem vals_take (l : List FieldD) (k : Nat) (h : k < l.length) : vals (l.take (k + 1)) = vals (l.take k) ++ [((fieldAt l k).num, (fieldAt l k).bytes)] := by
  unfold vals
  rw [List.take_succ_eq_append_getElem h, List.map_append, fieldAt_get h]
  rfl
theorem Try.info87 : (Try.prog.info? 83).map (fun i => (i.zero, i.size, i.bytes)) = some (some (.agg #[.int .u64 0, .slice none 0 0]), 2, 32) := by kernel_rfl
end Go.Proofs.Ytanibabfdpgbbaa

/- More on rows of one's own: what leaves them alone; parts of bytes that are read. No program in sight but for the types' numbers. -/
namespace Go.Proofs.Ytanibabfdpgbbaa
open Go.RowKit

theorem own_below {B : Nat} {e : TypeId} {k : Nat} {v : Value} {n : Nat} {xs : List Value} {w w' : World} (h : w.ownsRow B e k v n xs) (hb : Below w.heap.size w w') : w'.ownsRow B e k v n xs :=
  h.kept (row := none) ⟨hb.os, hb.tape, hb.output, hb.size, fun j hj _ => hb.block j hj⟩ (by cases hv : v.ownBlock <;> simp)
theorem OFields.below {w w' : World} {base : Nat} {v : Value} {l : List FieldD} (h : OFields w base v l) (hb : Below w.heap.size w w') : OFields w' base v l :=
  ⟨own_below h.row hb, h.num, fun f hf => own_below (h.bytes f hf) hb, h.len⟩
theorem OFields.mono {w : World} {base base' : Nat} {v : Value} {l : List FieldD} (h : OFields w base' v l) (hb : base ≤ base') : OFields w base v l :=
  ⟨own_mono h.row hb, h.num, fun f hf => own_mono (h.bytes f hf) hb, h.len⟩
theorem OFields.set {w : World} {base : Nat} {v : Value} {l : List FieldD} (h : OFields w base v l) (a : Addr) (u : Value) (hne : a.block < base) : OFields (w.setCell a u) base v l :=
  ⟨own_set h.row a u (fun e => by have := (h.row.lt _ e).1; omega), h.num, fun f hf => own_set (h.bytes f hf) a u (fun e => by have := ((h.bytes f hf).lt _ e).1; omega), h.len⟩

/-- Where a part of a slice begins. -/
def cutA (A : Option Addr) (c l : Nat) : Option Addr := if c = l then A else A.map (·.add l)
theorem RB.cut {w : World} {A : Option Addr} {n c : Nat} {xs : List UInt8} (h : RB w A n c xs) (l m : Nat) (hl : l + m ≤ n) : RB w (cutA A c l) m (c - l) ((xs.drop l).take m) := by
  obtain ⟨h1, h2, h3, h4⟩ := h
  refine ⟨by simp; omega, by omega, by omega, fun hp => ?_⟩
  obtain ⟨b, o, rfl, hc⟩ := h4 (by omega)
  refine ⟨b, o + l, ?_, fun k hk => ?_⟩
  · unfold cutA
    rw [if_neg (by omega), Option.map_some, add_none]
  · rw [Nat.add_assoc, hc (l + k) (by omega)]
    simp [at8, List.getD_eq_getElem?_getD, hk]
theorem RB.rest {w : World} {A : Option Addr} {n c : Nat} {xs : List UInt8} (h : RB w A n c xs) (l : Nat) (hl : l ≤ n) : RB w (cutA A c l) (n - l) (c - l) (xs.drop l) := by
  have := h.cut l (n - l) (by omega)
  rwa [List.take_of_length_le (by simp [h.1])] at this

theorem RB.first {w : World} {A : Option Addr} {n c : Nat} {xs : List UInt8} (h : RB w A n c xs) (k : Nat) (hk : k ≤ n) : RB w A k c (xs.take k) := by
  obtain ⟨h1, h2, h3, h4⟩ := h
  refine ⟨by simp; omega, by omega, h3, fun hp => ?_⟩
  obtain ⟨b, o, e, hc⟩ := h4 (by omega)
  refine ⟨b, o, e, fun j hj => ?_⟩
  rw [hc j (by omega)]
  simp [at8, List.getD_eq_getElem?_getD, hj]
theorem OFields.kept {w w1 w' : World} {base b : Nat} {v : Value} {l : List FieldD} (h : OFields w base v l) (h1 : OFields w1 base v l) (hg : w1.grownBy w' (some b)) (hb : w.heap.size ≤ b) : OFields w' base v l :=
  ⟨h1.row.kept hg (.inr fun e => by have := (h.row.lt _ e).2; omega), h.num, fun f hf => (h1.bytes f hf).kept hg (.inr fun e => by have := ((h.bytes f hf).lt _ e).2; omega), h.len⟩
theorem strOf_toList (xs : List UInt8) : (strOf xs).toList = xs := by
  rw [ByteArray.toList_eq]
  simp [strOf]
theorem str_eq (xs : List UInt8) : ((strOf xs).toList == (strOf xs).toList) = true := by simp
theorem str_ne {xs ys : List UInt8} (h : xs ≠ ys) : ((strOf xs).toList == (strOf ys).toList) = false := by
  rw [strOf_toList, strOf_toList, beq_eq_false_iff_ne]
  exact h
/-- The number of bytes. -/
def numOf (xs : List UInt8) : Nat := xs.foldl (fun n x => n * 256 + x.toNat) 0
theorem numOf_push (xs : List UInt8) (x : UInt8) : numOf (xs ++ [x]) = numOf xs * 256 + x.toNat := by simp [numOf]
theorem numOf_take (xs : List UInt8) (k : Nat) (h : k < xs.length) : numOf (xs.take (k + 1)) = numOf (xs.take k) * 256 + (at8 xs k).toNat := by
  rw [List.take_succ_eq_append_getElem h, numOf_push]
  simp [at8, List.getD_eq_getElem?_getD, h]
theorem numOf_lt (xs : List UInt8) (k : Nat) : numOf (xs.take k) < 256 ^ k := by
  induction k with
  | zero => simp [numOf]
  | succ k ih =>
    by_cases h : k < xs.length
    · rw [numOf_take xs k h, Nat.pow_succ]
      have := (at8 xs k).toNat_lt
      omega
    · rw [List.take_of_length_le (by omega)]
      rw [List.take_of_length_le (by omega)] at ih
      rw [Nat.pow_succ]
      omega
theorem numOf_small (xs : List UInt8) (k : Nat) (h : k ≤ 8) : numOf (xs.take k) < 18446744073709551616 := by
  have h1 := numOf_lt xs k
  have h2 : (256 : Nat) ^ k ≤ 256 ^ 8 := Nat.pow_le_pow_right (by decide) h
  omega
/-- A new block of fields. -/
theorem rfields_new {w : World} (l : List FieldD) (T : TypeId) (b : Nat) (hb : b = w.heap.size) (cs : Array Value) (hcs : cs.toList = fcells l) (hl : l.length ≤ 9223372036854775807) (hok : ∀ f ∈ l, FieldOk w f) : RFields (w.alloc (.cells cs T)) (some ⟨b, 0, none⟩) l.length l.length l := by
  subst hb
  refine ⟨rfl, Nat.le_refl _, hl, fun _ => ⟨_, _, rfl, fun k hk => ⟨fun j u hj => ?_, (hok _ (by rw [fieldAt_get hk]; exact List.getElem_mem _)).below (below_alloc _ _)⟩⟩⟩
  rw [World.cell?_alloc_mark, Nat.zero_add]
  have := fcells_get l k hk j u hj
  rw [← hcs] at this
  simpa using this
theorem rfields_nil (w : World) : RFields w none 0 0 [] := ⟨rfl, Nat.le_refl _, by omega, fun h => absurd h (by omega)⟩
end Go.Proofs.Ytanibabfdpgbbaa

/- What unpacking computes; no program in sight. -/
namespace Go.Proofs.Ytanibabfdpgbbaa

/-- A field out of bytes, after a letter, and how many bytes it took. -/
def decF (c : UInt8) (b : List UInt8) : Option ((Nat × List UInt8) × Nat) :=
  match letterW c with
  | none => none
  | some 0 => if b.length < 2 then none else if 1024 < numOf (b.take 2) then none else if b.length - 2 < numOf (b.take 2) then none else some ((0, (b.drop 2).take (numOf (b.take 2))), 2 + numOf (b.take 2))
  | some (w + 1) => if b.length < w + 1 then none else some ((numOf (b.take (w + 1)), []), w + 1)
/-- The fields of the first k letters, and where the bytes behind them begin. -/
def unTo (sh b : List UInt8) : Nat → Option (List (Nat × List UInt8) × Nat)
  | 0 => some ([], 0)
  | k + 1 => match unTo sh b k with
    | none => none
    | some (l, p) => (decF (at8 sh k) (b.drop p)).map fun r => (l ++ [r.1], p + r.2)
def unpackM (sh b : List UInt8) : Option (List (Nat × List UInt8)) :=
  if 200 < sh.length then none else match unTo sh b sh.length with
    | none => none
    | some (l, p) => if p = b.length then some l else none
theorem unTo_none {sh b : List UInt8} {k : Nat} (h : unTo sh b k = none) (m : Nat) (hm : k ≤ m) : unTo sh b m = none := by
  induction m with
  | zero => obtain rfl : k = 0 := by omega
            exact h
  | succ m ih =>
    by_cases e : k = m + 1
    · rw [← e]; exact h
    · rw [unTo, ih (by omega)]
theorem unTo_step {sh b : List UInt8} {k p : Nat} {l : List (Nat × List UInt8)} (h : unTo sh b k = some (l, p)) : unTo sh b (k + 1) = (decF (at8 sh k) (b.drop p)).map fun r => (l ++ [r.1], p + r.2) := by rw [unTo, h]
theorem unpackM_none {sh b : List UInt8} {k : Nat} (h : unTo sh b k = none) (hk : k ≤ sh.length) : unpackM sh b = none := by
  unfold unpackM
  rw [unTo_none h _ hk]
  simp
theorem unpackM_done {sh b : List UInt8} {l : List (Nat × List UInt8)} {p : Nat} (h : unTo sh b sh.length = some (l, p)) (hs : sh.length ≤ 200) : unpackM sh b = if p = b.length then some l else none := by
  unfold unpackM
  rw [if_neg (by omega), h]
theorem unpackM_long {sh b : List UInt8} (h : 200 < sh.length) : unpackM sh b = none := by
  unfold unpackM
  rw [if_pos h]
end Go.Proofs.Ytanibabfdpgbbaa
