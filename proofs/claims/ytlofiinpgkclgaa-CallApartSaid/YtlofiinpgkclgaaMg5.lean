/- labelBytes and the document's label: a label as bytes. -/
import Derived.Test.YtlofiinpgkclgaaMg4
import Derived.Test.YtlofiinpgkclgaaMg3
import Derived.Test.YtlofiinpgkclgaaMg2
import Derived.Laws.Bits64b
namespace Go.Proofs.Ytlofiinpgkclgaa
open Go.RowKit

/-- A number of one byte. -/
def Oct (z : Int) : Prop := 0 ≤ z ∧ z ≤ 255
instance (z : Int) : Decidable (Oct z) := by unfold Oct; infer_instance
/-- The byte of a number. -/
def byt (z : Int) : UInt8 := UInt8.ofNat z.toNat
theorem byt_of {z : Int} (h : Oct z) : ((byt z).toNat : Int) = z := by
  obtain ⟨h0, h1⟩ := h
  simp [byt] <;> omega
def lab1 (c : CatD) : List UInt8 := be c.id 8 ++ [byt c.lev]
theorem lab1_length (c : CatD) : (lab1 c).length = 9 := by simp [lab1, be_length]
def labTo (l : LabD) (k : Nat) : List UInt8 := byt l.dflt :: (l.cats.take k).flatMap lab1
theorem labTo_succ (l : LabD) (k : Nat) (h : k < l.cats.length) : labTo l (k + 1) = labTo l k ++ lab1 (atC l.cats k) := by
  have e : l.cats.take (k + 1) = l.cats.take k ++ [atC l.cats k] := by
    rw [List.take_succ_eq_append_getElem h]
    simp [atC, List.getD_eq_getElem?_getD, h]
  unfold labTo
  rw [e, List.flatMap_append]
  simp
theorem labTo_length (l : LabD) (k : Nat) (h : k ≤ l.cats.length) : (labTo l k).length = 1 + 9 * k := by
  induction k with
  | zero => simp [labTo]
  | succ k ih => rw [labTo_succ l k (by omega), List.length_append, ih (by omega), lab1_length]; omega
/-- A label as bytes. -/
def labBytes (l : LabD) : Option (List UInt8) := if l.cats.length ≤ 10 ∧ Oct l.dflt ∧ ∀ c ∈ l.cats, Oct c.lev then some (labTo l l.cats.length) else none
theorem labBytes_some {l : LabD} (h1 : l.cats.length ≤ 10) (h2 : Oct l.dflt) (h3 : ∀ j, j < l.cats.length → Oct (atC l.cats j).lev) : labBytes l = some (labTo l l.cats.length) := by
  unfold labBytes
  rw [if_pos]
  refine ⟨h1, h2, fun c hc => ?_⟩
  obtain ⟨j, hj, rfl⟩ := List.getElem_of_mem hc
  have := h3 j hj
  simpa [atC, List.getD_eq_getElem?_getD, hj] using this
theorem labBytes_none1 {l : LabD} (h : 10 < l.cats.length) : labBytes l = none := by
  unfold labBytes; rw [if_neg (by rintro ⟨h1, _⟩; omega)]
theorem labBytes_none2 {l : LabD} (h : ¬ Oct l.dflt) : labBytes l = none := by
  unfold labBytes; rw [if_neg (by rintro ⟨_, h1, _⟩; exact h h1)]
theorem labBytes_none3 {l : LabD} {k : Nat} (hk : k < l.cats.length) (h : ¬ Oct (atC l.cats k).lev) : labBytes l = none := by
  unfold labBytes
  rw [if_neg]
  rintro ⟨_, _, h3⟩
  refine h ?_
  have e : atC l.cats k = l.cats[k] := by simp [atC, List.getD_eq_getElem?_getD, hk]
  rw [e]
  exact h3 _ (List.getElem_mem _)
/-- What labelBytes answers and leaves (the document's label as well). -/
def LbPost (w : World) (r : Option (List UInt8)) (e : Ending) (w' : World) : Prop :=
  Below w.heap.size w w' ∧ ((∃ A c o, r = some o ∧ e = .returned (.tuple #[.slice A o.length c, .bool true]) ∧ RB w' A o.length c o) ∨ (r = none ∧ e = .returned (.tuple #[.slice none 0 0, .bool false])))
/-- A label in memory. -/
structure RLab (w : World) (A : Option Addr) (n c : Nat) (l : LabD) : Prop where
  cats : RCats w A n c l.cats
  ids : ∀ j, j < n → (atC l.cats j).id < 18446744073709551616
theorem RLab.below {w w' : World} {A : Option Addr} {n c : Nat} {l : LabD} (h : RLab w A n c l) (hb : Below w.heap.size w w') : RLab w' A n c l := ⟨h.cats.below hb, h.ids⟩
theorem pack81 (b : Nat) (id : Nat) (lev : Int) (h1 : id < 18446744073709551616) (h2 : Oct lev) : packM [56, 49] [⟨id, none, 0, 0, []⟩, ⟨lev.toNat, none, 0, 0, []⟩] = some (be id 8 ++ [byt lev]) := by
  refine (packM_iff _ _ _).2 ⟨by decide, rfl, ?_⟩
  have e1 : letterW 56 = some 8 := rfl
  have e2 : letterW 49 = some 1 := rfl
  obtain ⟨h0, h255⟩ := h2
  simp only [vals, List.map_cons, List.map_nil, packL, encV, e1, e2]
  rw [if_pos (show id < 256 ^ (7 + 1) by simpa using h1), if_pos (show lev.toNat < 256 ^ (0 + 1) by simp; omega)]
  simp [be, byt]
theorem octet_yes {z : Int} (h : Oct z) (w : World) : Calls Try.prog 18 #[.int .i64 z] w fun e w' => e = .returned (.bool true) ∧ w' = w := by
  have hc := call_octet z w
  rwa [decide_eq_true (show 0 ≤ z ∧ z ≤ 255 from h)] at hc
theorem octet_no {z : Int} (h : ¬ Oct z) (w : World) : Calls Try.prog 18 #[.int .i64 z] w fun e w' => e = .returned (.bool false) ∧ w' = w := by
  have hc := call_octet z w
  rwa [decide_eq_false (show ¬ (0 ≤ z ∧ z ≤ 255) from h)] at hc
set_option maxRecDepth 20000 in
set_option maxHeartbeats 3200000 in
theorem call_labelBytes (A : Option Addr) (n c : Nat) (l : LabD) (w : World) (hr : RLab w A n c l) (hd : -9223372036854775808 ≤ l.dflt ∧ l.dflt ≤ 9223372036854775807) :
    Calls Try.prog 17 #[.agg #[.int .i64 l.dflt, .slice A n c]] w (LbPost w (labBytes l)) := by
  have HR := Lib.hid hr
  have hl : l.cats.length = n := hr.cats.1
  have hnm : (n : Int) ≤ 9223372036854775807 := by have := hr.cats.2.1; have := hr.cats.2.2.1; omega
  have HB0 := Lib.hid (below_alloc w (.cells #[.int .i64 l.dflt, .slice A n c] 26))
  have b2 := Box2.new w 26 (.int .i64 l.dflt) (.slice A n c)
  clear hr
  generalize hdf : l.dflt = df at *
  go_enter Try.func17, Try.ntmps17
  by_cases h1 : n ≤ 10
  · have q1 : decide ((10 : Int) < (n : Int)) = false := decide_eq_false (by omega)
    by_cases h2 : 0 ≤ df ∧ df ≤ 255
    · have q2 : decide (0 ≤ df ∧ df ≤ 255) = true := decide_eq_true h2
      have hw0 : IntKind.u8.wrap df = df := by simp [IntKind.wrap, IntKind.signed, IntKind.bits]; omega
      have HBY : Hid (((byt df).toNat : Int) = df) := Lib.hid (byt_of h2)
      have HOD : Hid (Oct df) := Lib.hid h2
      clear hd h2 q2
      go_wp2_with fail
      refine (octet_yes HOD.out _).mono ?_
      rintro e w' ⟨rfl, rfl⟩
      go_wp2_with fail
      have hst : ((w.alloc (.cells #[.int .i64 df, .slice A n c] 26)).alloc (.cells #[.int .u8 df] 5)).ownsRow w.heap.size 5 1 (.slice (some ⟨w.heap.size + 1, 0, none⟩) 1 1) (1 + 9 * 0) (bv (labTo l 0)) := by
        have e : bv (labTo l 0) = [.int .u8 df] := by simp [labTo, bv, hdf, HBY.out]
        rw [e]
        have hh := heap_alloc_new (w.alloc (.cells #[.int .i64 df, .slice A n c] 26)) (.cells #[.int .u8 df] 5)
        rw [World.size_alloc] at hh
        exact ⟨rfl, .inr ⟨w.heap.size + 1, 1, #[.int .u8 df], rfl, by omega, hh, Nat.le_refl _, by simp [maxLen], rfl, rfl⟩⟩
      have HST := Lib.hid hst
      have HB1 := Lib.hid (balloc HB0.out (.cells #[.int .u8 df] 5))
      clear hst b2
      generalize (w.alloc (.cells #[.int .i64 df, .slice A n c] 26)).alloc (.cells #[.int .u8 df] 5) = w2 at *
      go_loopw [4, 26] (fun u i wr => ∃ k, k ≤ n ∧ i = .int .i64 (k : Nat) ∧ Hid (wr.ownsRow w.heap.size 5 1 u (1 + 9 * k) (bv (labTo l k))) ∧ Hid (Below w.heap.size w wr) ∧ Hid (∀ j, j < k → Oct (atC l.cats j).lev)) (fun _ i _ => n - (intOf i).toNat)
      case atStart => exact ⟨0, by omega, rfl, HST, HB1, Lib.hid fun j hj => absurd hj (by omega)⟩
      case round =>
        obtain ⟨k, hk, rfl, HV, HB, HO⟩ := hrel
        have hk0 : (0 : Int) ≤ (k : Int) := Int.natCast_nonneg _
        by_cases hlt : k < n
        · have hk1 : (k : Int) < (n : Int) := by omega
          obtain ⟨b, o, rfl, hcs⟩ := (HR.out.cats.below HB.out).2.2.2 (by omega)
          obtain ⟨g1, g2⟩ := hcs k hlt
          have HID : Hid ((atC l.cats k).id < 18446744073709551616) := Lib.hid (HR.out.ids k hlt)
          have HTS : Hid (labTo l (k + 1) = labTo l k ++ lab1 (atC l.cats k)) := Lib.hid (labTo_succ l k (by omega))
          have HNO : Hid (¬ Oct (atC l.cats k).lev → labBytes l = none) := Lib.hid (labBytes_none3 (by omega))
          have HYS : Hid (Oct (atC l.cats k).lev → ∀ j, j < k + 1 → Oct (atC l.cats j).lev) := Lib.hid (fun h j hj => by
            by_cases e : j = k
            · rw [e]; exact h
            · exact HO.out j (by omega))
          generalize atC l.cats k = ct at *
          obtain ⟨ci, cl⟩ := ct
          dsimp only at g1 g2 HID HNO HYS
          clear hcs
          by_cases h2 : 0 ≤ cl ∧ cl ≤ 255
          · have q3 : decide (0 ≤ cl ∧ cl ≤ 255) = true := decide_eq_true h2
            have HYS2 := Lib.hid (HYS.out h2)
            have HOC : Hid (Oct cl) := Lib.hid h2
            obtain ⟨m, rfl⟩ := Int.eq_ofNat_of_zero_le h2.1
            have hwm : IntKind.u64.wrap (m : Int) = (m : Int) := by simp [IntKind.wrap, IntKind.signed, IntKind.bits]; omega
            have HPK := Lib.hid (pack81 0 ci (m : Int) HID.out HOC.out)
            rw [Int.toNat_natCast] at HPK
            have hm9 : m < 18446744073709551616 := by omega
            clear h2 HYS HNO q3
            go_wp2_with fail
            refine (octet_yes HOC.out _).mono ?_
            rintro e w' ⟨rfl, rfl⟩
            go_wp2_with fail
            have hf := rfields_new (w := wr.alloc (.cells #[.int .u64 ci, .int .i64 m] 65)) [⟨ci, none, 0, 0, []⟩, ⟨m, none, 0, 0, []⟩] 52 (wr.heap.size + 1) (by simp) #[.int .u64 ci, .slice none 0 0, .int .u64 m, .slice none 0 0] rfl (by show 2 ≤ _; omega) (by
              intro f hf
              simp only [List.mem_cons, List.not_mem_nil, or_false] at hf
              rcases hf with rfl | rfl
              · exact ⟨HID.out, RB.nil _, Nat.zero_le _⟩
              · exact ⟨hm9, RB.nil _, Nat.zero_le _⟩)
            have hp := codec_Pack [56, 49] _ _ _ _ _ hf
            rw [HPK.out] at hp
            refine hp.mono ?_
            clear hp hf
            rintro e w3 ⟨hb3, ⟨v, o3, ho, rfl, hown3⟩ | ⟨hno, -⟩⟩
            · injection ho with ho
              subst ho
              obtain ⟨A3, c3, rfl, hrb3⟩ := own_rb hown3
              have hbw := bthen HB.out (bthen (balloc (below_alloc wr (.cells #[.int .u64 ci, .int .i64 m] 65)) (.cells #[.int .u64 ci, .slice none 0 0, .int .u64 m, .slice none 0 0] 52)) hb3)
              have hv3 := own_below HV.out (bthen (balloc (below_alloc wr (.cells #[.int .u64 ci, .int .i64 m] 65)) (.cells #[.int .u64 ci, .slice none 0 0, .int .u64 m, .slice none 0 0] 52)) hb3)
              rw [show (be ci 8 ++ [byt (m : Int)]).length = 9 by simp [be_length]] at hrb3 ⊢
              have HB3 := Lib.hid hbw; have HV3 := Lib.hid hv3; have HR3 := Lib.hid hrb3
              clear hbw hv3 hrb3 hown3 hb3
              go_wp2_with (at_builtin; go_must (refine wpList_append_any (w0 := w) w.heap.size rfl _ _ 27 5 (.int .u8 0) 1 1 rfl Try.underlying27 Try.infoU8' rfl (by decide) (by decide) u4 (1 + 9 * k) _ A3 9 c3 (bv (be ci 8 ++ [byt (m : Int)])) rfl rfl HV3.out HR3.out.rd (bv_one _) (by omega) HB3.out HB3.out.size ?_; intro v4 w4 hown4 hb4 hg4 ha4; have HO4 := Lib.hid hown4; have HB4 := Lib.hid hb4; clear hown4 hb4 hg4 ha4))
              go_roundw
              case rel => exact ⟨k + 1, by omega, by go_num, Lib.hid (by
                have := HO4.out
                rw [← bv_append, show 1 + 9 * k + 9 = 1 + 9 * (k + 1) by omega] at this
                rw [HTS.out]
                exact this), HB4, HYS2⟩
              case measure => simp [intOf]; omega
            · cases hno
          · have q3 : decide (0 ≤ cl ∧ cl ≤ 255) = false := decide_eq_false h2
            have HN := Lib.hid (HNO.out h2)
            have HOC : Hid (¬ Oct cl) := Lib.hid h2
            have HBX := Lib.hid (balloc HB.out (.cells #[.int .u64 ci, .int .i64 cl] 65))
            clear h2 HYS HNO q3
            go_wp2_with fail
            refine (octet_no HOC.out _).mono ?_
            rintro e w' ⟨rfl, rfl⟩
            go_wp2_with fail
            go_ret2
            exact ⟨HBX.out, .inr ⟨HN.out, rfl⟩⟩
        · obtain rfl : k = n := by omega
          obtain ⟨A5, c5, rfl, hr5⟩ := own_rb HV.out
          have HR5 := Lib.hid hr5
          have HLS : Hid (labBytes l = some (labTo l k)) := Lib.hid (by
            have := labBytes_some (l := l) (by omega) (by rw [hdf]; exact HOD.out) (by rw [hl]; exact HO.out)
            rwa [hl] at this)
          have HLL : Hid ((labTo l k).length = 1 + 9 * k) := Lib.hid (labTo_length l k (by omega))
          clear hr5
          go_wp2_with fail
          go_ret2
          exact ⟨HB.out, .inl ⟨A5, c5, labTo l k, HLS.out, by rw [HLL.out]; rfl, by rw [HLL.out]; exact HR5.out⟩⟩
    · have q2 : decide (0 ≤ df ∧ df ≤ 255) = false := decide_eq_false h2
      have HN : Hid (labBytes l = none) := Lib.hid (labBytes_none2 (by rw [hdf]; exact h2))
      have HOD : Hid (¬ Oct df) := Lib.hid h2
      clear hd h2 q2
      go_wp2_with fail
      refine (octet_no HOD.out _).mono ?_
      rintro e w' ⟨rfl, rfl⟩
      go_wp2_with fail
      go_ret2
      exact ⟨HB0.out, .inr ⟨HN.out, rfl⟩⟩
  · have q1 : decide ((10 : Int) < (n : Int)) = true := decide_eq_true (by omega)
    have HN : Hid (labBytes l = none) := Lib.hid (labBytes_none1 (by omega))
    go_wp2_with fail
    go_ret2
    exact ⟨HB0.out, .inr ⟨HN.out, rfl⟩⟩
end Go.Proofs.Ytlofiinpgkclgaa

/- Calls as data and as bytes; no program in sight but for the types' numbers. -/
namespace Go.Proofs.Ytlofiinpgkclgaa
open Go.RowKit

structure CallD where
  op : Int
  n : Int
  m : Int
  dir : Nat
  obj : Nat
  dir2 : Nat
  lab : LabD
  clr : LabD
  data : List UInt8
  bits : Nat
deriving DecidableEq
def shapeC : List UInt8 := [49, 50, 50, 56, 56, 56, 98, 98, 98, 56]
def valsC (x : CallD) (a b : List UInt8) : List V := [(x.op.toNat, []), (x.n.toNat, []), (x.m.toNat, []), (x.dir, []), (x.obj, []), (x.dir2, []), (0, a), (0, b), (0, x.data), (x.bits, [])]
def CallOk (x : CallD) : Prop := Oct x.op ∧ 0 ≤ x.n ∧ 0 ≤ x.m ∧ x.data.length ≤ 128
instance (x : CallD) : Decidable (CallOk x) := by unfold CallOk; infer_instance
/-- A call as bytes. -/
def writeM (x : CallD) : Option (List UInt8) := match labBytes x.lab, labBytes x.clr with
  | some a, some b => if CallOk x then packL shapeC (valsC x a b) else none
  | _, _ => none
theorem packM_eqL (sh : List UInt8) (l : List FieldD) (h1 : sh.length ≤ 200) (h2 : sh.length = l.length) : packM sh l = packL sh (vals l) := by
  apply Option.ext
  intro x
  rw [packM_iff]
  exact ⟨fun h => h.2.2, fun h => ⟨h1, h2, h⟩⟩
theorem labBytes_le {l : LabD} {a : List UInt8} (h : labBytes l = some a) : a.length ≤ 91 := by
  unfold labBytes at h
  split at h
  · rename_i hc
    injection h with h
    rw [← h, labTo_length _ _ (Nat.le_refl _)]
    omega
  · cases h
/-- The call is small: its bytes. -/
theorem pack_small {x : CallD} {a b : List UInt8} (h : CallOk x) (hn : x.n ≤ 65535) (hm : x.m ≤ 65535) (hd : x.dir < 18446744073709551616 ∧ x.obj < 18446744073709551616 ∧ x.dir2 < 18446744073709551616 ∧ x.bits < 18446744073709551616) (ha : a.length ≤ 91) (hb : b.length ≤ 91) :
    packL shapeC (valsC x a b) = some (be x.op.toNat 1 ++ (be x.n.toNat 2 ++ (be x.m.toNat 2 ++ (be x.dir 8 ++ (be x.obj 8 ++ (be x.dir2 8 ++ ((be a.length 2 ++ a) ++ ((be b.length 2 ++ b) ++ ((be x.data.length 2 ++ x.data) ++ (be x.bits 8 ++ [])))))))))) := by
  obtain ⟨⟨h0, h1⟩, h2, h3, h4⟩ := h
  obtain ⟨d1, d2, d3, d4⟩ := hd
  have e1 : letterW 49 = some 1 := rfl
  have e2 : letterW 50 = some 2 := rfl
  have e8 : letterW 56 = some 8 := rfl
  have eb : letterW 98 = some 0 := rfl
  have p8 : (256 : Nat) ^ (7 + 1) = 18446744073709551616 := by decide
  simp only [shapeC, valsC, packL, encV, e1, e2, e8, eb]
  rw [if_pos (show x.op.toNat < 256 ^ (0 + 1) by simp; omega), if_pos (show x.n.toNat < 256 ^ (1 + 1) by simp; omega), if_pos (show x.m.toNat < 256 ^ (1 + 1) by simp; omega), if_pos (show x.dir < 256 ^ (7 + 1) by rw [p8]; exact d1), if_pos (show x.obj < 256 ^ (7 + 1) by rw [p8]; exact d2), if_pos (show x.dir2 < 256 ^ (7 + 1) by rw [p8]; exact d3), if_neg (show ¬ 1024 < a.length by omega), if_neg (show ¬ 1024 < b.length by omega), if_neg (show ¬ 1024 < x.data.length by omega), if_pos (show x.bits < 256 ^ (7 + 1) by rw [p8]; exact d4)]
theorem pack_big {x : CallD} {a b : List UInt8} (h : 65535 < x.n ∨ 65535 < x.m) : packL shapeC (valsC x a b) = none := by
  have e2 : letterW 50 = some 2 := rfl
  simp only [shapeC, valsC, packL]
  rcases h with h | h
  · have : encV 50 (x.n.toNat, []) = none := by simp only [encV, e2]; rw [if_neg (show ¬ x.n.toNat < 256 ^ (1 + 1) by simp; omega)]
    rw [this]
    split <;> simp_all
  · have : encV 50 (x.m.toNat, []) = none := by simp only [encV, e2]; rw [if_neg (show ¬ x.m.toNat < 256 ^ (1 + 1) by simp; omega)]
    rw [this]
    split <;> simp_all
/-- Where a call's three slices lie. -/
structure CallP where
  A1 : Option Addr
  n1 : Nat
  c1 : Nat
  A2 : Option Addr
  n2 : Nat
  c2 : Nat
  A3 : Option Addr
  n3 : Nat
  c3 : Nat
def callCells (x : CallD) (p : CallP) : Array Value := #[.int .i64 x.op, .int .i64 x.n, .int .i64 x.m, .int .u64 x.dir, .int .u64 x.obj, .int .u64 x.dir2, .int .i64 x.lab.dflt, .slice p.A1 p.n1 p.c1, .int .i64 x.clr.dflt, .slice p.A2 p.n2 p.c2, .slice p.A3 p.n3 p.c3, .int .u64 x.bits]
def callV (x : CallD) (p : CallP) : Value := .agg (callCells x p)
def I64 (z : Int) : Prop := -9223372036854775808 ≤ z ∧ z ≤ 9223372036854775807
/-- A call in memory. -/
structure RCall (w : World) (x : CallD) (p : CallP) : Prop where
  lab : RLab w p.A1 p.n1 p.c1 x.lab
  clr : RLab w p.A2 p.n2 p.c2 x.clr
  data : RB w p.A3 p.n3 p.c3 x.data
  dlen : p.n3 ≤ 140737488351232
  op : I64 x.op
  n : I64 x.n
  m : I64 x.m
  ld : I64 x.lab.dflt
  cd : I64 x.clr.dflt
  big : x.dir < 18446744073709551616 ∧ x.obj < 18446744073709551616 ∧ x.dir2 < 18446744073709551616 ∧ x.bits < 18446744073709551616
theorem RCall.below {w w' : World} {x : CallD} {p : CallP} (h : RCall w x p) (hb : Below w.heap.size w w') : RCall w' x p :=
  ⟨h.lab.below hb, h.clr.below hb, h.data.below hb, h.dlen, h.op, h.n, h.m, h.ld, h.cd, h.big⟩
/-- What Write answers and leaves (the document's as well). -/
def WrPost (w : World) (r : Option (List UInt8)) (e : Ending) (w' : World) : Prop :=
  Below w.heap.size w w' ∧ ((∃ A c o, r = some o ∧ e = .returned (.tuple #[.slice A o.length c, .int .i64 0]) ∧ RB w' A o.length c o) ∨ (r = none ∧ e = .returned (.tuple #[.slice none 0 0, .int .i64 191])))
/-- The twelve cells of a call's box. -/
structure Box12 (W : World) (B : Nat) (x : CallD) (p : CallP) : Prop where
  heap : W.heap[B]? = some (.cells (callCells x p) 29 (0, 0))
theorem Box12.new (w : World) (x : CallD) (p : CallP) : Box12 (w.alloc (.cells (callCells x p) 29)) w.heap.size x p := ⟨World.alloc_heap_new w _⟩
theorem Box12.lt {W : World} {B : Nat} {x : CallD} {p : CallP} (h : Box12 W B x p) : B < W.heap.size := (Array.getElem?_eq_some_iff.1 h.heap).1
theorem Box12.below {W W' : World} {B : Nat} {x : CallD} {p : CallP} (h : Box12 W B x p) (hb : Below W.heap.size W W') : Box12 W' B x p := ⟨(hb.block B h.lt).trans h.heap⟩
theorem Box12.cells {W : World} {B : Nat} {x : CallD} {p : CallP} (h : Box12 W B x p) :
    W.cell? ⟨B, 0, none⟩ = some (.int .i64 x.op) ∧ W.cell? ⟨B, 1, none⟩ = some (.int .i64 x.n) ∧ W.cell? ⟨B, 2, none⟩ = some (.int .i64 x.m) ∧ W.cell? ⟨B, 3, none⟩ = some (.int .u64 x.dir) ∧ W.cell? ⟨B, 4, none⟩ = some (.int .u64 x.obj) ∧ W.cell? ⟨B, 5, none⟩ = some (.int .u64 x.dir2) ∧
    W.cell? ⟨B, 6, none⟩ = some (.int .i64 x.lab.dflt) ∧ W.cell? ⟨B, 7, none⟩ = some (.slice p.A1 p.n1 p.c1) ∧ W.cell? ⟨B, 8, none⟩ = some (.int .i64 x.clr.dflt) ∧ W.cell? ⟨B, 9, none⟩ = some (.slice p.A2 p.n2 p.c2) ∧ W.cell? ⟨B, 10, none⟩ = some (.slice p.A3 p.n3 p.c3) ∧ W.cell? ⟨B, 11, none⟩ = some (.int .u64 x.bits) := by
  have hh := h.heap
  refine ⟨?_, ?_, ?_, ?_, ?_, ?_, ?_, ?_, ?_, ?_, ?_, ?_⟩ <;> (rw [cell_of_row _ _ _ _ _ _ hh]; rfl)
/-- A row of fields of one's own whose bytes are read. -/
theorem own_rfields {w : World} {base : Nat} {v : Value} {l : List FieldD} (h : w.ownsRow base 52 2 v l.length (fcells l)) (ok : ∀ f ∈ l, FieldOk w f) : ∃ A c, v = .slice A l.length c ∧ RFields w A l.length c l := by
  rcases h.2 with ⟨rfl, h0⟩ | ⟨g, cap, cur, rfl, _, hg, hnc, hcm, _⟩
  · rw [h0]
    exact ⟨none, 0, rfl, h0, Nat.le_refl _, by omega, fun hp => absurd hp (by omega)⟩
  · refine ⟨_, cap, rfl, rfl, hnc, by simpa [maxLen] using hcm, fun _ => ⟨g, 0, rfl, fun k hk => ⟨fun j u hj => ?_, ok _ (by rw [fieldAt_get hk]; exact List.getElem_mem _)⟩⟩⟩
    have := h.cells (g := g) rfl (k * 2 + j) u (fcells_get l k hk j u hj)
    rw [add_none] at this
    rw [Nat.zero_add]
    simpa using this
end Go.Proofs.Ytlofiinpgkclgaa

/- The codec's reader: take and num; the reference's number. -/
namespace Go.Proofs.Ytlofiinpgkclgaa
open Go.RowKit

/-- What is left of a slice value behind k. -/
def restV (A : Option Addr) (n c k : Nat) : Value := .slice (cutA A c k) (n - k) (c - k)
set_option maxRecDepth 20000 in
set_option maxHeartbeats 1600000 in
theorem take_fit (g : Nat) (A : Option Addr) (n c k : Nat) (w : World) (hc : w.cell? ⟨g, 0, none⟩ = some (.slice A n c)) (hf : w.frozen? ⟨g, 0, none⟩ = false) (hk : k ≤ n) (hnc : n ≤ c) (_hcm : c ≤ 9223372036854775807) :
    Calls Try.prog 41 #[.pointer (some ⟨g, 0, none⟩), .int .i64 k] w fun e w' => e = .returned (.slice A k c) ∧ w' = w.setCell ⟨g, 0, none⟩ (restV A n c k) := by
  have hd : decide (n < k) = false := decide_eq_false (by omega)
  have hk0 : (0 : Int) ≤ (k : Int) := Int.natCast_nonneg _
  have hk1 : (k : Int) ≤ (c : Int) := by omega
  have hk2 : (k : Int) ≤ (n : Int) := by omega
  go_enter Try.func41, Try.ntmps41
  go_wp2_with fail
  refine (fail_no _).mono ?_
  rintro e w' ⟨rfl, rfl⟩
  go_wp2_with fail
  all_goals
    go_ret
    refine ⟨rfl, ?_⟩
    simp [restV, cutA, *]
theorem take_unfit (g : Nat) (A : Option Addr) (n c k : Nat) (w : World) (hc : w.cell? ⟨g, 0, none⟩ = some (.slice A n c)) (hk : n < k) :
    Calls Try.prog 41 #[.pointer (some ⟨g, 0, none⟩), .int .i64 k] w fun e w' => e = .panicked gaveUp ∧ w = w' := by
  have hd : decide (n < k) = true := decide_eq_true (by omega)
  go_enter Try.func41, Try.ntmps41
  go_wp2_with fail
  refine (fail_yes _).mono ?_
  rintro e w' ⟨rfl, rfl⟩
  exact ⟨rfl, rfl, rfl⟩

set_option maxRecDepth 20000 in
set_option maxHeartbeats 1600000 in
theorem num_unfit (g : Nat) (A : Option Addr) (n c k : Nat) (w : World) (hc : w.cell? ⟨g, 0, none⟩ = some (.slice A n c)) (hk : n < k) :
    Calls Try.prog 40 #[.pointer (some ⟨g, 0, none⟩), .int .i64 k] w fun e w' => e = .panicked gaveUp ∧ w = w' := by
  go_enter Try.func40, Try.ntmps40
  go_wp2_with fail
  refine (take_unfit g A n c k w hc hk).mono ?_
  rintro e w' ⟨rfl, rfl⟩
  exact ⟨rfl, rfl, rfl⟩
set_option maxRecDepth 20000 in
theorem or_byte (m : Nat) (x : UInt8) (h : m * 256 + x.toNat < 18446744073709551616) : bits .or .u64 ((m : Int) * 256) (x.toNat : Int) = ((m * 256 + x.toNat : Nat) : Int) := by
  have hx := x.toNat_lt
  have h2 := Nat.two_pow_add_eq_or_of_lt (i := 8) (b := x.toNat) hx m
  rw [show (2 : Nat) ^ 8 = 256 from rfl, Nat.mul_comm 256 m] at h2
  have h3 := bits_or_u64_nat (m * 256) x.toNat (by omega) (by omega)
  rw [Int.natCast_mul] at h3
  rw [h2]
  exact h3
set_option maxRecDepth 20000 in
set_option maxHeartbeats 1600000 in
theorem num_fit (g : Nat) (A : Option Addr) (n c k : Nat) (xs : List UInt8) (w : World) (hc : w.cell? ⟨g, 0, none⟩ = some (.slice A n c)) (hf : w.frozen? ⟨g, 0, none⟩ = false) (hk : k ≤ n) (hk8 : k ≤ 8)
    (hr : RB (w.setCell ⟨g, 0, none⟩ (restV A n c k)) A n c xs) :
    Calls Try.prog 40 #[.pointer (some ⟨g, 0, none⟩), .int .i64 k] w fun e w' => e = .returned (.int .u64 (numOf (xs.take k))) ∧ w' = w.setCell ⟨g, 0, none⟩ (restV A n c k) := by
  have hnc := hr.2.1
  have hcm := hr.2.2.1
  have HR := Lib.hid hr
  clear hr
  go_enter Try.func40, Try.ntmps40
  go_wp2_with fail
  refine (take_fit g A n c k w hc hf hk hnc hcm).mono ?_
  rintro e w' ⟨rfl, rfl⟩
  generalize hw1 : w.setCell ⟨g, 0, none⟩ (restV A n c k) = w1 at *
  have HW1 := Lib.hid hw1
  clear hc hf hw1
  go_wp2_with fail
  go_loopw [5, 12] (fun u i wr => ∃ j, j ≤ k ∧ i = .int .i64 (j : Nat) ∧ u = .int .u64 (numOf (xs.take j)) ∧ wr = w1) (fun _ i _ => k - (intOf i).toNat)
  case atStart => exact ⟨0, by omega, rfl, rfl, rfl⟩
  case round =>
    obtain ⟨j, hj, rfl, rfl, rfl⟩ := hrel
    by_cases hlt : j < k
    · have hj0 : (0 : Int) ≤ (j : Int) := Int.natCast_nonneg _
      have hj1 : (j : Int) < (k : Int) := by omega
      obtain ⟨b, o, rfl, hcells⟩ := HR.out.2.2.2 (by omega)
      have hcell := hcells j (by omega)
      have hnt := numOf_take xs j (by rw [HR.out.1]; omega)
      have hsm := numOf_small xs (j + 1) (by omega)
      rw [hnt] at hsm
      have hx := (at8 xs j).toNat_lt
      have HT := Lib.hid hnt
      clear hcells hnt
      generalize numOf (xs.take j) = m at *
      generalize at8 xs j = x at *
      go_wp2_with fail
      go_roundw
      case rel => exact ⟨j + 1, by omega, by go_num, by rw [HT.out, or_byte m x (by omega)], trivial⟩
      case measure => simp [intOf]; omega
    · obtain rfl : j = k := by omega
      go_wp2_with fail
      go_ret
      exact ⟨rfl, HW1.out.symm⟩
end Go.Proofs.Ytlofiinpgkclgaa

/- The codec's unpack. -/
namespace Go.Proofs.Ytlofiinpgkclgaa
open Go.RowKit

/-- What unpack does with memory. -/
def UnPost (w : World) (r : Option (List (Nat × List UInt8))) (e : Ending) (w' : World) : Prop :=
  (∃ v lk, r = some (vals lk) ∧ e = .returned v ∧ OFields w' w.heap.size v lk ∧ Below w.heap.size w w') ∨ (r = none ∧ e = .panicked gaveUp ∧ Below w.heap.size w w')
/-- The reader: its cell, in a block of its own. -/
structure Reads (w0 w : World) (A : Option Addr) (n c : Nat) (xs : List UInt8) : Prop where
  cell : w.cell? ⟨w0.heap.size, 0, none⟩ = some (.slice A n c)
  fz : w.frozen? ⟨w0.heap.size, 0, none⟩ = false
  rb : RB w0 A n c xs
  below : Below w0.heap.size w0 w
  size : w0.heap.size + 1 ≤ w.heap.size
section
variable {w0 w w' : World} {A : Option Addr} {n c : Nat} {xs : List UInt8}
theorem Reads.alloc (h : Reads w0 w A n c xs) (o : Obj) : Reads w0 (w.alloc o) A n c xs :=
  ⟨(World.cell?_alloc_past _ _ _ h.size).trans h.cell, by rw [World.frozen?_of_block (a := ⟨w0.heap.size, 0, none⟩) (Go.heap_alloc_old w o (by have := h.size; show w0.heap.size < w.heap.size; omega))]; exact h.fz, h.rb, h.below.alloc h.below.size o, by simp; have := h.size; omega⟩
theorem Reads.on (h : Reads w0 w A n c xs) (hb : Below (w0.heap.size + 1) w w') : Reads w0 w' A n c xs :=
  ⟨(World.cell?_of_block (hb.block _ (by simp))).trans h.cell, by rw [World.frozen?_of_block (hb.block _ (by simp))]; exact h.fz, h.rb, h.below.trans (hb.mono (by omega)), Nat.le_trans h.size hb.size⟩
theorem Reads.took (h : Reads w0 w A n c xs) (k : Nat) (hk : k ≤ n) : Reads w0 (w.setCell ⟨w0.heap.size, 0, none⟩ (restV A n c k)) (cutA A c k) (n - k) (c - k) (xs.drop k) :=
  ⟨World.cell?_setCell_same _ _ _ h.cell, by rw [World.frozen?_setCell]; exact h.fz, h.rb.rest k hk, h.below.setCell (Nat.le_refl _) _, by simp [World.setCell]; exact h.size⟩
theorem Reads.tookRB (h : Reads w0 w A n c xs) (k : Nat) : RB (w.setCell ⟨w0.heap.size, 0, none⟩ (restV A n c k)) A n c xs := h.rb.below (h.below.setCell (Nat.le_refl _) _)
end
set_option maxRecDepth 20000 in
set_option maxHeartbeats 3200000 in
theorem codec_unpack_main (sh : List UInt8) (A : Option Addr) (n c : Nat) (bs : List UInt8) (w : World) (hr : RB w A n c bs) (hs : sh.length ≤ 200) :
    Calls Try.prog 33 #[.string (strOf sh), .slice A n c] w (UnPost w (unpackM sh bs)) := by
  have HR := Lib.hid hr
  generalize hm : sh.length = m at *
  have hsz : (strOf sh).size = m := by simp [strOf, hm, ByteArray.size]
  have hd : decide ((200 : Int) < (m : Int)) = false := decide_eq_false (by omega)
  have HM := Lib.hid hm
  clear hr hm
  go_enter Try.func33, Try.ntmps33
  go_wp2_with fail
  refine (fail_no _).mono ?_
  rintro e w' ⟨rfl, rfl⟩
  go_wp2_with fail
  have h0 : Reads w (w.alloc (.cells #[.slice A n c] 81)) A n c bs :=
    ⟨by simp [go_sem], by simp [go_sem], HR.out, below_alloc _ _, by simp⟩
  have H0 := Lib.hid h0
  clear h0
  go_loopw [6, 19] (fun u i wr => ∃ k p lk A' n' c', k ≤ m ∧ i = .int .i64 (k : Nat) ∧ Hid (unTo sh bs k = some (vals lk, p)) ∧ Hid (OFields wr (w.heap.size + 1) u lk) ∧ Hid (lk.length = k) ∧ Hid (Reads w wr A' n' c' (bs.drop p)) ∧ Hid (p ≤ bs.length)) (fun _ i _ => m - (intOf i).toNat)
  case atStart => exact ⟨0, 0, [], A, n, c, by omega, rfl, Lib.hid rfl, Lib.hid ⟨World.ownsRow_nil _ _ _ _, by simp, by simp, by simp⟩, Lib.hid rfl, H0, Lib.hid (Nat.zero_le _)⟩
  case round =>
    obtain ⟨k, p, lk, A', n', c', hk, rfl, HP, HO, HK, HRD, HPB⟩ := hrel
    by_cases hlt : k < m
    · have hk0 : (0 : Int) ≤ (k : Int) := Int.natCast_nonneg _
      have hk1 : (k : Int) < (m : Int) := by omega
      have hst := unTo_step HP.out
      have hg := strOf_get sh k
      have HNO : Hid (unTo sh bs (k + 1) = none → unpackM sh bs = none) := Lib.hid fun h => unpackM_none h (by rw [HM.out]; omega)
      have hbl : (bs.drop p).length = n' := HRD.out.rb.1
      generalize hys : bs.drop p = ys at *
      generalize at8 sh k = ch at hst hg
      have hcl := HRD.out.cell
      rcases letterW_cases ch with hlw | ⟨hlw, rfl⟩ | ⟨wd, hlw, hcw⟩
      · have HST : Hid (unTo sh bs (k + 1) = none) := Lib.hid (by rw [hst, decF, hlw]; rfl)
        have HW := Lib.hid (width_none ch hlw)
        clear hst hlw
        go_wp2_with fail
        refine (HW.out _).mono ?_
        rintro e w' ⟨rfl, rfl⟩
        exact ⟨rfl, .inr ⟨HNO.out HST.out, rfl, HRD.out.below⟩⟩
      · by_cases h2 : n' < 2
        · have HST : Hid (unTo sh bs (k + 1) = none) := Lib.hid (by rw [hst, decF, hlw]; simp only []; rw [if_pos (by rw [hbl]; exact h2)]; rfl)
          clear hst hlw
          go_wp2_with fail
          refine (width_b _).mono ?_
          rintro e w' ⟨rfl, rfl⟩
          go_wp2_with fail
          refine (num_unfit w.heap.size A' n' c' 2 wr hcl h2).mono ?_
          rintro e w' ⟨rfl, rfl⟩
          exact ⟨rfl, .inr ⟨HNO.out HST.out, rfl, HRD.out.below⟩⟩
        · have HNF := Lib.hid (num_fit w.heap.size A' n' c' 2 ys wr hcl HRD.out.fz (by omega) (by omega) (HRD.out.tookRB 2))
          have HT := Lib.hid (HRD.out.took 2 (by omega))
          have hsm := numOf_lt ys 2
          have HO2 := Lib.hid (HO.out.set ⟨w.heap.size, 0, none⟩ (restV A' n' c' 2) (by simp))
          by_cases h1024 : 1024 < numOf (ys.take 2)
          · have HST : Hid (unTo sh bs (k + 1) = none) := Lib.hid (by rw [hst, decF, hlw]; simp only []; rw [if_neg (by rw [hbl]; exact h2), if_pos h1024]; rfl)
            generalize numOf (ys.take 2) = v at *
            have hv0 : (0 : Int) ≤ (v : Int) := Int.natCast_nonneg _
            have hv1 : (v : Int) < 65536 := by omega
            have hd1 : decide ((1024 : Int) < (v : Int)) = true := decide_eq_true (by omega)
            clear hst hlw
            go_wp2_with fail
            refine (width_b _).mono ?_
            rintro e w' ⟨rfl, rfl⟩
            go_wp2_with fail
            refine HNF.out.mono ?_
            rintro e w' ⟨rfl, rfl⟩
            go_wp2_with fail
            refine (fail_yes _).mono ?_
            rintro e w' ⟨rfl, rfl⟩
            exact ⟨rfl, .inr ⟨HNO.out HST.out, rfl, HT.out.below⟩⟩
          · have hdec : decF 98 ys = if ys.length - 2 < numOf (ys.take 2) then none else some ((0, (ys.drop 2).take (numOf (ys.take 2))), 2 + numOf (ys.take 2)) := by
              rw [decF, hlw]; simp only []; rw [if_neg (by rw [hbl]; exact h2), if_neg h1024]
            generalize numOf (ys.take 2) = v at *
            have hv0 : (0 : Int) ≤ (v : Int) := Int.natCast_nonneg _
            have hv1 : (v : Int) ≤ 1024 := by omega
            have hd1 : decide ((1024 : Int) < (v : Int)) = false := decide_eq_false (by omega)
            have hwrap : IntKind.i64.wrap (v : Int) = (v : Int) := by simp [IntKind.wrap, IntKind.signed, IntKind.bits]; omega
            by_cases hfit : n' - 2 < v
            · have HST : Hid (unTo sh bs (k + 1) = none) := Lib.hid (by rw [hst, hdec, if_pos (by rw [hbl]; exact hfit)]; rfl)
              clear hst hlw hdec
              go_wp2_with fail
              refine (width_b _).mono ?_
              rintro e w' ⟨rfl, rfl⟩
              go_wp2_with fail
              refine HNF.out.mono ?_
              rintro e w' ⟨rfl, rfl⟩
              generalize wr.setCell ⟨w.heap.size, 0, none⟩ (restV A' n' c' 2) = w2 at *
              clear HNF
              go_wp2_with fail
              refine (fail_no _).mono ?_
              rintro e w' ⟨rfl, rfl⟩
              go_wp2_with fail
              refine (take_unfit w.heap.size (cutA A' c' 2) (n' - 2) (c' - 2) v _ (HT.out.alloc _).cell hfit).mono ?_
              rintro e w' ⟨rfl, rfl⟩
              exact ⟨rfl, .inr ⟨HNO.out HST.out, rfl, (HT.out.alloc _).below⟩⟩
            · have HST : Hid (unTo sh bs (k + 1) = some (vals lk ++ [(0, (ys.drop 2).take v)], p + (2 + v))) := Lib.hid (by rw [hst, hdec, if_neg (by rw [hbl]; exact hfit)]; rfl)
              clear hst hlw hdec
              go_wp2_with fail
              refine (width_b _).mono ?_
              rintro e w' ⟨rfl, rfl⟩
              go_wp2_with fail
              refine HNF.out.mono ?_
              rintro e w' ⟨rfl, rfl⟩
              generalize wr.setCell ⟨w.heap.size, 0, none⟩ (restV A' n' c' 2) = w2 at *
              clear HNF
              go_wp2_with fail
              refine (fail_no _).mono ?_
              rintro e w' ⟨rfl, rfl⟩
              go_wp2_with fail
              have ha := HT.out.alloc (.cells #[] 5)
              refine (take_fit w.heap.size (cutA A' c' 2) (n' - 2) (c' - 2) v _ ha.cell ha.fz (by omega) ha.rb.2.1 ha.rb.2.2.1).mono ?_
              rintro e w' ⟨rfl, rfl⟩
              have h3 := Lib.hid (ha.took v (by omega))
              have he3 := Lib.hid (own_set (own_empty w2 (w.heap.size + 1) 5 1 HT.out.size) ⟨w.heap.size, 0, none⟩ (restV (cutA A' c' 2) (n' - 2) (c' - 2) v) (fun e => by
                have := HT.out.size
                simp [Value.ownBlock] at e
                omega))
              have ho3 := Lib.hid ((HO2.out.alloc (.cells #[] 5)).set ⟨w.heap.size, 0, none⟩ (restV (cutA A' c' 2) (n' - 2) (c' - 2) v) (by simp))
              have hz3 : Hid (w2.heap.size < ((w2.alloc (.cells #[] 5)).setCell ⟨w.heap.size, 0, none⟩ (restV (cutA A' c' 2) (n' - 2) (c' - 2) v)).heap.size) := Lib.hid (by simp [World.setCell])
              have hrf := Lib.hid (ha.rb.first v (by omega))
              generalize (w2.alloc (.cells #[] 5)).setCell ⟨w.heap.size, 0, none⟩ (restV (cutA A' c' 2) (n' - 2) (c' - 2) v) = w3 at *
              have hlen3 : Hid (((ys.drop 2).take v).length = v) := Lib.hid hrf.out.1
              generalize hzs : (ys.drop 2).take v = zs at *
              clear ha hwrap
              go_wp2_with (at_builtin; first
                | (refine wpList_append_any (w0 := w3) (w.heap.size + 1) rfl _ _ 27 5 (.int .u8 0) 1 1 rfl Try.underlying27 Try.infoU8' rfl (by decide) (by decide) (.slice (some ⟨w2.heap.size, 0, none⟩) 0 0) 0 [] (cutA A' c' 2) v (c' - 2) (bv zs) rfl rfl he3.out ((hrf.out.below h3.out.below).rd) (bv_one _) (by omega) (Below.refl _ _) h3.out.size ?_
                   intro v4 w4 hown4 hb4 hg4 ha4
                   rw [Nat.zero_add, List.nil_append] at hown4
                   obtain ⟨A1, c1, rfl, -⟩ := own_rb hown4
                   have h4 := Lib.hid (h3.out.on hb4)
                   have ho4 := Lib.hid (HO2.out.kept ho3.out hg4 (Nat.le_refl _))
                   have HO4 := Lib.hid hown4
                   clear hown4 hb4 hg4 ha4)
                | (refine wpList_append_any (w0 := w4.alloc (.cells #[.int .u64 0, .slice A1 v c1] 52)) (w.heap.size + 1) rfl _ _ 49 52 (.agg #[.int .u64 0, .slice none 0 0]) 2 32 rfl Try.underlying49 Try.info87 rfl (by decide) (by decide) u6 lk.length (fcells lk) (some ⟨w4.heap.size, 0, none⟩) 1 1 [.int .u64 0, .slice A1 v c1] rfl rfl (ho4.out.alloc _).row ⟨rfl, fun _ => ⟨_, _, rfl, fun j v hj => by rw [World.cell?_alloc_mark, Nat.zero_add]; simpa using hj⟩⟩ (by simp [Value.oneCell']) (by rw [HK.out]; omega) (Below.refl _ _) (h4.out.alloc _).size ?_
                   intro v5 w5 hown5 hb5 hg5 ha5
                   have h5 := Lib.hid ((h4.out.alloc _).on hb5)
                   have ho5 : Hid (OFields w5 (w.heap.size + 1) v5 (lk ++ [⟨0, A1, v, c1, zs⟩])) := Lib.hid ((ho4.out.alloc _).push ⟨0, A1, v, c1, zs⟩ (by simp) (by simp; omega) (HO4.out.alloc _) hg5 hown5)
                   clear hown5 hb5 hg5 ha5))
              go_roundw
              case rel => exact ⟨k + 1, p + (2 + v), lk ++ [⟨0, A1, v, c1, zs⟩], _, _, _, by omega, by go_num, Lib.hid (by rw [HST.out]; simp [vals]), ho5, Lib.hid (by rw [List.length_append, HK.out]; rfl), by
                have := h5.out
                rw [← hys, List.drop_drop, List.drop_drop] at this
                exact Lib.hid this, Lib.hid (by
                have h1 := hbl
                rw [← hys, List.length_drop] at h1
                omega)⟩
              case measure => simp [intOf]; omega
      · have HW := Lib.hid (width_digit ch (wd + 1) hcw)
        have hw8 : wd + 1 ≤ 8 := by omega
        have hw0 : (0 : Int) < ((wd + 1 : Nat) : Int) := by omega
        by_cases h2 : n' < wd + 1
        · have HST : Hid (unTo sh bs (k + 1) = none) := Lib.hid (by rw [hst, decF, hlw]; simp only []; rw [if_pos (by rw [hbl]; exact h2)]; rfl)
          clear hst hlw hcw
          go_wp2_with fail
          refine (HW.out _).mono ?_
          rintro e w' ⟨rfl, rfl⟩
          generalize hwi : wd + 1 = wi at *
          clear HW
          go_wp2_with fail
          refine (num_unfit w.heap.size A' n' c' wi wr hcl h2).mono ?_
          rintro e w' ⟨rfl, rfl⟩
          exact ⟨rfl, .inr ⟨HNO.out HST.out, rfl, HRD.out.below⟩⟩
        · have HST : Hid (unTo sh bs (k + 1) = some (vals lk ++ [(numOf (ys.take (wd + 1)), [])], p + (wd + 1))) := Lib.hid (by rw [hst, decF, hlw]; simp only []; rw [if_neg (by rw [hbl]; exact h2)]; rfl)
          clear hst hlw hcw
          go_wp2_with fail
          refine (HW.out _).mono ?_
          rintro e w' ⟨rfl, rfl⟩
          generalize hwi : wd + 1 = wi at *
          have HNF := Lib.hid (num_fit w.heap.size A' n' c' wi ys wr hcl HRD.out.fz (by omega) (by omega) (HRD.out.tookRB wi))
          have h4 := Lib.hid (HRD.out.took wi (by omega))
          have hsm := numOf_small ys wi (by omega)
          have ho4 := Lib.hid (HO.out.set ⟨w.heap.size, 0, none⟩ (restV A' n' c' wi) (by simp))
          clear HW
          go_wp2_with fail
          refine HNF.out.mono ?_
          rintro e w' ⟨rfl, rfl⟩
          generalize wr.setCell ⟨w.heap.size, 0, none⟩ (restV A' n' c' wi) = w4 at *
          generalize hv : numOf (ys.take wi) = v at *
          clear HNF
          go_wp2_with (at_builtin; go_must (refine wpList_append_any (w0 := w4.alloc (.cells #[.int .u64 v, .slice none 0 0] 52)) (w.heap.size + 1) rfl _ _ 49 52 (.agg #[.int .u64 0, .slice none 0 0]) 2 32 rfl Try.underlying49 Try.info87 rfl (by decide) (by decide) u6 lk.length (fcells lk) (some ⟨w4.heap.size, 0, none⟩) 1 1 [.int .u64 v, .slice none 0 0] rfl rfl (ho4.out.alloc _).row ⟨rfl, fun _ => ⟨_, _, rfl, fun j v hj => by rw [World.cell?_alloc_mark, Nat.zero_add]; simpa using hj⟩⟩ (by simp [Value.oneCell']) (by rw [HK.out]; omega) (Below.refl _ _) (h4.out.alloc _).size ?_; intro v5 w5 hown5 hb5 hg5 ha5; have h5 := Lib.hid ((h4.out.alloc _).on hb5); have ho5 : Hid (OFields w5 (w.heap.size + 1) v5 (lk ++ [⟨v, none, 0, 0, []⟩])) := Lib.hid ((ho4.out.alloc _).push ⟨v, none, 0, 0, []⟩ hsm (by simp) (World.ownsRow_nil _ _ _ _) hg5 hown5); clear hown5 hb5 hg5 ha5))
          go_roundw
          case rel => exact ⟨k + 1, p + wi, lk ++ [⟨v, none, 0, 0, []⟩], _, _, _, by omega, by go_num, Lib.hid (by rw [HST.out]; simp [vals]), ho5, Lib.hid (by rw [List.length_append, HK.out]; rfl), by
            have := h5.out
            rw [← hys, List.drop_drop] at this
            exact Lib.hid this, Lib.hid (by
            have h1 := hbl
            rw [← hys, List.length_drop] at h1
            omega)⟩
          case measure => simp [intOf]; omega
    · obtain rfl : k = m := by omega
      have hcl := HRD.out.cell
      have hbl : (bs.drop p).length = n' := HRD.out.rb.1
      have hun : unpackM sh bs = if p = bs.length then some (vals lk) else none := unpackM_done (by rw [HM.out]; exact HP.out) (by rw [HM.out]; exact hs)
      rw [List.length_drop] at hbl
      by_cases h0 : 0 < n'
      · have HN : Hid (unpackM sh bs = none) := Lib.hid (by rw [hun, if_neg (by omega)])
        have hd0 : (0 : Int) < (n' : Int) := by omega
        clear hun hbl
        go_wp2_with fail
        refine (fail_yes _).mono ?_
        rintro e w' ⟨rfl, rfl⟩
        exact ⟨rfl, .inr ⟨HN.out, rfl, HRD.out.below⟩⟩
      · obtain rfl : n' = 0 := by omega
        have HN : Hid (unpackM sh bs = some (vals lk)) := Lib.hid (by rw [hun, if_pos (by have := HPB.out; omega)])
        clear hun hbl
        go_wp2_with fail
        refine (fail_no _).mono ?_
        rintro e w' ⟨rfl, rfl⟩
        go_wp2_with fail
        go_ret
        exact .inl ⟨u6, lk, HN.out, rfl, HO.out.mono (by omega), HRD.out.below⟩
set_option maxRecDepth 20000 in
theorem codec_unpack (sh : List UInt8) (A : Option Addr) (n c : Nat) (bs : List UInt8) (w : World) (hr : RB w A n c bs) :
    Calls Try.prog 33 #[.string (strOf sh), .slice A n c] w (UnPost w (unpackM sh bs)) := by
  by_cases hs : sh.length ≤ 200
  · exact codec_unpack_main sh A n c bs w hr hs
  · rw [unpackM_long (by omega)]
    have hsz : (strOf sh).size = sh.length := by simp [strOf, ByteArray.size]
    generalize sh.length = m at *
    have hd : decide ((200 : Int) < (m : Int)) = true := decide_eq_true (by omega)
    go_enter Try.func33, Try.ntmps33
    go_wp2_with fail
    refine (fail_yes _).mono ?_
    rintro e w' ⟨rfl, rfl⟩
    exact ⟨rfl, .inr ⟨rfl, rfl, Below.refl _ _⟩⟩
end Go.Proofs.Ytlofiinpgkclgaa
