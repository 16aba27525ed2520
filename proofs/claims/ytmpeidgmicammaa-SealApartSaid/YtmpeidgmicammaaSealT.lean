/- Whole or not at all: the plain law; the reference's Torn. -/
import Derived.Test.YtmpeidgmicammaaSealW6
import Derived.Test.YtmpeidgmicammaaSealW4
namespace Go.Proofs.Ytmpeidgmicammaa
open Go.RowKit
attribute [local go_sem ↓] loadAt37

theorem be_inj {m m' : Nat} (h : m < 256 ^ 8) (h' : m' < 256 ^ 8) (e : be m 8 = be m' 8) : m = m' := by
  rw [← numOf_be 8 m h, ← numOf_be 8 m' h', e]
/-- A sector that begins and ends with the same mark. -/
def Ends (l : List UInt8) (m : Nat) : Prop := l.length = 128 ∧ m < 256 ^ 8 ∧ l.take 8 = be m 8 ∧ l.drop 120 = be m 8
theorem ends_seal (m : Nat) (b : List UInt8) (hm : m < 256 ^ 8) (hb : b.length ≤ 106) : Ends (sealL m b) m := by
  refine ⟨sealL_length hb, hm, ?_, ?_⟩
  · have e : sealL m b = be m 8 ++ (be b.length 2 ++ (b ++ (List.replicate (106 - b.length) 0 ++ (be (sumL m b) 4 ++ be m 8)))) := by simp [sealL, preL]
    rw [e, List.take_append_of_le_length (by rw [be_length]; omega), List.take_of_length_le (by rw [be_length]; omega)]
  · have e : sealL m b = (preL m b ++ be (sumL m b) 4) ++ be m 8 := by simp [sealL]
    have hl : (preL m b ++ be (sumL m b) 4).length = 120 := by rw [List.length_append, preL_length hb, be_length]
    rw [e, ← hl, List.drop_left]
theorem ends_zero : Ends zsec 0 := ⟨zsec_length, by decide, by decide, by decide⟩
theorem split_eq {a b : List UInt8} (k : Nat) (h1 : a.take k = b.take k) (h2 : a.drop k = b.drop k) : a = b := by
  rw [← List.take_append_drop k a, h1, h2, List.take_append_drop]
/-- A torn sector that opens is the old one or the new one. -/
theorem torn_whole {old now : List UInt8} {mo mn : Nat} (ho : Ends old mo) (hn : Ends now mn) (hne : mo ≠ mn) (k : Nat) (hk : k ≤ 128) {mk : Nat} {body : List UInt8} (h : openM (now.take k ++ old.drop k) = some (mk, body)) :
    now.take k ++ old.drop k = old ∨ now.take k ++ old.drop k = now := by
  obtain ⟨hmake, hm0, hb⟩ := seal_open h
  obtain ⟨lo, bo, to, dro⟩ := ho
  obtain ⟨ln, bn, tn, drn⟩ := hn
  have hmk : mk < 256 ^ 8 := by
    unfold openM at h
    split at h
    · cases h
    · split at h
      · injection h with h
        injection h with h _
        rw [← h]
        exact numOf_lt _ 8
      · cases h
  have ht : now.take k ++ old.drop k = sealL mk body := by
    unfold makeM at hmake
    split at hmake
    · cases hmake
    · injection hmake with hmake
      exact hmake.symm
  obtain ⟨_, _, te, de⟩ := ends_seal mk body hmk hb
  rw [← ht] at te de
  by_cases h8 : k ≤ 8
  · left
    have d8 : (now.take k ++ old.drop k).drop 8 = old.drop 8 := by
      rw [List.drop_append, List.drop_of_length_le (by simp; omega), List.nil_append, List.drop_drop]
      congr 1
      simp
      omega
    have d120 : (now.take k ++ old.drop k).drop 120 = old.drop 120 := by
      rw [show (120 : Nat) = 8 + 112 from rfl, ← List.drop_drop, d8, List.drop_drop]
    rw [d120, dro] at de
    rw [← de, ← to] at te
    exact split_eq 8 te d8
  · by_cases h120 : k ≤ 120
    · exfalso
      have t8 : (now.take k ++ old.drop k).take 8 = now.take 8 := by
        rw [List.take_append_of_le_length (by simp; omega), List.take_take]
        congr 1
        omega
      have d120 : (now.take k ++ old.drop k).drop 120 = old.drop 120 := by
        rw [List.drop_append, List.drop_of_length_le (by simp; omega), List.nil_append, List.drop_drop]
        congr 1
        simp
        omega
      rw [t8, tn] at te
      rw [d120, dro] at de
      exact hne (be_inj bo bn (de.trans te.symm))
    · right
      have t8 : (now.take k ++ old.drop k).take 8 = now.take 8 := by
        rw [List.take_append_of_le_length (by simp; omega), List.take_take]
        congr 1
        omega
      have t120 : (now.take k ++ old.drop k).take 120 = now.take 120 := by
        rw [List.take_append_of_le_length (by simp; omega), List.take_take]
        congr 1
        omega
      rw [t8, tn] at te
      rw [← te, ← drn] at de
      exact split_eq 120 t120 de
theorem torn_step (old now : List UInt8) (j : Nat) (hj : j < 128) (ho : old.length = 128) (hn : now.length = 128) : (now.take j ++ old.drop j).set j (at8 now j) = now.take (j + 1) ++ old.drop (j + 1) := by
  exact fill_step now old j (by omega) (by omega)
theorem retS {fn : Func} {p : Tmp} (h : fn.results = #[.cell p 27]) (tmps : Array Value) (w : World) (l : List UInt8) (g : Nat) (hp : tmps.getD p undef = .pointer (some ⟨g, 0, none⟩)) (hg : SecAt w g l) :
    (results fn tmps).run Try.prog w = .ok (secV l) w :=
  res_row h tmps w g 0 (bv l) _ hp hg.range Try.underlying27 rfl (Try.size37.trans (by simp [bv_length, hg.2]))
set_option maxRecDepth 20000 in
set_option maxHeartbeats 3200000 in
theorem ref04_Torn (old now : List UInt8) (ho : old.length = 128) (hn : now.length = 128) (k : Nat) (hk : k ≤ 128) (w : World) :
    Calls Try.prog 14 #[secV old, secV now, .int .i64 k] w fun e w' => e = .returned (secV (now.take k ++ old.drop k)) ∧ Below w.heap.size w w' := by
  have hbo : (bv old).length = 128 := by rw [bv_length, ho]
  have hbn : (bv now).length = 128 := by rw [bv_length, hn]
  obtain ⟨wA, hwA⟩ : ∃ wA, wA = ((w.alloc (.cells (bv old).toArray 27)).alloc (.cells (bv now).toArray 27)).alloc (.cells Try.zeroCells27 27) := ⟨_, rfl⟩
  have h3 : SecAt wA w.heap.size old := by
    rw [hwA]
    exact ((SecAt.new w old ho).below (below_alloc _ _)).below (below_alloc _ _)
  have h4 : SecAt wA (w.heap.size + 1) now := by
    have := (SecAt.new (w.alloc (.cells (bv old).toArray 27)) now hn).below (below_alloc _ (.cells Try.zeroCells27 27))
    rw [hwA]
    simpa using this
  have h6 : SecAt wA (w.heap.size + 1 + 1) zsec := by
    have := SecAt.new ((w.alloc (.cells (bv old).toArray 27)).alloc (.cells (bv now).toArray 27)) zsec zsec_length
    rw [hwA, Try.zero37]
    simpa using this
  have hb : Below w.heap.size w wA := by
    rw [hwA]
    exact ((below_alloc w _).alloc (by simp) _).alloc (by simp; omega) _
  have HO := Lib.hid ho; have HN := Lib.hid hn; have H3 := Lib.hid h3; have H4 := Lib.hid h4; have H6 := Lib.hid h6; have HB := Lib.hid hb
  have HWA := Lib.hid hwA
  clear ho hn h3 h4 h6 hb hwA
  unfold secV
  go_enter Try.func14, Try.ntmps14
  go_wp2_with fail
  rw [← HWA.out]
  clear HWA hbo hbn
  go_loopw [7] (fun i wr => ∃ i0 j, i0 ≤ 128 ∧ i = .int .i64 (i0 : Nat) ∧ Hid (j = min i0 k) ∧ Hid (SecAt wr w.heap.size (now.take j ++ old.drop j)) ∧ Hid (SecAt wr (w.heap.size + 1) now) ∧ Hid (SecAt wr (w.heap.size + 1 + 1) zsec) ∧ Hid (Below w.heap.size w wr)) (fun i _ => 128 - (intOf i).toNat)
  case atStart => exact ⟨0, 0, by omega, rfl, Lib.hid (by omega), by simpa using H3, H4, H6, HB⟩
  case round =>
    obtain ⟨i0, j, hi, rfl, HJ, HS3, HS4, HS6, HBr⟩ := hrel
    by_cases hlt : i0 < 128
    · have hi0 : (0 : Int) ≤ (i0 : Int) := Int.natCast_nonneg _
      have hi1 : (i0 : Int) < 128 := by omega
      by_cases hik : i0 < k
      · have hd : decide (i0 < k) = true := decide_eq_true hik
        obtain rfl : j = i0 := by have := HJ.out; omega
        have hc4 := HS4.out.cell j hlt
        have hc3 := HS3.out.cell j hlt
        have hf3 := frozen_of_row wr w.heap.size j _ _ HS3.out.1
        have hset := HS3.out.set j (at8 now j)
        rw [torn_step old now j hlt HO.out HN.out] at hset
        have hkp := (Kp.refl (· = w.heap.size) wr).setCell ⟨w.heap.size, j, none⟩ (.int .u8 ((at8 now j).toNat : Int)) (fun _ => rfl)
        have HT3 := Lib.hid hset; have HT4 := Lib.hid (HS4.out.kp hkp (by omega)); have HT6 := Lib.hid (HS6.out.kp hkp (by omega))
        have HBT : Hid (Below w.heap.size w (wr.setCell ⟨w.heap.size, j, none⟩ (.int .u8 ((at8 now j).toNat : Int)))) := Lib.hid (HBr.out.setCell (Nat.le_refl _) _)
        have HIK := Lib.hid hik
        clear hset hkp hik
        go_wp2_with fail
        go_roundw
        case rel => exact ⟨j + 1, j + 1, by omega, by go_num, Lib.hid (by have := HIK.out; omega), HT3, HT4, HT6, HBT⟩
        case measure => simp [intOf]; omega
      · have hd : decide (i0 < k) = false := decide_eq_false hik
        have HIK := Lib.hid hik
        clear hik
        go_wp2_with fail
        go_roundw
        case rel => exact ⟨i0 + 1, j, by omega, by go_num, Lib.hid (by have := HIK.out; have := HJ.out; omega), HS3, HS4, HS6, HBr⟩
        case measure => simp [intOf]; omega
    · obtain rfl : j = k := by have := HJ.out; omega
      have hld := run_ldSec HS3.out.range HS3.out.2
      go_wp2_with (refine st37_at rfl _ _ rfl (w.heap.size + 1 + 1) zsec rfl HS6.out (now.take j ++ old.drop j) rfl HS3.out.2 ?_; intro w2 hg2 hk2; have HG2 := Lib.hid hg2; have HB2 := Lib.hid (HBr.out.trans (hk2.below HBr.out.size (fun _ e => by rw [e]; omega))); clear hg2 hk2)
      (try simp only [Exit.inBlock, Exit.then])
      refine bodyPost_ret (retS rfl _ _ _ (w.heap.size + 1 + 1) rfl HG2.out) rfl ?_
      exact ⟨rfl, HB2.out⟩
def stSec (p x : Value) : Sem Unit := Instr.storeAt 27 p x
theorem storeAt37 (p x : Value) : Instr.storeAt 27 p x = stSec p x := rfl
theorem run_stSec {w : World} {b o : Nat} {l : List UInt8} (ht : w.there b o 128) (hl : l.length = 128) : (stSec (.pointer (some ⟨b, o, none⟩)) (.agg (bv l).toArray)).run Try.prog w = .ok () (w.setCells b o (bv l)) := by
  have h := run_storeAt_mid (P := Try.prog) w b o 27 (bv l).toArray (by simpa [bv_length, hl] using ht) (Try.size37.trans (by simp [bv_length, hl])) (all_oneCell_toArray (bv_one l))
  exact h
theorem SecAt.there {w : World} {g : Nat} {l : List UInt8} (h : SecAt w g l) : w.there g 0 128 := by
  intro j hj
  rw [Nat.zero_add]
  exact ⟨by rw [h.cell j hj]; rfl, frozen_of_row _ _ _ _ _ h.1⟩
theorem SecAt.stored {w : World} {g : Nat} {l l' : List UInt8} (h : SecAt w g l) (hl' : l'.length = 128) : SecAt (w.setCells g 0 (bv l')) g l' ∧ Kp (· = g) w (w.setCells g 0 (bv l')) := by
  have hc := setCells_heap g 27 (bv l') (bv l).toArray 0 w h.1 (by simp [bv_length, hl', h.2])
  refine ⟨⟨?_, hl'⟩, hc.2⟩
  have e2 : splice (bv l).toArray.toList 0 (bv l') = bv l' := by
    simp only [splice, List.take_zero, List.nil_append, Nat.zero_add]
    rw [List.drop_eq_nil_of_le (by simp [bv_length, hl', h.2]), List.append_nil]
  rw [hc.1, e2]
theorem made_some {mark : Nat} {body l : List UInt8} (h : makeM mark body = some l) : mark ≠ 0 ∧ body.length ≤ 106 ∧ l = sealL mark body := by
  unfold makeM at h
  split at h
  · cases h
  · injection h with h
    exact ⟨by omega, by omega, h.symm⟩
theorem st_new (w : World) (l : List UInt8) (hl : l.length = 128) : (stSec (.pointer (some ⟨w.heap.size, 0, none⟩)) (.agg (bv l).toArray)).run Try.prog (w.alloc (.cells Try.zeroCells27 27)) = .ok () (w.alloc (.cells (bv l).toArray 27)) := by
  have h := run_stSec (w := w.alloc (.cells Try.zeroCells27 27)) (b := w.heap.size) (o := 0) (l := l) (by rw [Try.zero37]; exact (SecAt.new w zsec zsec_length).there) hl
  rw [h]
  rcases setCells_alloc w 27 (0, 0) (bv l) Try.zeroCells27 0 with e | e
  · have e2 : splice Try.zeroCells27.toList 0 (bv l) = bv l := by
      rw [Try.zero37]
      simp only [splice, List.take_zero, List.nil_append, Nat.zero_add]
      rw [List.drop_eq_nil_of_le (by simp [bv_length, hl, zsec_length]), List.append_nil]
    rw [e2] at e
    rw [e]
  · rw [Try.zero37] at e
    simp [bv_length, hl, zsec_length] at e
end Go.Proofs.Ytmpeidgmicammaa
