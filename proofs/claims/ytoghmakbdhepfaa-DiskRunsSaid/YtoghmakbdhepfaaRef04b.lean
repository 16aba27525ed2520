/- The document's disk: power, Break, New, At, Read. -/
import Derived.Test.YtoghmakbdhepfaaRef04
namespace Go.Proofs.Ytoghmakbdhepfaa
open Go.RowKit
attribute [local go_sem ↓] build37

theorem range_bl {w w1 : World} {b o : Nat} {cs : List Value} (h : w.rangeAt b o cs) (hb : Below w.heap.size w w1) : w1.rangeAt b o cs := range_kp (S := fun _ => False) h (Kp.of_below hb) (fun hf => hf)
theorem below_alloc2 (w : World) (a b : Obj) : Below w.heap.size w ((w.alloc a).alloc b) := (below_alloc w a).alloc (by simp) b
/-- A disk in a variable, its cells as they stand, handed back (with something more). -/
theorem ret_lit_tmp {fn : Func} {p q : Tmp} (h : fn.results = #[.cell p 49, .tmp q]) (tmps : Array Value) (w : World) (x0 x1 x2 x3 u : Value) (g : Nat) (hp : tmps.getD p undef = .pointer (some ⟨g, 0, none⟩)) (hq : tmps.getD q undef = u) (hg : g = w.heap.size) :
    (results fn tmps).run Try.prog (w.alloc (.cells #[x0, x1, x2, x3] 49)) = .ok (.tuple #[.agg #[x0, x1, x2, x3], u]) (w.alloc (.cells #[x0, x1, x2, x3] 49)) := by
  subst hg
  exact res_row_tmp h tmps _ _ _ [x0, x1, x2, x3] _ u hp hq (range_alloc w _ _ _) Try.underlying49 rfl Try.sizeRD
theorem ret_lit {fn : Func} {p : Tmp} (h : fn.results = #[.cell p 49]) (tmps : Array Value) (w : World) (x0 x1 x2 x3 : Value) (g : Nat) (hp : tmps.getD p undef = .pointer (some ⟨g, 0, none⟩)) (hg : g = w.heap.size) :
    (results fn tmps).run Try.prog (w.alloc (.cells #[x0, x1, x2, x3] 49)) = .ok (.agg #[x0, x1, x2, x3]) (w.alloc (.cells #[x0, x1, x2, x3] 49)) := by
  subst hg
  exact res_row h tmps _ _ _ [x0, x1, x2, x3] _ hp (range_alloc w _ _ _) Try.underlying49 rfl Try.sizeRD
section
variable {w : World} {A : Option Addr} {c : Nat} {B : Option Addr} {k : Nat} {d : Dk}
set_option maxRecDepth 20000 in
set_option maxHeartbeats 800000 in
theorem ref_power (hf : -1 ≤ d.fuel ∧ d.fuel ≤ 9223372036854775807) (w : World) : Calls Try.prog 30 #[.agg (rdC A c B k d).toArray] w fun e w' => e = .returned (.tuple #[.agg (rdC A c B k d.power.1).toArray, .bool d.power.2]) ∧ Below w.heap.size w w' := by
  obtain ⟨st, pn, f, b⟩ := d
  obtain ⟨n, hn⟩ : ∃ n, n = st.length := ⟨_, rfl⟩
  obtain ⟨m, hm⟩ : ∃ m, m = pn.length := ⟨_, rfl⟩
  unfold rdC Dk.power
  dsimp only at hf ⊢
  rw [← hn, ← hm]
  by_cases h1 : b = true ∨ f = 0
  · rw [if_pos h1]
    dsimp only
    rw [← hn, ← hm]
    clear hn hm
    by_cases hb : b = true
    · subst hb
      clear h1
      go_enter Try.func30, Try.ntmps30
      go_wp2
      exact bodyPost_ret (ret_lit_tmp Try.results30 _ _ _ _ _ _ _ _ rfl rfl (by simp)) rfl ⟨rfl, below_alloc2 w _ _⟩
    · obtain rfl : f = 0 := h1.resolve_left hb
      have hb' : b = false := by simpa using hb
      subst hb'
      clear h1 hb
      go_enter Try.func30, Try.ntmps30
      go_wp2
      exact bodyPost_ret (ret_lit_tmp Try.results30 _ _ _ _ _ _ _ _ rfl rfl (by simp)) rfl ⟨rfl, below_alloc2 w _ _⟩
  · rw [if_neg h1]
    dsimp only
    rw [← hn, ← hm]
    clear hn hm
    have hb : b = false := by simpa using fun h => h1 (.inl h)
    have h0 : (f == 0) = false := beq_eq_false_iff_ne.2 fun h => h1 (.inr h)
    subst hb
    clear h1
    by_cases h2 : 0 < f
    · rw [if_pos h2]
      go_enter Try.func30, Try.ntmps30
      go_wp2
      exact bodyPost_ret (ret_lit_tmp Try.results30 _ _ _ _ _ _ _ _ rfl rfl (by simp)) rfl ⟨rfl, below_alloc2 w _ _⟩
    · rw [if_neg h2]
      go_enter Try.func30, Try.ntmps30
      go_wp2
      exact bodyPost_ret (ret_lit_tmp Try.results30 _ _ _ _ _ _ _ _ rfl rfl (by simp)) rfl ⟨rfl, below_alloc2 w _ _⟩

set_option maxRecDepth 20000 in
set_option maxHeartbeats 800000 in
theorem ref_Break (i : Int) (w : World) : Calls Try.prog 23 #[.agg (rdC A c B k d).toArray, .int .i64 i] w fun e w' => e = .returned (.agg (rdC A c B k { d with fuel := max i (-1) }).toArray) ∧ Below w.heap.size w w' := by
  obtain ⟨st, pn, f, b⟩ := d
  unfold rdC
  dsimp only
  generalize st.length = n
  generalize pn.length = m
  by_cases h0 : i < 0
  · rw [show max i (-1) = -1 by omega]
    go_enter Try.func23, Try.ntmps23
    go_wp2
    exact bodyPost_ret (ret_lit Try.results23 _ _ _ _ _ _ _ rfl (by simp)) rfl ⟨rfl, below_alloc2 w _ _⟩
  · rw [show max i (-1) = i by omega]
    go_enter Try.func23, Try.ntmps23
    go_wp2
    exact bodyPost_ret (ret_lit Try.results23 _ _ _ _ _ _ _ rfl (by simp)) rfl ⟨rfl, below_alloc2 w _ _⟩

set_option maxRecDepth 20000 in
set_option maxHeartbeats 800000 in
theorem ref_At_yes (h : RDk w A c B k d) (i : Nat) (hi : i < d.stable.length) : Calls Try.prog 26 #[.agg (rdC A c B k d).toArray, .int .i64 i] w fun e w' => e = .returned (secV (secAt d.stable i)) ∧ Below w.heap.size w w' := by
  obtain ⟨b, o, rfl, hr⟩ := h.secR i hi
  have HL := Lib.hid (h.secL i hi)
  have hk0 : (0 : Int) ≤ (i : Int) := Int.natCast_nonneg _
  have hk1 : (i : Int) < (d.stable.length : Int) := by omega
  have HB0 := Lib.hid (below_alloc2 w (.cells (rdC (some ⟨b, o, none⟩) c B k d).toArray 49) (.cells Try.zeroCells28 28))
  have HR := Lib.hid (range_bl hr HB0.out)
  have HD := Lib.hid ((RowAt.new w 49 (rdC (some ⟨b, o, none⟩) c B k d)).below (below_alloc _ (.cells Try.zeroCells28 28)))
  have HS := Lib.hid (zsec_new' (w.alloc (.cells (rdC (some ⟨b, o, none⟩) c B k d).toArray 49)) (w.heap.size + 1) (by simp))
  clear hr h
  go_enter Try.func26, Try.ntmps26
  go_wp2_with (refine ldN 49 (rdC (some ⟨b, o, none⟩) c B k d) rfl _ rfl w.heap.size 0 rfl HD.out.range Try.underlying49 rfl Try.sizeRD ?_)
  refine (ref_There_yes i hi _).mono ?_
  rintro e w1 ⟨rfl, hb1⟩
  obtain ⟨c0, -, -, -⟩ := rd_cells (HD.out.below hb1)
  have HB1 := Lib.hid (bthen HB0.out hb1); have HR1 := Lib.hid (range_bl HR.out hb1); have HS1 := Lib.hid (HS.out.below hb1)
  clear hb1 HB0 HR HS HD
  go_wp2_with (first
    | (refine ld37 rfl _ rfl b (o + i * 128) rfl (secAt d.stable i) HR1.out HL.out ?_)
    | (refine st37_at rfl _ _ rfl (w.heap.size + 1) zsec rfl HS1.out (secAt d.stable i) rfl HL.out ?_; intro w2 hs2 hk2; have HS2 := Lib.hid hs2; have HK2 := Lib.hid hk2; clear hs2 hk2))
  exact bodyPost_ret (ret37_at1 Try.results26 _ _ _ _ rfl HS2.out) rfl ⟨rfl, HB1.out.trans (HK2.out.below HB1.out.size (fun i e => by subst e; omega))⟩
set_option maxRecDepth 20000 in
set_option maxHeartbeats 800000 in
theorem ref_At_no (i : Int) (hi : i < 0 ∨ (d.stable.length : Int) ≤ i) (w : World) : Calls Try.prog 26 #[.agg (rdC A c B k d).toArray, .int .i64 i] w fun e w' => e = .returned (secV zsec) ∧ Below w.heap.size w w' := by
  have b0 := run_bldSec0
  have HB0 := Lib.hid (below_alloc2 w (.cells (rdC A c B k d).toArray 49) (.cells Try.zeroCells28 28))
  have HD := Lib.hid ((RowAt.new w 49 (rdC A c B k d)).below (below_alloc _ (.cells Try.zeroCells28 28)))
  have HS := Lib.hid (zsec_new' (w.alloc (.cells (rdC A c B k d).toArray 49)) (w.heap.size + 1) (by simp))
  have HI := Lib.hid hi
  clear hi
  go_enter Try.func26, Try.ntmps26
  go_wp2_with (refine ldN 49 (rdC A c B k d) rfl _ rfl w.heap.size 0 rfl HD.out.range Try.underlying49 rfl Try.sizeRD ?_)
  refine (ref_There_no i HI.out _).mono ?_
  rintro e w1 ⟨rfl, hb1⟩
  have HB1 := Lib.hid (bthen HB0.out hb1); have HS1 := Lib.hid (HS.out.below hb1)
  clear hb1 HB0 HS HD
  go_wp2_with (refine st37_at rfl _ _ rfl (w.heap.size + 1) zsec rfl HS1.out zsec rfl zsec_length ?_; intro w2 hs2 hk2; have HS2 := Lib.hid hs2; have HK2 := Lib.hid hk2; clear hs2 hk2)
  exact bodyPost_ret (ret37_at1 Try.results26 _ _ _ _ rfl HS2.out) rfl ⟨rfl, HB1.out.trans (HK2.out.below HB1.out.size (fun i e => by subst e; omega))⟩

set_option maxRecDepth 20000 in
set_option maxHeartbeats 800000 in
theorem ref_Read_no (i : Int) (hi : i < 0 ∨ (d.stable.length : Int) ≤ i) (w : World) : Calls Try.prog 20 #[.agg (rdC A c B k d).toArray, .int .i64 i] w fun e w' => e = .returned (.tuple #[secV zsec, .int .i64 41]) ∧ Below w.heap.size w w' := by
  have b0 := run_bldSec0
  have HB0 := Lib.hid (below_alloc2 w (.cells (rdC A c B k d).toArray 49) (.cells Try.zeroCells28 28))
  have HD := Lib.hid ((RowAt.new w 49 (rdC A c B k d)).below (below_alloc _ (.cells Try.zeroCells28 28)))
  have HS := Lib.hid (zsec_new' (w.alloc (.cells (rdC A c B k d).toArray 49)) (w.heap.size + 1) (by simp))
  have HI := Lib.hid hi
  clear hi
  go_enter Try.func20, Try.ntmps20
  go_wp2_with (refine ldN 49 (rdC A c B k d) rfl _ rfl w.heap.size 0 rfl HD.out.range Try.underlying49 rfl Try.sizeRD ?_)
  refine (ref_There_no i HI.out _).mono ?_
  rintro e w1 ⟨rfl, hb1⟩
  have HB1 := Lib.hid (bthen HB0.out hb1); have HS1 := Lib.hid (HS.out.below hb1)
  clear hb1 HB0 HS HD
  go_wp2_with (refine st37_at rfl _ _ rfl (w.heap.size + 1) zsec rfl HS1.out zsec rfl zsec_length ?_; intro w2 hs2 hk2; have HS2 := Lib.hid hs2; have HK2 := Lib.hid hk2; clear hs2 hk2)
  exact bodyPost_ret (ret37_atT Try.results20 _ _ _ _ _ rfl rfl HS2.out) rfl ⟨rfl, HB1.out.trans (HK2.out.below HB1.out.size (fun i e => by subst e; omega))⟩

theorem lastW_take (l : List (Nat × List UInt8)) (i m : Nat) (z : List UInt8) (hm : m < l.length) : lastW (l.take (m + 1)) i z = if (penAt l m).1 = i then (penAt l m).2 else lastW (l.take m) i z := by
  rw [List.take_succ_eq_append_getElem hm, lastW_append]
  have e : penAt l m = l[m] := by rw [penAt, List.getD_eq_getElem?_getD, List.getElem?_eq_getElem hm]; rfl
  rw [e]
  rfl
set_option maxRecDepth 20000 in
set_option maxHeartbeats 1600000 in
theorem ref_Read_yes (h : RDk w A c B k d) (i : Nat) (hi : i < d.stable.length) (hpl : d.pend.length ≤ 1000000) : Calls Try.prog 20 #[.agg (rdC A c B k d).toArray, .int .i64 i] w fun e w' => e = .returned (.tuple #[secV (d.read i), .int .i64 0]) ∧ Below w.heap.size w w' := by
  obtain ⟨b, o, rfl, hr⟩ := h.secR i hi
  have H := Lib.hid h
  have HL := Lib.hid (h.secL i hi)
  have hk0 : (0 : Int) ≤ (i : Int) := Int.natCast_nonneg _
  have hk1 : (i : Int) < (d.stable.length : Int) := by omega
  have HB0 := Lib.hid (below_alloc2 w (.cells (rdC (some ⟨b, o, none⟩) c B k d).toArray 49) (.cells Try.zeroCells28 28))
  have HR := Lib.hid (range_bl hr HB0.out)
  have HD := Lib.hid ((RowAt.new w 49 (rdC (some ⟨b, o, none⟩) c B k d)).below (below_alloc _ (.cells Try.zeroCells28 28)))
  have HS := Lib.hid (zsec_new' (w.alloc (.cells (rdC (some ⟨b, o, none⟩) c B k d).toArray 49)) (w.heap.size + 1) (by simp))
  clear hr h
  go_enter Try.func20, Try.ntmps20
  go_wp2_with (refine ldN 49 (rdC (some ⟨b, o, none⟩) c B k d) rfl _ rfl w.heap.size 0 rfl HD.out.range Try.underlying49 rfl Try.sizeRD ?_)
  refine (ref_There_yes i hi _).mono ?_
  rintro e w1 ⟨rfl, hb1⟩
  obtain ⟨c0, -, -, -⟩ := rd_cells (HD.out.below hb1)
  obtain ⟨-, c1, -, -⟩ := rd_cells ((HD.out.below hb1).below (below_alloc w1 (.cells (bv (secAt d.stable i)).toArray 28)))
  have HB1 := Lib.hid (balloc (bthen HB0.out hb1) (.cells (bv (secAt d.stable i)).toArray 28)); have HR1 := Lib.hid (range_bl HR.out hb1)
  have HS1 := Lib.hid ((HS.out.below hb1).below (below_alloc w1 (.cells (bv (secAt d.stable i)).toArray 28)))
  have HC1 := Lib.hid (SecAt.new w1 (secAt d.stable i) HL.out)
  have HN : Hid (w.heap.size + 1 < w1.heap.size) := Lib.hid (by have := hb1.size; simp at this; omega)
  clear hb1 HB0 HR HS HD
  go_wp2_with (first
    | (refine ld37 rfl _ rfl b (o + i * 128) rfl (secAt d.stable i) HR1.out HL.out ?_)
    | (refine st37 rfl _ _ rfl _ _ rfl rfl (secAt d.stable i) rfl HL.out rfl ?_))
  generalize hg6 : w1.heap.size = g6 at *
  generalize hw2 : w1.alloc (.cells (bv (secAt d.stable i)).toArray 28) = w2 at *
  clear hw2 hg6 HR1 c0
  go_loopw [22] (fun j wr => ∃ m : Nat, m ≤ d.pend.length ∧ j = .int .i64 m ∧ Hid (SecAt wr g6 (lastW (d.pend.take m) i (secAt d.stable i))) ∧ Hid (SecAt wr (w.heap.size + 1) zsec) ∧ Hid (Below w.heap.size w wr)) (fun j _ => d.pend.length - (intOf j).toNat)
  case atStart => exact ⟨0, by omega, rfl, HC1, HS1, HB1⟩
  case round =>
    clear HC1 HS1 HB1 c1
    obtain ⟨m, hm, rfl, HC, HZ, HB⟩ := hrel
    by_cases hlt : m < d.pend.length
    · obtain ⟨q, qo, rfl, hp⟩ := (H.out.below HB.out).penR m hlt
      obtain ⟨hpin, hln⟩ := H.out.pinAt m hlt
      have hnx := lastW_take d.pend i m (secAt d.stable i) hlt
      generalize penAt d.pend m = x at *
      have HP := Lib.hid hp; have HX := Lib.hid hln; have HNX := Lib.hid hnx
      have hrow := RowAt.new wr 61 (penC x)
      have q0 := hrow.cell 0 _ rfl
      have HQ : Hid ((wr.alloc (.cells (penC x).toArray 61)).rangeAt wr.heap.size 1 (bv x.2)) := Lib.hid (range_alloc1 wr _ _ _ _)
      have hm0 : (0 : Int) ≤ (m : Int) := Int.natCast_nonneg _
      have hm1 : (m : Int) < (d.pend.length : Int) := by omega
      have HC2 := Lib.hid (HC.out.below (below_alloc wr (.cells (penC x).toArray 61)))
      have HZ2 := Lib.hid (HZ.out.below (below_alloc wr (.cells (penC x).toArray 61)))
      have HB2 := Lib.hid (balloc HB.out (.cells (penC x).toArray 61))
      clear hp hln hnx hpin hrow
      by_cases hq : x.1 = i
      · have hb : ((x.1 : Int) == (i : Int)) = true := by rw [beq_iff_eq]; omega
        have hnx : lastW (d.pend.take (m + 1)) i (secAt d.stable i) = x.2 := by rw [HNX.out, if_pos hq]
        have HNY := Lib.hid hnx
        clear hq hnx
        go_wp2_with (first
          | (refine ldN 61 (penC x) rfl _ rfl q (qo + m * 129) rfl HP.out Try.underlying61 rfl (size_rw x HX.out) ?_)
          | (refine stN 61 (penC x) rfl _ _ rfl _ _ rfl rfl rfl (penC_one x) (size_rw x HX.out) (by rw [penC_length x HX.out]; rfl) ?_)
          | (refine ld37 rfl _ rfl wr.heap.size 1 rfl x.2 HQ.out HX.out ?_)
          | (refine st37_at rfl _ _ rfl g6 _ rfl HC2.out x.2 rfl HX.out ?_; intro w3 hs3 hk3; have HS3 := Lib.hid hs3; have HK3 := Lib.hid hk3; clear hs3 hk3))
        go_roundw
        case rel => exact ⟨m + 1, by omega, by go_num, by rw [HNY.out]; exact HS3, Lib.hid (HZ2.out.kp HK3.out (by have := HN.out; omega)), Lib.hid (HB2.out.trans (HK3.out.below HB2.out.size (fun i e => by subst e; have := HN.out; omega)))⟩
        case measure => simp [intOf]; omega
      · have hb : ((x.1 : Int) == (i : Int)) = false := by rw [beq_eq_false_iff_ne]; omega
        have hnx : lastW (d.pend.take (m + 1)) i (secAt d.stable i) = lastW (d.pend.take m) i (secAt d.stable i) := by rw [HNX.out, if_neg hq]
        have HNY := Lib.hid hnx
        clear hq hnx
        go_wp2_with (first
          | (refine ldN 61 (penC x) rfl _ rfl q (qo + m * 129) rfl HP.out Try.underlying61 rfl (size_rw x HX.out) ?_)
          | (refine stN 61 (penC x) rfl _ _ rfl _ _ rfl rfl rfl (penC_one x) (size_rw x HX.out) (by rw [penC_length x HX.out]; rfl) ?_))
        go_roundw
        case rel => exact ⟨m + 1, by omega, by go_num, by rw [HNY.out]; exact HC2, HZ2, HB2⟩
        case measure => simp [intOf]; omega
    · obtain rfl : m = d.pend.length := by omega
      have hlast : lastW (d.pend.take d.pend.length) i (secAt d.stable i) = d.read i := by rw [List.take_length]; rfl
      rw [hlast] at HC
      have HLR : Hid ((d.read i).length = 128) := Lib.hid HC.out.2
      clear hlast
      go_wp2_with (first
        | (refine ld37 rfl _ rfl g6 0 rfl (d.read i) HC.out.range HLR.out ?_)
        | (refine st37_at rfl _ _ rfl (w.heap.size + 1) _ rfl HZ.out (d.read i) rfl HLR.out ?_; intro w3 hs3 hk3; have HS3 := Lib.hid hs3; have HK3 := Lib.hid hk3; clear hs3 hk3))
      exact bodyPost_ret (ret37_atT Try.results20 _ _ _ _ _ rfl rfl HS3.out) rfl ⟨rfl, HB.out.trans (HK3.out.below HB.out.size (fun i e => by subst e; omega))⟩
end
end Go.Proofs.Ytoghmakbdhepfaa
