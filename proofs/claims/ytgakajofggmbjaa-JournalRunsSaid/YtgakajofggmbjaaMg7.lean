/- The document's disk: power, Break, New, At, Read. -/
import Derived.Test.YtgakajofggmbjaaMg6
namespace Go.Proofs.Ytgakajofggmbjaa
open Go.RowKit
attribute [local go_sem ↓] build37

theorem range_bl {w w1 : World} {b o : Nat} {cs : List Value} (h : w.rangeAt b o cs) (hb : Below w.heap.size w w1) : w1.rangeAt b o cs := range_kp (S := fun _ => False) h (Kp.of_below hb) (fun hf => hf)
theorem below_alloc2 (w : World) (a b : Obj) : Below w.heap.size w ((w.alloc a).alloc b) := (below_alloc w a).alloc (by simp) b
/-- A disk in a variable, its cells as they stand, handed back (with something more). -/
theorem ret_lit_tmp {fn : Func} {p q : Tmp} (h : fn.results = #[.cell p 30, .tmp q]) (tmps : Array Value) (w : World) (x0 x1 x2 x3 u : Value) (g : Nat) (hp : tmps.getD p undef = .pointer (some ⟨g, 0, none⟩)) (hq : tmps.getD q undef = u) (hg : g = w.heap.size) :
    (results fn tmps).run Try.prog (w.alloc (.cells #[x0, x1, x2, x3] 30)) = .ok (.tuple #[.agg #[x0, x1, x2, x3], u]) (w.alloc (.cells #[x0, x1, x2, x3] 30)) := by
  subst hg
  exact res_row_tmp h tmps _ _ _ [x0, x1, x2, x3] _ u hp hq (range_alloc w _ _ _) Try.underlying30 rfl Try.sizeRD
theorem ret_lit {fn : Func} {p : Tmp} (h : fn.results = #[.cell p 30]) (tmps : Array Value) (w : World) (x0 x1 x2 x3 : Value) (g : Nat) (hp : tmps.getD p undef = .pointer (some ⟨g, 0, none⟩)) (hg : g = w.heap.size) :
    (results fn tmps).run Try.prog (w.alloc (.cells #[x0, x1, x2, x3] 30)) = .ok (.agg #[x0, x1, x2, x3]) (w.alloc (.cells #[x0, x1, x2, x3] 30)) := by
  subst hg
  exact res_row h tmps _ _ _ [x0, x1, x2, x3] _ hp (range_alloc w _ _ _) Try.underlying30 rfl Try.sizeRD
section
variable {w : World} {A : Option Addr} {c : Nat} {B : Option Addr} {k : Nat} {d : Dk}
set_option maxRecDepth 20000 in
set_option maxHeartbeats 800000 in
theorem ref_power (hf : -1 ≤ d.fuel ∧ d.fuel ≤ 9223372036854775807) (w : World) : Calls Try.prog 52 #[.agg (rdC A c B k d).toArray] w fun e w' => e = .returned (.tuple #[.agg (rdC A c B k d.power.1).toArray, .bool d.power.2]) ∧ Below w.heap.size w w' := by
  obtain ⟨st, pn, f, b⟩ := d
  obtain ⟨n, hn⟩ : ∃ n, n = st.length := ⟨_, rfl⟩
  obtain ⟨m, hm⟩ : ∃ m, m = pn.length := ⟨_, rfl⟩
  unfold rdC Dk.power
  dsimp only at hf ⊢
  rw [← hn, ← hm]
  by_cases h1 : b = true ∨ f = 0
  · rw [if_pos h1]
    dsimp only
    rw [← hn, ← hm]
    clear hn hm
    by_cases hb : b = true
    · subst hb
      clear h1
      go_enter Try.func52, Try.ntmps52
      go_wp2
      exact bodyPost_ret (ret_lit_tmp Try.results52 _ _ _ _ _ _ _ _ rfl rfl (by simp)) rfl ⟨rfl, below_alloc2 w _ _⟩
    · obtain rfl : f = 0 := h1.resolve_left hb
      have hb' : b = false := by simpa using hb
      subst hb'
      clear h1 hb
      go_enter Try.func52, Try.ntmps52
      go_wp2
      exact bodyPost_ret (ret_lit_tmp Try.results52 _ _ _ _ _ _ _ _ rfl rfl (by simp)) rfl ⟨rfl, below_alloc2 w _ _⟩
  · rw [if_neg h1]
    dsimp only
    rw [← hn, ← hm]
    clear hn hm
    have hb : b = false := by simpa using fun h => h1 (.inl h)
    have h0 : (f == 0) = false := beq_eq_false_iff_ne.2 fun h => h1 (.inr h)
    subst hb
    clear h1
    by_cases h2 : 0 < f
    · rw [if_pos h2]
      go_enter Try.func52, Try.ntmps52
      go_wp2
      exact bodyPost_ret (ret_lit_tmp Try.results52 _ _ _ _ _ _ _ _ rfl rfl (by simp)) rfl ⟨rfl, below_alloc2 w _ _⟩
    · rw [if_neg h2]
      go_enter Try.func52, Try.ntmps52
      go_wp2
      exact bodyPost_ret (ret_lit_tmp Try.results52 _ _ _ _ _ _ _ _ rfl rfl (by simp)) rfl ⟨rfl, below_alloc2 w _ _⟩

set_option maxRecDepth 20000 in
set_option maxHeartbeats 800000 in
theorem ref_Break (i : Int) (w : World) : Calls Try.prog 16 #[.agg (rdC A c B k d).toArray, .int .i64 i] w fun e w' => e = .returned (.agg (rdC A c B k { d with fuel := max i (-1) }).toArray) ∧ Below w.heap.size w w' := by
  obtain ⟨st, pn, f, b⟩ := d
  unfold rdC
  dsimp only
  generalize st.length = n
  generalize pn.length = m
  by_cases h0 : i < 0
  · rw [show max i (-1) = -1 by omega]
    go_enter Try.func16, Try.ntmps16
    go_wp2
    exact bodyPost_ret (ret_lit Try.results16 _ _ _ _ _ _ _ rfl (by simp)) rfl ⟨rfl, below_alloc2 w _ _⟩
  · rw [show max i (-1) = i by omega]
    go_enter Try.func16, Try.ntmps16
    go_wp2
    exact bodyPost_ret (ret_lit Try.results16 _ _ _ _ _ _ _ rfl (by simp)) rfl ⟨rfl, below_alloc2 w _ _⟩

set_option maxRecDepth 20000 in
set_option maxHeartbeats 800000 in
theorem ref_At_yes (h : RDk w A c B k d) (i : Nat) (hi : i < d.stable.length) : Calls Try.prog 24 #[.agg (rdC A c B k d).toArray, .int .i64 i] w fun e w' => e = .returned (secV (secAt d.stable i)) ∧ Below w.heap.size w w' := by
  obtain ⟨b, o, rfl, hr⟩ := h.secR i hi
  have HL := Lib.hid (h.secL i hi)
  have hk0 : (0 : Int) ≤ (i : Int) := Int.natCast_nonneg _
  have hk1 : (i : Int) < (d.stable.length : Int) := by omega
  have HB0 := Lib.hid (below_alloc2 w (.cells (rdC (some ⟨b, o, none⟩) c B k d).toArray 30) (.cells Try.zeroCells55 55))
  have HR := Lib.hid (range_bl hr HB0.out)
  have HD := Lib.hid ((RowAt.new w 30 (rdC (some ⟨b, o, none⟩) c B k d)).below (below_alloc _ (.cells Try.zeroCells55 55)))
  have HS := Lib.hid (zsec_new' (w.alloc (.cells (rdC (some ⟨b, o, none⟩) c B k d).toArray 30)) (w.heap.size + 1) (by simp))
  clear hr h
  go_enter Try.func24, Try.ntmps24
  go_wp2_with (refine ldN 30 (rdC (some ⟨b, o, none⟩) c B k d) rfl _ rfl w.heap.size 0 rfl HD.out.range Try.underlying30 rfl Try.sizeRD ?_)
  refine (ref_There_yes i hi _).mono ?_
  rintro e w1 ⟨rfl, hb1⟩
  obtain ⟨c0, -, -, -⟩ := rd_cells (HD.out.below hb1)
  have HB1 := Lib.hid (bthen HB0.out hb1); have HR1 := Lib.hid (range_bl HR.out hb1); have HS1 := Lib.hid (HS.out.below hb1)
  clear hb1 HB0 HR HS HD
  go_wp2_with (first
    | (refine ld37 rfl _ rfl b (o + i * 128) rfl (secAt d.stable i) HR1.out HL.out ?_)
    | (refine st37_at rfl _ _ rfl (w.heap.size + 1) zsec rfl HS1.out (secAt d.stable i) rfl HL.out ?_; intro w2 hs2 hk2; have HS2 := Lib.hid hs2; have HK2 := Lib.hid hk2; clear hs2 hk2))
  exact bodyPost_ret (ret37_at1 Try.results24 _ _ _ _ rfl HS2.out) rfl ⟨rfl, HB1.out.trans (HK2.out.below HB1.out.size (fun i e => by subst e; omega))⟩
set_option maxRecDepth 20000 in
set_option maxHeartbeats 800000 in
theorem ref_At_no (i : Int) (hi : i < 0 ∨ (d.stable.length : Int) ≤ i) (w : World) : Calls Try.prog 24 #[.agg (rdC A c B k d).toArray, .int .i64 i] w fun e w' => e = .returned (secV zsec) ∧ Below w.heap.size w w' := by
  have b0 := run_bldSec0
  have HB0 := Lib.hid (below_alloc2 w (.cells (rdC A c B k d).toArray 30) (.cells Try.zeroCells55 55))
  have HD := Lib.hid ((RowAt.new w 30 (rdC A c B k d)).below (below_alloc _ (.cells Try.zeroCells55 55)))
  have HS := Lib.hid (zsec_new' (w.alloc (.cells (rdC A c B k d).toArray 30)) (w.heap.size + 1) (by simp))
  have HI := Lib.hid hi
  clear hi
  go_enter Try.func24, Try.ntmps24
  go_wp2_with (refine ldN 30 (rdC A c B k d) rfl _ rfl w.heap.size 0 rfl HD.out.range Try.underlying30 rfl Try.sizeRD ?_)
  refine (ref_There_no i HI.out _).mono ?_
  rintro e w1 ⟨rfl, hb1⟩
  have HB1 := Lib.hid (bthen HB0.out hb1); have HS1 := Lib.hid (HS.out.below hb1)
  clear hb1 HB0 HS HD
  go_wp2_with (refine st37_at rfl _ _ rfl (w.heap.size + 1) zsec rfl HS1.out zsec rfl zsec_length ?_; intro w2 hs2 hk2; have HS2 := Lib.hid hs2; have HK2 := Lib.hid hk2; clear hs2 hk2)
  exact bodyPost_ret (ret37_at1 Try.results24 _ _ _ _ rfl HS2.out) rfl ⟨rfl, HB1.out.trans (HK2.out.below HB1.out.size (fun i e => by subst e; omega))⟩

set_option maxRecDepth 20000 in
set_option maxHeartbeats 800000 in
theorem ref_Read_no (i : Int) (hi : i < 0 ∨ (d.stable.length : Int) ≤ i) (w : World) : Calls Try.prog 41 #[.agg (rdC A c B k d).toArray, .int .i64 i] w fun e w' => e = .returned (.tuple #[secV zsec, .int .i64 41]) ∧ Below w.heap.size w w' := by
  have b0 := run_bldSec0
  have HB0 := Lib.hid (below_alloc2 w (.cells (rdC A c B k d).toArray 30) (.cells Try.zeroCells55 55))
  have HD := Lib.hid ((RowAt.new w 30 (rdC A c B k d)).below (below_alloc _ (.cells Try.zeroCells55 55)))
  have HS := Lib.hid (zsec_new' (w.alloc (.cells (rdC A c B k d).toArray 30)) (w.heap.size + 1) (by simp))
  have HI := Lib.hid hi
  clear hi
  go_enter Try.func41, Try.ntmps41
  go_wp2_with (refine ldN 30 (rdC A c B k d) rfl _ rfl w.heap.size 0 rfl HD.out.range Try.underlying30 rfl Try.sizeRD ?_)
  refine (ref_There_no i HI.out _).mono ?_
  rintro e w1 ⟨rfl, hb1⟩
  have HB1 := Lib.hid (bthen HB0.out hb1); have HS1 := Lib.hid (HS.out.below hb1)
  clear hb1 HB0 HS HD
  go_wp2_with (refine st37_at rfl _ _ rfl (w.heap.size + 1) zsec rfl HS1.out zsec rfl zsec_length ?_; intro w2 hs2 hk2; have HS2 := Lib.hid hs2; have HK2 := Lib.hid hk2; clear hs2 hk2)
  exact bodyPost_ret (ret37_atT Try.results41 _ _ _ _ _ rfl rfl HS2.out) rfl ⟨rfl, HB1.out.trans (HK2.out.below HB1.out.size (fun i e => by subst e; omega))⟩

theorem lastW_take (l : List (Nat × List UInt8)) (i m : Nat) (z : List UInt8) (hm : m < l.length) : lastW (l.take (m + 1)) i z = if (penAt l m).1 = i then (penAt l m).2 else lastW (l.take m) i z := by
  rw [List.take_succ_eq_append_getElem hm, lastW_append]
  have e : penAt l m = l[m] := by rw [penAt, List.getD_eq_getElem?_getD, List.getElem?_eq_getElem hm]; rfl
  rw [e]
  rfl
set_option maxRecDepth 20000 in
set_option maxHeartbeats 1600000 in
theorem ref_Read_yes (h : RDk w A c B k d) (i : Nat) (hi : i < d.stable.length) (hpl : d.pend.length ≤ 1000000) : Calls Try.prog 41 #[.agg (rdC A c B k d).toArray, .int .i64 i] w fun e w' => e = .returned (.tuple #[secV (d.read i), .int .i64 0]) ∧ Below w.heap.size w w' := by
  obtain ⟨b, o, rfl, hr⟩ := h.secR i hi
  have H := Lib.hid h
  have HL := Lib.hid (h.secL i hi)
  have hk0 : (0 : Int) ≤ (i : Int) := Int.natCast_nonneg _
  have hk1 : (i : Int) < (d.stable.length : Int) := by omega
  have HB0 := Lib.hid (below_alloc2 w (.cells (rdC (some ⟨b, o, none⟩) c B k d).toArray 30) (.cells Try.zeroCells55 55))
  have HR := Lib.hid (range_bl hr HB0.out)
  have HD := Lib.hid ((RowAt.new w 30 (rdC (some ⟨b, o, none⟩) c B k d)).below (below_alloc _ (.cells Try.zeroCells55 55)))
  have HS := Lib.hid (zsec_new' (w.alloc (.cells (rdC (some ⟨b, o, none⟩) c B k d).toArray 30)) (w.heap.size + 1) (by simp))
  clear hr h
  go_enter Try.func41, Try.ntmps41
  go_wp2_with (refine ldN 30 (rdC (some ⟨b, o, none⟩) c B k d) rfl _ rfl w.heap.size 0 rfl HD.out.range Try.underlying30 rfl Try.sizeRD ?_)
  refine (ref_There_yes i hi _).mono ?_
  rintro e w1 ⟨rfl, hb1⟩
  obtain ⟨c0, -, -, -⟩ := rd_cells (HD.out.below hb1)
  obtain ⟨-, c1, -, -⟩ := rd_cells ((HD.out.below hb1).below (below_alloc w1 (.cells (bv (secAt d.stable i)).toArray 55)))
  have HB1 := Lib.hid (balloc (bthen HB0.out hb1) (.cells (bv (secAt d.stable i)).toArray 55)); have HR1 := Lib.hid (range_bl HR.out hb1)
  have HS1 := Lib.hid ((HS.out.below hb1).below (below_alloc w1 (.cells (bv (secAt d.stable i)).toArray 55)))
  have HC1 := Lib.hid (SecAt.new w1 (secAt d.stable i) HL.out)
  have HN : Hid (w.heap.size + 1 < w1.heap.size) := Lib.hid (by have := hb1.size; simp at this; omega)
  clear hb1 HB0 HR HS HD
  go_wp2_with (first
    | (refine ld37 rfl _ rfl b (o + i * 128) rfl (secAt d.stable i) HR1.out HL.out ?_)
    | (refine st37 rfl _ _ rfl _ _ rfl rfl (secAt d.stable i) rfl HL.out rfl ?_))
  generalize hg6 : w1.heap.size = g6 at *
  generalize hw2 : w1.alloc (.cells (bv (secAt d.stable i)).toArray 55) = w2 at *
  clear hw2 hg6 HR1 c0
  go_loopw [22] (fun j wr => ∃ m : Nat, m ≤ d.pend.length ∧ j = .int .i64 m ∧ Hid (SecAt wr g6 (lastW (d.pend.take m) i (secAt d.stable i))) ∧ Hid (SecAt wr (w.heap.size + 1) zsec) ∧ Hid (Below w.heap.size w wr)) (fun j _ => d.pend.length - (intOf j).toNat)
  case atStart => exact ⟨0, by omega, rfl, HC1, HS1, HB1⟩
  case round =>
    clear HC1 HS1 HB1 c1
    obtain ⟨m, hm, rfl, HC, HZ, HB⟩ := hrel
    by_cases hlt : m < d.pend.length
    · obtain ⟨q, qo, rfl, hp⟩ := (H.out.below HB.out).penR m hlt
      obtain ⟨hpin, hln⟩ := H.out.pinAt m hlt
      have hnx := lastW_take d.pend i m (secAt d.stable i) hlt
      generalize penAt d.pend m = x at *
      have HP := Lib.hid hp; have HX := Lib.hid hln; have HNX := Lib.hid hnx
      have hrow := RowAt.new wr 96 (penC x)
      have q0 := hrow.cell 0 _ rfl
      have HQ : Hid ((wr.alloc (.cells (penC x).toArray 96)).rangeAt wr.heap.size 1 (bv x.2)) := Lib.hid (range_alloc1 wr _ _ _ _)
      have hm0 : (0 : Int) ≤ (m : Int) := Int.natCast_nonneg _
      have hm1 : (m : Int) < (d.pend.length : Int) := by omega
      have HC2 := Lib.hid (HC.out.below (below_alloc wr (.cells (penC x).toArray 96)))
      have HZ2 := Lib.hid (HZ.out.below (below_alloc wr (.cells (penC x).toArray 96)))
      have HB2 := Lib.hid (balloc HB.out (.cells (penC x).toArray 96))
      clear hp hln hnx hpin hrow
      by_cases hq : x.1 = i
      · have hb : ((x.1 : Int) == (i : Int)) = true := by rw [beq_iff_eq]; omega
        have hnx : lastW (d.pend.take (m + 1)) i (secAt d.stable i) = x.2 := by rw [HNX.out, if_pos hq]
        have HNY := Lib.hid hnx
        clear hq hnx
        go_wp2_with (first
          | (refine ldN 96 (penC x) rfl _ rfl q (qo + m * 129) rfl HP.out Try.underlying96 rfl (size_rw x HX.out) ?_)
          | (refine stN 96 (penC x) rfl _ _ rfl _ _ rfl rfl rfl (penC_one x) (size_rw x HX.out) (by rw [penC_length x HX.out]; rfl) ?_)
          | (refine ld37 rfl _ rfl wr.heap.size 1 rfl x.2 HQ.out HX.out ?_)
          | (refine st37_at rfl _ _ rfl g6 _ rfl HC2.out x.2 rfl HX.out ?_; intro w3 hs3 hk3; have HS3 := Lib.hid hs3; have HK3 := Lib.hid hk3; clear hs3 hk3))
        go_roundw
        case rel => exact ⟨m + 1, by omega, by go_num, by rw [HNY.out]; exact HS3, Lib.hid (HZ2.out.kp HK3.out (by have := HN.out; omega)), Lib.hid (HB2.out.trans (HK3.out.below HB2.out.size (fun i e => by subst e; have := HN.out; omega)))⟩
        case measure => simp [intOf]; omega
      · have hb : ((x.1 : Int) == (i : Int)) = false := by rw [beq_eq_false_iff_ne]; omega
        have hnx : lastW (d.pend.take (m + 1)) i (secAt d.stable i) = lastW (d.pend.take m) i (secAt d.stable i) := by rw [HNX.out, if_neg hq]
        have HNY := Lib.hid hnx
        clear hq hnx
        go_wp2_with (first
          | (refine ldN 96 (penC x) rfl _ rfl q (qo + m * 129) rfl HP.out Try.underlying96 rfl (size_rw x HX.out) ?_)
          | (refine stN 96 (penC x) rfl _ _ rfl _ _ rfl rfl rfl (penC_one x) (size_rw x HX.out) (by rw [penC_length x HX.out]; rfl) ?_))
        go_roundw
        case rel => exact ⟨m + 1, by omega, by go_num, by rw [HNY.out]; exact HC2, HZ2, HB2⟩
        case measure => simp [intOf]; omega
    · obtain rfl : m = d.pend.length := by omega
      have hlast : lastW (d.pend.take d.pend.length) i (secAt d.stable i) = d.read i := by rw [List.take_length]; rfl
      rw [hlast] at HC
      have HLR : Hid ((d.read i).length = 128) := Lib.hid HC.out.2
      clear hlast
      go_wp2_with (first
        | (refine ld37 rfl _ rfl g6 0 rfl (d.read i) HC.out.range HLR.out ?_)
        | (refine st37_at rfl _ _ rfl (w.heap.size + 1) _ rfl HZ.out (d.read i) rfl HLR.out ?_; intro w3 hs3 hk3; have HS3 := Lib.hid hs3; have HK3 := Lib.hid hk3; clear hs3 hk3))
      exact bodyPost_ret (ret37_atT Try.results41 _ _ _ _ _ rfl rfl HS3.out) rfl ⟨rfl, HB.out.trans (HK3.out.below HB.out.size (fun i e => by subst e; omega))⟩
end
end Go.Proofs.Ytgakajofggmbjaa

/- The document's disk: New, Put, Flush. -/
namespace Go.Proofs.Ytgakajofggmbjaa
open Go.RowKit
attribute [local go_sem ↓] build37

/-! ### Rows of one's own -/
theorem own_rd {w : World} {base n size : Nat} {e : TypeId} {v : Value} {xs : List Value} (h : w.ownsRow base e size v n xs) : ∃ A c, v = .slice A n c ∧ Rd w A n size xs ∧ n ≤ c ∧ c ≤ 9223372036854775807 := by
  rcases h.2 with ⟨rfl, rfl⟩ | ⟨g, cap, cur, rfl, _, hh, hnc, hcm, _⟩
  · have hl := h.1
    rw [Nat.zero_mul] at hl
    obtain rfl := List.eq_nil_of_length_eq_zero hl
    exact ⟨none, 0, rfl, ⟨by simp, fun hp => by simp at hp⟩, Nat.le_refl _, by omega⟩
  · refine ⟨_, cap, rfl, ⟨h.1, fun _ => ⟨g, 0, rfl, fun j u hj => ?_⟩⟩, hnc, by simpa [maxLen] using hcm⟩
    have := h.cells (g := g) rfl j u hj
    rw [add_none] at this
    exact this
theorem splice_take {α : Type} (c : List α) (o m : Nat) (xs : List α) (h : o + xs.length ≤ m) (hm : m ≤ c.length) : (splice c o xs).take m = splice (c.take m) o xs := by
  unfold splice
  have h1 : (c.take o).length = o := by rw [List.length_take, Nat.min_eq_left (by omega)]
  have e1 : (c.take o).take m = c.take o := List.take_of_length_le (by omega)
  have e2 : xs.take (m - o) = xs := List.take_of_length_le (by omega)
  rw [List.take_append, h1, List.take_append, e1, e2, List.take_take, Nat.min_eq_left (show o ≤ m by omega), List.drop_take, Nat.sub_sub]
/-- Cells of a row of one's own are written. -/
theorem own_setCells {w : World} {base n size cap g : Nat} {e : TypeId} {xs : List Value} (h : w.ownsRow base e size (.slice (some ⟨g, 0, none⟩) n cap) n xs) (o : Nat) (cs : List Value) (ho : o + cs.length ≤ xs.length) :
    (w.setCells g o cs).ownsRow base e size (.slice (some ⟨g, 0, none⟩) n cap) n (splice xs o cs) ∧ Kp (· = g) w (w.setCells g o cs) ∧ base ≤ g := by
  have hx := h.1
  rcases h.2 with ⟨h0, _⟩ | ⟨g', cap', cur, he, hb, hg, hnc, hcm, hs, ht⟩
  · cases h0
  · injection he with e1 _ e3
    injection e1 with e1
    injection e1 with e1
    subst e1 e3
    have hle : n * size ≤ cap * size := Nat.mul_le_mul_right _ hnc
    obtain ⟨h1, h2⟩ := setCells_heap g e cs cur o w hg (by omega)
    refine ⟨⟨?_, .inr ⟨g, cap, _, rfl, hb, h1, hnc, hcm, ?_, ?_⟩⟩, h2, hb⟩
    · unfold splice
      simp
      omega
    · unfold splice
      simp
      omega
    · rw [List.toList_toArray, splice_take _ _ _ _ (by omega) (by simp; omega), ht]
theorem own_there {w : World} {base n size cap g : Nat} {e : TypeId} {xs : List Value} (h : w.ownsRow base e size (.slice (some ⟨g, 0, none⟩) n cap) n xs) (o m : Nat) (ho : o + m ≤ xs.length) : w.there g o m := by
  intro j hj
  have hx := h.1
  refine ⟨?_, h.frozenAt _⟩
  rw [h.cellAt (o + j) (by omega), List.getElem?_eq_getElem (by omega)]
  rfl
theorem secs_len {st : List (List UInt8)} (h : ∀ x ∈ st, x.length = 128) : (secs st).length = st.length * 128 := secs_length st h
theorem set_wid {st : List (List UInt8)} (h : ∀ x ∈ st, x.length = 128) (k : Nat) (l : List UInt8) (hl : l.length = 128) : ∀ x ∈ st.set k l, x.length = 128 := by
  intro x hx
  rcases List.mem_or_eq_of_mem_set hx with hx | rfl
  · exact h x hx
  · exact hl
/-- A sector of a row of one's own is written. -/
theorem own_setSec {w : World} {base n cap g : Nat} {e : TypeId} {st : List (List UInt8)} (h : w.ownsRow base e 128 (.slice (some ⟨g, 0, none⟩) n cap) n (secs st)) (hw : ∀ x ∈ st, x.length = 128) (k : Nat) (l : List UInt8) (hk : k < st.length) (hl : l.length = 128) :
    w.there g (k * 128) 128 ∧ (w.setCells g (k * 128) (bv l)).ownsRow base e 128 (.slice (some ⟨g, 0, none⟩) n cap) n (secs (st.set k l)) ∧ Kp (· = g) w (w.setCells g (k * 128) (bv l)) ∧ base ≤ g := by
  have hle := secs_length st hw
  have hkk := Nat.mul_le_mul_right 128 (show k + 1 ≤ st.length from hk)
  have h1 := own_setCells h (k * 128) (bv l) (by rw [hle, bv_length, hl]; omega)
  rw [secs_set st k l hk hl hw] at h1
  exact ⟨own_there h _ _ (by rw [hle]; omega), h1⟩
theorem applyW_wid (l : List (Nat × List UInt8)) : ∀ st : List (List UInt8), (∀ x ∈ st, x.length = 128) → (∀ x ∈ l, x.2.length = 128) → ∀ x ∈ applyW st l, x.length = 128 := by
  induction l with
  | nil => intro st h _; exact h
  | cons x l ih => intro st h h2; exact ih _ (set_wid h _ _ (h2 x List.mem_cons_self)) (fun y hy => h2 y (List.mem_cons_of_mem _ hy))
section
variable {ops : Array Oper} {rest : List Oper} {op : Oper} {a : Act} {w : World} {Q : Exit → Act → World → Prop}
/-- A sector is stored where there is room for one. -/
theorem st37_mid (hgd : op.guard = none) (x y : Operand) (ho : op.op = .store 55 x y) (g o : Nat) (hx : a.eval x = .pointer (some ⟨g, o, none⟩)) (l : List UInt8) (hy : a.eval y = secV l) (hl : l.length = 128) (ht : w.there g o 128)
    (h : wpList Try.prog ops Q rest (a.put op.dst undef) (w.setCells g o (bv l))) : wpList Try.prog ops Q (op :: rest) a w := by
  refine wpList_store_mid hgd _ x y ho _ o (bv l).toArray hx hy ?_ (Try.size37.trans (by simp [bv_length, hl])) (all_oneCell_toArray (bv_one l)) (by simpa using h)
  simpa [bv_length, hl] using ht
end
theorem RowAt.setCell {w : World} {g : Nat} {t : TypeId} {cs : List Value} (h : RowAt w g t cs) (j : Nat) (u : Value) : RowAt (w.setCell ⟨g, j, none⟩ u) g t (cs.set j u) := by
  unfold RowAt
  rw [heap_setCell_same w g j _ _ u h]
  simp
theorem Try.infoRW : (Try.prog.info? 96).map (fun i => (i.zero, i.size, i.bytes)) = some (some (.agg Try.zeroCells96), 129, 136) := by kernel_rfl
theorem Try.info37r : (Try.prog.info? 55).map (fun i => (i.zero, i.size, i.bytes)) = some (some (.agg Try.zeroCells55), 128, 128) := by kernel_rfl
/-- A write of the document's, and a slice of one of them, are built: behind names. -/
def bldRW (parts : Array (Nat × Value)) : Sem Value := Instr.build 96 parts
theorem buildRW (parts : Array (Nat × Value)) : Instr.build 96 parts = bldRW parts := rfl
def bldRWs (n : Nat) (parts : Array (Nat × Value)) : Sem Value := Instr.buildSlice 28 n parts
theorem buildSliceRW (parts : Array (Nat × Value)) : Instr.buildSlice 28 1 parts = bldRWs 1 parts := rfl
set_option maxRecDepth 20000 in
theorem run_bldRW (w : World) (k : Nat) (l : List UInt8) (hl : l.length = 128) : (bldRW #[(0, .int .i64 k), (1, .agg (bv l).toArray)]).run Try.prog w = .ok (.agg (penC (k, l)).toArray) w := by
  have hb : (bv l).length = 128 := by rw [bv_length, hl]
  unfold bldRW
  simp [go_sem, hb]
  exact fold_one _ _ _ (by rw [hb]; rfl)
set_option maxRecDepth 20000 in
theorem run_bldRWs (w : World) (cs : List Value) (hl : cs.length = 129) : (bldRWs 1 #[(0, .agg cs.toArray)]).run Try.prog w = .ok (.slice (some ⟨w.heap.size, 0, none⟩) 1 1) (w.alloc (.cells cs.toArray 96)) := by
  unfold bldRWs
  simp [go_sem, hl]
  rw [fold_full _ _ (by rw [hl]; rfl)]

section
variable {w : World} {A : Option Addr} {c : Nat} {B : Option Addr} {k : Nat} {d : Dk}
set_option maxRecDepth 20000 in
set_option maxHeartbeats 800000 in
theorem ref_New (n : Int) (w : World) : Calls Try.prog 10 #[.int .i64 n] w fun e w' => ∃ A c, e = .returned (.agg (rdC A c none 0 (newDk n)).toArray) ∧ RDk w' A c none 0 (newDk n) ∧ Below w.heap.size w w' ∧ FrA w w' A := by
  obtain ⟨i0, hi0, hz0, hz1, hz2⟩ := info_parts Try.info37r
  have HI := Lib.hid hi0; have HI0 := Lib.hid hz0; have HI1 := Lib.hid hz1; have HI2 := Lib.hid hz2
  clear hi0 hz0 hz1 hz2
  have main : ∀ m : Nat, m ≤ 1024 → (max 0 (min n 1024)).toNat = m → ∀ w1 : World, w1.ownsRow (w.heap.size + 1) 55 128 (.slice (some ⟨w.heap.size + 1, 0, none⟩) m m) m (madeCells (Value.agg Try.zeroCells55).cells (m * 128)).toList → (w.alloc (.cells #[.slice none 0 0, .slice none 0 0, .int .i64 0, .bool false] 30)).grownBy w1 none →
      RowAt w1 w.heap.size 30 [.slice none 0 0, .slice none 0 0, .int .i64 0, .bool false] ∧ Below w.heap.size w w1 ∧ [Value.slice (some ⟨w.heap.size + 1, 0, none⟩) m m, .slice none 0 0, .int .i64 (-1), .bool false] = rdC (some ⟨w.heap.size + 1, 0, none⟩) m none 0 (newDk n) ∧ (∀ w2, Kp (· = w.heap.size) w1 w2 → RDk w2 (some ⟨w.heap.size + 1, 0, none⟩) m none 0 (newDk n)) ∧ ∀ w2, Kp (· = w.heap.size) w1 w2 → w.heap.size + 1 < w2.heap.size := by
    intro m hm he w1 hown hg
    have hb : Below (w.heap.size + 1) (w.alloc (.cells #[.slice none 0 0, .slice none 0 0, .int .i64 0, .bool false] 30)) w1 := (Below.refl _ _).grown hg (by simp) (fun k hk => by cases hk)
    have hb1 : Below w.heap.size w w1 := (below_alloc w _).trans (hb.mono (by omega))
    have hst : (newDk n).stable = List.replicate m zsec := by simp [newDk, he]
    have hl : (newDk n).stable.length = m := by rw [hst, List.length_replicate]
    have hrow := RowAt.new w 30 [.slice none 0 0, .slice none 0 0, .int .i64 0, .bool false]
    refine ⟨(hb.block _ (by omega)).trans hrow, hb1, by unfold rdC; rw [hl]; rfl, fun w2 hk => ?_, fun w2 hk => Nat.lt_of_lt_of_le (lt_of_heap (own_full hown).2) hk.size⟩
    rw [show (madeCells (Value.agg Try.zeroCells55).cells (m * 128)).toList = secs (List.replicate m zsec) from made_secs m] at hown
    have hwid : ∀ x ∈ (newDk n).stable, x.length = 128 := by
      intro x hx
      rw [hst] at hx
      rw [List.eq_of_mem_replicate hx]
      exact zsec_length
    obtain ⟨_, hs⟩ := own_full hown
    have hs2 : w2.heap[w.heap.size + 1]? = some (.cells (secs (List.replicate m zsec)).toArray 55 (0, 0)) := (hk.block _ (lt_of_heap hs) (by omega)).trans hs
    refine ⟨⟨by rw [secs_length _ hwid], fun _ => ⟨_, 0, rfl, fun j u hj => ?_⟩⟩, ⟨by simp [newDk, pcells], fun hp => by simp [newDk, pcells] at hp⟩, by rw [hl]; exact Nat.le_refl _, by omega, by simp [newDk], by omega, by rw [hl]; exact hm, hwid, fun x hx => by simp [newDk] at hx, by simp [newDk]⟩
    rw [cell_of_row w2 _ _ _ _ _ hs2, List.getElem?_toArray, Nat.zero_add, ← hst]
    exact hj
  by_cases h0 : n < 0
  · have HM := Lib.hid (main 0 (by omega) (by omega))
    clear main
    go_enter Try.func10, Try.ntmps10
    go_wp2_with (first
      | (at_make; refine wpList_make_full _ rfl _ _ 27 rfl (w.heap.size + 1) 55 i0 _ 128 Try.underlying27 HI.out HI0.out HI1.out .i64 .i64 _ _ 0 rfl rfl rfl rfl (by simp) (by simp) (by simp) ?_; intro w1 hown hg; simp only [World.size_alloc] at hown; obtain ⟨r1, r2, r3, r4, r5⟩ := HM.out w1 hown hg; have R1 := Lib.hid r1; have R2 := Lib.hid r2; have R3 := Lib.hid r3; have R4 := Lib.hid r4; have R5 := Lib.hid r5; clear hown hg r1 r2 r3 r4 r5)
      | (refine stN_at 30 [.slice (some ⟨w.heap.size + 1, 0, none⟩) 0 0, .slice none 0 0, .int .i64 (-1), .bool false] _ rfl _ _ rfl w.heap.size rfl R1.out rfl (by simp [Value.oneCell']) Try.sizeRD rfl ?_; intro w2 hs2 hk2; have HS2 := Lib.hid hs2; have HK2 := Lib.hid hk2; clear hs2 hk2))
    have hs3 := HS2.out
    rw [R3.out] at hs3
    exact bodyPost_ret (ret_rd Try.results10 _ _ _ _ _ _ _ _ rfl hs3) rfl ⟨_, _, rfl, R4.out _ HK2.out, R2.out.trans (HK2.out.below R2.out.size (fun i e => by subst e; omega)), fun b o e => by cases e; exact ⟨by omega, R5.out _ HK2.out⟩⟩
  · by_cases h1 : n ≤ 1024
    · obtain ⟨m, rfl⟩ := Int.eq_ofNat_of_zero_le (show 0 ≤ n by omega)
      have HM := Lib.hid (main m (by omega) (by omega))
      clear main
      go_enter Try.func10, Try.ntmps10
      go_wp2_with (first
        | (at_make; refine wpList_make_full _ rfl _ _ 27 rfl (w.heap.size + 1) 55 i0 _ 128 Try.underlying27 HI.out HI0.out HI1.out .i64 .i64 _ _ m rfl rfl (by omega) (by omega) (by rw [HI2.out]; omega) (by unfold maxLen; omega) (by simp) ?_; intro w1 hown hg; simp only [World.size_alloc] at hown; obtain ⟨r1, r2, r3, r4, r5⟩ := HM.out w1 hown hg; have R1 := Lib.hid r1; have R2 := Lib.hid r2; have R3 := Lib.hid r3; have R4 := Lib.hid r4; have R5 := Lib.hid r5; clear hown hg r1 r2 r3 r4 r5)
        | (refine stN_at 30 [.slice (some ⟨w.heap.size + 1, 0, none⟩) m m, .slice none 0 0, .int .i64 (-1), .bool false] _ rfl _ _ rfl w.heap.size rfl R1.out rfl (by simp [Value.oneCell']) Try.sizeRD rfl ?_; intro w2 hs2 hk2; have HS2 := Lib.hid hs2; have HK2 := Lib.hid hk2; clear hs2 hk2))
      have hs3 := HS2.out
      rw [R3.out] at hs3
      exact bodyPost_ret (ret_rd Try.results10 _ _ _ _ _ _ _ _ rfl hs3) rfl ⟨_, _, rfl, R4.out _ HK2.out, R2.out.trans (HK2.out.below R2.out.size (fun i e => by subst e; omega)), fun b o e => by cases e; exact ⟨by omega, R5.out _ HK2.out⟩⟩
    · have HM := Lib.hid (main 1024 (by omega) (by omega))
      clear main
      go_enter Try.func10, Try.ntmps10
      go_wp2_with (first
        | (at_make; refine wpList_make_full _ rfl _ _ 27 rfl (w.heap.size + 1) 55 i0 _ 128 Try.underlying27 HI.out HI0.out HI1.out .i64 .i64 _ _ 1024 rfl rfl (by omega) (by omega) (by rw [HI2.out]; omega) (by unfold maxLen; omega) (by simp) ?_; intro w1 hown hg; simp only [World.size_alloc] at hown; obtain ⟨r1, r2, r3, r4, r5⟩ := HM.out w1 hown hg; have R1 := Lib.hid r1; have R2 := Lib.hid r2; have R3 := Lib.hid r3; have R4 := Lib.hid r4; have R5 := Lib.hid r5; clear hown hg r1 r2 r3 r4 r5)
        | (refine stN_at 30 [.slice (some ⟨w.heap.size + 1, 0, none⟩) 1024 1024, .slice none 0 0, .int .i64 (-1), .bool false] _ rfl _ _ rfl w.heap.size rfl R1.out rfl (by simp [Value.oneCell']) Try.sizeRD rfl ?_; intro w2 hs2 hk2; have HS2 := Lib.hid hs2; have HK2 := Lib.hid hk2; clear hs2 hk2))
      have hs3 := HS2.out
      rw [R3.out] at hs3
      exact bodyPost_ret (ret_rd Try.results10 _ _ _ _ _ _ _ _ rfl hs3) rfl ⟨_, _, rfl, R4.out _ HK2.out, R2.out.trans (HK2.out.below R2.out.size (fun i e => by subst e; omega)), fun b o e => by cases e; exact ⟨by omega, R5.out _ HK2.out⟩⟩
end
end Go.Proofs.Ytgakajofggmbjaa
