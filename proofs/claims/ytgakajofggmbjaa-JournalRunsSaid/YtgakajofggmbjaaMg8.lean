/- The document's disk: Put, Flush. -/
import Derived.Test.YtgakajofggmbjaaMg7
namespace Go.Proofs.Ytgakajofggmbjaa
open Go.RowKit
attribute [local go_sem ↓] build37 buildRW buildSliceRW

/-- The zero cells of a disk as a value. -/
def rdZ : List Value := [.slice none 0 0, .slice none 0 0, .int .i64 0, .bool false]
theorem rdZ_new (w : World) (g : Nat) (hg : g = w.heap.size) : RowAt (w.alloc (.cells #[.slice none 0 0, .slice none 0 0, .int .i64 0, .bool false] 30)) g 30 rdZ := hg ▸ RowAt.new w _ rdZ
section
variable {ops : Array Oper} {rest : List Oper} {op : Oper} {a : Act} {w : World} {Q : Exit → Act → World → Prop}
/-- A disk is loaded, stored over another. -/
theorem ldRD {A : Option Addr} {c : Nat} {B : Option Addr} {k : Nat} {d : Dk} (hgd : op.guard = none) (x : Operand) (ho : op.op = .load 30 x) (b : Nat) (hx : a.eval x = .pointer (some ⟨b, 0, none⟩)) (hc : RowAt w b 30 (rdC A c B k d))
    (h : wpList Try.prog ops Q rest (a.put op.dst (.agg (rdC A c B k d).toArray)) w) : wpList Try.prog ops Q (op :: rest) a w :=
  ldN _ _ hgd x ho b 0 hx hc.range Try.underlying30 rfl Try.sizeRD h
theorem stRD {A : Option Addr} {c : Nat} {B : Option Addr} {k : Nat} {d : Dk} {cs0 : List Value} (hgd : op.guard = none) (x y : Operand) (ho : op.op = .store 30 x y) (g : Nat) (hx : a.eval x = .pointer (some ⟨g, 0, none⟩)) (hg : RowAt w g 30 cs0) (hy : a.eval y = .agg (rdC A c B k d).toArray) (hs : cs0.length = 4)
    (h : ∀ w', RowAt w' g 30 (rdC A c B k d) → Kp (· = g) w w' → wpList Try.prog ops Q rest (a.put op.dst undef) w') : wpList Try.prog ops Q (op :: rest) a w :=
  stN_at _ _ cs0 hgd x y ho g hx hg hy (rdC_one A c B k d) Try.sizeRD hs h
end
theorem rdC_len (A : Option Addr) (c : Nat) (B : Option Addr) (k : Nat) (d : Dk) : (rdC A c B k d).length = 4 := rfl
theorem kp_one {w w' : World} {base g : Nat} (hB : base ≤ w.heap.size) (hk : Kp (· = g) w w') (hg : base ≤ g) : Below base w w' := hk.below hB (fun i e => by subst e; exact hg)

theorem put_boxes (w : World) (A : Option Addr) (c : Nat) (B : Option Addr) (k : Nat) (d : Dk) (l : List UInt8) (hl : l.length = 128) :
    RowAt (((w.alloc (.cells (rdC A c B k d).toArray 30)).alloc (.cells (bv l).toArray 55)).alloc (.cells #[.slice none 0 0, .slice none 0 0, .int .i64 0, .bool false] 30)) w.heap.size 30 (rdC A c B k d) ∧ RowAt (((w.alloc (.cells (rdC A c B k d).toArray 30)).alloc (.cells (bv l).toArray 55)).alloc (.cells #[.slice none 0 0, .slice none 0 0, .int .i64 0, .bool false] 30)) (w.heap.size + 1 + 1) 30 rdZ ∧ SecAt (((w.alloc (.cells (rdC A c B k d).toArray 30)).alloc (.cells (bv l).toArray 55)).alloc (.cells #[.slice none 0 0, .slice none 0 0, .int .i64 0, .bool false] 30)) (w.heap.size + 1) l ∧ Below w.heap.size w (((w.alloc (.cells (rdC A c B k d).toArray 30)).alloc (.cells (bv l).toArray 55)).alloc (.cells #[.slice none 0 0, .slice none 0 0, .int .i64 0, .bool false] 30)) := by
  refine ⟨((RowAt.new w _ _).below (below_alloc _ _)).below (below_alloc _ _), rdZ_new _ _ (by simp), ?_, (below_alloc2 w _ _).alloc (by simp; omega) _⟩
  have := (SecAt.new (w.alloc (.cells (rdC A c B k d).toArray 30)) l hl).below (below_alloc _ (.cells #[.slice none 0 0, .slice none 0 0, .int .i64 0, .bool false] 30))
  simpa using this
section
variable {w : World} {A : Option Addr} {c : Nat} {B : Option Addr} {k : Nat} {d : Dk}
set_option maxRecDepth 20000 in
set_option maxHeartbeats 800000 in
theorem ref_Put_no (i : Int) (hi : i < 0 ∨ (d.stable.length : Int) ≤ i) (l : List UInt8) (hl : l.length = 128) (w : World) : Calls Try.prog 33 #[.agg (rdC A c B k d).toArray, .int .i64 i, .agg (bv l).toArray] w fun e w' => e = .returned (.tuple #[.agg (rdC A c B k d).toArray, .int .i64 41]) ∧ Below w.heap.size w w' := by
  have HI := Lib.hid hi
  obtain ⟨hd0, hz0, -, hb0⟩ := put_boxes w A c B k d l hl
  have HD0 := Lib.hid hd0; have HZ0 := Lib.hid hz0; have HB0 := Lib.hid hb0
  clear hi hd0 hz0 hb0
  go_enter Try.func33, Try.ntmps33
  go_wp2_with (refine ldRD rfl _ rfl w.heap.size rfl HD0.out ?_)
  refine (ref_There_no i HI.out _).mono ?_
  rintro e w1 ⟨rfl, hb1⟩
  have HD1 := Lib.hid (HD0.out.below hb1); have HZ1 := Lib.hid (HZ0.out.below hb1); have HB1 := Lib.hid (bthen HB0.out hb1)
  clear hb1
  go_wp2_with (first
    | (refine ldRD rfl _ rfl w.heap.size rfl HD1.out ?_)
    | (refine stRD rfl _ _ rfl (w.heap.size + 1 + 1) rfl HZ1.out rfl rfl ?_; intro w2 hs2 hk2; have HS2 := Lib.hid hs2; have HK2 := Lib.hid hk2; clear hs2 hk2))
  exact bodyPost_ret (ret_rd_tmp Try.results33 _ _ _ _ _ _ _ _ _ rfl rfl HS2.out) rfl ⟨rfl, HB1.out.trans (kp_one HB1.out.size HK2.out (by omega))⟩

set_option maxRecDepth 20000 in
set_option maxHeartbeats 800000 in
theorem ref_Put_dead (h : RDk w A c B k d) (i : Nat) (hi : i < d.stable.length) (l : List UInt8) (hl : l.length = 128) (hpw : d.power.2 = false) : Calls Try.prog 33 #[.agg (rdC A c B k d).toArray, .int .i64 i, .agg (bv l).toArray] w fun e w' => e = .returned (.tuple #[.agg (rdC A c B k d.power.1).toArray, .int .i64 42]) ∧ Below w.heap.size w w' := by
  have HPW := Lib.hid hpw; have HF := Lib.hid h.fu
  obtain ⟨hd0, hz0, -, hb0⟩ := put_boxes w A c B k d l hl
  have HD0 := Lib.hid hd0; have HZ0 := Lib.hid hz0; have HB0 := Lib.hid hb0
  clear hpw hd0 hz0 hb0 h
  go_enter Try.func33, Try.ntmps33
  go_wp2_with (refine ldRD rfl _ rfl w.heap.size rfl HD0.out ?_)
  refine (ref_There_yes i hi _).mono ?_
  rintro e w1 ⟨rfl, hb1⟩
  have HD1 := Lib.hid (HD0.out.below hb1); have HZ1 := Lib.hid (HZ0.out.below hb1); have HB1 := Lib.hid (bthen HB0.out hb1)
  clear hb1 HD0 HZ0 HB0
  go_wp2_with (refine ldRD rfl _ rfl w.heap.size rfl HD1.out ?_)
  refine (ref_power HF.out _).mono ?_
  rintro e w2 ⟨rfl, hb2⟩
  rw [HPW.out]
  have HD2 := Lib.hid (HD1.out.below hb2); have HZ2 := Lib.hid (HZ1.out.below hb2); have HB2 := Lib.hid (bthen HB1.out hb2)
  clear hb2 HD1 HZ1 HB1
  go_wp2_with (first
    | (refine stRD rfl _ _ rfl w.heap.size rfl HD2.out rfl rfl ?_; intro w3 hs3 hk3; have HD3 := Lib.hid hs3; have HZ3 := Lib.hid (HZ2.out.kp hk3 (by omega)); have HB3 := Lib.hid (HB2.out.trans (kp_one HB2.out.size hk3 (Nat.le_refl _))); clear hs3 hk3)
    | (refine ldRD rfl _ rfl w.heap.size rfl HD3.out ?_)
    | (refine stRD rfl _ _ rfl (w.heap.size + 1 + 1) rfl HZ3.out rfl rfl ?_; intro w4 hs4 hk4; have HS4 := Lib.hid hs4; have HK4 := Lib.hid hk4; clear hs4 hk4))
  exact bodyPost_ret (ret_rd_tmp Try.results33 _ _ _ _ _ _ _ (.int .i64 42) _ rfl rfl HS4.out) rfl ⟨rfl, HB3.out.trans (kp_one HB3.out.size HK4.out (by omega))⟩

theorem RowAt.belowB {w w' : World} {b g : Nat} {t : TypeId} {cs : List Value} (h : RowAt w g t cs) (hb : Below b w w') (hg : g < b) : RowAt w' g t cs := (hb.block g hg).trans h
theorem SecAt.belowB {w w' : World} {b g : Nat} {l : List UInt8} (h : SecAt w g l) (hb : Below b w w') (hg : g < b) : SecAt w' g l := ⟨(hb.block g hg).trans h.1, h.2⟩
theorem pcells_one (l : List (Nat × List UInt8)) : ∀ u ∈ pcells l, u.oneCell' = true := by
  intro u hu
  simp only [pcells, List.mem_flatMap] at hu
  obtain ⟨x, _, hx⟩ := hu
  exact penC_one x u hx
theorem own_kp {w w' : World} {base n size : Nat} {e : TypeId} {v : Value} {xs : List Value} {S : Nat → Prop} (h : w.ownsRow base e size v n xs) (hk : Kp S w w') (hS : ∀ i, S i → i < base) : w'.ownsRow base e size v n xs := by
  refine ⟨h.1, ?_⟩
  rcases h.2 with hn | ⟨g, cap, cur, rfl, hb, hgg, rest⟩
  · exact .inl hn
  · exact .inr ⟨g, cap, cur, rfl, hb, (hk.block g (lt_of_heap hgg) (fun hq => by have := hS g hq; omega)).trans hgg, rest⟩
theorem rdW_one (w : World) (x : Nat × List UInt8) (hl : x.2.length = 128) : Rd (w.alloc (.cells (penC x).toArray 96)) (some ⟨w.heap.size, 0, none⟩) 1 129 (penC x) :=
  ⟨by rw [penC_length x hl], fun _ => ⟨_, 0, rfl, fun j u hj => range_alloc w (penC x) _ _ j u hj⟩⟩
theorem power_fu (d : Dk) (h : -1 ≤ d.fuel ∧ d.fuel ≤ 9223372036854775807) : -1 ≤ d.power.1.fuel ∧ d.power.1.fuel ≤ 9223372036854775807 := by
  unfold Dk.power
  split
  · exact h
  · dsimp only
    split <;> omega
theorem RDk.power (h : RDk w A c B k d) : RDk w A c B k d.power.1 :=
  ⟨by rw [power_stable]; exact h.sec, by rw [power_pend]; exact h.pen, by rw [power_stable]; exact h.nc, h.cm, by rw [power_pend]; exact h.pk, h.km, by rw [power_stable]; exact h.len, by rw [power_stable]; exact h.wid, by rw [power_stable, power_pend]; exact h.pin, power_fu d h.fu⟩
theorem pcells_push (l : List (Nat × List UInt8)) (x : Nat × List UInt8) : pcells (l ++ [x]) = pcells l ++ penC x := by simp [pcells, penC]
theorem rdC_push (A : Option Addr) (c : Nat) (B : Option Addr) (k : Nat) (d : Dk) (B' : Option Addr) (k' : Nat) (x : Nat × List UInt8) : (rdC A c B k d).set 1 (.slice B' (d.pend.length + 1) k') = rdC A c B' k' { d with pend := d.pend ++ [x] } := by simp [rdC]

set_option maxRecDepth 20000 in
set_option maxHeartbeats 1600000 in
theorem ref_Put_yes (h : RDk w A c B k d) (i : Nat) (hi : i < d.stable.length) (l : List UInt8) (hl : l.length = 128) (hpw : d.power.2 = true) (hpl : d.pend.length ≤ 1000000) :
    Calls Try.prog 33 #[.agg (rdC A c B k d).toArray, .int .i64 i, .agg (bv l).toArray] w fun e w' => ∃ B' k', e = .returned (.tuple #[.agg (rdC A c B' k' { d.power.1 with pend := d.pend ++ [(i, l)] }).toArray, .int .i64 0]) ∧ RDk w' A c B' k' { d.power.1 with pend := d.pend ++ [(i, l)] } ∧ Below w.heap.size w w' ∧ FrA w w' B' := by
  have HPW := Lib.hid hpw; have HF := Lib.hid h.fu; have HP := Lib.hid h.power; have HIS := Lib.hid hi; have HPP := Lib.hid (power_pend d); have HPS := Lib.hid (power_stable d)
  have HL := Lib.hid hl; have HPL := Lib.hid hpl
  obtain ⟨hd0, hz0, hs0, hb0⟩ := put_boxes w A c B k d l hl
  have HD0 := Lib.hid hd0; have HZ0 := Lib.hid hz0; have HS0 := Lib.hid hs0; have HB0 := Lib.hid hb0
  clear hpw hd0 hz0 hs0 hb0 h hpl
  go_enter Try.func33, Try.ntmps33
  go_wp2_with (refine ldRD rfl _ rfl w.heap.size rfl HD0.out ?_)
  refine (ref_There_yes i hi _).mono ?_
  rintro e w1 ⟨rfl, hb1⟩
  have HD1 := Lib.hid (HD0.out.below hb1); have HZ1 := Lib.hid (HZ0.out.below hb1); have HS1 := Lib.hid (HS0.out.below hb1); have HB1 := Lib.hid (bthen HB0.out hb1)
  have hsz0 : w.heap.size + 3 ≤ w1.heap.size := by have := hb1.size; simp at this; omega
  have hb1s : w1.heap.size ≤ w1.heap.size := Nat.le_refl _
  clear hb1 HD0 HZ0 HB0 HS0 hi
  go_wp2_with (refine ldRD rfl _ rfl w.heap.size rfl HD1.out ?_)
  refine (ref_power HF.out _).mono ?_
  rintro e w2 ⟨rfl, hb2⟩
  rw [HPW.out]
  obtain ⟨d1, hd1⟩ : ∃ d1, d1 = d.power.1 := ⟨_, rfl⟩
  rw [← hd1] at HP ⊢
  have hpl1 : d1.pend.length ≤ 1000000 := by rw [hd1, power_pend]; exact HPL.out
  have hi1 : i < d1.stable.length := by rw [hd1, power_stable]; exact HIS.out
  have HD := Lib.hid hd1; have HPL1 := Lib.hid hpl1; have HI1 := Lib.hid hi1
  clear hd1 hpl1 hi1
  have HD2 := Lib.hid (HD1.out.below hb2); have HZ2 := Lib.hid (HZ1.out.below hb2); have HS2 := Lib.hid (HS1.out.below hb2); have HB2 := Lib.hid (bthen HB1.out hb2)
  have HN2 : Hid (w.heap.size + 3 ≤ w2.heap.size) := Lib.hid (by have := hb2.size; have := hb1s; have := hsz0; omega)
  clear hb2 HD1 HZ1 HS1 HB1 HPP HPS HPW HPL HIS hb1s hsz0
  have hone := fun w => run_bldRWs w (penC (i, l)) (penC_length _ hl)
  have hbld : ∀ w, (bldRW #[(0, .int .i64 (i : Int)), (1, secV l)]).run Try.prog w = .ok (.agg (penC (i, l)).toArray) w := fun w => run_bldRW w i l hl
  go_wp2_with (first
    | (refine stRD rfl _ _ rfl w.heap.size rfl HD2.out rfl rfl ?_; intro w3 hs3 hk3; have HD3 := Lib.hid hs3; have HZ3 := Lib.hid (HZ2.out.kp hk3 (by omega)); have HS3 := Lib.hid (HS2.out.kp hk3 (by omega)); have HB3 := Lib.hid (HB2.out.trans (kp_one HB2.out.size hk3 (Nat.le_refl _))); have HN3 : Hid (w.heap.size + 3 ≤ w3.heap.size) := Lib.hid (Nat.le_trans HN2.out hk3.size); obtain ⟨-, c1, -, -⟩ := rd_cells (hs3.below (below_alloc w3 (.cells #[] 96))); have HR3 := Lib.hid (HP.out.below (balloc HB3.out (.cells #[] 96))).pen; clear hs3 hk3)
    | (at_builtin; refine wpList_append_any (w0 := w3.alloc (.cells #[] 96)) (w.heap.size + 3) rfl (.tmp 23) (.tmp 25) 28 96 (.agg Try.zeroCells96) 129 136 rfl Try.underlying28 Try.infoRW (by kernel_rfl) (by decide) (by decide) (.slice (some ⟨w3.heap.size, 0, none⟩) 0 0) 0 [] B d1.pend.length k (pcells d1.pend) rfl rfl (own_empty w3 (w.heap.size + 3) _ 129 HN3.out) HR3.out (pcells_one _) (by have := HPL1.out; omega) (Below.refl _ _) (by have := HN3.out; simp; omega) ?_; intro v4 w4 hown4 hb4 hg4 ha4; simp only [Nat.zero_add, List.nil_append] at hown4; obtain ⟨B4, k4, rfl⟩ := own_form hown4; have HO4 := Lib.hid hown4; have HB4 := Lib.hid ((below_alloc w3 _).mono HN3.out |>.trans hb4); have HN4 : Hid (w.heap.size + 3 ≤ w4.heap.size) := Lib.hid (by have := hb4.size; have := HN3.out; simp at *; omega); have HS4 := Lib.hid (HS3.out.belowB HB4.out (by omega)); clear hown4 hb4 hg4 ha4 c1)
    | (refine ld37 rfl _ rfl (w.heap.size + 1) 0 rfl l HS4.out.range HL.out ?_)
    | (at_builtin; go_must (refine wpList_append_any (w0 := w4.alloc (.cells (penC (i, l)).toArray 96)) (w.heap.size + 3) rfl (.tmp 27) (.tmp 31) 28 96 (.agg Try.zeroCells96) 129 136 rfl Try.underlying28 Try.infoRW (by kernel_rfl) (by decide) (by decide) (.slice B4 d1.pend.length k4) d1.pend.length (pcells d1.pend) (some ⟨w4.heap.size, 0, none⟩) 1 1 (penC (i, l)) rfl rfl (HO4.out.alloc _) (rdW_one w4 (i, l) HL.out) (penC_one _) (by have := HPL1.out; omega) (Below.refl _ _) (by have := HN4.out; simp; omega) ?_); intro v5 w5 hown5 hb5 hg5 ha5; obtain ⟨B5, k5, rfl⟩ := own_form hown5; have HO5 := Lib.hid hown5; have HB5 := Lib.hid (HB4.out.trans ((below_alloc w4 _).mono HN4.out |>.trans hb5)); have hrow5 := HD3.out.belowB HB5.out (by omega); have HD5 := Lib.hid hrow5; have HZ5 := Lib.hid (HZ3.out.belowB HB5.out (by omega)); obtain ⟨-, c1, -, -⟩ := rd_cells hrow5; have f1 : w5.frozen? ⟨w.heap.size, 1, none⟩ = false := frozen_of_row _ _ _ _ _ hrow5; have hd6 := hrow5.setCell 1 (.slice B5 (d1.pend.length + 1) k5); rw [rdC_push A c B k d1 B5 k5 (i, l)] at hd6; have HD6 := Lib.hid hd6; have HZ6 := Lib.hid (HZ5.out.kp ((Kp.refl (· = w.heap.size) w5).setCell ⟨w.heap.size, 1, none⟩ (.slice B5 (d1.pend.length + 1) k5) (fun _ => rfl)) (by omega)); clear hown5 hb5 hg5 ha5 hrow5 hd6)
    | (refine ldRD rfl _ rfl w.heap.size rfl HD6.out ?_)
    | (refine stRD rfl _ _ rfl (w.heap.size + 1 + 1) rfl HZ6.out rfl rfl ?_; intro w7 hs7 hk7; have HS7 := Lib.hid hs7; have HK7 := Lib.hid hk7; clear hs7 hk7))
  have hb6 : Below w.heap.size w (w5.setCell ⟨w.heap.size, 1, none⟩ (.slice B5 (d1.pend.length + 1) k5)) := (HB3.out.trans (HB5.out.mono (by omega))).setCell (Nat.le_refl _) _
  have hb7 : Below w.heap.size w w7 := hb6.trans (kp_one hb6.size HK7.out (by omega))
  have ho7 : w7.ownsRow (w.heap.size + 3) 96 129 (.slice B5 (d1.pend.length + 1) k5) (d1.pend.length + 1) (pcells d1.pend ++ penC (i, l)) := by
    refine own_kp (S := fun i => i < w.heap.size + 3) HO5.out (((Kp.refl _ w5).setCell _ _ (fun _ => ?_)).trans HK7.out (fun i _ e => ?_)) (fun i hi => hi)
    · show w.heap.size < w.heap.size + 3
      omega
    · show i < w.heap.size + 3
      omega
  obtain ⟨A8, c8, e8, hr8, hn8, hc8⟩ := own_rd ho7
  injection e8 with e81 _ e83
  subst e81 e83
  have hrd : RDk w7 A c B5 k5 { d1 with pend := d1.pend ++ [(i, l)] } := by
    refine ⟨(HP.out.below hb7).sec, ?_, HP.out.nc, HP.out.cm, ?_, hc8, HP.out.len, HP.out.wid, ?_, HP.out.fu⟩
    · show Rd w7 B5 (d1.pend ++ [(i, l)]).length 129 (pcells (d1.pend ++ [(i, l)]))
      rw [pcells_push, List.length_append]
      exact hr8
    · show (d1.pend ++ [(i, l)]).length ≤ k5
      rw [List.length_append]
      exact hn8
    · intro x hx
      rcases List.mem_append.1 hx with hx | hx
      · exact HP.out.pin x hx
      · obtain rfl := List.mem_singleton.1 hx
        exact ⟨HI1.out, hl⟩
  have hfin : { d1 with pend := d1.pend ++ [(i, l)] } = { d.power.1 with pend := d.pend ++ [(i, l)] } := by rw [HD.out, power_pend]
  refine bodyPost_ret (ret_rd_tmp Try.results33 _ _ _ _ _ _ _ (.int .i64 0) _ rfl rfl HS7.out) rfl ⟨B5, k5, by rw [hfin], by rw [← hfin]; exact hrd, hb7, FrA.own ho7 (by omega)⟩

theorem flush_boxes (w : World) (A : Option Addr) (c : Nat) (B : Option Addr) (k : Nat) (d : Dk) :
    RowAt ((w.alloc (.cells (rdC A c B k d).toArray 30)).alloc (.cells #[.slice none 0 0, .slice none 0 0, .int .i64 0, .bool false] 30)) w.heap.size 30 (rdC A c B k d) ∧ RowAt ((w.alloc (.cells (rdC A c B k d).toArray 30)).alloc (.cells #[.slice none 0 0, .slice none 0 0, .int .i64 0, .bool false] 30)) (w.heap.size + 1) 30 rdZ ∧ Below w.heap.size w ((w.alloc (.cells (rdC A c B k d).toArray 30)).alloc (.cells #[.slice none 0 0, .slice none 0 0, .int .i64 0, .bool false] 30)) :=
  ⟨(RowAt.new w _ _).below (below_alloc _ _), rdZ_new _ _ (by simp), below_alloc2 w _ _⟩
set_option maxRecDepth 20000 in
set_option maxHeartbeats 800000 in
theorem ref_Flush_dead (h : RDk w A c B k d) (hpw : d.power.2 = false) : Calls Try.prog 34 #[.agg (rdC A c B k d).toArray] w fun e w' => e = .returned (.tuple #[.agg (rdC A c B k d.power.1).toArray, .int .i64 42]) ∧ Below w.heap.size w w' := by
  have HPW := Lib.hid hpw; have HF := Lib.hid h.fu
  obtain ⟨hd0, hz0, hb0⟩ := flush_boxes w A c B k d
  have HD0 := Lib.hid hd0; have HZ0 := Lib.hid hz0; have HB0 := Lib.hid hb0
  clear hpw hd0 hz0 hb0 h
  go_enter Try.func34, Try.ntmps34
  go_wp2_with (refine ldRD rfl _ rfl w.heap.size rfl HD0.out ?_)
  refine (ref_power HF.out _).mono ?_
  rintro e w2 ⟨rfl, hb2⟩
  rw [HPW.out]
  have HD2 := Lib.hid (HD0.out.below hb2); have HZ2 := Lib.hid (HZ0.out.below hb2); have HB2 := Lib.hid (bthen HB0.out hb2)
  clear hb2 HD0 HZ0 HB0
  go_wp2_with (first
    | (refine stRD rfl _ _ rfl w.heap.size rfl HD2.out rfl rfl ?_; intro w3 hs3 hk3; have HD3 := Lib.hid hs3; have HZ3 := Lib.hid (HZ2.out.kp hk3 (by omega)); have HB3 := Lib.hid (HB2.out.trans (kp_one HB2.out.size hk3 (Nat.le_refl _))); clear hs3 hk3)
    | (refine ldRD rfl _ rfl w.heap.size rfl HD3.out ?_)
    | (refine stRD rfl _ _ rfl (w.heap.size + 1) rfl HZ3.out rfl rfl ?_; intro w4 hs4 hk4; have HS4 := Lib.hid hs4; have HK4 := Lib.hid hk4; clear hs4 hk4))
  exact bodyPost_ret (ret_rd_tmp Try.results34 _ _ _ _ _ _ _ (.int .i64 42) _ rfl rfl HS4.out) rfl ⟨rfl, HB3.out.trans (kp_one HB3.out.size HK4.out (by omega))⟩

theorem secs_one (l : List (List UInt8)) : ∀ u ∈ secs l, u.oneCell' = true := bv_one _
/-- The copied sectors, so many writes done. -/
def FlInv (w wr : World) (A : Option Addr) (c : Nat) (B : Option Addr) (k : Nat) (d : Dk) (v : Value) (m : Nat) : Prop :=
  RowAt wr w.heap.size 30 (rdC A c B k d) ∧ RowAt wr (w.heap.size + 1) 30 rdZ ∧ wr.ownsRow (w.heap.size + 2) 55 128 v d.stable.length (secs (applyW d.stable (d.pend.take m))) ∧ Below w.heap.size w wr
theorem FlInv.alloc {w wr : World} {v : Value} {m : Nat} (h : FlInv w wr A c B k d v m) (o : Obj) : FlInv w (wr.alloc o) A c B k d v m :=
  ⟨h.1.below (below_alloc _ _), h.2.1.below (below_alloc _ _), h.2.2.1.alloc _, balloc h.2.2.2 _⟩
set_option maxRecDepth 20000 in
set_option maxHeartbeats 1600000 in
theorem ref_Flush_yes (h : RDk w A c B k d) (hpw : d.power.2 = true) (hpl : d.pend.length ≤ 1000000) :
    Calls Try.prog 34 #[.agg (rdC A c B k d).toArray] w fun e w' => ∃ A' c', e = .returned (.tuple #[.agg (rdC A' c' none 0 d.power.1.flushed).toArray, .int .i64 0]) ∧ RDk w' A' c' none 0 d.power.1.flushed ∧ Below w.heap.size w w' ∧ FrA w w' A' := by
  have HPW := Lib.hid hpw; have HF := Lib.hid h.fu; have HP := Lib.hid h.power; have HPL := Lib.hid hpl
  obtain ⟨hd0, hz0, hb0⟩ := flush_boxes w A c B k d
  have HD0 := Lib.hid hd0; have HZ0 := Lib.hid hz0; have HB0 := Lib.hid hb0
  clear hpw hd0 hz0 hb0 h hpl
  go_enter Try.func34, Try.ntmps34
  go_wp2_with (refine ldRD rfl _ rfl w.heap.size rfl HD0.out ?_)
  refine (ref_power HF.out _).mono ?_
  rintro e w2 ⟨rfl, hb2⟩
  rw [HPW.out]
  obtain ⟨d1, hd1⟩ : ∃ d1, d1 = d.power.1 := ⟨_, rfl⟩
  rw [← hd1] at HP ⊢
  have hpl1 : d1.pend.length ≤ 1000000 := by rw [hd1, power_pend]; exact HPL.out
  have HD := Lib.hid hd1; have HPL1 := Lib.hid hpl1
  have HD2 := Lib.hid (HD0.out.below hb2); have HZ2 := Lib.hid (HZ0.out.below hb2); have HB2 := Lib.hid (bthen HB0.out hb2)
  have HN2 : Hid (w.heap.size + 2 ≤ w2.heap.size) := Lib.hid (by have := hb2.size; simp at this; omega)
  clear hd1 hpl1 hb2 HD0 HZ0 HB0 HPW HPL
  go_wp2_with (first
    | (refine stRD rfl _ _ rfl w.heap.size rfl HD2.out rfl rfl ?_; intro w3 hs3 hk3; have HD3 := Lib.hid hs3; have HZ3 := Lib.hid (HZ2.out.kp hk3 (by omega)); have HB3 := Lib.hid (HB2.out.trans (kp_one HB2.out.size hk3 (Nat.le_refl _))); have HN3 : Hid (w.heap.size + 2 ≤ w3.heap.size) := Lib.hid (Nat.le_trans HN2.out hk3.size); obtain ⟨c0, -, -, -⟩ := rd_cells (hs3.below (below_alloc w3 (.cells #[] 55))); have HR3 := Lib.hid (HP.out.below (balloc HB3.out (.cells #[] 55))).sec; clear hs3 hk3)
    | (at_builtin; go_must (refine wpList_append_any (w0 := w3.alloc (.cells #[] 55)) (w.heap.size + 2) rfl (.tmp 16) (.tmp 18) 27 55 (.agg Try.zeroCells55) 128 128 rfl Try.underlying27 Try.info37r (by kernel_rfl) (by decide) (by decide) (.slice (some ⟨w3.heap.size, 0, none⟩) 0 0) 0 [] A d1.stable.length c (secs d1.stable) rfl rfl (own_empty w3 (w.heap.size + 2) _ 128 HN3.out) HR3.out (secs_one _) (by have := HP.out.len; omega) (Below.refl _ _) (by have := HN3.out; simp; omega) ?_); intro v4 w4 hown4 hb4 hg4 ha4; simp only [Nat.zero_add, List.nil_append] at hown4; obtain ⟨A4, c4, rfl⟩ := own_form hown4; have HB4 := Lib.hid ((below_alloc w3 _).mono HN3.out |>.trans hb4); have hd4 := HD3.out.belowB HB4.out (by omega); have hz4 := HZ3.out.belowB HB4.out (by omega); have HI4 : Hid (FlInv w w4 A c B k d1 (.slice A4 d1.stable.length c4) 0) := Lib.hid ⟨hd4, hz4, hown4, HB3.out.trans (HB4.out.mono (by omega))⟩; obtain ⟨-, c1, -, -⟩ := rd_cells hd4; clear hown4 hb4 hg4 ha4 c0 hd4 hz4))
  go_loopw [23] (fun j wr => ∃ m : Nat, m ≤ d1.pend.length ∧ j = .int .i64 m ∧ Hid (FlInv w wr A c B k d1 (.slice A4 d1.stable.length c4) m)) (fun j _ => d1.pend.length - (intOf j).toNat)
  case atStart => exact ⟨0, by omega, rfl, HI4⟩
  case round =>
    clear HI4 HB4 HD3 HZ3 HB3 HR3 HN3 c1
    obtain ⟨m, hm, rfl, HI⟩ := hrel
    have hpl1 := HPL1.out
    by_cases hlt : m < d1.pend.length
    · obtain ⟨q, qo, rfl, hp⟩ := (HP.out.below HI.out.2.2.2).penR m hlt
      obtain ⟨hpin, hln⟩ := HP.out.pinAt m hlt
      have hnx := applyW_take d1.stable d1.pend m hlt
      generalize penAt d1.pend m = x at *
      have hrow := RowAt.new wr 96 (penC x)
      have q0 := hrow.cell 0 _ rfl
      have HQ : Hid ((wr.alloc (.cells (penC x).toArray 96)).rangeAt wr.heap.size 1 (bv x.2)) := Lib.hid (range_alloc1 wr _ _ _ _)
      have HI2 := Lib.hid (HI.out.alloc (.cells (penC x).toArray 96))
      obtain ⟨g4, rfl⟩ : ∃ g4, A4 = some ⟨g4, 0, none⟩ := by
        rcases HI.out.2.2.1.2 with ⟨_, h0⟩ | ⟨g, _, _, he, _⟩
        · omega
        · injection he with e1 _ _
          exact ⟨g, e1⟩
      have hwid := applyW_wid (d1.pend.take m) d1.stable HP.out.wid (fun y hy => (HP.out.pin y (List.mem_of_mem_take hy)).2)
      obtain ⟨hth, hown5, hk5, hg4⟩ := own_setSec HI2.out.2.2.1 hwid x.1 x.2 (by rw [applyW_length]; exact hpin) hln
      rw [← hnx] at hown5
      have HTH := Lib.hid hth
      have HF5 : Hid (FlInv w ((wr.alloc (.cells (penC x).toArray 96)).setCells g4 (x.1 * 128) (bv x.2)) A c _ k d1 (.slice (some ⟨g4, 0, none⟩) d1.stable.length c4) (m + 1)) :=
        Lib.hid ⟨HI2.out.1.kp hk5 (by omega), HI2.out.2.1.kp hk5 (by omega), hown5, HI2.out.2.2.2.trans (kp_one HI2.out.2.2.2.size hk5 (by omega))⟩
      have HX := Lib.hid hln; have HPR := Lib.hid hp
      have hm0 : (0 : Int) ≤ (m : Int) := Int.natCast_nonneg _
      have hm1 : (m : Int) < (d1.pend.length : Int) := by omega
      have hx0 : (0 : Int) ≤ (x.1 : Int) := Int.natCast_nonneg _
      have hx1 : (x.1 : Int) < (d1.stable.length : Int) := by omega
      clear hp hln hnx hpin hrow hth hown5 hk5 hg4 hwid
      go_wp2_with (first
        | (refine ldN 96 (penC x) rfl _ rfl q (qo + m * 129) rfl HPR.out Try.underlying96 rfl (size_rw x HX.out) ?_)
        | (refine stN 96 (penC x) rfl _ _ rfl _ _ rfl rfl rfl (penC_one x) (size_rw x HX.out) (by rw [penC_length x HX.out]; rfl) ?_)
        | (refine ld37 rfl _ rfl wr.heap.size 1 rfl x.2 HQ.out HX.out ?_)
        | (refine st37_mid rfl _ _ rfl g4 (x.1 * 128) rfl x.2 rfl HX.out HTH.out ?_))
      go_roundw
      case rel => exact ⟨m + 1, by omega, by go_num, HF5⟩
      case measure => simp [intOf]; omega
    · obtain rfl : m = d1.pend.length := by omega
      obtain ⟨hrow, hz, hown, hbl⟩ := HI.out
      rw [List.take_length] at hown
      obtain ⟨c0, -, -, -⟩ := rd_cells hrow
      have f0 : wr.frozen? ⟨w.heap.size, 0, none⟩ = false := frozen_of_row _ _ _ _ _ hrow
      have hr6 := hrow.setCell 0 (.slice A4 d1.stable.length c4)
      have c1 := hr6.cell 1 (.slice B d1.pend.length k) rfl
      have f1 : (wr.setCell ⟨w.heap.size, 0, none⟩ (.slice A4 d1.stable.length c4)).frozen? ⟨w.heap.size, 1, none⟩ = false := frozen_of_row _ _ _ _ _ hr6
      have hr7 := hr6.setCell 1 (.slice none 0 0)
      have hkp : Kp (· = w.heap.size) wr ((wr.setCell ⟨w.heap.size, 0, none⟩ (.slice A4 d1.stable.length c4)).setCell ⟨w.heap.size, 1, none⟩ (.slice none 0 0)) := ((Kp.refl (· = w.heap.size) wr).setCell _ _ (fun _ => rfl)).setCell _ _ (fun _ => rfl)
      have e7 : ((rdC A c B k d1).set 0 (.slice A4 d1.stable.length c4)).set 1 (.slice none 0 0) = rdC A4 c4 none 0 d1.flushed := by
        simp [rdC, Dk.flushed, applyW_length]
      rw [e7] at hr7
      have HD7 := Lib.hid hr7; have HZ7 := Lib.hid (hz.kp hkp (by omega)); have HK7 := Lib.hid hkp; have HO := Lib.hid hown; have HBL := Lib.hid hbl
      clear hrow hz hown hbl hr6 hr7 hkp e7 HI
      go_wp2_with (first
        | (refine ldRD rfl _ rfl w.heap.size rfl HD7.out ?_)
        | (refine stRD rfl _ _ rfl (w.heap.size + 1) rfl HZ7.out rfl rfl ?_; intro w8 hs8 hk8; have HS8 := Lib.hid hs8; have HK8 := Lib.hid hk8; clear hs8 hk8))
      have hb7 := HBL.out.trans (kp_one HBL.out.size HK7.out (Nat.le_refl _))
      have hb8 : Below w.heap.size w w8 := hb7.trans (kp_one hb7.size HK8.out (by omega))
      have ho8 : w8.ownsRow (w.heap.size + 2) 55 128 (.slice A4 d1.stable.length c4) d1.stable.length (secs (applyW d1.stable d1.pend)) := by
        refine own_kp (S := fun i => i < w.heap.size + 2) HO.out ((HK7.out.imp (fun i _ e => ?_)).trans HK8.out (fun i _ e => ?_)) (fun i hi => hi)
        · show i < w.heap.size + 2
          omega
        · show i < w.heap.size + 2
          omega
      obtain ⟨A9, c9, e9, hr9, hn9, hc9⟩ := own_rd ho8
      injection e9 with e91 _ e93
      subst e91 e93
      have hlen : d1.flushed.stable.length = d1.stable.length := applyW_length _ _
      have hrd : RDk w8 A4 c4 none 0 d1.flushed := by
        refine ⟨?_, ⟨rfl, fun hp => by simp [Dk.flushed, pcells] at hp⟩, by rw [hlen]; exact hn9, hc9, Nat.zero_le _, by omega, by rw [hlen]; exact HP.out.len, applyW_wid _ _ HP.out.wid (fun y hy => (HP.out.pin y hy).2), fun x hx => by simp [Dk.flushed] at hx, HP.out.fu⟩
        rw [hlen]
        exact hr9
      rw [HD.out] at HS8 hrd
      refine bodyPost_ret (ret_rd_tmp Try.results34 _ _ _ _ _ _ _ (.int .i64 0) _ rfl rfl HS8.out) rfl ⟨A4, c4, rfl, hrd, hb8, FrA.own ho8 (by omega)⟩
end
end Go.Proofs.Ytgakajofggmbjaa
