/- The law's example of journals. -/
import Derived.Test.YtgakajofggmbjaaMg13
import Derived.Test.YtgakajofggmbjaaMg12
import Derived.Test.YtgakajofggmbjaaMg14
import Derived.Lib.SlBytesConst
import Derived.Test.YtgakajofggmbjaaMg3
namespace Go.Proofs.Ytgakajofggmbjaa
open Go.RowKit

/-- Add on a disk that has power without end. -/
theorem add_live {w : World} {base p s j : Nat} {v : Value} {d : Dk} {first gen count : Nat} (hd : DiskAt w base p s v d) (hj : JAt w j p first gen count) (hl : d.live) (hp : d.pend = []) (A : Option Addr) (n c : Nat) (b : List UInt8) (hr : RB w A n c b) (hA : RecAt w p s v A)
    (hgen : gen < 281474976710656) (hc : count < 4) (hfit : first + 16 ≤ d.stable.length) (hn : n ≤ 384) (hbase : base ≤ w.heap.size) :
    Calls Try.prog 13 #[.pointer (some ⟨j, 0, none⟩), .slice A n c] w fun e w' => ∃ v' d', e = .returned (.int .i64 0) ∧ DiskAt w' base p s v' d' ∧ JAt w' j p first gen (count + 1) ∧ d'.live ∧ d'.pend = [] ∧ d'.stable.length = d.stable.length ∧ (∀ k, d'.read k = addRead d.read first gen count b k) ∧ Kp (fun k => foot p s v k ∨ k = j) w w' ∧ ∀ g, v'.ownBlock = some g → v.ownBlock = some g ∨ w.heap.size ≤ g := by
  refine (journal_Add hd hj A n c b hr hA hgen (by omega) hfit (by rw [hp]; simp) (by omega) hbase).mono ?_
  rintro e w' ⟨v', he, h1, h2, h3, h4⟩
  have hlb : b.length = n := hr.1
  rcases addM_forms d hp first gen count b (by omega) hc (by omega) with ⟨d', hm, m1, m2, m3, m4⟩ | ⟨d', hm, m1, m2, m3⟩
  · rw [hm] at he h1 h2
    exact ⟨v', d', he, h1, h2, m3 hl, m1, m2, m4, h3, h4⟩
  · exact absurd hl m2
theorem recAt_new {w : World} {base p s : Nat} {v : Value} {d : Dk} (hd : DiskAt w base p s v d) (o : Obj) (g : Nat) (hg : g = w.heap.size) : RecAt (w.alloc o) p s v (some ⟨g, 0, none⟩) := fun b o' e => by
  injection e with e
  injection e with e1 e2
  subst e1 hg
  exact ⟨by simp, fun hf => Nat.lt_irrefl _ (hd.foot_lt _ hf)⟩
/-- A literal row of two texts. -/
theorem rrb_two (W : World) (a b : UInt8) : RRB (((W.alloc (.cells (bv [a]).toArray 5 (1, 2))).alloc (.cells (bv [b]).toArray 5 (1, 2))).alloc (.cells #[.slice (some ⟨W.heap.size, 0, none⟩) 1 1, .slice (some ⟨W.heap.size + 1, 0, none⟩) 1 1] 37)) (some ⟨W.heap.size + 1 + 1, 0, none⟩) 2 2 [[a], [b]] := by
  have h1 : RB ((W.alloc (.cells (bv [a]).toArray 5 (1, 2))).alloc (.cells (bv [b]).toArray 5 (1, 2))) (some ⟨W.heap.size, 0, none⟩) 1 1 [a] := (rb_new W [a] 5 (1, 2) (by simp)).alloc _
  have h2 : RB ((W.alloc (.cells (bv [a]).toArray 5 (1, 2))).alloc (.cells (bv [b]).toArray 5 (1, 2))) (some ⟨W.heap.size + 1, 0, none⟩) 1 1 [b] := rb_new' (W.alloc (.cells (bv [a]).toArray 5 (1, 2))) [b] 5 (1, 2) (by simp) _ (by simp)
  have hs : ((W.alloc (.cells (bv [a]).toArray 5 (1, 2))).alloc (.cells (bv [b]).toArray 5 (1, 2))).heap.size = W.heap.size + 1 + 1 := by simp
  refine ⟨rfl, Nat.le_refl _, by omega, fun _ => ⟨W.heap.size + 1 + 1, 0, rfl, fun k hk => ?_⟩⟩
  rw [← hs, World.cell?_alloc_mark]
  match k, hk with
  | 0, _ => exact ⟨_, _, _, rfl, h1.alloc _⟩
  | 1, _ => exact ⟨_, _, _, rfl, h2.alloc _⟩
set_option maxRecDepth 20000 in
set_option maxHeartbeats 6400000 in
theorem journalAlive_true (w : World) : Calls Try.prog 8 #[] w fun e w' => e = .returned (.bool true) ∧ Below w.heap.size w w' := by
  have hcv := fun W C n c => Lib.run_convert_bytes_const (P := Try.prog) W 37 5 C n c Try.underlying37 Try.underlying5
  go_enter Try.func8, Try.ntmps8
  go_wp2_with fail
  refine (disk_New 20 w).mono ?_
  rintro e w1 ⟨p, s, rfl, hd1, hb1⟩
  have hlen1 : (newDk 20).stable.length = 20 := by show (List.replicate _ _).length = _; simp; rfl
  have HN1 := Lib.hid hlen1
  have HZ1 := Lib.hid (newDk_zero 20)
  have HL1 : Hid (newDk 20).live := Lib.hid ⟨rfl, rfl⟩
  have HP1 : Hid ((newDk 20).pend = []) := Lib.hid rfl
  have HB1 := Lib.hid hb1; have HD1 := Lib.hid hd1
  clear hb1 hd1 hlen1
  generalize newDk 20 = d1 at *
  go_wp2_with fail
  refine (journal_Start p 2 1 w1).mono ?_
  rintro e w2 ⟨rfl, rfl⟩
  have HJ2 : Hid (JAt (w1.alloc (.cells (jC p 2 1 0).toArray 68)) w1.heap.size p 2 1 0) := Lib.hid (RowAt.new w1 _ _)
  have HD2 := Lib.hid (HD1.out.below (below_alloc w1 (.cells (jC p 2 1 0).toArray 68)))
  have HB2 := Lib.hid (balloc HB1.out (.cells (jC p 2 1 0).toArray 68))
  have HJL : Hid (w.heap.size ≤ w1.heap.size) := Lib.hid HB1.out.size
  generalize w1.alloc (.cells (jC p 2 1 0).toArray 68) = w2 at *
  generalize w1.heap.size = j at *
  go_wp2_with fail
  have hb3 := below_alloc w2 (.cells (bv [97]).toArray 5 (1, 2))
  have hsz3 : (w2.alloc (.cells (bv [97]).toArray 5 (1, 2))).heap.size = w2.heap.size + 1 := by simp
  refine (add_live (HD2.out.below hb3) (show JAt _ j p ((2 : Nat) : Int) 1 0 from RowAt.below HJ2.out hb3) HL1.out HP1.out (some ⟨w2.heap.size, 0, none⟩) 1 1 [97] (rb_new w2 [97] _ _ (by simp)) (recAt_new HD2.out _ _ rfl) (by omega) (by omega) (by rw [HN1.out]; omega) (by omega) (by rw [hsz3]; exact Nat.le_succ_of_le HB2.out.size)).mono ?_
  rintro e w3 ⟨v3, d3, rfl, hd3, hj3, hl3, hp3, hn3, hr3, hk3, -⟩
  have HB3 := Lib.hid ((HB2.out.alloc HB2.out.size _).trans (hk3.below (by rw [hsz3]; exact Nat.le_succ_of_le HB2.out.size) (fun k hk => by
    rcases hk with hk | rfl
    · exact HD2.out.foot_base k hk
    · exact HJL.out)))
  have HR3 := Lib.hid hr3; have HD3 := Lib.hid hd3; have HJ3 := Lib.hid hj3; have HL3 := Lib.hid hl3; have HP3 := Lib.hid hp3; have HN3 := Lib.hid (hn3.trans HN1.out)
  clear hb3 hsz3 hd3 hj3 hl3 hp3 hn3 hr3 hk3
  go_wp2_with fail
  have hb4 := below_alloc w3 (.cells (bv [98]).toArray 5 (1, 2))
  have hsz4 : (w3.alloc (.cells (bv [98]).toArray 5 (1, 2))).heap.size = w3.heap.size + 1 := by simp
  refine (add_live (HD3.out.below hb4) (RowAt.below HJ3.out hb4) HL3.out HP3.out (some ⟨w3.heap.size, 0, none⟩) 1 1 [98] (rb_new w3 [98] _ _ (by simp)) (recAt_new HD3.out _ _ rfl) (by omega) (by omega) (by rw [HN3.out]; omega) (by omega) (by rw [hsz4]; exact Nat.le_succ_of_le HB3.out.size)).mono ?_
  rintro e w4 ⟨v4, d4, rfl, hd4, hj4, hl4, hp4, hn4, hr4, hk4, -⟩
  have HB4 := Lib.hid ((HB3.out.alloc HB3.out.size _).trans (hk4.below (by rw [hsz4]; exact Nat.le_succ_of_le HB3.out.size) (fun k hk => by
    rcases hk with hk | rfl
    · exact HD3.out.foot_base k hk
    · exact HJL.out)))
  have HR4 := Lib.hid hr4; have HD4 := Lib.hid hd4; have HJ4 := Lib.hid hj4; have HP4 := Lib.hid hp4; have HN4 := Lib.hid (hn4.trans HN3.out)
  clear hb4 hsz4 hd4 hj4 hl4 hp4 hn4 hr4 hk4
  go_wp2_with fail
  refine (journal_Len w4 HJ4.out).mono ?_
  rintro e w5 ⟨rfl, rfl⟩
  go_wp2_with fail
  refine (disk_Crash HD4.out (by rw [HP4.out]; simp) none 0 0 [] (RBl.nil _) (fun b o e => by cases e) (-1) 0).mono ?_
  rintro e w5 ⟨rfl, hd5, hk5⟩
  have HB5 := Lib.hid (HB4.out.trans (hk5.below HB4.out.size (fun k hk => HD4.out.foot_base k hk)))
  have hsc : scanM (d4.crashed [] (-1) 0).read 2 1 = [[97], [98]] ∧ scanM (d4.crashed [] (-1) 0).read 2 2 = [] ∧ (d4.crashed [] (-1) 0).stable.length = 20 ∧ (d4.crashed [] (-1) 0).pend = [] := by
    have h0 : Has d1.read 2 1 [] := (heads_zero 2 1 _ HZ1.out).has
    have h1 := h0.add (by simp) [97] (by simp) (by omega) (fun k _ => by rw [HZ1.out]; exact zsec_length)
    have g1 : Heads d3.read 2 2 := by
      have := (heads_zero 2 2 _ HZ1.out : Heads d1.read 2 (1 + 1)).add (gen := 1) (count := 0) (by omega) [97] (by simp) (by omega)
      intro i hi g' h'
      rw [HR3.out]
      exact this i hi g' h'
    have e3 : d3.read = addRead d1.read 2 1 0 [97] := funext HR3.out
    have h1' : Has d3.read 2 1 [[97]] := by rw [e3]; exact h1
    have h2 := h1'.add (by simp) [98] (by simp) (by omega) (fun k hk => by
      rw [HR3.out, addRead_far (by simp) (by simp; omega)]
      rw [HZ1.out]; exact zsec_length)
    have e4 : d4.read = addRead d3.read 2 1 1 [98] := funext HR4.out
    have e5 : (d4.crashed [] (-1) 0).read = d4.read := funext fun k => crashed_clean HP4.out [] (-1) 0 k
    have g2 : Heads d4.read 2 2 := by rw [e4]; exact Heads.add (gen := 1) g1 (by omega) [98] (by simp) (by omega)
    refine ⟨?_, ?_, ?_, rfl⟩
    · rw [e5, e4]; exact h2.scan
    · rw [e5]; exact g2.has.scan
    · show (crashTo _ _ _ _ _ _).length = 20
      rw [crashTo_length]; exact HN4.out
  obtain ⟨hs1, hs2, hn5, hp5⟩ := hsc
  have HS1 := Lib.hid hs1; have HS2 := Lib.hid hs2; have HN5 := Lib.hid hn5; have HP5 := Lib.hid hp5; have HD5 := Lib.hid hd5
  clear hd5 hk5 hs1 hs2 hn5 hp5
  generalize d4.crashed [] (-1) 0 = d5 at *
  go_wp2_with fail
  have HSC := Lib.hid (journal_Scan HD5.out (by rw [HP5.out]; simp) 2 1 (by rw [HN5.out]; omega) (by omega))
  rw [HS1.out] at HSC
  refine HSC.out.mono ?_
  rintro e w6 ⟨A6, c6, rfl, hr6, hb6⟩
  have hcv2 := hcv (w6.alloc (.cells #[.int .u8 97] 5 (1, 2))) #[.int .u8 98] 1 1
  rw [show (w6.alloc (.cells #[.int .u8 97] 5 (1, 2))).heap.size = w6.heap.size + 1 by simp] at hcv2
  have HR6 := Lib.hid hr6; have HB6 := Lib.hid hb6
  clear hr6 hb6
  go_wp2_with fail
  have hb7 : Below w6.heap.size w6 (((w6.alloc (.cells (bv [97]).toArray 5 (1, 2))).alloc (.cells (bv [98]).toArray 5 (1, 2))).alloc (.cells #[.slice (some ⟨w6.heap.size, 0, none⟩) 1 1, .slice (some ⟨w6.heap.size + 1, 0, none⟩) 1 1] 37)) := balloc (balloc (below_alloc w6 _) _) _
  have HB7 := Lib.hid (bthen HB6.out hb7)
  refine (ref06_Same A6 (some ⟨w6.heap.size + 1 + 1, 0, none⟩) 2 c6 2 2 [[97], [98]] [[97], [98]] _ (HR6.out.below hb7) (rrb_two w6 97 98)).mono ?_
  rw [decide_eq_true rfl]
  rintro e w8 ⟨rfl, hb8⟩
  have HB8 := Lib.hid (bthen HB7.out hb8)
  have HSC2 := Lib.hid (journal_Scan (HD5.out.below HB8.out) (by rw [HP5.out]; simp) 2 2 (by rw [HN5.out]; omega) (by omega))
  rw [HS2.out] at HSC2
  clear hb7 hb8 hcv hcv2 HB6 HR6
  go_wp2_with fail
  refine HSC2.out.mono ?_
  rintro e w9 ⟨A9, c9, rfl, -, hb9⟩
  go_wp2_with fail
  go_ret
  exact ⟨rfl, bthen HB5.out (bthen HB8.out hb9)⟩
end Go.Proofs.Ytgakajofggmbjaa

/- A journal on a disk that has power: what rounds of Add keep. -/
namespace Go.Proofs.Ytgakajofggmbjaa
open Go.RowKit

/-- The records behind an Add; its error's number. -/
def addL (l : List (List UInt8)) (b : List UInt8) : List (List UInt8) × Int := if 384 < b.length then (l, 63) else if 4 ≤ l.length then (l, 62) else (l ++ [b], 0)
structure JS (w1 wr : World) (p s j : Nat) (v : Value) (d : Dk) (first gen : Nat) (l : List (List UInt8)) : Prop where
  disk : DiskAt wr w1.heap.size p s v d
  jr : JAt wr j p (first : Int) gen l.length
  jb : w1.heap.size ≤ j
  live : d.live
  pend : d.pend = []
  fit : first + 16 ≤ d.stable.length
  has : Has d.read first gen l
  heads : Heads d.read first (gen + 1)
  low : ∀ g, g < gen → Old (d.read first) (g * 256 + 1)
  bl : Below w1.heap.size w1 wr
theorem JS.below {w1 wr w' : World} {p s j : Nat} {v : Value} {d : Dk} {first gen : Nat} {l : List (List UInt8)} (h : JS w1 wr p s j v d first gen l) (hb : Below wr.heap.size wr w') : JS w1 w' p s j v d first gen l :=
  ⟨h.disk.below hb, RowAt.below h.jr hb, h.jb, h.live, h.pend, h.fit, h.has, h.heads, h.low, bthen h.bl hb⟩
theorem js_add {w1 wr : World} {p s j : Nat} {v : Value} {d : Dk} {first gen : Nat} {l : List (List UInt8)} (h : JS w1 wr p s j v d first gen l) (hgen : gen < 281474976710656) (A : Option Addr) (n c : Nat) (b : List UInt8) (hr : RB wr A n c b) (hA : RecAt wr p s v A) (hn : n ≤ 140737488351232) :
    Calls Try.prog 13 #[.pointer (some ⟨j, 0, none⟩), .slice A n c] wr fun e w' => ∃ v' d', e = .returned (.int .i64 (addL l b).2) ∧ JS w1 w' p s j v' d' first gen (addL l b).1 ∧ Kp (fun k => foot p s v k ∨ k = j) wr w' := by
  refine (journal_Add h.disk h.jr A n c b hr hA hgen h.has.len h.fit (by rw [h.pend]; simp) hn h.bl.size).mono ?_
  rintro e w' ⟨v', he, h1, h2, h3, h4⟩
  have hbl : Below w1.heap.size w1 w' := h.bl.trans (h3.below h.bl.size (fun k hk => by
    rcases hk with hk | rfl
    · exact h.disk.foot_base k hk
    · exact h.jb))
  by_cases hbig : 384 < b.length
  · have e1 : addL l b = (l, 63) := by unfold addL; rw [if_pos hbig]
    rw [addM_not d first gen l.length b (.inl hbig), if_pos hbig] at he h1 h2
    rw [e1]
    exact ⟨v', d, he, ⟨h1, h2, h.jb, h.live, h.pend, h.fit, h.has, h.heads, h.low, hbl⟩, h3⟩
  · by_cases hf : 4 ≤ l.length
    · have e1 : addL l b = (l, 62) := by unfold addL; rw [if_neg hbig, if_pos hf]
      rw [addM_not d first gen l.length b (.inr hf), if_neg hbig] at he h1 h2
      rw [e1]
      exact ⟨v', d, he, ⟨h1, h2, h.jb, h.live, h.pend, h.fit, h.has, h.heads, h.low, hbl⟩, h3⟩
    · have e1 : addL l b = (l ++ [b], 0) := by unfold addL; rw [if_neg hbig, if_neg hf]
      have hfit := h.fit
      rcases addM_forms d h.pend first gen l.length b (by omega) (by omega) (by omega) with ⟨d', hm, m1, m2, m3, m4⟩ | ⟨d', hm, m1, m2, m3⟩
      · rw [hm] at he h1 h2
        rw [e1]
        have er : d'.read = addRead d.read first gen l.length b := funext m4
        have hln : (l ++ [b]).length = l.length + 1 := by simp
        refine ⟨v', d', he, ⟨h1, by rw [hln]; exact h2, h.jb, m3 h.live, m1, by rw [m2]; exact hfit, ?_, ?_, ?_, hbl⟩, h3⟩
        · rw [er]
          exact h.has.add (by omega) b (by omega) (by omega) (fun k hk => read_len h.disk _ (by omega))
        · rw [er]
          exact h.heads.add (by omega) b (by omega) (by omega)
        · rw [er]
          intro g hg
          by_cases h0 : l.length = 0
          · have : addRead d.read first gen l.length b first = sealL (gen * 256 + (l.length + 1)) (hdBody b) := by unfold addRead; rw [if_pos (by omega)]
            rw [this]
            exact old_seal (by omega) (by omega) (by omega)
          · rw [addRead_far (by omega) (by omega)]
            exact h.low g hg
      · exact absurd h.live m2
/-- A row of one's own of slices that are read. -/
structure Want (w1 wr : World) (u : Value) (lk : List FieldD) : Prop where
  row : wr.ownsRow w1.heap.size 37 1 u lk.length (slCells lk)
  bytes : ∀ f ∈ lk, RB w1 f.A f.n f.c f.bytes
theorem Want.read {w1 wr : World} {u : Value} {lk : List FieldD} (h : Want w1 wr u lk) (hb : Below w1.heap.size w1 wr) : ∃ A c, u = .slice A lk.length c ∧ RRB wr A lk.length c (lk.map (·.bytes)) := by
  rcases h.row.2 with ⟨rfl, h0⟩ | ⟨g, cap, cur, rfl, _, hg, hnc, hcm, _⟩
  · obtain rfl : lk = [] := List.eq_nil_of_length_eq_zero h0
    exact ⟨none, 0, rfl, RRB.nil wr⟩
  · refine ⟨_, cap, rfl, by simp, hnc, by simpa [maxLen] using hcm, fun _ => ⟨g, 0, rfl, fun k hk => ⟨(fieldAt lk k).A, (fieldAt lk k).n, (fieldAt lk k).c, ?_, ?_⟩⟩⟩
    · have := h.row.cells (g := g) rfl k (.slice (fieldAt lk k).A (fieldAt lk k).n (fieldAt lk k).c) (by rw [slCells, List.getElem?_map, List.getElem?_eq_getElem hk, fieldAt_get hk]; rfl)
      rwa [add_none] at this
    · have e : atL (lk.map (·.bytes)) k = (fieldAt lk k).bytes := by rw [fieldAt_get hk]; simp [atL, List.getD_eq_getElem?_getD, hk]
      rw [e]
      exact (h.bytes _ (by rw [fieldAt_get hk]; exact List.getElem_mem _)).below hb
theorem Want.rrb {w1 wr : World} {A : Option Addr} {n c : Nat} {lk : List FieldD} (h : Want w1 wr (.slice A n c) lk) (hb : Below w1.heap.size w1 wr) : n = lk.length ∧ RRB wr A n c (lk.map (·.bytes)) := by
  obtain ⟨A', c', e, hr⟩ := h.read hb
  injection e with e1 e2 e3
  subst e1 e2 e3
  exact ⟨rfl, hr⟩
theorem Want.below {w1 wr w' : World} {u : Value} {lk : List FieldD} (h : Want w1 wr u lk) (hb : Below wr.heap.size wr w') : Want w1 w' u lk := ⟨own_below h.row hb, h.bytes⟩
theorem Want.kept {w1 wr w' : World} {p s j base gen count : Nat} {first : Int} {v u : Value} {d : Dk} {lk : List FieldD} (h : Want w1 wr u lk) (hd : DiskAt wr base p s v d) (hj : JAt wr j p first gen count) (hk : Kp (fun k => foot p s v k ∨ k = j) wr w') : Want w1 w' u lk := by
  refine ⟨⟨h.row.1, ?_⟩, h.bytes⟩
  rcases h.row.2 with ⟨rfl, h0⟩ | ⟨g, cap, cur, rfl, hb, hg, hrest⟩
  · exact .inl ⟨rfl, h0⟩
  · refine .inr ⟨g, cap, cur, rfl, hb, ?_, hrest⟩
    rw [hk.block g (lt_of_heap hg) (fun hf => ?_)]
    · exact hg
    · rcases hf with hf | rfl
      · rcases hf with rfl | rfl | hf
        · exact ne_of_types hd.obj hg (by decide) rfl
        · exact ne_of_types hd.sta hg (by decide) rfl
        · exact own_ne hd.pen hg (by decide) hf
      · exact ne_of_types hj hg (by decide) rfl
theorem Want.push {w1 wr w' : World} {u u' : Value} {lk : List FieldD} (h : Want w1 wr u lk) (f : FieldD) (hf : RB w1 f.A f.n f.c f.bytes) (hr : w'.ownsRow w1.heap.size 37 1 u' (lk.length + 1) (slCells lk ++ [.slice f.A f.n f.c])) : Want w1 w' u' (lk ++ [f]) := by
  refine ⟨?_, fun f' hf' => ?_⟩
  · rw [List.length_append, List.length_singleton]
    have e : slCells (lk ++ [f]) = slCells lk ++ [.slice f.A f.n f.c] := by simp [slCells]
    rw [e]
    exact hr
  · rcases List.mem_append.1 hf' with hf' | hf'
    · exact h.bytes _ hf'
    · rw [List.mem_singleton.1 hf']; exact hf
theorem JS.grown {w1 wr w' : World} {p s j : Nat} {v : Value} {d : Dk} {first gen : Nat} {l : List (List UInt8)} (h : JS w1 wr p s j v d first gen l) {u : Value} {lk : List FieldD} (hw : Want w1 wr u lk) (hg : wr.grownBy w' u.ownBlock) : JS w1 w' p s j v d first gen l := by
  have hk : Kp (fun k => u.ownBlock = some k) wr w' := Kp.of_grown hg (fun k e => e)
  refine ⟨h.disk.kept hk (fun k hf e => ?_), RowAt.kp h.jr hk (fun e => own_ne hw.row h.jr (by decide) e), h.jb, h.live, h.pend, h.fit, h.has, h.heads, h.low, h.bl.trans (hk.below h.bl.size (fun k e => (hw.row.lt k e).1))⟩
  rcases hf with rfl | rfl | hf
  · exact own_ne hw.row h.disk.obj (by decide) e
  · exact own_ne hw.row h.disk.sta (by decide) e
  · exact own_apart hw.row h.disk.pen (by decide) k e hf
theorem recAt_own {w w' : World} {base p s n c : Nat} {e : TypeId} {xs : List Value} {v : Value} {d : Dk} {A : Option Addr} (hd : DiskAt w base p s v d) (ho : w'.ownsRow w.heap.size e 1 (.slice A n c) n xs) : RecAt w' p s v A := fun b o' e1 => by
  subst e1
  have h1 := ho.lt b rfl
  exact ⟨h1.2, fun hf => by have := hd.foot_lt _ hf; omega⟩
end Go.Proofs.Ytgakajofggmbjaa

/- The reference's Number. -/
namespace Go.Proofs.Ytgakajofggmbjaa
open Go.RowKit

theorem made_zeros (m : Nat) : (madeCells (Value.int .u8 0).cells (m * 1)).toList = bv (List.replicate m 0) := by
  apply List.ext_getElem
  · simp [madeCells, bv_length]
  · intro i h1 h2
    simp [madeCells, Value.cells, bv, Nat.mod_one]
theorem be_set (n wd j : Nat) (h : j < wd) : (List.replicate (j + 1) 0 ++ (be n wd).drop (j + 1)).set j (UInt8.ofNat (n / 256 ^ (wd - (j + 1)))) = List.replicate j 0 ++ (be n wd).drop j := by
  have e : (be n wd).drop j = UInt8.ofNat (n / 256 ^ (wd - (j + 1))) :: (be n wd).drop (j + 1) := by
    rw [List.drop_eq_getElem_cons (by rw [be_length]; exact h)]
    congr 1
    simp only [be, List.getElem_map, List.getElem_range]
    congr 3
    omega
  rw [e, List.replicate_succ', List.append_assoc, List.set_append_right _ _ (by simp)]
  simp
theorem byte_mod (n : Nat) : (n : Int) % 256 = ((UInt8.ofNat n).toNat : Int) := by
  simp
theorem div_step (n wd j : Nat) (h : j < wd) : (((n / 256 ^ (wd - (j + 1)) : Nat) : Int)) / 256 = ((n / 256 ^ (wd - j) : Nat) : Int) := by
  have e : wd - j = (wd - (j + 1)) + 1 := by omega
  rw [e, Nat.pow_succ, ← Nat.div_div_eq_div_mul]
  simp

set_option maxRecDepth 20000 in
set_option maxHeartbeats 1600000 in
theorem ref02_Number (n wd : Nat) (hn : n < 18446744073709551616) (hw1 : 1 ≤ wd) (hw8 : wd ≤ 8) (w : World) :
    Calls Try.prog 54 #[.int .u64 n, .int .i64 wd] w fun e w' => ∃ v, e = .returned (.tuple #[v, .bool (decide (n < 256 ^ wd))]) ∧ w'.ownsRow w.heap.size 5 1 v wd (bv (be n wd)) ∧ Below w.heap.size w w' := by
  obtain ⟨i0, hi0, hz0, hz1, hz2⟩ := info_parts Try.infoU8'
  have HI := Lib.hid hi0; have HI0 := Lib.hid hz0; have HI1 := Lib.hid hz1; have HI2 := Lib.hid hz2
  have HN := Lib.hid hn
  clear hi0 hz0 hz1 hz2 hn
  go_enter Try.func54, Try.ntmps54
  go_wp2_with (at_make; refine wpList_make_full _ rfl _ _ 37 rfl w.heap.size 5 i0 _ 1 Try.underlying37 HI.out HI0.out HI1.out .i64 .i64 _ _ wd rfl rfl (by omega) (by omega) (by rw [HI2.out]; omega) (by unfold maxLen; omega) (Nat.le_refl _) ?_; intro w1 hown hg)
  rw [made_zeros] at hown
  have hb1 : Below w.heap.size w w1 := (Below.refl _ _).grown hg (Nat.le_refl _) (fun k hk => by cases hk)
  have HO := Lib.hid hown; have HB := Lib.hid hb1
  clear hown hg hb1
  go_loopw [0, 7] (fun u i wr => ∃ r : Nat, r ≤ wd ∧ i = .int .i64 ((r : Int) - 1) ∧ u = .int .u64 ((n / 256 ^ (wd - r) : Nat) : Int) ∧ Hid (wr.ownsRow w.heap.size 5 1 (.slice (some ⟨w.heap.size, 0, none⟩) wd wd) wd (bv (List.replicate r 0 ++ (be n wd).drop r))) ∧ Hid (Below w.heap.size w wr)) (fun _ i _ => (intOf i + 1).toNat)
  case atStart => exact ⟨wd, Nat.le_refl _, rfl, by simp, by simpa [List.drop_of_length_le, be_length] using HO, HB⟩
  case round =>
    obtain ⟨r, hr, rfl, rfl, HV, HBR⟩ := hrel
    cases r with
    | succ j =>
      have e : (((j + 1 : Nat) : Int) - 1) = (j : Int) := by omega
      rw [e]
      clear e
      have hj0 : (0 : Int) ≤ (j : Int) := Int.natCast_nonneg _
      have hj8 : (j : Int) < (wd : Int) := by omega
      obtain ⟨hcell, hfz, hset⟩ := own_at8 HV.out j (by omega)
      have hs := hset (UInt8.ofNat (n / 256 ^ (wd - (j + 1))))
      rw [be_set n wd j (by omega), ← byte_mod] at hs
      have HS := Lib.hid hs
      have hdv := div_step n wd j (by omega)
      have hq0 : (0 : Int) ≤ ((n / 256 ^ (wd - (j + 1)) : Nat) : Int) := Int.natCast_nonneg _
      have hq1 : ((n / 256 ^ (wd - (j + 1)) : Nat) : Int) < 18446744073709551616 := by
        have := Nat.div_le_self n (256 ^ (wd - (j + 1)))
        have := HN.out
        omega
      have HD := Lib.hid hdv
      clear hset hs hdv
      generalize hq : n / 256 ^ (wd - (j + 1)) = q at *
      have HBS : Hid (Below w.heap.size w (wr.setCell ⟨w.heap.size, j, none⟩ (.int .u8 ((q : Int) % 256)))) := Lib.hid (HBR.out.setCell (Nat.le_refl _) _)
      go_wp2_with fail
      go_roundw
      case rel => exact ⟨j, by omega, rfl, by rw [HD.out], HS, HBS⟩
      case measure => simp [intOf]
    | zero =>
      have eq0 : (((n : Int) / 256 ^ wd) == 0) = decide (n < 256 ^ wd) := by
        have e : (n : Int) / 256 ^ wd = ((n / 256 ^ wd : Nat) : Int) := by simp
        rw [e]
        by_cases h : n < 256 ^ wd
        · rw [Nat.div_eq_of_lt h, decide_eq_true h]; rfl
        · rw [decide_eq_false h, beq_eq_false_iff_ne]
          have : 0 < n / 256 ^ wd := Nat.div_pos (by omega) (Nat.pow_pos (by decide))
          omega
      go_wp2_with fail
      go_ret2
      exact ⟨_, rfl, by simpa using HV.out, HBR.out⟩
end Go.Proofs.Ytgakajofggmbjaa

/- The reference's Make. -/
namespace Go.Proofs.Ytgakajofggmbjaa
open Go.RowKit
attribute [local go_sem ↓] loadAt37 build37

theorem SecAt.set {w : World} {g : Nat} {l : List UInt8} (h : SecAt w g l) (j : Nat) (x : UInt8) : SecAt (w.setCell ⟨g, j, none⟩ (.int .u8 (x.toNat : Int))) g (l.set j x) := by
  refine ⟨?_, by simp [h.2]⟩
  rw [heap_setCell_same w g j _ _ _ h.1]
  congr 2
  rw [← bv_set]
  apply Array.ext'
  rw [Array.toList_setIfInBounds]
theorem fill_step (b z : List UInt8) (k : Nat) (hb : k < b.length) (hz : z.length = b.length) : (b.take k ++ z.drop k).set k (at8 b k) = b.take (k + 1) ++ z.drop (k + 1) := by
  rw [take_at8 b k hb, List.set_append_right _ _ (by simp; omega)]
  have e : z.drop k = z[k] :: z.drop (k + 1) := List.drop_eq_getElem_cons (by omega)
  have : k - (b.take k).length = 0 := by simp; omega
  rw [this, e, List.set_cons_zero, List.append_assoc]
  rfl
theorem pad_step (a : List UInt8) (j : Nat) : a ++ List.replicate j 0 ++ [0] = a ++ List.replicate (j + 1) 0 := by
  rw [List.append_assoc, List.replicate_succ']
theorem pad_bv (a : List UInt8) (j : Nat) : bv (a ++ List.replicate j 0) ++ [.int .u8 0] = bv (a ++ List.replicate (j + 1) 0) := by
  rw [← pad_step, bv_append (a ++ _)]
  rfl
def lenV : Value → Nat
  | .slice _ n _ => n
  | _ => 0
set_option maxRecDepth 20000 in
set_option maxHeartbeats 6400000 in
theorem ref05_Make (mark : Nat) (hmk : mark < 18446744073709551616) (A : Option Addr) (n c : Nat) (body : List UInt8) (w : World) (hr : RB w A n c body) (hn : n ≤ 140737488351232) :
    Calls Try.prog 37 #[.int .u64 mark, .slice A n c] w (MadePost w (makeM mark body)) := by
  have hlen : body.length = n := hr.1
  have HR := Lib.hid hr
  have HLEN := Lib.hid hlen
  have hg0 : SecAt (w.alloc (.cells Try.zeroCells55 55)) w.heap.size zsec := by
    rw [Try.zero37]
    exact SecAt.new w zsec zsec_length
  have hb1 := below_alloc w (.cells Try.zeroCells55 55)
  have hbld := fun W => run_bldSec0 W
  have HG0 := Lib.hid hg0; have HB1 := Lib.hid hb1
  clear hr hlen hg0 hb1
  by_cases hbad : mark = 0 ∨ 106 < n
  · have HM : Hid (makeM mark body = none) := Lib.hid (by unfold makeM; rw [if_pos (by rw [HLEN.out]; exact hbad)])
    have key : ∀ P : Prop, ((((mark : Int) == 0) = true → P) ∧ ((((mark : Int) == 0) = false ∧ decide ((106 : Int) < (n : Int)) = true) → P)) → P := fun P ⟨h1, h2⟩ => by
      by_cases h0 : mark = 0
      · exact h1 (by subst h0; rfl)
      · exact h2 ⟨by rw [beq_eq_false_iff_ne]; omega, decide_eq_true (by omega)⟩
    clear hbad
    refine key _ ⟨fun h1 => ?_, fun ⟨h1, h2⟩ => ?_⟩
    all_goals
      clear key
      go_enter Try.func37, Try.ntmps37
      go_wp2_with (refine st37_at rfl _ _ rfl w.heap.size zsec rfl HG0.out zsec rfl zsec_length ?_; intro w2 hg2 hk2; have HG2 := Lib.hid hg2; have HB2 := Lib.hid (HB1.out.trans (hk2.below HB1.out.size (fun _ e => by rw [e]; exact Nat.le_refl _))); clear hg2 hk2)
      (try simp only [Exit.inBlock, Exit.then])
      refine bodyPost_ret (retS_tmp rfl _ _ zsec _ w.heap.size rfl rfl HG2.out) rfl ?_
      exact ⟨zsec, 51, rfl, zsec_length, HB2.out, .inr ⟨HM.out, rfl, rfl⟩⟩
  · have HM : Hid (makeM mark body = some (sealL mark body)) := Lib.hid (by unfold makeM; rw [if_neg (by rw [HLEN.out]; exact hbad)])
    have hn106 : n ≤ 106 := by omega
    have h1 : ((mark : Int) == 0) = false := by rw [beq_eq_false_iff_ne]; omega
    have h2 : decide ((106 : Int) < (n : Int)) = false := decide_eq_false (by omega)
    have hn0 : (0 : Int) ≤ (n : Int) := Int.natCast_nonneg _
    have hwr : IntKind.u64.wrap (n : Int) = (n : Int) := by simp [IntKind.wrap, IntKind.signed, IntKind.bits]; omega
    have HN106 : Hid (n ≤ 106) := Lib.hid hn106
    have HMK := Lib.hid hmk
    clear hbad hmk
    go_enter Try.func37, Try.ntmps37
    go_wp2_with fail
    generalize hw1 : w.alloc (.cells Try.zeroCells55 55) = w1 at *
    clear hw1
    refine (ref02_Number mark 8 HMK.out (by omega) (by omega) w1).mono ?_
    rintro e w2 ⟨v2, rfl, ho2, hb2⟩
    have HO2 := Lib.hid ho2; have HB2 := Lib.hid hb2
    clear ho2 hb2
    go_wp2_with fail
    refine (ref02_Number n 2 (by omega) (by omega) (by omega) w2).mono ?_
    rintro e w3 ⟨v3, rfl, ho3, hb3⟩
    obtain ⟨A3, c3, rfl, hr3⟩ := own_rb ho3
    have HO3 := Lib.hid (own_below HO2.out hb3); have HB3 := Lib.hid (bthen HB2.out hb3); have HR3 := Lib.hid hr3
    clear ho3 hb3 hr3 HO2
    go_wp2_with (at_builtin; first
      | (refine wpList_append_any (w0 := w1) w1.heap.size rfl _ _ 37 5 (.int .u8 0) 1 1 rfl Try.underlying37 Try.infoU8' rfl (by decide) (by decide) v2 8 _ A3 2 c3 (bv (be n 2)) rfl rfl HO3.out HR3.out.rd (bv_one _) (by omega) HB3.out HB3.out.size ?_
         intro v4 w4 ho4 hb4 hg4 ha4
         rw [← bv_append] at ho4
         have HO4 := Lib.hid ho4; have HB4 := Lib.hid hb4
         clear ho4 hb4 hg4 ha4)
      | (refine wpList_append_any (w0 := w1) w1.heap.size rfl _ _ 37 5 (.int .u8 0) 1 1 rfl Try.underlying37 Try.infoU8' rfl (by decide) (by decide) v4 (8 + 2) _ A n c (bv body) rfl rfl HO4.out ((HR.out.below (bthen HB1.out HB4.out)).rd) (bv_one _) (by have := HN106.out; omega) HB4.out HB4.out.size ?_
         intro v5 w5 ho5 hb5 hg5 ha5
         rw [← bv_append] at ho5
         have HO5 := Lib.hid ho5; have HB5 := Lib.hid hb5
         clear ho5 hb5 hg5 ha5))
    obtain ⟨A5, c5, rfl, -⟩ := own_rb HO5.out
    obtain ⟨hd, hhd⟩ : ∃ hd, hd = be mark 8 ++ be n 2 ++ body := ⟨_, rfl⟩
    rw [← hhd] at HO5
    have HHD : Hid (hd ++ List.replicate (116 - (10 + n)) 0 = preL mark body) := Lib.hid (by
      rw [hhd, preL, HLEN.out, show 116 - (10 + n) = 106 - n by omega]
      simp)
    have HHL : Hid (hd.length = 10 + n) := Lib.hid (by rw [hhd]; simp [be_length, HLEN.out]; omega)
    clear hhd HO3 HB3 HR3 HB2 HO4 HB4
    go_loopw [6] (fun u wr => ∃ t A' c', t ≤ 116 ∧ 10 + n ≤ t ∧ u = .slice A' t c' ∧ Hid (wr.ownsRow w1.heap.size 5 1 (.slice A' t c') t (bv (hd ++ List.replicate (t - (10 + n)) 0))) ∧ Hid (Below w1.heap.size w1 wr)) (fun u _ => 116 - lenV u)
    case atStart => exact ⟨8 + 2 + n, A5, c5, by omega, by omega, rfl, by simpa using HO5, HB5⟩
    case round =>
      obtain ⟨t, A6, c6, ht, ht2, rfl, HO6, HB6⟩ := hrel
      by_cases hlt : t < 116
      · have hd6 : decide ((t : Int) < 116) = true := decide_eq_true (by omega)
        have ht0 : (0 : Int) ≤ (t : Int) := Int.natCast_nonneg _
        have ht1 : (t : Int) < 116 := by omega
        go_wp2_with (at_builtin; go_must (refine wpList_append_any (w0 := w1) w1.heap.size rfl _ _ 37 5 (.int .u8 0) 1 1 rfl Try.underlying37 Try.infoU8' rfl (by decide) (by decide) (.slice A6 t c6) t _ (some ⟨wr.heap.size, 0, none⟩) 1 1 [.int .u8 0] rfl rfl (HO6.out.alloc _) (rd_one wr _ _ _ rfl) (by simp [Value.oneCell']) (by omega) (HB6.out.alloc HB6.out.size _) (by have := HB6.out.size; simp; omega) ?_; intro v7 w7 ho7 hb7 hg7 ha7; rw [pad_bv, show t - (10 + n) + 1 = t + 1 - (10 + n) by omega] at ho7; obtain ⟨A7, c7, rfl, -⟩ := own_rb ho7; have HO7 := Lib.hid ho7; have HB7 := Lib.hid hb7; clear ho7 hb7 hg7 ha7))
        go_roundw
        case rel => exact ⟨_, _, _, _, _, _, _, ⟨t + 1, A7, c7, by omega, by omega, rfl, HO7, HB7⟩, rfl⟩
        case measure => simp [lenV]; omega
      · obtain rfl : t = 116 := by omega
        rw [HHD.out] at HO6
        obtain ⟨A8, c8, e8, hr8⟩ := own_rb HO6.out
        injection e8 with e8 _ e9
        subst e8 e9
        have HR8 := Lib.hid hr8
        have hsl := sumL_lt mark body
        have HSL : Hid (sumL mark body < 256 ^ 4) := Lib.hid (by omega)
        have hpl : Hid ((preL mark body).length = 116) := Lib.hid hr8.1
        clear hr8 hsl
        go_wp2_with fail
        refine (ref03_Sum 0#32 A6 116 c6 (preL mark body) wr HR8.out).mono ?_
        rw [show (crcAdd 0#32 (preL mark body)).toNat = sumL mark body from rfl]
        rintro e w9 ⟨rfl, rfl⟩
        have hs0 : (0 : Int) ≤ ((sumL mark body : Nat) : Int) := Int.natCast_nonneg _
        have hs1 : ((sumL mark body : Nat) : Int) < 4294967296 := by have := sumL_lt mark body; omega
        have HSS : Hid (sealL mark body = preL mark body ++ be (sumL mark body) 4 ++ be mark 8) := Lib.hid (by simp [sealL])
        generalize sumL mark body = sm at *
        go_wp2_with fail
        refine (ref02_Number sm 4 (by have := HSL.out; omega) (by omega) (by omega) _).mono ?_
        rintro e w10 ⟨v10, rfl, ho10, hb10⟩
        obtain ⟨A10, c10, rfl, hr10⟩ := own_rb ho10
        have HO10 := Lib.hid (own_below HO6.out hb10); have HB10 := Lib.hid (bthen HB6.out hb10); have HR10 := Lib.hid hr10
        clear ho10 hb10 hr10
        go_wp2_with (at_builtin; go_must (refine wpList_append_any (w0 := w1) w1.heap.size rfl _ _ 37 5 (.int .u8 0) 1 1 rfl Try.underlying37 Try.infoU8' rfl (by decide) (by decide) (.slice A6 116 c6) 116 _ A10 4 c10 (bv (be sm 4)) rfl rfl HO10.out HR10.out.rd (bv_one _) (by omega) HB10.out HB10.out.size ?_; intro v11 w11 ho11 hb11 hg11 ha11; rw [← bv_append] at ho11; have HO11 := Lib.hid ho11; have HB11 := Lib.hid hb11; clear ho11 hb11 hg11 ha11))
        refine (ref02_Number mark 8 HMK.out (by omega) (by omega) _).mono ?_
        rintro e w12 ⟨v12, rfl, ho12, hb12⟩
        obtain ⟨A12, c12, rfl, hr12⟩ := own_rb ho12
        have HO12 := Lib.hid (own_below HO11.out hb12); have HB12 := Lib.hid (bthen HB11.out hb12); have HR12 := Lib.hid hr12
        clear ho12 hb12 hr12
        go_wp2_with (first
          | (at_builtin; refine wpList_append_any (w0 := w1) w1.heap.size rfl _ _ 37 5 (.int .u8 0) 1 1 rfl Try.underlying37 Try.infoU8' rfl (by decide) (by decide) v11 (116 + 4) _ A12 8 c12 (bv (be mark 8)) rfl rfl HO12.out HR12.out.rd (bv_one _) (by omega) HB12.out HB12.out.size ?_
             intro v13 w13 ho13 hb13 hg13 ha13
             rw [← bv_append, ← HSS.out] at ho13
             obtain ⟨A13, c13, rfl, hr13⟩ := own_rb ho13
             have HR13 := Lib.hid hr13; have HB13 := Lib.hid hb13
             clear ho13 hb13 hg13 ha13 hr13)
          | (refine st37 rfl _ _ rfl _ _ rfl rfl zsec rfl zsec_length rfl ?_))
        have HZ := Lib.hid (HG0.out.below (HB13.out.alloc HB13.out.size (.cells (bv zsec).toArray 55)))
        have HLS : Hid ((sealL mark body).length = 128) := Lib.hid HR13.out.1
        clear HO6 HB6 HR8 HO10 HB10 HR10 HO11 HB11 HO12 HB12 HR12 hs0 hs1 HSL HSS hpl HHD HHL HO5 HB5
        go_loopw [15] (fun i wr => ∃ k, k ≤ 128 ∧ i = .int .i64 (k : Nat) ∧ Hid (SecAt wr w13.heap.size ((sealL mark body).take k ++ zsec.drop k)) ∧ Hid (Below w13.heap.size w13 wr)) (fun i _ => 128 - (intOf i).toNat)
        case atStart => exact ⟨0, by omega, rfl, by simpa using Lib.hid (SecAt.new w13 zsec zsec_length), Lib.hid (below_alloc _ _)⟩
        case round =>
          obtain ⟨k, hk, rfl, HGk, HBk⟩ := hrel
          by_cases hlt : k < 128
          · have hk0 : (0 : Int) ≤ (k : Int) := Int.natCast_nonneg _
            have hk1 : (k : Int) < 128 := by omega
            obtain ⟨b, o, rfl, hcells⟩ := (HR13.out.below HBk.out).2.2.2 (by omega)
            have hcell := hcells k (by omega)
            have hsc := HGk.out.cell k hlt
            have hfz := frozen_of_row wr w13.heap.size k _ _ HGk.out.1
            have hset := HGk.out.set k (at8 (sealL mark body) k)
            rw [fill_step _ _ k (by rw [HLS.out]; exact hlt) (by rw [HLS.out, zsec_length])] at hset
            have HST := Lib.hid hset
            have HBS : Hid (Below w13.heap.size w13 (wr.setCell ⟨w13.heap.size, k, none⟩ (.int .u8 ((at8 (sealL mark body) k).toNat : Int)))) := Lib.hid (HBk.out.setCell (Nat.le_refl _) _)
            clear hcells hset
            go_wp2_with fail
            go_roundw
            case rel => exact ⟨k + 1, by omega, by go_num, HST, HBS⟩
            case measure => simp [intOf]; omega
          · obtain rfl : k = 128 := by omega
            have hfin := HGk.out
            rw [List.take_of_length_le (by rw [HLS.out]; exact Nat.le_refl _), List.drop_of_length_le (by rw [zsec_length]; exact Nat.le_refl _), List.append_nil] at hfin
            have HF := Lib.hid hfin
            have HZ2 := Lib.hid ((HG0.out.below HB13.out).below HBk.out)
            have HBF := Lib.hid (bthen HB1.out (bthen HB13.out HBk.out))
            have hld := run_ldSec hfin.range hfin.2
            clear hfin
            go_wp2_with (refine st37_at rfl _ _ rfl w.heap.size zsec rfl HZ2.out (sealL mark body) rfl HLS.out ?_; intro w14 hg14 hk14; have HG14 := Lib.hid hg14; have HB14 := Lib.hid (HBF.out.trans (hk14.below HBF.out.size (fun _ e => by rw [e]; exact Nat.le_refl _))); clear hg14 hk14)
            (try simp only [Exit.inBlock, Exit.then])
            refine bodyPost_ret (retS_tmp rfl _ _ (sealL mark body) _ w.heap.size rfl rfl HG14.out) rfl ?_
            exact ⟨sealL mark body, 0, rfl, HLS.out, HB14.out, .inl ⟨HM.out, rfl⟩⟩
end Go.Proofs.Ytgakajofggmbjaa

/- The reference's Open. -/
namespace Go.Proofs.Ytgakajofggmbjaa
open Go.RowKit
attribute [local go_sem ↓] loadAt37

theorem numOf_two (l : List UInt8) (h : l.length = 128) : numOf ((l.drop 8).take 2) = (at8 l 8).toNat * 256 + (at8 l 9).toNat := by
  have h8 : at8 (l.drop 8) 0 = at8 l 8 := by simp [at8, List.getD_eq_getElem?_getD]
  have h9 : at8 (l.drop 8) 1 = at8 l 9 := by simp [at8, List.getD_eq_getElem?_getD]
  rw [numOf_take (l.drop 8) 1 (by simp; omega), numOf_take (l.drop 8) 0 (by simp; omega), h8, h9]
  simp [numOf]
set_option maxRecDepth 20000 in
set_option maxHeartbeats 3200000 in
theorem ref05_Open (l : List UInt8) (hl : l.length = 128) (w : World) :
    Calls Try.prog 42 #[secV l] w (OpenPost w (openM l)) := by
  have HG := Lib.hid (SecAt.new w l hl)
  have HL := Lib.hid hl
  have hb1 := below_alloc w (.cells (bv l).toArray 55)
  have HB1 := Lib.hid hb1
  have hbl : (bv l).length = 128 := by rw [bv_length, hl]
  clear hl hb1
  unfold secV
  go_enter Try.func42, Try.ntmps42
  go_wp2_with fail
  have hm8 := numOf_small l 8 (by omega)
  have HM8 := Lib.hid hm8
  have hopen : openM l = openM l := rfl
  conv at hopen => rhs; unfold openM
  have HO := Lib.hid hopen
  have hntwo := numOf_two l HL.out
  have HN2 := Lib.hid hntwo
  generalize w.alloc (.cells (bv l).toArray 55) = w3 at *
  clear hm8 hopen hntwo
  go_loopw [5, 6] (fun u i wr => ∃ k, k ≤ 8 ∧ i = .int .i64 (k : Nat) ∧ u = .int .u64 (numOf (l.take k)) ∧ wr = w3) (fun _ i _ => 8 - (intOf i).toNat)
  case atStart => exact ⟨0, by omega, rfl, rfl, rfl⟩
  case round =>
    obtain ⟨j, hj, rfl, rfl, rfl⟩ := hrel
    by_cases hlt : j < 8
    · have hj0 : (0 : Int) ≤ (j : Int) := Int.natCast_nonneg _
      have hj1 : (j : Int) < 8 := by omega
      have hj2 : (j : Int) < 128 := by omega
      have hcell := HG.out.cell j (by omega)
      have hnt := numOf_take l j (by rw [HL.out]; omega)
      have hsm := numOf_small l (j + 1) (by omega)
      rw [hnt] at hsm
      have hx := (at8 l j).toNat_lt
      have HT := Lib.hid hnt
      clear hnt
      generalize numOf (l.take j) = m at *
      generalize at8 l j = x at *
      go_wp2_with fail
      go_roundw
      case rel => exact ⟨j + 1, by omega, by go_num, by rw [HT.out]; go_num, trivial⟩
      case measure => simp [intOf]; omega
    · obtain rfl : j = 8 := by omega
      have hc8 := HG.out.cell 8 (by omega)
      have hc9 := HG.out.cell 9 (by omega)
      have hx8 := (at8 l 8).toNat_lt
      have hx9 := (at8 l 9).toNat_lt
      obtain ⟨n, hn⟩ : ∃ n, n = (at8 l 8).toNat * 256 + (at8 l 9).toNat := ⟨_, rfl⟩
      have hsum : ((at8 l 8).toNat : Int) * 256 + ((at8 l 9).toNat : Int) = (n : Int) := by omega
      rw [HN2.out, ← hn] at HO
      have hn16 : n < 65536 := by omega
      have hn0 : (0 : Int) ≤ (n : Int) := Int.natCast_nonneg _
      clear hn
      generalize at8 l 8 = x8 at *
      generalize at8 l 9 = x9 at *
      generalize hmk : numOf (l.take 8) = mk at *
      by_cases hbig : 106 < n
      · have hd : decide ((106 : Int) < (n : Int)) = true := decide_eq_true (by omega)
        have HN : Hid (openM l = none) := Lib.hid (by rw [HO.out, if_pos hbig])
        clear hbig HO hmk
        go_wp2_with fail
        go_ret3
        exact ⟨0, none, 0, 0, false, rfl, HB1.out, .inr ⟨HN.out, rfl, rfl, rfl, rfl, rfl⟩⟩
      · have hd : decide ((106 : Int) < (n : Int)) = false := decide_eq_false (by omega)
        have hn1 : (10 : Int) + (n : Int) ≤ 128 := by omega
        have HN : Hid (openM l = if makeM mk ((l.drop 10).take n) = some l then some (mk, (l.drop 10).take n) else none) := Lib.hid (by rw [HO.out, if_neg hbig])
        have HN106 : Hid (n ≤ 106) := Lib.hid (by omega)
        have hrb := HG.out.rb 10 n 118 (by omega) (by omega) (by omega)
        generalize hbody : (l.drop 10).take n = body at *
        have HRB := Lib.hid hrb
        clear hbig HO hrb hbody hmk
        go_wp2_with (first
          | (refine wpList_cutS rfl _ _ _ rfl w.heap.size 10 n _ _ rfl rfl rfl rfl rfl (by omega) (by have := HN106.out; omega) ?_)
          | (at_builtin; refine wpList_copy_bytes (W := wr) rfl _ _ 37 5 rfl Try.underlying37 Try.infoU8' (some ⟨w.heap.size, 10, none⟩) n 118 body wr.heap.size rfl rfl rfl HRB.out (by have := HN106.out; omega) ?_
             intro A4 c4 w4 hown4 hr4 hb4
             have HR4 := Lib.hid hr4; have HB4 := Lib.hid (bthen HB1.out hb4); have HG4 := Lib.hid (HG.out.below hb4)
             clear hown4 hr4 hb4))
        refine (ref05_Make mk HM8.out A4 n c4 body w4 HR4.out (by have := HN106.out; omega)).mono ?_
        rintro e w5 ⟨l5, ev, rfl, hl5, hb5, hc5⟩
        have HL5 := Lib.hid hl5; have HB5 := Lib.hid (bthen HB4.out hb5); have HG5 := Lib.hid (HG4.out.below hb5); have HR5 := Lib.hid (HR4.out.below hb5)
        clear hl5 hb5
        have HB6 := Lib.hid (HB5.out.alloc HB5.out.size (.cells (bv l5).toArray 55))
        have HR6 := Lib.hid (HR5.out.alloc (.cells (bv l5).toArray 55))
        have hld1 := run_ldSec (w := w5.alloc (.cells (bv l5).toArray 55)) (range_alloc w5 (bv l5) _ _) HL5.out
        have hld2 := run_ldSec (w := w5.alloc (.cells (bv l5).toArray 55)) (HG5.out.below (below_alloc w5 _)).range HL.out
        have heq := eq37 (w5.alloc (.cells (bv l5).toArray 55)) l5 l HL5.out HL.out
        clear HG4 HG5 HB4 HB5 HR4 HR5
        rcases hc5 with ⟨hmk5, rfl⟩ | ⟨hmk5, rfl, rfl⟩
        · by_cases hsame : l5 = l
          · have HF : Hid (openM l = some (mk, body)) := Lib.hid (by rw [HN.out, hmk5, if_pos (by rw [hsame])])
            have hdd : decide (l5 = l) = true := decide_eq_true hsame
            rw [hdd] at heq
            clear hmk5 hsame hdd
            go_wp2_with (refine st37 rfl _ _ rfl _ _ rfl rfl l5 rfl HL5.out rfl ?_)
            go_ret3
            exact ⟨mk, A4, n, c4, true, rfl, HB6.out, .inl ⟨body, HF.out, rfl, HR6.out⟩⟩
          · have HF : Hid (openM l = none) := Lib.hid (by rw [HN.out, hmk5, if_neg (by intro e; injection e with e; exact hsame e)])
            have hdd : decide (l5 = l) = false := decide_eq_false hsame
            rw [hdd] at heq
            clear hmk5 hsame hdd
            go_wp2_with (refine st37 rfl _ _ rfl _ _ rfl rfl l5 rfl HL5.out rfl ?_)
            go_ret3
            exact ⟨0, none, 0, 0, false, rfl, HB6.out, .inr ⟨HF.out, rfl, rfl, rfl, rfl, rfl⟩⟩
        · have HF : Hid (openM l = none) := Lib.hid (by rw [HN.out, hmk5, if_neg (by intro e; cases e)])
          clear hmk5 heq hld1 hld2
          go_wp2_with (refine st37 rfl _ _ rfl _ _ rfl rfl zsec rfl zsec_length rfl ?_)
          go_ret3
          exact ⟨0, none, 0, 0, false, rfl, HB6.out, .inr ⟨HF.out, rfl, rfl, rfl, rfl, rfl⟩⟩
end Go.Proofs.Ytgakajofggmbjaa

/- The reference's width. -/
namespace Go.Proofs.Ytgakajofggmbjaa
open Go.RowKit

/-- The reference's width. -/
def letterI (c : UInt8) : Int := match letterW c with
  | none => -1
  | some w => (w : Int)
set_option maxHeartbeats 800000 in
theorem ref02_width (c : UInt8) (w : World) : Calls Try.prog 53 #[.int .u8 (c.toNat : Int)] w fun e w' => e = .returned (.int .i64 (letterI c)) ∧ w = w' := by
  have key : ∀ d : UInt8, c ≠ d → ((c.toNat : Int) == (d.toNat : Int)) = false := fun d hd => by
    rw [beq_eq_false_iff_ne]
    exact fun e => hd (UInt8.toNat_inj.1 (by omega))
  by_cases h1 : c = 49
  · subst h1
    go_enter Try.func53, Try.ntmps53
    go_wp2_with fail
    go_ret
    exact ⟨rfl, rfl⟩
  by_cases h2 : c = 50
  · subst h2
    go_enter Try.func53, Try.ntmps53
    go_wp2_with fail
    go_ret
    exact ⟨rfl, rfl⟩
  by_cases h3 : c = 52
  · subst h3
    go_enter Try.func53, Try.ntmps53
    go_wp2_with fail
    go_ret
    exact ⟨rfl, rfl⟩
  by_cases h4 : c = 56
  · subst h4
    go_enter Try.func53, Try.ntmps53
    go_wp2_with fail
    go_ret
    exact ⟨rfl, rfl⟩
  by_cases h5 : c = 98
  · subst h5
    go_enter Try.func53, Try.ntmps53
    go_wp2_with fail
    go_ret
    exact ⟨rfl, rfl⟩
  have e : letterI c = -1 := by simp [letterI, letterW, h1, h2, h3, h4, h5]
  rw [e]
  have q1 : ((c.toNat : Int) == 49) = false := key 49 h1
  have q2 : ((c.toNat : Int) == 50) = false := key 50 h2
  have q3 : ((c.toNat : Int) == 52) = false := key 52 h3
  have q4 : ((c.toNat : Int) == 56) = false := key 56 h4
  have q5 : ((c.toNat : Int) == 98) = false := key 98 h5
  clear key e h1 h2 h3 h4 h5
  go_enter Try.func53, Try.ntmps53
  go_wp2_with fail
  go_ret
  exact ⟨rfl, rfl⟩

theorem letterI_none {c : UInt8} (h : letterW c = none) : letterI c = -1 := by simp [letterI, h]
theorem letterI_some {c : UInt8} {k : Nat} (h : letterW c = some k) : letterI c = (k : Int) := by simp [letterI, h]
end Go.Proofs.Ytgakajofggmbjaa
