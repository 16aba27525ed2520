/- The acts of the journal's laws as data, and how they came in. -/
import Derived.Test.YtgakajofggmbjaaMg18
import Derived.Test.YtgakajofggmbjaaMg15
namespace Go.Proofs.Ytgakajofggmbjaa
open Go.ChangeShapes Go.WideShapes Go.ChangeAt Go.RowKit

structure ActJ where
  kind : Int
  at_ : Int
  cut : Int
  ta : Option Addr
  tn : Nat
  tc : Nat
  text : List UInt8
  ka : Option Addr
  kn : Nat
  kc : Nat
  keep : List Bool
def actJ (a : ActJ) : List Value := [.int .i64 a.kind, .int .i64 a.at_, .int .i64 a.cut, .slice a.ta a.tn a.tc, .slice a.ka a.kn a.kc]
theorem actJ_one (a : ActJ) : ∀ u ∈ actJ a, u.oneCell' = true := by simp [actJ, Value.oneCell']
/-- What is known of an act. -/
structure ActJOk (w : World) (a : ActJ) : Prop where
  at_ : a.at_ ≤ 9223372036854775807
  text : RB w a.ta a.tn a.tc a.text
  textn : a.tn ≤ 140737488351232
  keep : RBl w a.ka a.kn a.kc a.keep
  keepn : a.kn ≤ 140737488351232
theorem ActJOk.below {w w' : World} {a : ActJ} (h : ActJOk w a) (hb : Below w.heap.size w w') : ActJOk w' a := ⟨h.at_, h.text.below hb, h.textn, h.keep.below hb, h.keepn⟩
/-- The slice value's elements are acts: the k-th is f k. -/
def RActJ (w : World) (A : Option Addr) (n c : Nat) (f : Nat → ActJ) : Prop :=
  n ≤ c ∧ c ≤ 9223372036854775807 ∧ (0 < n → ∃ b o, A = some ⟨b, o, none⟩ ∧ ∀ k, k < n → w.rangeAt b (o + k * 5) (actJ (f k)) ∧ ActJOk w (f k))
theorem RActJ.below {w w1 : World} {A : Option Addr} {n c : Nat} {f : Nat → ActJ} (h : RActJ w A n c f) (hb : Below w.heap.size w w1) : RActJ w1 A n c f := by
  obtain ⟨h2, h3, h4⟩ := h
  refine ⟨h2, h3, fun hp => ?_⟩
  obtain ⟨b, o, e, hc⟩ := h4 hp
  exact ⟨b, o, e, fun k hk => ⟨range_belowF (hc k hk).1 hb, (hc k hk).2.below hb⟩⟩
section
variable {H : Type} {enc : TypeId × Value → H} {w : World} {fuel : Nat} {cs : List Value} {x : DataW H × List MemPlace}
set_option maxRecDepth 100000 in
/-- An act that came in. -/
theorem trod_actJ (h : DataW.trod enc Try.prog w 0 (fun _ => true) true fuel 40 cs = some x) (z : ∀ n ∈ x.1.weights Try.prog 40, n ≤ reachBytes) :
    ∃ a : ActJ, cs = actJ a ∧ ActJOk w a := by
  have hc3 : Try.prog.cellsOf 3 = 1 := by kernel_rfl
  have hc24 : Try.prog.cellsOf 37 = 1 := by kernel_rfl
  have hc38 : Try.prog.cellsOf 38 = 1 := by kernel_rfl
  have hc40 : Try.prog.cellsOf 40 = 5 := by kernel_rfl
  obtain ⟨xs, m, _, hx, hl, hxl, hf⟩ := DataW.trod_struct Try.underlying40 h
  rw [hc40] at hl
  have hxl : xs.length = 5 := hxl
  have f0 : DataW.trod enc Try.prog w 0 (fun _ => true) true m 3 ((cs.drop 0).take (Try.prog.cellsOf 3)) = xs[0]? := hf 0 _ rfl
  rw [hc3, List.getElem?_eq_getElem (by omega)] at f0
  have f1 : DataW.trod enc Try.prog w 0 (fun _ => true) true m 3 ((cs.drop 1).take (Try.prog.cellsOf 3)) = xs[1]? := hf 1 _ rfl
  rw [hc3, List.getElem?_eq_getElem (by omega)] at f1
  have f2 : DataW.trod enc Try.prog w 0 (fun _ => true) true m 3 ((cs.drop 2).take (Try.prog.cellsOf 3)) = xs[2]? := hf 2 _ rfl
  rw [hc3, List.getElem?_eq_getElem (by omega)] at f2
  have f3 : DataW.trod enc Try.prog w 0 (fun _ => true) true m 37 ((cs.drop 3).take (Try.prog.cellsOf 37)) = xs[3]? := hf 3 _ rfl
  rw [hc24, List.getElem?_eq_getElem (by omega)] at f3
  have f4 : DataW.trod enc Try.prog w 0 (fun _ => true) true m 38 ((cs.drop 4).take (Try.prog.cellsOf 38)) = xs[4]? := hf 4 _ rfl
  rw [hc38, List.getElem?_eq_getElem (by omega)] at f4
  obtain ⟨n0, e0, _, w0⟩ := DataW.trod_int Try.underlying3 f0
  obtain ⟨n1, e1, _, w1⟩ := DataW.trod_int Try.underlying3 f1
  obtain ⟨n2, e2, _, w2⟩ := DataW.trod_int Try.underlying3 f2
  obtain ⟨A3, n3, c3, xs3, e3, hrb3, hn3⟩ := trod_u8s Try.underlying37 Try.underlying5 (by kernel_rfl) (by kernel_rfl) f3 (fun n hn => z n (by
    rw [hx]
    have hd : (xs.map (·.1))[3]? = some xs[3].1 := by rw [List.getElem?_map, List.getElem?_eq_getElem (by omega)]; rfl
    simp only [DataW.weights, Try.underlying40]
    exact DataW.weights_mem_each (j := 3) rfl hd n hn))
  obtain ⟨A4, n4, c4, bs, e4, hrb4, hn4⟩ := trod_bools Try.underlying38 Try.underlying4 (by kernel_rfl) (by kernel_rfl) f4 (fun n hn => z n (by
    rw [hx]
    have hd : (xs.map (·.1))[4]? = some xs[4].1 := by rw [List.getElem?_map, List.getElem?_eq_getElem (by omega)]; rfl
    simp only [DataW.weights, Try.underlying40]
    exact DataW.weights_mem_each (j := 4) rfl hd n hn))
  refine ⟨⟨n0, n1, n2, A3, n3, c3, xs3, A4, n4, c4, bs⟩, ?_, ⟨(i64_wf w1).2, hrb3, hn3, hrb4, hn4⟩⟩
  have g0 := take1F e0
  have g1 := take1F e1
  have g2 := take1F e2
  have g3 := take1F e3
  have g4 := take1F e4
  match cs, hl, g0, g1, g2, g3, g4 with
  | [a, b, c, d, e], _, g0, g1, g2, g3, g4 =>
    simp at g0 g1 g2 g3 g4
    subst g0 g1 g2 g3 g4
    rfl
set_option maxRecDepth 100000 in
/-- The acts that came in. -/
theorem open_actsJ {base : Nat} {v : Value} {d : DataW H} {p : List MemPlace} {W : World} (o : Value.okWide Try.prog W .any base 23 v) (r : DataW.Trod enc Try.prog W 0 (fun _ => true) true 23 v d p) (z : ∀ n ∈ d.weights Try.prog 23, n ≤ reachBytes) :
    ∃ A n c f, v = .slice A n c ∧ RActJ W A n c f := by
  have hc40 : Try.prog.cellsOf 40 = 5 := by kernel_rfl
  obtain ⟨A0, len0, cap0, rfl⟩ := okWide_slice Try.underlying23 o
  obtain ⟨fuel, hf⟩ := r
  rcases Go.Deep.open_slice Try.underlying23 hf with ⟨hcs, _⟩ | ⟨a, len, cap, m, n, D, Pl, hcs, _, hl, hm, hmm, hx, hel⟩
  · simp [Value.cells] at hcs
    obtain ⟨rfl, rfl, rfl⟩ := hcs
    exact ⟨none, 0, 0, fun _ => ⟨0, 0, 0, none, 0, 0, [], none, 0, 0, []⟩, rfl, Nat.le_refl _, by omega, fun hp => absurd hp (by omega)⟩
  · simp [Value.cells] at hcs
    obtain ⟨rfl, rfl, rfl⟩ := hcs
    simp only [if_true] at hmm
    subst hmm
    have hd : d = .slice ((List.range len0).map D) ((List.range (m - len0)).map fun j => D (len0 + j)) := (Prod.mk.inj hx).1
    have hget : ∀ i, i < len0 → ∃ ac : ActJ, (∀ j u, (actJ ac)[j]? = some u → W.cell? ((a.add (i * 5)).add j) = some u) ∧ ActJOk W ac := by
      intro i hi
      obtain ⟨cs', h1, h2⟩ := hel i (by omega)
      rw [hc40] at h1
      obtain ⟨ac, rfl, hok⟩ := trod_actJ h2 (fun q hq => z q (by
        rw [hd]
        exact weights_elem Try.underlying23 (List.mem_map.2 ⟨i, by simpa using hi, rfl⟩) q hq))
      exact ⟨ac, (cells_range h1).2, hok⟩
    obtain ⟨f, hf⟩ : ∃ f : Nat → ActJ, ∀ i, i < len0 → (∀ j u, (actJ (f i))[j]? = some u → W.cell? ((a.add (i * 5)).add j) = some u) ∧ ActJOk W (f i) :=
      ⟨fun i => if h : i < len0 then (hget i h).choose else ⟨0, 0, 0, none, 0, 0, [], none, 0, 0, []⟩, fun i hi => by
        simp only [dif_pos hi]
        exact (hget i hi).choose_spec⟩
    refine ⟨some a, len0, m, f, rfl, hl, by simpa [maxLen] using hm, fun hp => ?_⟩
    obtain ⟨b, o, spot⟩ := a
    have h0 := (hf 0 hp).1 0 _ rfl
    rw [Nat.zero_mul, add_add, Nat.add_zero] at h0
    have hs : spot = none := by simpa [Addr.add] using World.cell?_spot h0
    subst hs
    refine ⟨b, _, rfl, fun k hk => ?_⟩
    refine ⟨fun j u hj => ?_, (hf k hk).2⟩
    have := (hf k hk).1 j u hj
    rwa [add_add, add_none, ← Nat.add_assoc] at this
end
end Go.Proofs.Ytgakajofggmbjaa

/- The journal and the document's one side by side: what rounds keep. -/
namespace Go.Proofs.Ytgakajofggmbjaa
open Go.RowKit

/-- The disks, the journals, the document's values. -/
structure RJ (w1 wr : World) (p s g g10 j : Nat) (v : Value) (A : Option Addr) (c : Nat) (B : Option Addr) (kk : Nat) (d : Dk) (first gen cnt : Nat) : Prop where
  two : Two w1 wr p s g v A c B kk d
  jr : JAt wr j p (first : Int) gen cnt
  kb : RowAt wr g10 36 (rjC first gen cnt)
  jb : w1.heap.size ≤ j
  gb : w1.heap.size ≤ g10
  hA : ∀ b o, A = some ⟨b, o, none⟩ → b ≠ j ∧ b ≠ g10
  hB : ∀ b o, B = some ⟨b, o, none⟩ → b ≠ j ∧ b ≠ g10
section
variable {w1 wr w' : World} {p s g g10 j : Nat} {v v' : Value} {A : Option Addr} {c : Nat} {B : Option Addr} {kk : Nat} {d d' : Dk} {first gen cnt cnt' : Nat}
theorem RJ.below (h : RJ w1 wr p s g g10 j v A c B kk d first gen cnt) (hb : Below wr.heap.size wr w') : RJ w1 w' p s g g10 j v A c B kk d first gen cnt :=
  ⟨h.two.below hb, RowAt.below h.jr hb, h.kb.below hb, h.jb, h.gb, h.hA, h.hB⟩
theorem RJ.nj (h : RJ w1 wr p s g g10 j v A c B kk d first gen cnt) : g ≠ j ∧ g10 ≠ j ∧ g ≠ g10 :=
  ⟨ne_of_types h.two.row h.jr (by decide), ne_of_types h.kb h.jr (by decide), ne_of_types h.two.row h.kb (by decide)⟩
/-- The program has acted: the document's side is still the elder one. -/
structure HJ (w1 wr : World) (p s g g10 j : Nat) (v : Value) (A : Option Addr) (c : Nat) (B : Option Addr) (kk : Nat) (d d' : Dk) (first gen cnt cnt' : Nat) : Prop where
  half : Half w1 wr p s g v A c B kk d d'
  jr : JAt wr j p (first : Int) gen cnt'
  kb : RowAt wr g10 36 (rjC first gen cnt)
  jb : w1.heap.size ≤ j
  gb : w1.heap.size ≤ g10
  hA : ∀ b o, A = some ⟨b, o, none⟩ → b ≠ j ∧ b ≠ g10
  hB : ∀ b o, B = some ⟨b, o, none⟩ → b ≠ j ∧ b ≠ g10
theorem RJ.acted (h : RJ w1 wr p s g g10 j v A c B kk d first gen cnt) (hd : DiskAt w' w1.heap.size p s v' d') (hj : JAt w' j p (first : Int) gen cnt') (hk : Kp (fun k => foot p s v k ∨ k = j) wr w') (hv : ∀ q, v'.ownBlock = some q → v.ownBlock = some q ∨ wr.heap.size ≤ q) :
    HJ w1 w' p s g g10 j v' A c B kk d d' first gen cnt cnt' := by
  obtain ⟨n1, n2, n3⟩ := h.nj
  have nf := h.two.notFoot
  have nk : ¬ foot p s v g10 := foot_not h.two.disk h.kb (by decide) (by decide) (by decide)
  refine ⟨⟨hd, h.two.row.kp hk (fun e => e.elim nf n1), h.two.rd.kpF hk (fun b o e f => ?_) (fun b o e f => ?_), h.two.apA.up hk.size hv, h.two.apB.up hk.size hv, h.two.gA, h.two.gB, h.two.bl.trans (hk.below h.two.bl.size (fun i e => ?_))⟩, hj, h.kb.kp hk (fun e => e.elim nk n2), h.jb, h.gb, h.hA, h.hB⟩
  · rcases f with f | f
    · exact (h.two.apA b o e).2 f
    · exact (h.hA b o e).1 f
  · rcases f with f | f
    · exact (h.two.apB b o e).2 f
    · exact (h.hB b o e).1 f
  · rcases e with e | rfl
    · exact h.two.disk.foot_base i e
    · exact h.jb
theorem HJ.below (h : HJ w1 wr p s g g10 j v A c B kk d d' first gen cnt cnt') (hb : Below wr.heap.size wr w') : HJ w1 w' p s g g10 j v A c B kk d d' first gen cnt cnt' :=
  ⟨⟨h.half.disk.below hb, h.half.row.below hb, h.half.rd.below hb, h.half.apA.up hb.size (fun _ e => .inl e), h.half.apB.up hb.size (fun _ e => .inl e), h.half.gA, h.half.gB, bthen h.half.bl hb⟩, RowAt.below h.jr hb, h.kb.below hb, h.jb, h.gb, h.hA, h.hB⟩
/-- The document's disk is stored. -/
theorem HJ.disk (h : HJ w1 wr p s g g10 j v A c B kk d d' first gen cnt cnt') {A' : Option Addr} {c' : Nat} {B' : Option Addr} {k' : Nat} {w2 : World} (hr : RDk w' A' c' B' k' d') (hb : Below wr.heap.size wr w') (hA : A' = A ∨ FrA wr w' A') (hB : B' = B ∨ FrA wr w' B') (hk : Kp (· = g) w' w2) (hrow : RowAt w2 g 30 (rdC A' c' B' k' d')) (hg : w1.heap.size ≤ g) :
    Two w1 w2 p s g v A' c' B' k' d' ∧ JAt w2 j p (first : Int) gen cnt' ∧ RowAt w2 g10 36 (rjC first gen cnt) ∧ (∀ b o, A' = some ⟨b, o, none⟩ → b ≠ j ∧ b ≠ g10) ∧ (∀ b o, B' = some ⟨b, o, none⟩ → b ≠ j ∧ b ≠ g10) := by
  have hjl := h.jr.lt
  have hgl := lt_of_heap h.kb
  have up : ∀ {A A' : Option Addr}, (∀ b o, A = some ⟨b, o, none⟩ → b ≠ j ∧ b ≠ g10) → (A' = A ∨ FrA wr w' A') → ∀ b o, A' = some ⟨b, o, none⟩ → b ≠ j ∧ b ≠ g10 := fun h0 h1 b o e => by
    rcases h1 with rfl | h1
    · exact h0 b o e
    · have := (h1 b o e).1
      omega
  have nj : g ≠ j := ne_of_types h.half.row h.jr (by decide)
  have ng : g ≠ g10 := ne_of_types h.half.row h.kb (by decide)
  exact ⟨h.half.done hr hb hA hB hk hrow hg, RowAt.kp (RowAt.below h.jr hb) hk (fun e => nj e.symm), (h.kb.below hb).kp hk (fun e => ng e.symm), up h.hA hA, up h.hB hB⟩
/-- The document's journal is stored. -/
theorem RJ.of (ht : Two w1 wr p s g v A c B kk d) (hj : JAt wr j p (first : Int) gen cnt') (hkb : RowAt wr g10 36 (rjC first gen cnt)) (hjb : w1.heap.size ≤ j) (hgb : w1.heap.size ≤ g10) (hA : ∀ b o, A = some ⟨b, o, none⟩ → b ≠ j ∧ b ≠ g10) (hB : ∀ b o, B = some ⟨b, o, none⟩ → b ≠ j ∧ b ≠ g10)
    {gen' : Nat} {w2 : World} (hk : Kp (· = g10) wr w2) (hrow : RowAt w2 g10 36 (rjC first gen' cnt')) :
    Two w1 w2 p s g v A c B kk d ∧ JAt w2 j p (first : Int) gen cnt' := by
  have nf : ¬ foot p s v g10 := foot_not ht.disk hkb (by decide) (by decide) (by decide)
  have ng : g ≠ g10 := ne_of_types ht.row hkb (by decide)
  have nj : g10 ≠ j := ne_of_types hkb hj (by decide)
  exact ⟨ht.box hk hgb nf (fun e => ng e.symm) (fun b o e => (hA b o e).2) (fun b o e => (hB b o e).2), RowAt.kp hj hk (fun e => nj e.symm)⟩
end
/-- Add leaves few writes pending, and the disk as large as it was. -/
theorem addM_pend (d : Dk) (first gen count : Nat) (b : List UInt8) : (addM d first gen count b).1.pend.length ≤ d.pend.length + 4 ∧ (addM d first gen count b).1.stable.length = d.stable.length ∧ (count ≤ 4 → (addM d first gen count b).2.1 ≤ 4) := by
  by_cases hbig : 384 < b.length
  · rw [addM_not d first gen count b (.inl hbig)]
    exact ⟨Nat.le_add_right _ _, rfl, fun h => h⟩
  · by_cases hf : 4 ≤ count
    · rw [addM_not d first gen count b (.inr hf)]
      exact ⟨Nat.le_add_right _ _, rfl, fun h => h⟩
    · obtain ⟨m, hm, h1, h2, -, -, -⟩ := putsL_form d (first + 4 * count + 1) b ((b.length + 127) / 128)
      have hp : (putsL d (first + 4 * count + 1) b (List.range ((b.length + 127) / 128))).1.pend.length ≤ d.pend.length + 3 := by
        rw [h2, List.length_append]
        have : (pieceW (first + 4 * count + 1) b m).length = m := by simp [pieceW]
        omega
      unfold addM
      rw [if_neg hbig, if_neg hf]
      simp only
      generalize putsL d (first + 4 * count + 1) b (List.range ((b.length + 127) / 128)) = st at *
      have hs : st.1.stable.length = d.stable.length := by rw [h1]
      split
      · exact ⟨by show st.1.pend.length ≤ _; omega, hs, fun h => h⟩
      · have f1 := flush_pend st.1
        have f2 := flush_len st.1
        split
        · exact ⟨by show st.1.flush.1.pend.length ≤ _; omega, f2.trans hs, fun h => h⟩
        · split
          · exact ⟨by show st.1.flush.1.power.1.pend.length ≤ _; rw [power_pend]; omega, by show st.1.flush.1.power.1.stable.length = _; rw [power_stable]; exact f2.trans hs, fun h => h⟩
          · have g1 : (st.1.flush.1.power.1.push (first + 4 * count) (sealL (gen * 256 + (count + 1)) (hdBody b))).pend.length = st.1.flush.1.pend.length + 1 := by
              show (st.1.flush.1.power.1.pend ++ _).length = _
              rw [power_pend]
              simp
            have g2 : (st.1.flush.1.power.1.push (first + 4 * count) (sealL (gen * 256 + (count + 1)) (hdBody b))).stable.length = d.stable.length := by
              show st.1.flush.1.power.1.stable.length = _
              rw [power_stable]
              exact f2.trans hs
            have f3 := flush_pend (st.1.flush.1.power.1.push (first + 4 * count) (sealL (gen * 256 + (count + 1)) (hdBody b)))
            have f4 := flush_len (st.1.flush.1.power.1.push (first + 4 * count) (sealL (gen * 256 + (count + 1)) (hdBody b)))
            split
            · exact ⟨Nat.le_trans f3 (by rw [g1]; omega), f4.trans g2, fun h => h⟩
            · exact ⟨Nat.le_trans f3 (by rw [g1]; omega), f4.trans g2, fun h => by show count + 1 ≤ 4; omega⟩
set_option maxRecDepth 20000 in
set_option maxHeartbeats 1600000 in
theorem ref06_Right {w : World} (A : Option Addr) (c : Nat) (B : Option Addr) (kk : Nat) (d : Dk) (hl : d.stable.length ≤ 1024) (first : Int) (gen : Nat) (hf : -9223372036854775808 ≤ first ∧ first ≤ 9223372036854775807) (hg : gen < 18446744073709551616) :
    Calls Try.prog 11 #[.agg (rdC A c B kk d).toArray, .int .i64 first, .int .u64 gen] w fun e w' => ∃ b, e = .returned (.bool b) ∧ Below w.heap.size w w' ∧ (b = true → 0 ≤ first ∧ first + 16 ≤ d.stable.length ∧ 1 ≤ gen ∧ gen < 281474976710656) := by
  obtain ⟨c0, -, -, -⟩ := rd_cells (RowAt.new w 30 (rdC A c B kk d))
  have hb := below_alloc w (.cells (rdC A c B kk d).toArray 30)
  have HB := Lib.hid hb; have HL := Lib.hid hl; have HF := Lib.hid hf; have HG := Lib.hid hg
  clear hb hl hf hg
  by_cases h0 : 0 ≤ first
  · have q0 : decide ((0 : Int) ≤ first) = true := decide_eq_true h0
    by_cases h1 : first < 2000
    · have hw : wrap64 (first + 16) = first + 16 := by simp [wrap64]; omega
      have q2 : decide (first < 2000) = true := decide_eq_true h1
      by_cases h2 : first + 16 ≤ (d.stable.length : Int)
      · have q1 : decide (first + 16 ≤ (d.stable.length : Int)) = true := decide_eq_true h2
        by_cases h3 : 1 ≤ gen
        · have q3 : decide ((1 : Int) ≤ (gen : Int)) = true := decide_eq_true (by omega)
          by_cases h4 : gen < 281474976710656
          · have q4 : decide ((gen : Int) < 281474976710656) = true := decide_eq_true (by omega)
            have HR := Lib.hid (And.intro h0 (And.intro h2 (And.intro h3 h4)))
            clear h0 h1 h2 h3 h4
            go_enter Try.func11, Try.ntmps11
            go_wp2_with fail
            go_ret
            exact ⟨_, rfl, HB.out, fun _ => HR.out⟩
          · have q4 : decide ((gen : Int) < 281474976710656) = false := decide_eq_false (by omega)
            clear h0 h1 h2 h3 h4
            go_enter Try.func11, Try.ntmps11
            go_wp2_with fail
            go_ret
            exact ⟨false, rfl, HB.out, fun h => by cases h⟩
        · have q3 : decide ((1 : Int) ≤ (gen : Int)) = false := decide_eq_false (by omega)
          clear h0 h1 h2 h3
          go_enter Try.func11, Try.ntmps11
          go_wp2_with fail
          go_ret
          exact ⟨false, rfl, HB.out, fun h => by cases h⟩
      · have q1 : decide (first + 16 ≤ (d.stable.length : Int)) = false := decide_eq_false h2
        clear h0 h1 h2
        go_enter Try.func11, Try.ntmps11
        go_wp2_with fail
        go_ret
        exact ⟨false, rfl, HB.out, fun h => by cases h⟩
    · have q2 : decide (first < 2000) = false := decide_eq_false h1
      obtain ⟨z, hz⟩ : ∃ z, wrap64 (first + 16) = z := ⟨_, rfl⟩
      by_cases h2 : z ≤ (d.stable.length : Int)
      · have q1 : decide (z ≤ (d.stable.length : Int)) = true := decide_eq_true h2
        clear h0 h1 h2
        go_enter Try.func11, Try.ntmps11
        go_wp2_with fail
        go_ret
        exact ⟨false, rfl, HB.out, fun h => by cases h⟩
      · have q1 : decide (z ≤ (d.stable.length : Int)) = false := decide_eq_false h2
        clear h0 h1 h2
        go_enter Try.func11, Try.ntmps11
        go_wp2_with fail
        go_ret
        exact ⟨false, rfl, HB.out, fun h => by cases h⟩
  · have q0 : decide ((0 : Int) ≤ first) = false := decide_eq_false h0
    clear h0
    go_enter Try.func11, Try.ntmps11
    go_wp2_with fail
    go_ret
    exact ⟨false, rfl, HB.out, fun h => by cases h⟩
end Go.Proofs.Ytgakajofggmbjaa

/- JournalFull: the walk over its rounds. -/
namespace Go.Proofs.Ytgakajofggmbjaa
open Go.RowKit

theorem newDk_len (n : Nat) (h : n ≤ 1024) : (newDk (n : Int)).stable.length = n := by
  show (List.replicate _ _).length = _
  rw [List.length_replicate]
  omega
theorem js_start {w1 w2 : World} {p s first gen n : Nat} (hd : DiskAt w2 w1.heap.size p s (.slice none 0 0) (newDk (n : Int))) (hb : Below w1.heap.size w1 w2) (hn : n ≤ 1024) (hf : first + 16 ≤ n) :
    JS w1 (w2.alloc (.cells (jC p first gen 0).toArray 68)) p s w2.heap.size (.slice none 0 0) (newDk (n : Int)) first gen [] :=
  ⟨hd.below (below_alloc _ _), RowAt.new w2 _ _, hb.size, ⟨rfl, rfl⟩, rfl, by rw [newDk_len n hn]; exact hf, (heads_zero first gen _ (newDk_zero n)).has, heads_zero first (gen + 1) _ (newDk_zero n), (fun g _ => by rw [newDk_zero n]; exact old_zero _), balloc hb _⟩
set_option maxRecDepth 20000 in
set_option maxHeartbeats 6400000 in
theorem journalFull_main (A : Option Addr) (n c : Nat) (xss : List (List UInt8)) (w : World) (hx : RRB w A n c xss) (hl : ∀ k, k < n → (atL xss k).length ≤ 140737488351232) (hn : n ≤ 20) :
    Calls Try.prog 5 #[.slice A n c] w fun e w' => e = .returned (.bool true) ∧ Below w.heap.size w w' := by
  have HX := Lib.hid hx; have HLX := Lib.hid hl
  have hd20 : decide ((20 : Int) < (n : Int)) = false := decide_eq_false (by omega)
  clear hx hl
  go_enter Try.func5, Try.ntmps5
  go_wp2_with fail
  refine (journalAlive_true _).mono ?_
  rintro e w1 ⟨rfl, hb1⟩
  have HB1 := Lib.hid hb1
  have HX1 := Lib.hid (HX.out.below hb1)
  clear hb1 HX
  go_wp2_with fail
  refine (disk_New ((16 : Nat) : Int) w1).mono ?_
  rintro e w2 ⟨p, s, rfl, hd2, hb2⟩
  go_wp2_with fail
  refine (journal_Start p ((0 : Nat) : Int) 1 w2).mono ?_
  rintro e w3 ⟨rfl, rfl⟩
  have HJS := Lib.hid (js_start (first := 0) (gen := 1) hd2 hb2 (by omega) (by omega))
  clear hd2 hb2
  generalize newDk ((16 : Nat) : Int) = d0 at *
  generalize w2.alloc (.cells (jC p ((0 : Nat) : Int) 1 0).toArray 68) = w3 at *
  generalize w2.heap.size = j at *
  go_wp2_with fail
  have HW3 : Hid (Want w1 (w3.alloc (.cells #[] 37)) (.slice (some ⟨w3.heap.size, 0, none⟩) 0 0) []) := Lib.hid ⟨own_mono (own_empty w3 w3.heap.size 37 1 (Nat.le_refl _)) HJS.out.bl.size, fun f hf => by cases hf⟩
  have HJS3 := Lib.hid (HJS.out.below (below_alloc w3 (.cells #[] 37)))
  clear HJS
  go_loopw [5, 20] (fun u i wr => ∃ (k : Nat) (v : Value) (d : Dk) (l : List (List UInt8)) (lk : List FieldD), k ≤ n ∧ i = .int .i64 k ∧ Hid (JS w1 wr p s j v d 0 1 l) ∧ Hid (Want w1 wr u lk) ∧ Hid (l = lk.map (·.bytes))) (fun _ i _ => n - (intOf i).toNat)
  case atStart => exact ⟨0, _, _, [], [], by omega, rfl, HJS3, HW3, Lib.hid rfl⟩
  case round =>
    clear HJS3 HW3
    obtain ⟨k, v, d, l, lk, hk, rfl, HJ, HW, HE⟩ := hrel
    obtain ⟨Au, cu, rfl, hru⟩ := HW.out.read HJ.out.bl
    have HLE : Hid (l.length = lk.length) := Lib.hid (by rw [HE.out]; simp)
    clear hru
    by_cases hlt : k < n
    · have hk0 : (0 : Int) ≤ (k : Int) := Int.natCast_nonneg _
      have hk1 : (k : Int) < (n : Int) := by omega
      obtain ⟨bx, ox, rfl, hxc⟩ := HX1.out.2.2.2 (by omega)
      obtain ⟨A1, n1, c1, hc1, hr1⟩ := hxc k hlt
      have hc1' : wr.cell? ⟨bx, ox + k, none⟩ = some (.slice A1 n1 c1) := (HJ.out.bl.cell (p := ⟨bx, ox + k, none⟩) (World.block_lt_of_cell? w1 _ hc1)).trans hc1
      have HLN : Hid (n1 ≤ 140737488351232) := Lib.hid (by have := HLX.out k hlt; rw [hr1.1] at this; exact this)
      have HR1 := Lib.hid hr1
      have HRW := Lib.hid (hr1.below HJ.out.bl)
      have HLB : Hid ((atL xss k).length = n1) := Lib.hid hr1.1
      clear hxc hc1 hr1
      generalize atL xss k = b at *
      go_wp2_with (at_builtin; refine wpList_copy_bytes (W := wr) rfl _ _ 37 5 rfl Try.underlying37 Try.infoU8' A1 n1 c1 b wr.heap.size rfl rfl rfl HRW.out (by have := HLN.out; omega) ?_; intro A2 c2 w4 hown4 hr4 hb4)
      have hc := js_add (HJ.out.below hb4) (by omega) A2 n1 c2 b hr4 (recAt_own HJ.out.disk hown4) HLN.out
      have HJ4 := Lib.hid (HJ.out.below hb4); have HW4 := Lib.hid (HW.out.below hb4)
      clear hown4 hr4 hb4 HRW
      by_cases hbig : 384 < n1
      · have e1 : addL l b = (l, 63) := by unfold addL; rw [if_pos (by rw [HLB.out]; exact hbig)]
        have hd1 : decide ((384 : Int) < (n1 : Int)) = true := decide_eq_true (by omega)
        rw [e1] at hc
        refine hc.mono ?_
        clear hc e1 hbig
        rintro e w5 ⟨v5, d5, rfl, hj5, hk5⟩
        have HW5 := Lib.hid (HW4.out.kept HJ4.out.disk HJ4.out.jr hk5)
        have HJ5 := Lib.hid hj5
        have HWR : Hid (RRB w5 Au lk.length cu l) := Lib.hid (by rw [HE.out]; exact (HW5.out.rrb HJ5.out.bl).2)
        have hq : (((l.length : Nat) : Int) != ((lk.length : Nat) : Int)) = false := by rw [HLE.out]; simp
        have HE5 := HE
        clear hj5 hk5 HW4 HJ4
        go_wp2_with fail
        refine (journal_Len w5 HJ5.out.jr).mono ?_
        rintro e w6 ⟨rfl, rfl⟩
        go_wp2_with fail
        have HSC := journal_Scan HJ5.out.disk (by rw [HJ5.out.pend]; simp) 0 1 HJ5.out.fit (by omega)
        rw [HJ5.out.has.scan] at HSC
        refine HSC.mono ?_
        clear HSC
        rintro e w7 ⟨A7, c7, rfl, hr7, hb7⟩
        have HR7 := Lib.hid hr7; have HB7 := Lib.hid hb7
        clear hr7 hb7
        go_wp2_with fail
        refine (ref06_Same A7 Au l.length c7 lk.length cu l l w7 HR7.out (HWR.out.below HB7.out)).mono ?_
        rw [decide_eq_true rfl]
        rintro e w8 ⟨rfl, hb8⟩
        have HJ8 := Lib.hid ((HJ5.out.below HB7.out).below hb8); have HW8 := Lib.hid ((HW5.out.below HB7.out).below hb8)
        clear hb8
        go_wp2_with fail
        go_roundw
        case rel => exact ⟨k + 1, v5, d5, l, lk, by omega, by go_num, HJ8, HW8, HE5⟩
        case measure => simp [intOf]; omega
      · have hd1 : decide ((384 : Int) < (n1 : Int)) = false := decide_eq_false (by omega)
        by_cases hfull : l.length = 4
        · have e1 : addL l b = (l, 62) := by unfold addL; rw [if_neg (by rw [HLB.out]; exact hbig), if_pos (by omega)]
          have hd2 : (((lk.length : Nat) : Int) == 4) = true := by rw [← HLE.out, hfull]; rfl
          rw [e1] at hc
          refine hc.mono ?_
          clear hc e1 hbig hfull
          rintro e w5 ⟨v5, d5, rfl, hj5, hk5⟩
          have HW5 := Lib.hid (HW4.out.kept HJ4.out.disk HJ4.out.jr hk5)
          have HJ5 := Lib.hid hj5
          have HWR : Hid (RRB w5 Au lk.length cu l) := Lib.hid (by rw [HE.out]; exact (HW5.out.rrb HJ5.out.bl).2)
          have hq : (((l.length : Nat) : Int) != ((lk.length : Nat) : Int)) = false := by rw [HLE.out]; simp
          have HE5 := HE
          clear hj5 hk5 HW4 HJ4
          go_wp2_with fail
          refine (journal_Len w5 HJ5.out.jr).mono ?_
          rintro e w6 ⟨rfl, rfl⟩
          go_wp2_with fail
          have HSC := journal_Scan HJ5.out.disk (by rw [HJ5.out.pend]; simp) 0 1 HJ5.out.fit (by omega)
          rw [HJ5.out.has.scan] at HSC
          refine HSC.mono ?_
          clear HSC
          rintro e w7 ⟨A7, c7, rfl, hr7, hb7⟩
          have HR7 := Lib.hid hr7; have HB7 := Lib.hid hb7
          clear hr7 hb7
          go_wp2_with fail
          refine (ref06_Same A7 Au l.length c7 lk.length cu l l w7 HR7.out (HWR.out.below HB7.out)).mono ?_
          rw [decide_eq_true rfl]
          rintro e w8 ⟨rfl, hb8⟩
          have HJ8 := Lib.hid ((HJ5.out.below HB7.out).below hb8); have HW8 := Lib.hid ((HW5.out.below HB7.out).below hb8)
          clear hb8
          go_wp2_with fail
          go_roundw
          case rel => exact ⟨k + 1, v5, d5, l, lk, by omega, by go_num, HJ8, HW8, HE5⟩
          case measure => simp [intOf]; omega
        · have hl4 : l.length ≤ 4 := HJ4.out.has.len
          have e1 : addL l b = (l ++ [b], 0) := by unfold addL; rw [if_neg (by rw [HLB.out]; exact hbig), if_neg (by omega)]
          have hd2 : (((lk.length : Nat) : Int) == 4) = false := by rw [beq_eq_false_iff_ne]; have := HLE.out; omega
          have HL4 : Hid (lk.length ≤ 3) := Lib.hid (by have := HLE.out; omega)
          rw [e1] at hc
          refine hc.mono ?_
          clear hc e1 hbig hfull hl4
          rintro e w50 ⟨v5, d5, rfl, hj50, hk50⟩
          have HW50 := Lib.hid (HW4.out.kept HJ4.out.disk HJ4.out.jr hk50)
          have HJ50 := Lib.hid hj50
          clear hj50 hk50 HW4 HJ4
          have hb51 := below_alloc w50 (.cells #[.slice A1 n1 c1] 37)
          have HJ51 := Lib.hid (HJ50.out.below hb51); have HW51 := Lib.hid (HW50.out.below hb51)
          have HR51 := Lib.hid (rd_one w50 (.slice A1 n1 c1) 37 w50.heap.size rfl)
          clear hb51
          go_wp2_with (at_builtin; go_must (refine wpList_append_any (w0 := w1) w1.heap.size rfl _ _ 51 37 (.slice none 0 0) 1 24 rfl Try.underlying51 Try.infoBs rfl (by decide) (by decide) (.slice Au lk.length cu) _ _ (some ⟨w50.heap.size, 0, none⟩) 1 1 [.slice A1 n1 c1] rfl rfl HW51.out.row HR51.out (by simp [Value.oneCell']) (by have := HL4.out; omega) HJ51.out.bl HJ51.out.bl.size ?_); intro u5 w5 hown5 hb5 hg5 _)
          have HJ5 := Lib.hid (HJ51.out.grown HW51.out hg5)
          have HW5 := Lib.hid (HW51.out.push ⟨0, A1, n1, c1, b⟩ HR1.out hown5)
          obtain ⟨A5, c5, rfl, hr5⟩ := HW5.out.read HJ5.out.bl
          have hln5 : (lk ++ [(⟨0, A1, n1, c1, b⟩ : FieldD)]).length = lk.length + 1 := by simp
          have HE5 : Hid (l ++ [b] = (lk ++ [(⟨0, A1, n1, c1, b⟩ : FieldD)]).map (·.bytes)) := Lib.hid (by rw [HE.out]; simp)
          rw [← HE5.out] at hr5
          have HWR := Lib.hid hr5
          have hq : ((((l ++ [b]).length : Nat) : Int) != (((lk ++ [(⟨0, A1, n1, c1, b⟩ : FieldD)]).length : Nat) : Int)) = false := by rw [hln5, List.length_append, HLE.out]; simp
          clear hown5 hb5 hg5 hr5 hln5 HJ50 HW50 HJ51 HW51 HR51
          generalize hl5 : l ++ [b] = l5 at *
          generalize hlk5 : lk ++ [(⟨0, A1, n1, c1, b⟩ : FieldD)] = lk5 at *
          clear hl5 hlk5
          go_wp2_with fail
          refine (journal_Len w5 HJ5.out.jr).mono ?_
          rintro e w6 ⟨rfl, rfl⟩
          go_wp2_with fail
          have HSC := journal_Scan HJ5.out.disk (by rw [HJ5.out.pend]; simp) 0 1 HJ5.out.fit (by omega)
          rw [HJ5.out.has.scan] at HSC
          refine HSC.mono ?_
          clear HSC
          rintro e w7 ⟨A7, c7, rfl, hr7, hb7⟩
          have HR7 := Lib.hid hr7; have HB7 := Lib.hid hb7
          clear hr7 hb7
          go_wp2_with fail
          refine (ref06_Same A7 A5 l5.length c7 lk5.length c5 l5 l5 w7 HR7.out (HWR.out.below HB7.out)).mono ?_
          rw [decide_eq_true rfl]
          rintro e w8 ⟨rfl, hb8⟩
          have HJ8 := Lib.hid ((HJ5.out.below HB7.out).below hb8); have HW8 := Lib.hid ((HW5.out.below HB7.out).below hb8)
          clear hb8
          go_wp2_with fail
          go_roundw
          case rel => exact ⟨k + 1, v5, d5, l5, lk5, by omega, by go_num, HJ8, HW8, HE5⟩
          case measure => simp [intOf]; omega
    · obtain rfl : k = n := by omega
      go_wp2_with fail
      go_ret
      exact ⟨rfl, bthen HB1.out HJ.out.bl⟩
end Go.Proofs.Ytgakajofggmbjaa

/- JournalApart: the walk. -/
namespace Go.Proofs.Ytgakajofggmbjaa
open Go.RowKit

set_option maxRecDepth 20000 in
set_option maxHeartbeats 6400000 in
theorem journalApart_main (A : Option Addr) (n c : Nat) (xss : List (List UInt8)) (B : Option Addr) (nb cb : Nat) (y : List UInt8) (w : World) (hx : RRB w A n c xss) (hl : ∀ k, k < n → (atL xss k).length ≤ 140737488351232) (hy : RB w B nb cb y) (hn : n ≤ 6) (hnb : nb ≤ 384) :
    Calls Try.prog 6 #[.slice A n c, .slice B nb cb] w fun e w' => e = .returned (.bool true) ∧ Below w.heap.size w w' := by
  have HX := Lib.hid hx; have HLX := Lib.hid hl; have HY := Lib.hid hy; have HNB := Lib.hid hnb
  have hd6 : decide ((6 : Int) < (n : Int)) = false := decide_eq_false (by omega)
  have hd384 : decide ((384 : Int) < (nb : Int)) = false := decide_eq_false (by omega)
  clear hx hl hy hnb
  go_enter Try.func6, Try.ntmps6
  go_wp2_with fail
  refine (journalAlive_true _).mono ?_
  rintro e w1 ⟨rfl, hb1⟩
  have HB1 := Lib.hid hb1
  have HX1 := Lib.hid (HX.out.below hb1)
  have HY1 := Lib.hid (HY.out.below hb1)
  clear hb1 HX HY
  go_wp2_with fail
  refine (disk_New ((16 : Nat) : Int) w1).mono ?_
  rintro e w2 ⟨p, s, rfl, hd2, hb2⟩
  go_wp2_with fail
  refine (journal_Start p ((0 : Nat) : Int) 8 w2).mono ?_
  rintro e w3 ⟨rfl, rfl⟩
  have HJS := Lib.hid (js_start (first := 0) (gen := 8) hd2 hb2 (by omega) (by omega))
  clear hd2 hb2
  generalize newDk ((16 : Nat) : Int) = d0 at *
  generalize w2.alloc (.cells (jC p ((0 : Nat) : Int) 8 0).toArray 68) = w3 at *
  generalize w2.heap.size = j at *
  go_wp2_with fail
  go_loopw [25] (fun i wr => ∃ (k : Nat) (v : Value) (d : Dk) (l : List (List UInt8)), k ≤ n ∧ i = .int .i64 k ∧ Hid (JS w1 wr p s j v d 0 8 l)) (fun i _ => n - (intOf i).toNat)
  case atStart => exact ⟨0, _, _, [], by omega, rfl, HJS⟩
  case round =>
    clear HJS
    obtain ⟨k, v, d, l, hk, rfl, HJ⟩ := hrel
    by_cases hlt : k < n
    · have hk0 : (0 : Int) ≤ (k : Int) := Int.natCast_nonneg _
      have hk1 : (k : Int) < (n : Int) := by omega
      obtain ⟨bx, ox, rfl, hxc⟩ := HX1.out.2.2.2 (by omega)
      obtain ⟨A1, n1, c1, hc1, hr1⟩ := hxc k hlt
      have hc1' : wr.cell? ⟨bx, ox + k, none⟩ = some (.slice A1 n1 c1) := (HJ.out.bl.cell (p := ⟨bx, ox + k, none⟩) (World.block_lt_of_cell? w1 _ hc1)).trans hc1
      have HLN : Hid (n1 ≤ 140737488351232) := Lib.hid (by have := HLX.out k hlt; rw [hr1.1] at this; exact this)
      have HRW := Lib.hid (hr1.below HJ.out.bl)
      clear hxc hc1 hr1
      generalize atL xss k = b at *
      go_wp2_with (at_builtin; refine wpList_copy_bytes (W := wr) rfl _ _ 37 5 rfl Try.underlying37 Try.infoU8' A1 n1 c1 b wr.heap.size rfl rfl rfl HRW.out (by have := HLN.out; omega) ?_; intro A2 c2 w4 hown4 hr4 hb4)
      refine (js_add (HJ.out.below hb4) (by omega) A2 n1 c2 b hr4 (recAt_own HJ.out.disk hown4) HLN.out).mono ?_
      rintro e w5 ⟨v5, d5, rfl, hj5, hk5⟩
      have HJ5 := Lib.hid hj5
      clear hown4 hr4 hb4 hj5 hk5 HRW
      generalize (addL l b).2 = err at *
      generalize (addL l b).1 = l5 at *
      go_wp2_with fail
      go_roundw
      case rel => exact ⟨k + 1, v5, d5, l5, by omega, by go_num, HJ5⟩
      case measure => simp [intOf]; omega
    · obtain rfl : k = n := by omega
      have HS9 := Lib.hid (HJ.out.heads.has.scan)
      have HS7 : Hid (scanM d.read 0 7 = []) := Lib.hid (scan_none (HJ.out.low 7 (by omega)))
      have HSC := Lib.hid (journal_Scan HJ.out.disk (by rw [HJ.out.pend]; simp) 0 9 HJ.out.fit (by omega))
      rw [HS9.out] at HSC
      go_wp2_with fail
      refine HSC.out.mono ?_
      clear HSC
      rintro e w5 ⟨A5, c5, rfl, -, hb5⟩
      have HJ5 := Lib.hid (HJ.out.below hb5)
      have HSC := Lib.hid (journal_Scan HJ5.out.disk (by rw [HJ5.out.pend]; simp) 0 7 HJ5.out.fit (by omega))
      rw [HS7.out] at HSC
      clear hb5
      go_wp2_with fail
      refine HSC.out.mono ?_
      clear HSC
      rintro e w6 ⟨A6, c6, rfl, -, hb6⟩
      have HJ6 := Lib.hid (HJ5.out.below hb6)
      clear hb6
      go_wp2_with fail
      refine (journal_Start p ((0 : Nat) : Int) 9 w6).mono ?_
      rintro e w7 ⟨rfl, rfl⟩
      have HJ7 := Lib.hid (HJ6.out.below (below_alloc w6 (.cells (jC p ((0 : Nat) : Int) 9 0).toArray 68)))
      have HJA7 : Hid (JAt (w6.alloc (.cells (jC p ((0 : Nat) : Int) 9 0).toArray 68)) w6.heap.size p ((0 : Nat) : Int) 9 0) := Lib.hid (RowAt.new w6 _ _)
      have HJB : Hid (w1.heap.size ≤ w6.heap.size) := Lib.hid HJ6.out.bl.size
      generalize w6.alloc (.cells (jC p ((0 : Nat) : Int) 9 0).toArray 68) = w7 at *
      generalize w6.heap.size = j2 at *
      have HRY := Lib.hid (HY1.out.below HJ7.out.bl)
      go_wp2_with (at_builtin; refine wpList_copy_bytes (W := w7) rfl _ _ 37 5 rfl Try.underlying37 Try.infoU8' B nb cb y w7.heap.size rfl rfl rfl HRY.out (by have := HNB.out; omega) ?_; intro A8 c8 w8 hown8 hr8 hb8)
      have HJ8 := Lib.hid (HJ7.out.below hb8)
      refine (add_live (gen := 9) (count := 0) (first := 0) HJ8.out.disk (RowAt.below HJA7.out hb8) HJ8.out.live HJ8.out.pend A8 nb c8 y hr8 (recAt_own HJ7.out.disk hown8) (by omega) (by omega) HJ8.out.fit HNB.out HJ8.out.bl.size).mono ?_
      rintro e w9 ⟨v9, d9, rfl, hd9, -, hl9, hp9, hn9, hr9, hk9, -⟩
      have hb9 : Below w1.heap.size w1 w9 := HJ8.out.bl.trans (hk9.below HJ8.out.bl.size (fun k hk => by
        rcases hk with hk | rfl
        · exact HJ8.out.disk.foot_base k hk
        · exact HJB.out))
      have HB9 := Lib.hid hb9; have HD9 := Lib.hid hd9; have HP9 := Lib.hid hp9
      have e9 : d9.read = addRead d.read 0 9 0 y := funext hr9
      have HLY : Hid (y.length ≤ 384) := Lib.hid (by rw [hr8.1]; exact HNB.out)
      have hsc9 : scanM d9.read 0 9 = [y] := by
        rw [e9]
        exact (Has.add (l := []) HJ.out.heads.has (by simp) y HLY.out (by omega) (fun k hk => read_len HJ.out.disk _ (by have := HJ.out.fit; simp; omega))).scan
      have hsc8 : scanM d9.read 0 8 = [] := by
        refine scan_none ?_
        have : d9.read 0 = sealL (9 * 256 + (0 + 1)) (hdBody y) := by rw [e9]; unfold addRead; rw [if_pos (by omega)]
        rw [this]
        exact old_seal (by omega) (by omega) (by omega)
      have HS9' := Lib.hid hsc9; have HS8' := Lib.hid hsc8
      have HF9 : Hid (0 + 16 ≤ d9.stable.length) := Lib.hid (by rw [hn9]; exact HJ8.out.fit)
      clear hown8 hr8 hb8 hd9 hl9 hp9 hn9 hr9 hk9 hb9 e9 hsc9 hsc8
      have HSC := Lib.hid (journal_Scan HD9.out (by rw [HP9.out]; simp) 0 9 HF9.out (by omega))
      rw [HS9'.out] at HSC
      go_wp2_with fail
      refine HSC.out.mono ?_
      clear HSC
      rintro e w10 ⟨A10, c10, rfl, hr10, hb10⟩
      have HR10 := Lib.hid hr10; have HB10 := Lib.hid hb10
      clear hr10 hb10
      go_wp2_with fail
      have hb11 := below_alloc w10 (.cells #[.slice B nb cb] 37)
      refine (ref06_Same A10 (some ⟨w10.heap.size, 0, none⟩) 1 c10 1 1 [y] [y] _ (HR10.out.below hb11) (rrb_one ((HY1.out.below HB9.out).below HB10.out) _)).mono ?_
      rw [decide_eq_true rfl]
      rintro e w11 ⟨rfl, hb12⟩
      have HB12 := Lib.hid (bthen (bthen HB10.out hb11) hb12)
      have HSC := Lib.hid (journal_Scan (HD9.out.below HB12.out) (by rw [HP9.out]; simp) 0 8 HF9.out (by omega))
      rw [HS8'.out] at HSC
      clear hb11 hb12
      go_wp2_with fail
      refine HSC.out.mono ?_
      clear HSC
      rintro e w13 ⟨A13, c13, rfl, -, hb13⟩
      go_wp2_with fail
      go_ret
      exact ⟨rfl, bthen HB1.out (HB9.out.trans ((bthen HB12.out hb13).mono HB9.out.size))⟩
end Go.Proofs.Ytgakajofggmbjaa

/- A journal on a disk that may lose its power: what rounds of Add, and a crash, keep. -/
namespace Go.Proofs.Ytgakajofggmbjaa
open Go.RowKit

structure KS (w1 wr : World) (p s j : Nat) (v : Value) (d : Dk) (gen : Nat) (l : List (List UInt8)) : Prop where
  disk : DiskAt wr w1.heap.size p s v d
  jr : JAt wr j p ((1 : Nat) : Int) gen l.length
  jb : w1.heap.size ≤ j
  pend : d.pend = []
  fit : d.stable.length = 18
  has : Has d.read 1 gen l
  heads : Heads d.read 1 (gen + 1)
  bl : Below w1.heap.size w1 wr
/-- What a crash leaves: the records, and perhaps that which was under way. -/
def AfterCrash (d : Dk) (gen : Nat) (l : List (List UInt8)) (ok : Bool) (b : List UInt8) : Prop :=
  ∀ (keep : List Bool) (t cut : Int), (t = 0 → cut = 0) → Heads (d.crashed keep t cut).read 1 (gen + 1) ∧ (Has (d.crashed keep t cut).read 1 gen l ∨ (ok = true ∧ Has (d.crashed keep t cut).read 1 gen (l ++ [b])))
/-- The round's end: the power is gone, or not. -/
structure KE (w1 wr : World) (p s : Nat) (v : Value) (d : Dk) (gen : Nat) (l : List (List UInt8)) (ok : Bool) (b : List UInt8) : Prop where
  disk : DiskAt wr w1.heap.size p s v d
  pl : d.pend.length ≤ 4
  fit : d.stable.length = 18
  cr : AfterCrash d gen l ok b
  bl : Below w1.heap.size w1 wr
theorem KS.below {w1 wr w' : World} {p s j : Nat} {v : Value} {d : Dk} {gen : Nat} {l : List (List UInt8)} (h : KS w1 wr p s j v d gen l) (hb : Below wr.heap.size wr w') : KS w1 w' p s j v d gen l :=
  ⟨h.disk.below hb, RowAt.below h.jr hb, h.jb, h.pend, h.fit, h.has, h.heads, bthen h.bl hb⟩
theorem KE.below {w1 wr w' : World} {p s : Nat} {v : Value} {d : Dk} {gen : Nat} {l : List (List UInt8)} {ok : Bool} {b : List UInt8} (h : KE w1 wr p s v d gen l ok b) (hb : Below wr.heap.size wr w') : KE w1 w' p s v d gen l ok b :=
  ⟨h.disk.below hb, h.pl, h.fit, h.cr, bthen h.bl hb⟩
theorem KS.ends {w1 wr : World} {p s j : Nat} {v : Value} {d : Dk} {gen : Nat} {l : List (List UInt8)} (h : KS w1 wr p s j v d gen l) (b : List UInt8) : KE w1 wr p s v d gen l false b := by
  refine ⟨h.disk, by rw [h.pend]; simp, h.fit, fun keep t cut _ => ?_, h.bl⟩
  have e : (d.crashed keep t cut).read = d.read := funext fun k => crashed_clean h.pend keep t cut k
  rw [e]
  exact ⟨h.heads, .inl h.has⟩
theorem ks_add {w1 wr : World} {p s j : Nat} {v : Value} {d : Dk} {gen : Nat} {l : List (List UInt8)} (h : KS w1 wr p s j v d gen l) (hgen : gen < 281474976710656) (A : Option Addr) (n c : Nat) (b : List UInt8) (hr : RB wr A n c b) (hA : RecAt wr p s v A) (hn : n ≤ 140737488351232) :
    Calls Try.prog 13 #[.pointer (some ⟨j, 0, none⟩), .slice A n c] wr fun e w' => ∃ v' d', Kp (fun k => foot p s v k ∨ k = j) wr w' ∧ ((e = .returned (.int .i64 (addL l b).2) ∧ KS w1 w' p s j v' d' gen (addL l b).1) ∨ (e = .returned (.int .i64 42) ∧ KE w1 w' p s v' d' gen l true b)) := by
  refine (journal_Add h.disk h.jr A n c b hr hA hgen h.has.len (by rw [h.fit]; omega) (by rw [h.pend]; simp) hn h.bl.size).mono ?_
  rintro e w' ⟨v', he, h1, h2, h3, h4⟩
  have hbl : Below w1.heap.size w1 w' := h.bl.trans (h3.below h.bl.size (fun k hk => by
    rcases hk with hk | rfl
    · exact h.disk.foot_base k hk
    · exact h.jb))
  by_cases hbig : 384 < b.length
  · have e1 : addL l b = (l, 63) := by unfold addL; rw [if_pos hbig]
    rw [addM_not d 1 gen l.length b (.inl hbig), if_pos hbig] at he h1 h2
    rw [e1]
    exact ⟨v', d, h3, .inl ⟨he, h1, h2, h.jb, h.pend, h.fit, h.has, h.heads, hbl⟩⟩
  · by_cases hf : 4 ≤ l.length
    · have e1 : addL l b = (l, 62) := by unfold addL; rw [if_neg hbig, if_pos hf]
      rw [addM_not d 1 gen l.length b (.inr hf), if_neg hbig] at he h1 h2
      rw [e1]
      exact ⟨v', d, h3, .inl ⟨he, h1, h2, h.jb, h.pend, h.fit, h.has, h.heads, hbl⟩⟩
    · have e1 : addL l b = (l ++ [b], 0) := by unfold addL; rw [if_neg hbig, if_neg hf]
      have hfit := h.fit
      have hadd : Has (addRead d.read 1 gen l.length b) 1 gen (l ++ [b]) := h.has.add (by omega) b (by omega) (by omega) (fun k hk => read_len h.disk _ (by omega))
      have hhd : Heads (addRead d.read 1 gen l.length b) 1 (gen + 1) := h.heads.add (by omega) b (by omega) (by omega)
      rcases addM_forms d h.pend 1 gen l.length b (by omega) (by omega) (by omega) with ⟨d', hm, m1, m2, m3, m4⟩ | ⟨d', hm, m1, m2, m3, m4⟩
      · rw [hm] at he h1 h2
        rw [e1]
        have er : d'.read = addRead d.read 1 gen l.length b := funext m4
        have hln : (l ++ [b]).length = l.length + 1 := by simp
        exact ⟨v', d', h3, .inl ⟨he, h1, by rw [hln]; exact h2, h.jb, m1, by rw [m2]; exact hfit, by rw [er]; exact hadd, by rw [er]; exact hhd, hbl⟩⟩
      · rw [hm] at he h1 h2
        refine ⟨v', d', h3, .inr ⟨he, h1, m3, by rw [m1]; exact hfit, fun keep t cut ht => ?_, hbl⟩⟩
        rcases m4 keep t cut ht with hc | hc
        · exact ⟨h.heads.congr (count := l.length) hc, .inl (h.has.congr hc)⟩
        · have er : (d'.crashed keep t cut).read = addRead d.read 1 gen l.length b := funext hc
          rw [er]
          exact ⟨hhd, .inr ⟨rfl, hadd⟩⟩
theorem KS.grown {w1 wr w' : World} {p s j : Nat} {v : Value} {d : Dk} {gen : Nat} {l : List (List UInt8)} (h : KS w1 wr p s j v d gen l) {u : Value} {lk : List FieldD} (hw : Want w1 wr u lk) (hg : wr.grownBy w' u.ownBlock) : KS w1 w' p s j v d gen l := by
  have hk : Kp (fun k => u.ownBlock = some k) wr w' := Kp.of_grown hg (fun k e => e)
  refine ⟨h.disk.kept hk (fun k hf e => ?_), RowAt.kp h.jr hk (fun e => own_ne hw.row h.jr (by decide) e), h.jb, h.pend, h.fit, h.has, h.heads, h.bl.trans (hk.below h.bl.size (fun k e => (hw.row.lt k e).1))⟩
  rcases hf with rfl | rfl | hf
  · exact own_ne hw.row h.disk.obj (by decide) e
  · exact own_ne hw.row h.disk.sta (by decide) e
  · exact own_apart hw.row h.disk.pen (by decide) k e hf
end Go.Proofs.Ytgakajofggmbjaa
