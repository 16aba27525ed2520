/- The disk and the document's disk side by side. -/
import Derived.Test.YtanibabfdpgbbaaMg13
import Derived.Test.YtanibabfdpgbbaaMg10
import Derived.Test.YtanibabfdpgbbaaMg15
import Derived.Test.YtanibabfdpgbbaaMg14
import Derived.Test.YtanibabfdpgbbaaMg9
namespace Go.Proofs.Ytanibabfdpgbbaa
open Go.RowKit

/-- What a function of the document leaves: the disk d' as a value, its rows as they were or in new memory. -/
def RefPost (F : Value → Value) (w : World) (A B : Option Addr) (d' : Dk) (e : Ending) (w' : World) : Prop :=
  ∃ A' c' B' k', e = .returned (F (.agg (rdC A' c' B' k' d').toArray)) ∧ RDk w' A' c' B' k' d' ∧ Below w.heap.size w w' ∧ (A' = A ∨ FrA w w' A') ∧ (B' = B ∨ FrA w w' B')
def withErr (err : Int) (x : Value) : Value := .tuple #[x, .int .i64 err]
def justIt (x : Value) : Value := x
section
variable {w : World} {d : Dk}
theorem RDk.fuel {A : Option Addr} {c : Nat} {B : Option Addr} {k : Nat} (h : RDk w A c B k d) (f : Int) (hf : -1 ≤ f ∧ f ≤ 9223372036854775807) : RDk w A c B k { d with fuel := f } :=
  ⟨h.sec, h.pen, h.nc, h.cm, h.pk, h.km, h.len, h.wid, h.pin, hf⟩
theorem pair_break (i : Int) (hi : i ≤ 9223372036854775807) (w' : World) {A : Option Addr} {c : Nat} {B : Option Addr} {k : Nat} (hr : RDk w' A c B k d) :
    Calls Try.prog 21 #[.agg (rdC A c B k d).toArray, .int .i64 i] w' (RefPost justIt w' A B { d with fuel := max i (-1) }) :=
  (ref_Break i w').mono fun _ _ ⟨he, hb⟩ => ⟨A, c, B, k, he, (hr.below hb).fuel _ (by omega), hb, .inl rfl, .inl rfl⟩
theorem pair_crash (hpl : d.pend.length ≤ 1000000) (K : Option Addr) (nk ck : Nat) (keep : List Bool) (torn cut : Int) (w' : World) {A : Option Addr} {c : Nat} {B : Option Addr} {k : Nat} (hr : RDk w' A c B k d) (hk : RBl w' K nk ck keep) :
    Calls Try.prog 24 #[.agg (rdC A c B k d).toArray, .slice K nk ck, .int .i64 torn, .int .i64 cut] w' (RefPost justIt w' A B (d.crashed keep torn cut)) :=
  (ref_Crash hr hpl K nk ck keep hk torn cut).mono fun _ _ ⟨A', c', he, h1, h2, h3⟩ => ⟨A', c', none, 0, he, h1, h2, .inr h3, .inr (FrA.none _ _)⟩
end

/-- A slice lies in blocks that are there, and are not the disk's. -/
def ApB (w : World) (p s : Nat) (v : Value) (A : Option Addr) : Prop := ∀ b o, A = some ⟨b, o, none⟩ → b < w.heap.size ∧ ¬ foot p s v b
theorem ApB.up {w w' : World} {p s : Nat} {v v' : Value} {A : Option Addr} (h : ApB w p s v A) (hs : w.heap.size ≤ w'.heap.size) (hv : ∀ g, v'.ownBlock = some g → v.ownBlock = some g ∨ w.heap.size ≤ g) : ApB w' p s v' A := fun b o e => by
  obtain ⟨h1, h2⟩ := h b o e
  refine ⟨Nat.lt_of_lt_of_le h1 hs, ?_⟩
  rintro (hf | hf | hf)
  · exact h2 (.inl hf)
  · exact h2 (.inr (.inl hf))
  · rcases hv b hf with hf | hf
    · exact h2 (.inr (.inr hf))
    · omega
theorem ApB.new {w w' : World} {base p s : Nat} {v : Value} {d : Dk} (h : DiskAt w base p s v d) {A : Option Addr} (hA : FrA w w' A) : ApB w' p s v A := fun b o e => by
  obtain ⟨h1, h2⟩ := hA b o e
  exact ⟨h2, fun hf => by have := h.foot_lt b hf; omega⟩
theorem foot_not {w : World} {base p s g : Nat} {v : Value} {d : Dk} {t : TypeId} {cs : List Value} (h : DiskAt w base p s v d) (hg : RowAt w g t cs) (h1 : 64 ≠ t) (h2 : 32 ≠ t) (h3 : 68 ≠ t) : ¬ foot p s v g := by
  rintro (rfl | rfl | e)
  · exact ne_of_types h.obj hg h1 rfl
  · exact ne_of_types h.sta hg h2 rfl
  · exact own_ne h.pen hg h3 e
/-- The disk and the document's one side by side: the same data, in blocks apart. -/
structure Two (w1 wr : World) (p s g : Nat) (v : Value) (A : Option Addr) (c : Nat) (B : Option Addr) (k : Nat) (d : Dk) : Prop where
  disk : DiskAt wr w1.heap.size p s v d
  row : RowAt wr g 36 (rdC A c B k d)
  rd : RDk wr A c B k d
  apA : ApB wr p s v A
  apB : ApB wr p s v B
  gA : ∀ b o, A = some ⟨b, o, none⟩ → b ≠ g
  gB : ∀ b o, B = some ⟨b, o, none⟩ → b ≠ g
  bl : Below w1.heap.size w1 wr
section
variable {w1 wr w' : World} {p s g : Nat} {v v' : Value} {A : Option Addr} {c : Nat} {B : Option Addr} {k : Nat} {d d' : Dk}
theorem Two.notFoot (h : Two w1 wr p s g v A c B k d) : ¬ foot p s v g := foot_not h.disk h.row (by decide) (by decide) (by decide)
theorem Two.below (h : Two w1 wr p s g v A c B k d) (hb : Below wr.heap.size wr w') : Two w1 w' p s g v A c B k d :=
  ⟨h.disk.below hb, h.row.below hb, h.rd.below hb, h.apA.up hb.size (fun _ e => .inl e), h.apB.up hb.size (fun _ e => .inl e), h.gA, h.gB, bthen h.bl hb⟩
/-- A box of its own is written. -/
theorem Two.box (h : Two w1 wr p s g v A c B k d) {q : Nat} (hk : Kp (· = q) wr w') (hq : w1.heap.size ≤ q) (hf : ¬ foot p s v q) (hg : q ≠ g) (hA : ∀ b o, A = some ⟨b, o, none⟩ → b ≠ q) (hB : ∀ b o, B = some ⟨b, o, none⟩ → b ≠ q) : Two w1 w' p s g v A c B k d :=
  ⟨h.disk.kept hk (fun i hi e => by subst e; exact hf hi), h.row.kp hk (fun e => hg e.symm), h.rd.kpF hk hA hB, h.apA.up hk.size (fun _ e => .inl e), h.apB.up hk.size (fun _ e => .inl e), h.gA, h.gB, h.bl.trans (kp_one h.bl.size hk hq)⟩
theorem Two.ltA (h : Two w1 wr p s g v A c B k d) : (∀ b o, A = some ⟨b, o, none⟩ → b < wr.heap.size) ∧ (∀ b o, B = some ⟨b, o, none⟩ → b < wr.heap.size) := ⟨fun b o e => (h.apA b o e).1, fun b o e => (h.apB b o e).1⟩
/-- What was done to the disk alone: the document's is still the elder one. -/
structure Half (w1 wr : World) (p s g : Nat) (v : Value) (A : Option Addr) (c : Nat) (B : Option Addr) (k : Nat) (d d' : Dk) : Prop where
  disk : DiskAt wr w1.heap.size p s v d'
  row : RowAt wr g 36 (rdC A c B k d)
  rd : RDk wr A c B k d
  apA : ApB wr p s v A
  apB : ApB wr p s v B
  gA : ∀ b o, A = some ⟨b, o, none⟩ → b ≠ g
  gB : ∀ b o, B = some ⟨b, o, none⟩ → b ≠ g
  bl : Below w1.heap.size w1 wr
theorem Two.acted (h : Two w1 wr p s g v A c B k d) (hd : DiskAt w' w1.heap.size p s v' d') (hk : Kp (foot p s v) wr w') (hv : ∀ q, v'.ownBlock = some q → v.ownBlock = some q ∨ wr.heap.size ≤ q) : Half w1 w' p s g v' A c B k d d' :=
  ⟨hd, h.row.kp hk h.notFoot, h.rd.kpF hk (fun b o e => (h.apA b o e).2) (fun b o e => (h.apB b o e).2), h.apA.up hk.size hv, h.apB.up hk.size hv, h.gA, h.gB, h.bl.trans (hk.below h.bl.size (fun i hi => h.disk.foot_base i hi))⟩
theorem Half.notFoot (h : Half w1 wr p s g v A c B k d d') : ¬ foot p s v g := foot_not h.disk h.row (by decide) (by decide) (by decide)
theorem Half.box (h : Half w1 wr p s g v A c B k d d') {q : Nat} (hk : Kp (· = q) wr w') (hq : w1.heap.size ≤ q) (hf : ¬ foot p s v q) (hg : q ≠ g) (hA : ∀ b o, A = some ⟨b, o, none⟩ → b ≠ q) (hB : ∀ b o, B = some ⟨b, o, none⟩ → b ≠ q) : Half w1 w' p s g v A c B k d d' :=
  ⟨h.disk.kept hk (fun i hi e => by subst e; exact hf hi), h.row.kp hk (fun e => hg e.symm), h.rd.kpF hk hA hB, h.apA.up hk.size (fun _ e => .inl e), h.apB.up hk.size (fun _ e => .inl e), h.gA, h.gB, h.bl.trans (kp_one h.bl.size hk hq)⟩
/-- The document's disk has done the same: its new value will be stored. -/
theorem Half.done (h : Half w1 wr p s g v A c B k d d') {A' : Option Addr} {c' : Nat} {B' : Option Addr} {k' : Nat} {w2 : World} (hr : RDk w' A' c' B' k' d') (hb : Below wr.heap.size wr w') (hA : A' = A ∨ FrA wr w' A') (hB : B' = B ∨ FrA wr w' B') (hk : Kp (· = g) w' w2) (hrow : RowAt w2 g 36 (rdC A' c' B' k' d')) (hg : w1.heap.size ≤ g) : Two w1 w2 p s g v A' c' B' k' d' := by
  have hd := h.disk.below hb
  have hnf : ¬ foot p s v g := h.notFoot
  have ap : ∀ {A A' : Option Addr}, ApB wr p s v A → (A' = A ∨ FrA wr w' A') → ApB w2 p s v A' := fun h0 h1 => by
    rcases h1 with rfl | h1
    · exact h0.up (Nat.le_trans hb.size hk.size) (fun _ e => .inl e)
    · exact (ApB.new h.disk h1).up hk.size (fun _ e => .inl e)
  have hbl := bthen h.bl hb
  have hlt : g < wr.heap.size := lt_of_heap h.row
  have hAg : ∀ b o, A' = some ⟨b, o, none⟩ → b ≠ g := fun b o e => by
    rcases hA with rfl | hA
    · exact h.gA b o e
    · have := (hA b o e).1
      omega
  have hBg : ∀ b o, B' = some ⟨b, o, none⟩ → b ≠ g := fun b o e => by
    rcases hB with rfl | hB
    · exact h.gB b o e
    · have := (hB b o e).1
      omega
  exact ⟨hd.kept hk (fun i hi e => by subst e; exact hnf hi), hrow, hr.kpF hk hAg hBg, ap h.apA hA, ap h.apB hB, hAg, hBg, hbl.trans (kp_one hbl.size hk hg)⟩
theorem Two.start {w2 w3 : World} {n : Int} (hd : DiskAt w2 w1.heap.size p s (.slice none 0 0) (newDk n)) (hb0 : Below w1.heap.size w1 w2) (hr3 : RDk w3 A c none 0 (newDk n)) (hb3 : Below w2.heap.size w2 w3) (hf3 : FrA w2 w3 A) :
    Two w1 (w3.alloc (.cells (rdC A c none 0 (newDk n)).toArray 36)) p s w3.heap.size (.slice none 0 0) A c none 0 (newDk n) :=
  ⟨(hd.below hb3).below (below_alloc _ _), RowAt.new w3 _ _, hr3.below (below_alloc _ _), (ApB.new hd hf3).up (by simp) (fun _ e => .inl e), (fun b o e => by cases e), (fun b o e => by have := (hf3 b o e).2; omega), (fun b o e => by cases e), balloc (hb0.trans (hb3.mono hb0.size)) _⟩
end
end Go.Proofs.Ytanibabfdpgbbaa

/- The document's Write of a store's state. -/
namespace Go.Proofs.Ytanibabfdpgbbaa
open Go.RowKit
attribute [local go_sem ↓] loadAt37

theorem FrA.lift {w0 w1 w2 w3 : World} {A : Option Addr} (h : FrA w1 w2 A) (h0 : w0.heap.size ≤ w1.heap.size) (h3 : w2.heap.size ≤ w3.heap.size) : FrA w0 w3 A := fun b o e => by
  obtain ⟨h1, h2⟩ := h b o e
  exact ⟨by omega, by omega⟩
theorem RDk.via {w0 w w' : World} {S : Nat → Prop} {A : Option Addr} {c : Nat} {B : Option Addr} {k : Nat} {d : Dk} (h0 : Rd w0 A d.stable.length 128 (secs d.stable)) (hb : Below w0.heap.size w0 w') (h : RDk w A c B k d) (hk : Kp S w w') (hB : ∀ b o, B = some ⟨b, o, none⟩ → ¬ S b) : RDk w' A c B k d :=
  ⟨h0.below hb, h.pen.kpF hk hB, h.nc, h.cm, h.pk, h.km, h.len, h.wid, h.pin, h.fu⟩
def idx5 (x i : Value) : Sem Value := Instr.index 89 x i
theorem index5 (x i : Value) : Instr.index 89 x i = idx5 x i := rfl
theorem run_idx5 (w : World) (a b c d e k : Nat) (hk : k < 5) : (idx5 (.agg #[.int .i64 a, .int .i64 b, .int .i64 c, .int .i64 d, .int .i64 e]) (.int .i64 (k : Nat))).run Try.prog w = .ok (.int .i64 (atN [a, b, c, d, e] k : Nat)) w := by
  unfold idx5 Instr.index
  match k, hk with
  | 0, _ => simp [go_sem, atN]
  | 1, _ => simp [go_sem, atN]
  | 2, _ => simp [go_sem, atN]
  | 3, _ => simp [go_sem, atN]
  | 4, _ => simp [go_sem, atN]
/-- The first parts of a super's body. -/
def bt (ns ws : List Nat) : Nat → List UInt8
  | 0 => []
  | k + 1 => bt ns ws k ++ be (atN ns k) (atN ws k)
theorem bt_len (ns : List Nat) (k : Nat) (hk : k ≤ 5) : (bt ns [4, 2, 2, 4, 2] k).length ≤ 4 * k := by
  induction k with
  | zero => simp [bt]
  | succ k ih =>
    have := ih (by omega)
    have hw : atN [4, 2, 2, 4, 2] k ≤ 4 := by
      match k, (show k < 5 by omega) with
      | 0, _ => simp [atN]
      | 1, _ => simp [atN]
      | 2, _ => simp [atN]
      | 3, _ => simp [atN]
      | 4, _ => simp [atN]
    simp only [bt, List.length_append, be_length]
    omega
theorem bt_body (r b q c e : Nat) : bt [r, b, q, c, e] [4, 2, 2, 4, 2] 5 = bodyL r b q c e := by simp [bt, bodyL, atN]
section
variable {w : World} {A : Option Addr} {c0 : Nat} {B : Option Addr} {kk : Nat} {d : Dk}
theorem write_boxes (w : World) (A : Option Addr) (c0 : Nat) (B : Option Addr) (kk : Nat) (d : Dk) (cs : List Value) :
    RowAt (((w.alloc (.cells (rdC A c0 B kk d).toArray 36)).alloc (.cells cs.toArray 24)).alloc (.cells #[.slice none 0 0, .slice none 0 0, .int .i64 0, .bool false] 36)) w.heap.size 36 (rdC A c0 B kk d) ∧
    RowAt (((w.alloc (.cells (rdC A c0 B kk d).toArray 36)).alloc (.cells cs.toArray 24)).alloc (.cells #[.slice none 0 0, .slice none 0 0, .int .i64 0, .bool false] 36)) (w.heap.size + 1) 24 cs ∧
    RowAt (((w.alloc (.cells (rdC A c0 B kk d).toArray 36)).alloc (.cells cs.toArray 24)).alloc (.cells #[.slice none 0 0, .slice none 0 0, .int .i64 0, .bool false] 36)) (w.heap.size + 1 + 1) 36 rdZ ∧
    Below w.heap.size w (((w.alloc (.cells (rdC A c0 B kk d).toArray 36)).alloc (.cells cs.toArray 24)).alloc (.cells #[.slice none 0 0, .slice none 0 0, .int .i64 0, .bool false] 36)) :=
  ⟨((RowAt.new w _ _).below (below_alloc _ _)).below (below_alloc _ _), (RowAt.new' (w.alloc (.cells (rdC A c0 B kk d).toArray 36)) _ cs _ (by simp)).below (below_alloc _ _), rdZ_new _ _ (by simp), (below_alloc2 w _ _).alloc (by simp; omega) _⟩
set_option maxRecDepth 20000 in
set_option maxHeartbeats 3200000 in
theorem ref15_Write_bad (s : SD) (hs : ¬ s.right) (w : World) : Calls Try.prog 22 #[.agg (rdC A c0 B kk d).toArray, s.v] w fun e w' => e = .returned (withErr 151 (.agg (rdC A c0 B kk d).toArray)) ∧ Below w.heap.size w w' := by
  have HS := Lib.hid hs
  obtain ⟨gen, root, boot, quota, sectors, every⟩ := s
  obtain ⟨h1, h2, h3, h4⟩ := write_boxes w A c0 B kk d [.int .u64 (gen : Nat), .int .i64 root, .int .i64 boot, .int .i64 quota, .int .i64 sectors, .int .i64 every]
  have H1 := Lib.hid h1; have H2 := Lib.hid h2; have H3 := Lib.hid h3; have H4 := Lib.hid h4
  clear hs h1 h2 h3 h4
  unfold SD.v
  dsimp only
  go_enter Try.func22, Try.ntmps22
  go_wp2_with (refine ldN 24 [.int .u64 (gen : Nat), .int .i64 root, .int .i64 boot, .int .i64 quota, .int .i64 sectors, .int .i64 every] rfl _ rfl (w.heap.size + 1) 0 rfl H2.out.range Try.underlying24 rfl Try.sizeSuper ?_)
  refine (ref15_Right ⟨gen, root, boot, quota, sectors, every⟩ _).mono ?_
  rw [decide_eq_false HS.out]
  rintro e' w2 ⟨rfl, hb2⟩
  have HD2 := Lib.hid (H1.out.below hb2); have HZ2 := Lib.hid (H3.out.below hb2); have HB2 := Lib.hid (bthen H4.out hb2)
  clear hb2
  go_wp2_with (first
    | (refine ldRD rfl _ rfl w.heap.size rfl HD2.out ?_)
    | (refine stRD rfl _ _ rfl (w.heap.size + 1 + 1) rfl HZ2.out rfl rfl ?_; intro w4 hs4 hk4; have HS4 := Lib.hid hs4; have HK4 := Lib.hid hk4; clear hs4 hk4))
  exact bodyPost_ret (ret_rd_tmp Try.results22 _ _ _ _ _ _ _ (.int .i64 151) _ rfl rfl HS4.out) rfl ⟨rfl, HB2.out.trans (kp_one HB2.out.size HK4.out (by omega))⟩
attribute [local go_sem ↓] index5
set_option maxRecDepth 20000 in
set_option maxHeartbeats 6400000 in
theorem ref15_Write (gen r b q c e : Nat) (hg1 : 1 ≤ gen) (hg2 : gen ≤ 281474976710655) (hr : r ≤ 1024) (hb : b ≤ 255) (hq : q ≤ 48) (hc : c ≤ 1024) (he : e ≤ 65535)
    (h : RDk w A c0 B kk d) (hpn : d.pend.length ≤ 1000) (hlen : 2 ≤ d.stable.length) :
    Calls Try.prog 22 #[.agg (rdC A c0 B kk d).toArray, SD.v ⟨gen, r, b, q, c, e⟩] w (RefPost (withErr (superW d (gen % 2) (sealL gen (bodyL r b q c e))).2) w A B (superW d (gen % 2) (sealL gen (bodyL r b q c e))).1) := by
  have hright : (⟨gen, r, b, q, c, e⟩ : SD).right := ⟨hg1, hg2, ⟨by show (0 : Int) ≤ (r : Int); omega, by show (r : Int) ≤ 1024; omega⟩, ⟨by show (0 : Int) ≤ (c : Int); omega, by show (c : Int) ≤ 1024; omega⟩, ⟨by show (0 : Int) ≤ (b : Int); omega, by show (b : Int) ≤ 255; omega⟩, ⟨by show (0 : Int) ≤ (q : Int); omega, by show (q : Int) ≤ 48; omega⟩, ⟨by show (0 : Int) ≤ (e : Int); omega, by show (e : Int) ≤ 65535; omega⟩⟩
  have HRT := Lib.hid hright; have HD := Lib.hid h; have HPN := Lib.hid hpn; have HLN := Lib.hid hlen
  have HBND : Hid (r ≤ 1024 ∧ b ≤ 255 ∧ q ≤ 48 ∧ c ≤ 1024 ∧ e ≤ 65535) := Lib.hid ⟨hr, hb, hq, hc, he⟩
  have HGN : Hid (1 ≤ gen ∧ gen ≤ 281474976710655) := Lib.hid ⟨hg1, hg2⟩
  obtain ⟨h1, h2, h3, h4⟩ := write_boxes w A c0 B kk d [.int .u64 gen, .int .i64 r, .int .i64 b, .int .i64 q, .int .i64 c, .int .i64 e]
  have H1 := Lib.hid h1; have H2 := Lib.hid h2; have H3 := Lib.hid h3; have H4 := Lib.hid h4
  clear h hright hr hb hq hc he hg1 hg2 hpn hlen h1 h2 h3 h4
  unfold SD.v
  dsimp only
  go_enter Try.func22, Try.ntmps22
  go_wp2_with (refine ldN 24 [.int .u64 gen, .int .i64 r, .int .i64 b, .int .i64 q, .int .i64 c, .int .i64 e] rfl _ rfl (w.heap.size + 1) 0 rfl H2.out.range Try.underlying24 rfl Try.sizeSuper ?_)
  refine (ref15_Right ⟨gen, r, b, q, c, e⟩ _).mono ?_
  rw [decide_eq_true HRT.out]
  rintro e' w2 ⟨rfl, hb2⟩
  have hX2 := (H2.out.below hb2).below (below_alloc w2 (.cells #[] 5))
  have x1 := hX2.cell 1 _ rfl
  have x2 := hX2.cell 2 _ rfl
  have x3 := hX2.cell 3 _ rfl
  have x4 := hX2.cell 4 _ rfl
  have x5 := hX2.cell 5 _ rfl
  have HX2 := Lib.hid hX2
  have HD2 := Lib.hid ((H1.out.below hb2).below (below_alloc w2 (.cells #[] 5))); have HZ2 := Lib.hid ((H3.out.below hb2).below (below_alloc w2 (.cells #[] 5))); have HB2 := Lib.hid (balloc (bthen H4.out hb2) (.cells #[] 5))
  have HO2 := Lib.hid (own_empty w2 w2.heap.size 5 1 (Nat.le_refl _))
  have HS2 : Hid (w.heap.size + 1 + 1 < w2.heap.size) := Lib.hid (lt_of_heap (H3.out.below hb2))
  clear hb2 hX2 H1 H2 H3 H4
  go_wp2_with fail
  clear x1 x2 x3 x4 x5
  generalize hwA : w2.alloc (.cells #[] 5) = wA at *
  clear hwA
  generalize hg2 : w2.heap.size = g2 at *
  clear hg2
  go_loopw [6, 32] (fun u i wr => ∃ k n : Nat, k ≤ 5 ∧ i = .int .i64 (k : Nat) ∧ Hid (wr.ownsRow g2 5 1 u n (bv (bt [r, b, q, c, e] [4, 2, 2, 4, 2] k))) ∧ Hid (n ≤ 20) ∧ Hid (Below g2 wA wr) ∧ Hid (g2 ≤ wr.heap.size)) (fun _ i _ => 5 - (intOf i).toNat)
  case atStart => exact ⟨0, 0, by omega, rfl, HO2, Lib.hid (by omega), Lib.hid (Below.refl _ _), Lib.hid (by have := (HO2.out.lt g2 rfl).2; omega)⟩
  case round =>
    clear HO2
    obtain ⟨k, n, hk, rfl, HO, HN, HB, HG⟩ := hrel
    by_cases hlt : k < 5
    · have hk0 : (0 : Int) ≤ (k : Int) := Int.natCast_nonneg _
      have hk1 : (k : Int) < 5 := by omega
      have hix := fun W => run_idx5 W r b q c e k hlt
      obtain ⟨wk, hwk⟩ : ∃ wk, wk = atN [4, 2, 2, 4, 2] k := ⟨_, rfl⟩
      obtain ⟨nk, hnk⟩ : ∃ nk, nk = atN [r, b, q, c, e] k := ⟨_, rfl⟩
      have hcell : (wr.alloc (.cells #[.int .i64 4, .int .i64 2, .int .i64 2, .int .i64 4, .int .i64 2] 89)).cell? ⟨wr.heap.size, k, none⟩ = some (.int .i64 (wk : Nat)) := by
        rw [World.cell?_alloc_mark, hwk]
        match k, hlt with
        | 0, _ => rfl
        | 1, _ => rfl
        | 2, _ => rfl
        | 3, _ => rfl
        | 4, _ => rfl
      have hw14 : 1 ≤ wk ∧ wk ≤ 4 := by
        rw [hwk]
        match k, hlt with
        | 0, _ => simp [atN]
        | 1, _ => simp [atN]
        | 2, _ => simp [atN]
        | 3, _ => simp [atN]
        | 4, _ => simp [atN]
      have hnb : nk ≤ 65535 := by
        rw [hnk]
        have := HBND.out
        match k, hlt with
        | 0, _ => simp [atN]; omega
        | 1, _ => simp [atN]; omega
        | 2, _ => simp [atN]; omega
        | 3, _ => simp [atN]; omega
        | 4, _ => simp [atN]; omega
      rw [← hnk] at hix
      have hwn : IntKind.u64.wrap (nk : Int) = (nk : Int) := wrap_u64 nk (by omega)
      have hnx : bt [r, b, q, c, e] [4, 2, 2, 4, 2] (k + 1) = bt [r, b, q, c, e] [4, 2, 2, 4, 2] k ++ be nk wk := by rw [hnk, hwk]; rfl
      have hbl := bt_len [r, b, q, c, e] (k + 1) (by omega)
      have hol : (bt [r, b, q, c, e] [4, 2, 2, 4, 2] k).length = n := by have := HO.out.1; rw [bv_length, Nat.mul_one] at this; exact this
      have HN2 : Hid (n + wk ≤ 20) := Lib.hid (by rw [hnx, List.length_append, be_length, hol] at hbl; omega)
      have HNX := Lib.hid hnx; have HW14 := Lib.hid hw14; have HNB := Lib.hid hnb
      clear hwk hnk hnx hbl hol hw14 hnb
      go_wp2_with fail
      refine (ref02_Number nk wk (by have := HNB.out; omega) HW14.out.1 (by have := HW14.out; omega) _).mono ?_
      rintro e' w4 ⟨v4, rfl, ho4, hb4⟩
      obtain ⟨A4, c4, rfl, hr4⟩ := own_rb ho4
      have HO4 := Lib.hid (own_below (HO.out.alloc _) hb4); have HR4 := Lib.hid hr4
      have HB4 : Hid (Below g2 wA w4) := Lib.hid ((HB.out.alloc HG.out _).trans (hb4.mono (by have := HG.out; simp; omega)))
      have HG4 : Hid (g2 ≤ w4.heap.size) := Lib.hid (by have := hb4.size; have := HG.out; simp at *; omega)
      clear ho4 hb4 hr4 hix hcell hwn
      go_wp2_with (at_builtin; go_must (refine wpList_append_any (w0 := wA) g2 rfl _ _ 76 5 (.int .u8 0) 1 1 rfl Try.underlying76 Try.infoU8' rfl (by decide) (by decide) u6 n _ A4 wk c4 (bv (be nk wk)) rfl rfl HO4.out HR4.out.rd (bv_one _) (by have := HN2.out; omega) HB4.out HG4.out ?_); intro v5 w5 ho5 hb5 hg5 ha5; rw [← bv_append] at ho5; rw [← HNX.out] at ho5; have HO5 := Lib.hid ho5; have HB5 := Lib.hid hb5; have HG5 : Hid (g2 ≤ w5.heap.size) := Lib.hid (Nat.le_trans HG4.out hg5.size); clear ho5 hb5 hg5 ha5)
      go_roundw
      case rel => exact ⟨k + 1, n + wk, by omega, by go_num, HO5, HN2, HB5, HG5⟩
      case measure => simp [intOf]; omega
    · obtain rfl : k = 5 := by omega
      obtain ⟨A6, c6, rfl, hr6⟩ := own_rb HO.out
      rw [bt_body] at hr6
      have hX6 := HX2.out.belowB HB.out (by have := HS2.out; omega)
      have x0 := hX6.cell 0 _ rfl
      have HR6 := Lib.hid hr6; have HX6 := Lib.hid hX6
      have HD6 := Lib.hid (HD2.out.belowB HB.out (by have := HS2.out; omega)); have HZ6 := Lib.hid (HZ2.out.belowB HB.out HS2.out)
      have HB6 : Hid (Below w.heap.size w wr) := Lib.hid (HB2.out.trans (HB.out.mono (by have := HS2.out; omega)))
      clear hr6 hX6
      go_wp2_with fail
      refine (ref05_Make gen (by have := HGN.out; omega) A6 n c6 (bodyL r b q c e) wr HR6.out (by have := HN.out; omega)).mono ?_
      have hmk : makeM gen (bodyL r b q c e) = some (sealL gen (bodyL r b q c e)) := by unfold makeM; rw [if_neg (by rw [bodyL_length]; have := HGN.out; omega)]
      rw [hmk]
      rintro e' w7 ⟨l7, e7, rfl, hl7, hb7, ⟨hs7, rfl⟩ | ⟨hno, -⟩⟩
      · injection hs7 with hs7
        have HL7 := Lib.hid hl7; have HS7 := Lib.hid hs7
        have hX7 := (HX6.out.below hb7).below (below_alloc w7 (.cells (bv l7).toArray 32))
        have HD7 := Lib.hid ((HD6.out.below hb7).below (below_alloc w7 (.cells (bv l7).toArray 32))); have HZ7 := Lib.hid ((HZ6.out.below hb7).below (below_alloc w7 (.cells (bv l7).toArray 32)))
        have HB7 := Lib.hid (balloc (bthen HB6.out hb7) (.cells (bv l7).toArray 32))
        have y0 := hX7.cell 0 _ rfl
        have hld := run_ldSec (w := w7.alloc (.cells (bv l7).toArray 32)) (range_alloc w7 (bv l7) _ _) hl7
        obtain ⟨m, hm⟩ : ∃ m : Nat, gen % 2 = m := ⟨_, rfl⟩
        have hmod : (gen : Int) % 2 = (m : Int) := by omega
        have HM := Lib.hid hm
        have hm2 : m < 2 := by omega
        have hm0 : (0 : Int) ≤ (m : Int) := Int.natCast_nonneg _
        have hwm : IntKind.i64.wrap (m : Int) = (m : Int) := by simp [IntKind.wrap, IntKind.signed, IntKind.bits]; omega
        clear hl7 hb7 hs7 hmk x0 hm hX7
        go_wp2_with (first
          | (refine st37 rfl _ _ rfl _ _ rfl rfl l7 rfl HL7.out rfl ?_)
          | (refine ldRD rfl _ rfl w.heap.size rfl HD7.out ?_))
        by_cases hpw : d.power.2 = true
        · refine (ref_Put_yes (HD.out.below HB7.out) m (by have := HLN.out; omega) l7 HL7.out hpw (by have := HPN.out; omega)).mono ?_
          rintro e' w8 ⟨B', k', rfl, hr8, hb8, hf8⟩
          obtain ⟨d8, hd8e⟩ : ∃ d8, d8 = ({ d.power.1 with pend := d.pend ++ [(m, l7)] } : Dk) := ⟨_, rfl⟩
          rw [← hd8e] at hr8 ⊢
          have hp8 : d8.pend.length ≤ 1001 := by rw [hd8e]; show (d.pend ++ [(m, l7)]).length ≤ 1001; have := HPN.out; rw [List.length_append]; simp; omega
          have hrow8 := RowAt.new w8 36 (rdC A c0 B' k' d8)
          have HR8 := Lib.hid (hr8.below (below_alloc w8 (.cells (rdC A c0 B' k' d8).toArray 36))); have HROW8 := Lib.hid hrow8; have HE8 := Lib.hid hd8e; have HPW := Lib.hid hpw; have HP8 := Lib.hid hp8
          have HZ8 := Lib.hid ((HZ7.out.below hb8).below (below_alloc w8 (.cells (rdC A c0 B' k' d8).toArray 36)))
          have HB8 := Lib.hid (balloc (bthen HB7.out hb8) (.cells (rdC A c0 B' k' d8).toArray 36))
          have HF8 : Hid (FrA w w8 B') := Lib.hid (hf8.lift HB7.out.size (Nat.le_refl _))
          have HQ8 : Hid (∀ b o, B' = some ⟨b, o, none⟩ → w.heap.size + 1 + 1 < b) := Lib.hid (fun b o e => by have := (hf8 b o e).1; have := lt_of_heap HZ7.out; omega)
          have hst8 : d8.stable = d.stable := by rw [hd8e]; exact power_stable d
          have HST8 := Lib.hid hst8
          clear hr8 hb8 hf8 hd8e hpw hp8 hrow8 hld y0 hmod hwm hst8
          go_wp2_with (first
            | (refine stN 36 (rdC A c0 B' k' d8) rfl _ _ rfl _ _ rfl rfl rfl (rdC_one _ _ _ _ _) Try.sizeRD rfl ?_)
            | (refine ldRD rfl _ rfl w8.heap.size rfl HROW8.out ?_))
          by_cases hpw2 : d8.power.2 = true
          · have HFL := Lib.hid (ref_Flush_yes HR8.out hpw2 (by have := HP8.out; omega))
            have hW : superW d (gen % 2) (sealL gen (bodyL r b q c e)) = (d8.power.1.flushed, 0) := superW_yes HPW.out (by rw [HE8.out, HM.out, HS7.out]) hpw2
            have HW := Lib.hid hW
            clear hpw2 hW
            refine HFL.out.mono ?_
            clear HFL
            rintro e' w9 ⟨A', c', rfl, hr9, hb9, hf9⟩
            have HR9 := Lib.hid hr9; have HZ9 := Lib.hid (HZ8.out.below hb9); have HB9 := Lib.hid (bthen HB8.out hb9); have HF9 : Hid (FrA w w9 A') := Lib.hid (hf9.lift HB8.out.size (Nat.le_refl _)); have HQ9 : Hid (∀ b o, A' = some ⟨b, o, none⟩ → w.heap.size + 1 + 1 < b) := Lib.hid (fun b o e => by have := (hf9 b o e).1; have := lt_of_heap HZ8.out; omega)
            clear hr9 hb9 hf9
            go_wp2_with (refine stRD rfl _ _ rfl (w.heap.size + 1 + 1) rfl HZ9.out rfl rfl ?_; intro w10 hs10 hk10; have HS10 := Lib.hid hs10; have HK10 := Lib.hid hk10; clear hs10 hk10)
            refine bodyPost_ret (ret_rd_tmp Try.results22 _ _ _ _ _ _ _ (.int .i64 0) _ rfl rfl HS10.out) rfl ?_
            rw [HW.out]
            exact ⟨A', c', none, 0, rfl, HR9.out.kpF HK10.out (fun b o e h => by have := HQ9.out b o e; omega) (fun b o e => by cases e), HB9.out.trans (kp_one HB9.out.size HK10.out (by omega)), .inr (HF9.out.lift (Nat.le_refl _) HK10.out.size), .inr (FrA.none _ _)⟩
          · have HFL := Lib.hid (ref_Flush_dead HR8.out (by simpa using hpw2))
            have hW : superW d (gen % 2) (sealL gen (bodyL r b q c e)) = (d8.power.1, 42) := superW_mid HPW.out (by rw [HE8.out, HM.out, HS7.out]) hpw2
            have HW := Lib.hid hW
            clear hpw2 hW
            refine HFL.out.mono ?_
            clear HFL
            rintro e' w9 ⟨rfl, hb9⟩
            have HR9 := Lib.hid ((HR8.out.power).below hb9); have HZ9 := Lib.hid (HZ8.out.below hb9); have HB9 := Lib.hid (bthen HB8.out hb9)
            have HS9 : Hid (w8.heap.size ≤ w9.heap.size) := Lib.hid (by have := hb9.size; simp at this; omega)
            clear hb9
            go_wp2_with (refine stRD rfl _ _ rfl (w.heap.size + 1 + 1) rfl HZ9.out rfl rfl ?_; intro w10 hs10 hk10; have HS10 := Lib.hid hs10; have HK10 := Lib.hid hk10; clear hs10 hk10)
            refine bodyPost_ret (ret_rd_tmp Try.results22 _ _ _ _ _ _ _ (.int .i64 42) _ rfl rfl HS10.out) rfl ?_
            have hbf := HB9.out.trans (kp_one HB9.out.size HK10.out (by omega))
            rw [HW.out]
            exact ⟨A, c0, B', k', rfl, RDk.via (by rw [power_stable, HST8.out]; exact HD.out.sec) hbf HR9.out HK10.out (fun b o e h => by have := HQ8.out b o e; omega), hbf, .inl rfl, .inr (HF8.out.lift (Nat.le_refl _) (Nat.le_trans HS9.out HK10.out.size))⟩
        · have HWD := Lib.hid (ref_Put_dead (HD.out.below HB7.out) m (by have := HLN.out; omega) l7 HL7.out (by simpa using hpw))
          have hW : superW d (gen % 2) (sealL gen (bodyL r b q c e)) = (d.power.1, 42) := superW_no hpw
          have HW := Lib.hid hW
          clear hpw hW
          refine HWD.out.mono ?_
          clear HWD
          rintro e' w8 ⟨rfl, hb8⟩
          have HROW8 := Lib.hid (RowAt.new w8 36 (rdC A c0 B kk d.power.1))
          have HZ8 := Lib.hid ((HZ7.out.below hb8).below (below_alloc w8 (.cells (rdC A c0 B kk d.power.1).toArray 36)))
          have HB8 := Lib.hid (balloc (bthen HB7.out hb8) (.cells (rdC A c0 B kk d.power.1).toArray 36))
          clear hb8 hld y0 hmod hwm
          go_wp2_with (first
            | (refine stN 36 (rdC A c0 B kk d.power.1) rfl _ _ rfl _ _ rfl rfl rfl (rdC_one _ _ _ _ _) Try.sizeRD rfl ?_)
            | (refine ldRD rfl _ rfl w8.heap.size rfl HROW8.out ?_)
            | (refine stRD rfl _ _ rfl (w.heap.size + 1 + 1) rfl HZ8.out rfl rfl ?_; intro w10 hs10 hk10; have HS10 := Lib.hid hs10; have HK10 := Lib.hid hk10; clear hs10 hk10))
          refine bodyPost_ret (ret_rd_tmp Try.results22 _ _ _ _ _ _ _ (.int .i64 42) _ rfl rfl HS10.out) rfl ?_
          have hbf := HB8.out.trans (kp_one HB8.out.size HK10.out (by omega))
          rw [HW.out]
          exact ⟨A, c0, B, kk, rfl, HD.out.power.below hbf, hbf, .inl rfl, .inl rfl⟩
      · cases hno
end
end Go.Proofs.Ytanibabfdpgbbaa

/- Write of any state: the store's and the document's. -/
namespace Go.Proofs.Ytanibabfdpgbbaa
open Go.RowKit

/-- A state written whatever it is: the disk behind it and the error. -/
def superWA (d : Dk) (x : SD) : Dk × Int :=
  if x.right then superW d (x.gen % 2) (sealL x.gen (bodyL x.root.toNat x.boot.toNat x.quota.toNat x.sectors.toNat x.every.toNat)) else (d, 151)
theorem superWA_pend {d : Dk} {x : SD} (hp : d.pend = []) (hd : (superWA d x).1.dead = false) : (superWA d x).1.pend = [] := by
  unfold superWA at hd ⊢
  split
  · rename_i h
    rw [if_pos h] at hd
    exact superW_pend hp hd
  · exact hp
theorem superWA_len (d : Dk) (x : SD) : (superWA d x).1.stable.length = d.stable.length ∧ (superWA d x).1.pend.length ≤ d.pend.length + 1 := by
  unfold superWA
  split
  · exact superW_len _ _ _
  · exact ⟨rfl, Nat.le_succ _⟩
theorem super_Write_all (x : SD) {w : World} {base p s : Nat} {v : Value} {d : Dk} (h : DiskAt w base p s v d) (hbase : base ≤ w.heap.size) (hpn : d.pend.length ≤ 1000) (hlen : 2 ≤ d.stable.length) :
    Calls Try.prog 18 #[.pointer (some ⟨p, 0, none⟩), x.v] w fun e w' => ∃ v' : Value, e = .returned (.int .i64 (superWA d x).2) ∧ DiskAt w' base p s v' (superWA d x).1 ∧ Kp (foot p s v) w w' ∧ (∀ q, v'.ownBlock = some q → v.ownBlock = some q ∨ w.heap.size ≤ q) := by
  by_cases hx : x.right
  · have e : superWA d x = _ := if_pos hx
    rw [e]
    obtain ⟨r, b, q, c, ev, hs, h1, h2, h3, h4, h5⟩ := right_nats hx
    have hg1 := hx.g1
    have hg2 := hx.g2
    clear e hx
    generalize hg : x.gen = gen at *
    subst hs
    exact super_Write_ex gen r b q c ev hg1 hg2 h1 h2 h3 h4 h5 h hbase hpn hlen
  · have e : superWA d x = (d, 151) := if_neg hx
    rw [e]
    exact (super_Write_bad x hx p w).mono fun _ _ ⟨he, hb⟩ => ⟨v, he, h.below hb, Kp.of_below hb, fun _ hq => .inl hq⟩
theorem ref15_Write_all (x : SD) {w : World} {A : Option Addr} {c0 : Nat} {B : Option Addr} {kk : Nat} {d : Dk} (h : RDk w A c0 B kk d) (hpn : d.pend.length ≤ 1000) (hlen : 2 ≤ d.stable.length) :
    Calls Try.prog 22 #[.agg (rdC A c0 B kk d).toArray, x.v] w (RefPost (withErr (superWA d x).2) w A B (superWA d x).1) := by
  by_cases hx : x.right
  · have e : superWA d x = _ := if_pos hx
    rw [e]
    obtain ⟨r, b, q, c, ev, hs, h1, h2, h3, h4, h5⟩ := right_nats hx
    have hg1 := hx.g1
    have hg2 := hx.g2
    clear e hx
    generalize hg : x.gen = gen at *
    subst hs
    exact ref15_Write gen r b q c ev hg1 hg2 h1 h2 h3 h4 h5 h hpn hlen
  · have e : superWA d x = (d, 151) := if_neg hx
    rw [e]
    exact (ref15_Write_bad x hx w).mono fun _ _ ⟨he, hb⟩ => ⟨A, c0, B, kk, he, h.below hb, hb, .inl rfl, .inl rfl⟩
end Go.Proofs.Ytanibabfdpgbbaa

/- Slices of structs that came in, by a law on one of them. -/
namespace Go.Proofs.Ytanibabfdpgbbaa
open Go.ChangeShapes Go.WideShapes Go.ChangeAt Go.RowKit

/-- The slice's elements are read: the k-th is f k. -/
def RElems {α : Type} (cells : α → List Value) (m : Nat) (w : World) (A : Option Addr) (n c : Nat) (f : Nat → α) : Prop :=
  n ≤ c ∧ c ≤ 9223372036854775807 ∧ (0 < n → ∃ b o, A = some ⟨b, o, none⟩ ∧ ∀ k, k < n → w.rangeAt b (o + k * m) (cells (f k)))
theorem RElems.below {α : Type} {cells : α → List Value} {m : Nat} {w w' : World} {A : Option Addr} {n c : Nat} {f : Nat → α} (h : RElems cells m w A n c f) (hb : Below w.heap.size w w') : RElems cells m w' A n c f := by
  obtain ⟨h1, h2, h3⟩ := h
  refine ⟨h1, h2, fun hp => ?_⟩
  obtain ⟨b, o, e, hc⟩ := h3 hp
  exact ⟨b, o, e, fun k hk => range_belowF (hc k hk) hb⟩
section
variable {H : Type} {enc : TypeId × Value → H} {P : Program} {W : World} {base : Nat} {t e : TypeId} {v : Value} {d : DataW H} {p : List MemPlace}
theorem open_elems {α : Type} [Inhabited α] (cells : α → List Value) (m : Nat) (hu : P.underlying t = some (.slice e)) (hce : P.cellsOf e = m) (hm : ∀ a, 0 < (cells a).length)
    (el : ∀ fuel cs (x : DataW H × List MemPlace), DataW.trod enc P W 0 (fun _ => true) true fuel e cs = some x → ∃ a, cs = cells a)
    (o : Value.okWide P W .any base t v) (r : DataW.Trod enc P W 0 (fun _ => true) true t v d p) :
    ∃ A n c f, v = .slice A n c ∧ RElems cells m W A n c f := by
  obtain ⟨A0, len0, cap0, rfl⟩ := okWide_slice hu o
  obtain ⟨fuel, hf⟩ := r
  rcases Go.Deep.open_slice hu hf with ⟨hcs, _⟩ | ⟨a, len, cap, m0, n, D, Pl, hcs, _, hl, hm0, hmm, hx, hel⟩
  · simp [Value.cells] at hcs
    obtain ⟨rfl, rfl, rfl⟩ := hcs
    exact ⟨none, 0, 0, fun _ => default, rfl, Nat.le_refl _, by omega, fun hp => absurd hp (by omega)⟩
  · simp [Value.cells] at hcs
    obtain ⟨rfl, rfl, rfl⟩ := hcs
    simp only [if_true] at hmm
    subst hmm
    have hget : ∀ i, i < len0 → ∃ ac : α, ∀ j u, (cells ac)[j]? = some u → W.cell? ((a.add (i * m)).add j) = some u := by
      intro i hi
      obtain ⟨cs', h1, h2⟩ := hel i (by omega)
      rw [hce] at h1
      obtain ⟨ac, rfl⟩ := el _ _ _ h2
      exact ⟨ac, (cells_range h1).2⟩
    obtain ⟨f, hf2⟩ : ∃ f : Nat → α, ∀ i, i < len0 → ∀ j u, (cells (f i))[j]? = some u → W.cell? ((a.add (i * m)).add j) = some u := by
      refine ⟨fun i => if h : i < len0 then (hget i h).choose else default, fun i hi => ?_⟩
      show ∀ j u, (cells (if h : i < len0 then (hget i h).choose else default))[j]? = some u → W.cell? ((a.add (i * m)).add j) = some u
      rw [dif_pos hi]
      exact (hget i hi).choose_spec
    refine ⟨some a, len0, m0, f, rfl, hl, by simpa [maxLen] using hm0, fun hp => ?_⟩
    obtain ⟨b, off, spot⟩ := a
    have h0 := hf2 0 hp 0 _ (List.getElem?_eq_getElem (hm _))
    rw [Nat.zero_mul, add_add, Nat.add_zero] at h0
    have hs : spot = none := by simpa [Addr.add] using World.cell?_spot h0
    subst hs
    refine ⟨b, off, rfl, fun k hk => ?_⟩
    intro j u hj
    have := hf2 k hk j u hj
    rwa [add_add, add_none, ← Nat.add_assoc] at this
end
section
variable {H : Type} {enc : TypeId × Value → H} {W : World}
set_option maxRecDepth 100000 in
theorem trod_super {fuel : Nat} {cs : List Value} {x : DataW H × List MemPlace} (hf : DataW.trod enc Try.prog W 0 (fun _ => true) true fuel 24 cs = some x) : ∃ s : SD, cs = s.cells := by
  have hc85 : Try.prog.cellsOf 22 = 1 := by kernel_rfl
  have hc3 : Try.prog.cellsOf 3 = 1 := by kernel_rfl
  have hct : Try.prog.cellsOf 24 = 6 := by kernel_rfl
  obtain ⟨xs, m, _, hx, hl, hxl, hfe⟩ := DataW.trod_struct Try.underlying24 hf
  rw [hct] at hl
  have hxl : xs.length = 6 := hxl
  have f0 : DataW.trod enc Try.prog W 0 (fun _ => true) true m 22 ((cs.drop 0).take (Try.prog.cellsOf 22)) = xs[0]? := hfe 0 _ rfl
  have f1 : DataW.trod enc Try.prog W 0 (fun _ => true) true m 3 ((cs.drop 1).take (Try.prog.cellsOf 3)) = xs[1]? := hfe 1 _ rfl
  have f2 : DataW.trod enc Try.prog W 0 (fun _ => true) true m 3 ((cs.drop 2).take (Try.prog.cellsOf 3)) = xs[2]? := hfe 2 _ rfl
  have f3 : DataW.trod enc Try.prog W 0 (fun _ => true) true m 3 ((cs.drop 3).take (Try.prog.cellsOf 3)) = xs[3]? := hfe 3 _ rfl
  have f4 : DataW.trod enc Try.prog W 0 (fun _ => true) true m 3 ((cs.drop 4).take (Try.prog.cellsOf 3)) = xs[4]? := hfe 4 _ rfl
  have f5 : DataW.trod enc Try.prog W 0 (fun _ => true) true m 3 ((cs.drop 5).take (Try.prog.cellsOf 3)) = xs[5]? := hfe 5 _ rfl
  rw [hc85, List.getElem?_eq_getElem (by omega)] at f0
  rw [hc3, List.getElem?_eq_getElem (by omega)] at f1 f2 f3 f4 f5
  obtain ⟨n0, e0, _, w0⟩ := DataW.trod_int Try.underlying22 f0
  obtain ⟨n1, e1, _, _⟩ := DataW.trod_int Try.underlying3 f1
  obtain ⟨n2, e2, _, _⟩ := DataW.trod_int Try.underlying3 f2
  obtain ⟨n3, e3, _, _⟩ := DataW.trod_int Try.underlying3 f3
  obtain ⟨n4, e4, _, _⟩ := DataW.trod_int Try.underlying3 f4
  obtain ⟨n5, e5, _, _⟩ := DataW.trod_int Try.underlying3 f5
  obtain ⟨h0, h0'⟩ := u64_wf w0
  obtain ⟨g, rfl⟩ := Int.eq_ofNat_of_zero_le h0
  refine ⟨⟨g, n1, n2, n3, n4, n5⟩, ?_⟩
  have g0 := take1F e0
  have g1 := take1F e1
  have g2 := take1F e2
  have g3 := take1F e3
  have g4 := take1F e4
  have g5 := take1F e5
  match cs, hl, g0, g1, g2, g3, g4, g5 with
  | [a, b, c, d, e, f], _, g0, g1, g2, g3, g4, g5 =>
    simp at g0 g1 g2 g3 g4 g5
    subst g0 g1 g2 g3 g4 g5
    rfl
def pairCells (x : Int × Int) : List Value := [.int .i64 x.1, .int .i64 x.2]
set_option maxRecDepth 100000 in
theorem trod_pair {fuel : Nat} {cs : List Value} {x : DataW H × List MemPlace} (hf : DataW.trod enc Try.prog W 0 (fun _ => true) true fuel 51 cs = some x) : ∃ y : { y : Int × Int // y.1 ≤ 9223372036854775807 }, cs = pairCells y.1 := by
  have hct : Try.prog.cellsOf 51 = 2 := by kernel_rfl
  have hc : Try.prog.cellsOf 3 = 1 := by kernel_rfl
  obtain ⟨xs, m, _, _, hl, hxl, hfe⟩ := DataW.trod_array Try.underlying51 hf
  rw [hct] at hl
  have f0 := hfe 0 (by omega)
  have f1 := hfe 1 (by omega)
  rw [hc, List.getElem?_eq_getElem (by omega)] at f0 f1
  obtain ⟨n0, e0, _, w0⟩ := DataW.trod_int Try.underlying3 f0
  obtain ⟨n1, e1, _, _⟩ := DataW.trod_int Try.underlying3 f1
  refine ⟨⟨(n0, n1), (i64_wf w0).2⟩, ?_⟩
  have g0 := take1F e0
  have g1 := take1F e1
  match cs, hl, g0, g1 with
  | [x, y], _, g0, g1 =>
    simp at g0 g1
    subst g0 g1
    rfl
end
set_option maxRecDepth 100000 in
/-- A slice of bools that came in. -/
theorem open_bools {H : Type} {enc : TypeId × Value → H} {W : World} {base : Nat} {v : Value} {d : DataW H} {p : List MemPlace} (o : Value.okWide Try.prog W .any base 49 v) (r : DataW.Trod enc Try.prog W 0 (fun _ => true) true 49 v d p) (z : ∀ n ∈ d.weights Try.prog 49, n ≤ reachBytes) :
    ∃ A n c keep, v = .slice A n c ∧ RBl W A n c keep ∧ n ≤ 140737488351232 := by
  obtain ⟨A0, n0, c0, rfl⟩ := okWide_slice Try.underlying49 o
  obtain ⟨fuel, hf⟩ := r
  obtain ⟨A, n, c, keep, h1, h2, h3⟩ := trod_bools Try.underlying49 Try.underlying4 (by kernel_rfl) (by kernel_rfl) hf z
  simp [Value.cells] at h1
  obtain ⟨rfl, rfl, rfl⟩ := h1
  exact ⟨_, _, _, keep, rfl, h2, h3⟩
end Go.Proofs.Ytanibabfdpgbbaa
