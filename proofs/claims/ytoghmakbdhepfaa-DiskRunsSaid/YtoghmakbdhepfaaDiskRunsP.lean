/- The disk and the document's disk side by side: an act on both. -/
import Derived.Test.YtoghmakbdhepfaaDiskDo2
import Derived.Test.YtoghmakbdhepfaaRef04e
namespace Go.Proofs.Ytoghmakbdhepfaa
open Go.RowKit

/-- What a function of the document leaves: the disk d' as a value, its rows as they were or in new memory. -/
def RefPost (F : Value → Value) (w : World) (A B : Option Addr) (d' : Dk) (e : Ending) (w' : World) : Prop :=
  ∃ A' c' B' k', e = .returned (F (.agg (rdC A' c' B' k' d').toArray)) ∧ RDk w' A' c' B' k' d' ∧ Below w.heap.size w w' ∧ (A' = A ∨ FrA w w' A') ∧ (B' = B ∨ FrA w w' B')
def withErr (err : Int) (x : Value) : Value := .tuple #[x, .int .i64 err]
def justIt (x : Value) : Value := x
section
variable {w : World} {base p s : Nat} {v : Value} {d : Dk} {y : ActD}
theorem pair_read (h : DiskAt w base p s v d) (hpl : d.pend.length ≤ 1000000) (hk : y.kind = 0) :
    ∃ r err, r.length = 128 ∧ Calls Try.prog 18 #[.pointer (some ⟨p, 0, none⟩), .agg (actCells y).toArray] w (DoPost w base p s v r err d) ∧
      ∀ (w' : World) A c B k, RDk w' A c B k d → Calls Try.prog 20 #[.agg (rdC A c B k d).toArray, .int .i64 y.at_] w' fun e w'' => e = .returned (.tuple #[secV r, .int .i64 err]) ∧ Below w'.heap.size w' w'' := by
  have hW := doW_disk h y
  by_cases hin : 0 ≤ y.at_ ∧ y.at_ < d.stable.length
  · obtain ⟨i, hi⟩ := Int.eq_ofNat_of_zero_le hin.1
    have hlen := read_len h i (by omega)
    refine ⟨d.read i, 0, hlen, do_read h hk _ _ hlen (by rw [hi]; exact disk_Read_yes hW i (by omega) hpl), fun w' A c B k hr => ?_⟩
    rw [hi]
    exact ref_Read_yes hr i (by omega) hpl
  · refine ⟨zsec, 41, zsec_length, do_read h hk _ _ zsec_length (disk_Read_no hW y.at_ (by omega)), fun w' A c B k _ => ref_Read_no y.at_ (by omega) w'⟩
theorem pair_write (h : DiskAt w base p s v d) (hb : base ≤ w.heap.size) (hpl : d.pend.length ≤ 1000000) (hy : y.data.length = 128) (hk : y.kind = 1) :
    ∃ err d', Calls Try.prog 18 #[.pointer (some ⟨p, 0, none⟩), .agg (actCells y).toArray] w (DoPost w base p s v zsec err d') ∧ d'.pend.length ≤ d.pend.length + 1 ∧
      ∀ (w' : World) A c B k, RDk w' A c B k d → Calls Try.prog 21 #[.agg (rdC A c B k d).toArray, .int .i64 y.at_, .agg (bv y.data).toArray] w' (RefPost (withErr err) w' A B d') := by
  have hW := doW_disk h y
  have hB : base ≤ (doW w y).heap.size := by rw [doW_size]; omega
  by_cases hin : 0 ≤ y.at_ ∧ y.at_ < d.stable.length
  · obtain ⟨i, hi⟩ := Int.eq_ofNat_of_zero_le hin.1
    by_cases hp : d.power.2 = true
    · refine ⟨0, { d.power.1 with pend := d.pend ++ [(i, y.data)] }, do_write h hy hk 0 { d.power.1 with pend := d.pend ++ [(i, y.data)] } ?_, by simp, fun w' A c B k hr => ?_⟩
      · rw [hi]
        refine (disk_Write_yes hW hB i (by omega) y.data hy hp hpl).mono fun e w' ⟨v', he, hd, hkp, hv⟩ => ⟨he, v', hd, hkp, fun g hg => ?_⟩
        rcases hv with hv | ⟨g', hg', hl⟩
        · exact .inl (hv ▸ hg)
        · rw [hg'] at hg
          injection hg with hg
          exact .inr (hg ▸ hl)
      · rw [hi]
        exact (ref_Put_yes hr i (by omega) y.data hy hp hpl).mono fun e w'' ⟨B', k', he, h1, h2, h3⟩ => ⟨A, c, B', k', he, h1, h2, .inl rfl, .inr h3⟩
    · have hp' : d.power.2 = false := by simpa using hp
      refine ⟨42, d.power.1, do_write h hy hk 42 d.power.1 ?_, by rw [power_pend]; omega, fun w' A c B k hr => ?_⟩
      · rw [hi]
        exact (disk_Write_dead hW i (by omega) y.data hp').mono fun e w' ⟨he, hd, hkp⟩ => ⟨he, v, hd, hkp.imp fun i _ hi => .inl hi, fun g hg => .inl hg⟩
      · rw [hi]
        exact (ref_Put_dead hr i (by omega) y.data hy hp').mono fun e w'' ⟨he, hb⟩ => ⟨A, c, B, k, he, hr.power.below hb, hb, .inl rfl, .inl rfl⟩
  · refine ⟨41, d, do_write h hy hk 41 d ?_, by omega, fun w' A c B k hr => ?_⟩
    · exact (disk_Write_no hW y.at_ (by omega) y.data).mono fun e w' ⟨he, hbl⟩ => ⟨he, v, hW.below hbl, Kp.of_below hbl, fun g hg => .inl hg⟩
    · exact (ref_Put_no y.at_ (by omega) y.data hy w').mono fun e w'' ⟨he, hb⟩ => ⟨A, c, B, k, he, hr.below hb, hb, .inl rfl, .inl rfl⟩
theorem pair_flush (h : DiskAt w base p s v d) (hpl : d.pend.length ≤ 1000000) (hk : y.kind = 2) :
    ∃ err d', Calls Try.prog 18 #[.pointer (some ⟨p, 0, none⟩), .agg (actCells y).toArray] w (DoPost w base p s v zsec err d') ∧ d'.pend.length ≤ d.pend.length + 1 ∧
      ∀ (w' : World) A c B k, RDk w' A c B k d → Calls Try.prog 22 #[.agg (rdC A c B k d).toArray] w' (RefPost (withErr err) w' A B d') := by
  have hW := doW_disk h y
  by_cases hp : d.power.2 = true
  · refine ⟨0, d.power.1.flushed, do_flush h hk 0 d.power.1.flushed ?_, by simp [Dk.flushed], fun w' A c B k hr => ?_⟩
    · exact (disk_Flush_yes hW hp hpl).mono fun e w' ⟨he, hd, hkp⟩ => ⟨he, _, hd, hkp, fun g hg => by simp [Value.ownBlock] at hg⟩
    · exact (ref_Flush_yes hr hp hpl).mono fun e w'' ⟨A', c', he, h1, h2, h3⟩ => ⟨A', c', none, 0, he, h1, h2, .inr h3, .inr (FrA.none _ _)⟩
  · have hp' : d.power.2 = false := by simpa using hp
    refine ⟨42, d.power.1, do_flush h hk 42 d.power.1 ?_, by rw [power_pend]; omega, fun w' A c B k hr => ?_⟩
    · exact (disk_Flush_dead hW hp').mono fun e w' ⟨he, hd, hkp⟩ => ⟨he, v, hd, hkp.imp fun i _ hi => .inl hi, fun g hg => .inl hg⟩
    · exact (ref_Flush_dead hr hp').mono fun e w'' ⟨he, hb⟩ => ⟨A, c, B, k, he, hr.power.below hb, hb, .inl rfl, .inl rfl⟩
theorem RDk.fuel {A : Option Addr} {c : Nat} {B : Option Addr} {k : Nat} (h : RDk w A c B k d) (f : Int) (hf : -1 ≤ f ∧ f ≤ 9223372036854775807) : RDk w A c B k { d with fuel := f } :=
  ⟨h.sec, h.pen, h.nc, h.cm, h.pk, h.km, h.len, h.wid, h.pin, hf⟩
theorem pair_break (i : Int) (hi : i ≤ 9223372036854775807) (w' : World) {A : Option Addr} {c : Nat} {B : Option Addr} {k : Nat} (hr : RDk w' A c B k d) :
    Calls Try.prog 23 #[.agg (rdC A c B k d).toArray, .int .i64 i] w' (RefPost justIt w' A B { d with fuel := max i (-1) }) :=
  (ref_Break i w').mono fun e w'' ⟨he, hb⟩ => ⟨A, c, B, k, he, (hr.below hb).fuel _ (by omega), hb, .inl rfl, .inl rfl⟩
theorem pair_crash (hpl : d.pend.length ≤ 1000000) (K : Option Addr) (nk ck : Nat) (keep : List Bool) (torn cut : Int) (w' : World) {A : Option Addr} {c : Nat} {B : Option Addr} {k : Nat} (hr : RDk w' A c B k d) (hk : RBl w' K nk ck keep) :
    Calls Try.prog 24 #[.agg (rdC A c B k d).toArray, .slice K nk ck, .int .i64 torn, .int .i64 cut] w' (RefPost justIt w' A B (d.crashed keep torn cut)) :=
  (ref_Crash hr hpl K nk ck keep hk torn cut).mono fun e w'' ⟨A', c', he, h1, h2, h3⟩ => ⟨A', c', none, 0, he, h1, h2, .inr h3, .inr (FrA.none _ _)⟩
end

/-- A slice lies in blocks that are there, and are not the disk's. -/
def ApB (w : World) (p s : Nat) (v : Value) (A : Option Addr) : Prop := ∀ b o, A = some ⟨b, o, none⟩ → b < w.heap.size ∧ ¬ foot p s v b
theorem ApB.up {w w' : World} {p s : Nat} {v v' : Value} {A : Option Addr} (h : ApB w p s v A) (hs : w.heap.size ≤ w'.heap.size) (hv : ∀ g, v'.ownBlock = some g → v.ownBlock = some g ∨ w.heap.size ≤ g) : ApB w' p s v' A := fun b o e => by
  obtain ⟨h1, h2⟩ := h b o e
  refine ⟨Nat.lt_of_lt_of_le h1 hs, ?_⟩
  rintro (hf | hf | hf)
  · exact h2 (.inl hf)
  · exact h2 (.inr (.inl hf))
  · rcases hv b hf with hf | hf
    · exact h2 (.inr (.inr hf))
    · omega
theorem ApB.new {w w' : World} {base p s : Nat} {v : Value} {d : Dk} (h : DiskAt w base p s v d) {A : Option Addr} (hA : FrA w w' A) : ApB w' p s v A := fun b o e => by
  obtain ⟨h1, h2⟩ := hA b o e
  exact ⟨h2, fun hf => by have := h.foot_lt b hf; omega⟩
theorem foot_not {w : World} {base p s g : Nat} {v : Value} {d : Dk} {t : TypeId} {cs : List Value} (h : DiskAt w base p s v d) (hg : RowAt w g t cs) (h1 : 65 ≠ t) (h2 : 28 ≠ t) (h3 : 68 ≠ t) : ¬ foot p s v g := by
  rintro (rfl | rfl | e)
  · exact ne_of_types h.obj hg h1 rfl
  · exact ne_of_types h.sta hg h2 rfl
  · exact own_ne h.pen hg h3 e
/-- The disk and the document's one side by side: the same data, in blocks apart. -/
structure Two (w1 wr : World) (p s g : Nat) (v : Value) (A : Option Addr) (c : Nat) (B : Option Addr) (k : Nat) (d : Dk) : Prop where
  disk : DiskAt wr w1.heap.size p s v d
  row : RowAt wr g 49 (rdC A c B k d)
  rd : RDk wr A c B k d
  apA : ApB wr p s v A
  apB : ApB wr p s v B
  gA : ∀ b o, A = some ⟨b, o, none⟩ → b ≠ g
  gB : ∀ b o, B = some ⟨b, o, none⟩ → b ≠ g
  bl : Below w1.heap.size w1 wr
section
variable {w1 wr w' : World} {p s g : Nat} {v v' : Value} {A : Option Addr} {c : Nat} {B : Option Addr} {k : Nat} {d d' : Dk}
theorem Two.notFoot (h : Two w1 wr p s g v A c B k d) : ¬ foot p s v g := foot_not h.disk h.row (by decide) (by decide) (by decide)
theorem Two.below (h : Two w1 wr p s g v A c B k d) (hb : Below wr.heap.size wr w') : Two w1 w' p s g v A c B k d :=
  ⟨h.disk.below hb, h.row.below hb, h.rd.below hb, h.apA.up hb.size (fun _ e => .inl e), h.apB.up hb.size (fun _ e => .inl e), h.gA, h.gB, bthen h.bl hb⟩
/-- A box of its own is written. -/
theorem Two.box (h : Two w1 wr p s g v A c B k d) {q : Nat} (hk : Kp (· = q) wr w') (hq : w1.heap.size ≤ q) (hf : ¬ foot p s v q) (hg : q ≠ g) (hA : ∀ b o, A = some ⟨b, o, none⟩ → b ≠ q) (hB : ∀ b o, B = some ⟨b, o, none⟩ → b ≠ q) : Two w1 w' p s g v A c B k d :=
  ⟨h.disk.kept hk (fun i hi e => by subst e; exact hf hi), h.row.kp hk (fun e => hg e.symm), h.rd.kpF hk hA hB, h.apA.up hk.size (fun _ e => .inl e), h.apB.up hk.size (fun _ e => .inl e), h.gA, h.gB, h.bl.trans (kp_one h.bl.size hk hq)⟩
theorem Two.ltA (h : Two w1 wr p s g v A c B k d) : (∀ b o, A = some ⟨b, o, none⟩ → b < wr.heap.size) ∧ (∀ b o, B = some ⟨b, o, none⟩ → b < wr.heap.size) := ⟨fun b o e => (h.apA b o e).1, fun b o e => (h.apB b o e).1⟩
/-- What was done to the disk alone: the document's is still the elder one. -/
structure Half (w1 wr : World) (p s g : Nat) (v : Value) (A : Option Addr) (c : Nat) (B : Option Addr) (k : Nat) (d d' : Dk) : Prop where
  disk : DiskAt wr w1.heap.size p s v d'
  row : RowAt wr g 49 (rdC A c B k d)
  rd : RDk wr A c B k d
  apA : ApB wr p s v A
  apB : ApB wr p s v B
  gA : ∀ b o, A = some ⟨b, o, none⟩ → b ≠ g
  gB : ∀ b o, B = some ⟨b, o, none⟩ → b ≠ g
  bl : Below w1.heap.size w1 wr
theorem Two.acted (h : Two w1 wr p s g v A c B k d) (hd : DiskAt w' w1.heap.size p s v' d') (hk : Kp (foot p s v) wr w') (hv : ∀ q, v'.ownBlock = some q → v.ownBlock = some q ∨ wr.heap.size ≤ q) : Half w1 w' p s g v' A c B k d d' :=
  ⟨hd, h.row.kp hk h.notFoot, h.rd.kpF hk (fun b o e => (h.apA b o e).2) (fun b o e => (h.apB b o e).2), h.apA.up hk.size hv, h.apB.up hk.size hv, h.gA, h.gB, h.bl.trans (hk.below h.bl.size (fun i hi => h.disk.foot_base i hi))⟩
theorem Half.notFoot (h : Half w1 wr p s g v A c B k d d') : ¬ foot p s v g := foot_not h.disk h.row (by decide) (by decide) (by decide)
theorem Half.box (h : Half w1 wr p s g v A c B k d d') {q : Nat} (hk : Kp (· = q) wr w') (hq : w1.heap.size ≤ q) (hf : ¬ foot p s v q) (hg : q ≠ g) (hA : ∀ b o, A = some ⟨b, o, none⟩ → b ≠ q) (hB : ∀ b o, B = some ⟨b, o, none⟩ → b ≠ q) : Half w1 w' p s g v A c B k d d' :=
  ⟨h.disk.kept hk (fun i hi e => by subst e; exact hf hi), h.row.kp hk (fun e => hg e.symm), h.rd.kpF hk hA hB, h.apA.up hk.size (fun _ e => .inl e), h.apB.up hk.size (fun _ e => .inl e), h.gA, h.gB, h.bl.trans (kp_one h.bl.size hk hq)⟩
/-- The document's disk has done the same: its new value will be stored. -/
theorem Half.done (h : Half w1 wr p s g v A c B k d d') {A' : Option Addr} {c' : Nat} {B' : Option Addr} {k' : Nat} {w2 : World} (hr : RDk w' A' c' B' k' d') (hb : Below wr.heap.size wr w') (hA : A' = A ∨ FrA wr w' A') (hB : B' = B ∨ FrA wr w' B') (hk : Kp (· = g) w' w2) (hrow : RowAt w2 g 49 (rdC A' c' B' k' d')) (hg : w1.heap.size ≤ g) : Two w1 w2 p s g v A' c' B' k' d' := by
  have hd := h.disk.below hb
  have hnf : ¬ foot p s v g := h.notFoot
  have ap : ∀ {A A' : Option Addr}, ApB wr p s v A → (A' = A ∨ FrA wr w' A') → ApB w2 p s v A' := fun h0 h1 => by
    rcases h1 with rfl | h1
    · exact h0.up (Nat.le_trans hb.size hk.size) (fun _ e => .inl e)
    · exact (ApB.new h.disk h1).up hk.size (fun _ e => .inl e)
  have hbl := bthen h.bl hb
  have hlt : g < wr.heap.size := lt_of_heap h.row
  have hAg : ∀ b o, A' = some ⟨b, o, none⟩ → b ≠ g := fun b o e => by
    rcases hA with rfl | hA
    · exact h.gA b o e
    · have := (hA b o e).1
      omega
  have hBg : ∀ b o, B' = some ⟨b, o, none⟩ → b ≠ g := fun b o e => by
    rcases hB with rfl | hB
    · exact h.gB b o e
    · have := (hB b o e).1
      omega
  exact ⟨hd.kept hk (fun i hi e => by subst e; exact hnf hi), hrow, hr.kpF hk hAg hBg, ap h.apA hA, ap h.apB hB, hAg, hBg, hbl.trans (kp_one hbl.size hk hg)⟩
end
end Go.Proofs.Ytoghmakbdhepfaa
