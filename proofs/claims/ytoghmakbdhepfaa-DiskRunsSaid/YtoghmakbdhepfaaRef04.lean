/- The document's disk (baileyref04.Disk), a value: what it means, and what There, power, At, New, Break, Read compute. -/
import Derived.Test.YtoghmakbdhepfaaZeroW
import Derived.Test.YtoghmakbdhepfaaDiskX
import Derived.Test.YtoghmakbdhepfaaRowN
namespace Go.Proofs.Ytoghmakbdhepfaa
open Go.RowKit
attribute [local go_sem ↓] build37

/-- A write's cells (a name that the walk leaves alone). -/
def penC (x : Nat × List UInt8) : List Value := .int .i64 (x.1 : Int) :: bv x.2
theorem penC_length (x : Nat × List UInt8) (h : x.2.length = 128) : (penC x).length = 129 := by simp [penC, bv_length, h]
theorem penC_one (x : Nat × List UInt8) : ∀ u ∈ penC x, u.oneCell' = true := fun u hu => by
  rcases List.mem_cons.1 hu with rfl | hu
  · rfl
  · exact bv_one _ u hu
/-- The cells of a disk as a value (a name that the walk leaves alone). -/
def rdC (A : Option Addr) (c : Nat) (B : Option Addr) (k : Nat) (d : Dk) : List Value := [.slice A d.stable.length c, .slice B d.pend.length k, .int .i64 d.fuel, .bool d.dead]
theorem rdC_one (A : Option Addr) (c : Nat) (B : Option Addr) (k : Nat) (d : Dk) : ∀ u ∈ rdC A c B k d, u.oneCell' = true := by simp [rdC, Value.oneCell']
/-- The disk d, its sectors and its writes read in the world w. -/
structure RDk (w : World) (A : Option Addr) (c : Nat) (B : Option Addr) (k : Nat) (d : Dk) : Prop where
  sec : Rd w A d.stable.length 128 (secs d.stable)
  pen : Rd w B d.pend.length 129 (pcells d.pend)
  nc : d.stable.length ≤ c
  cm : c ≤ 9223372036854775807
  pk : d.pend.length ≤ k
  km : k ≤ 9223372036854775807
  len : d.stable.length ≤ 1024
  wid : ∀ x ∈ d.stable, x.length = 128
  pin : ∀ x ∈ d.pend, x.1 < d.stable.length ∧ x.2.length = 128
  fu : -1 ≤ d.fuel ∧ d.fuel ≤ 9223372036854775807
section
variable {w w' : World} {A : Option Addr} {c : Nat} {B : Option Addr} {k : Nat} {d : Dk}
theorem RDk.below (h : RDk w A c B k d) (hb : Below w.heap.size w w') : RDk w' A c B k d := ⟨h.sec.below hb, h.pen.below hb, h.nc, h.cm, h.pk, h.km, h.len, h.wid, h.pin, h.fu⟩
theorem RDk.kp {S : Nat → Prop} (h : RDk w A c B k d) (hk : Kp S w w') (hS : ∀ b, S b → w.heap.size ≤ b) : RDk w' A c B k d := h.below (hk.below (Nat.le_refl _) hS)
theorem Rd.kpF {S : Nat → Prop} {n size : Nat} {cs : List Value} (h : Rd w A n size cs) (hk : Kp S w w') (hA : ∀ b o, A = some ⟨b, o, none⟩ → ¬ S b) : Rd w' A n size cs := by
  refine ⟨h.1, fun hp => ?_⟩
  obtain ⟨b, o, e, hc⟩ := h.2 hp
  refine ⟨b, o, e, fun j u hj => ?_⟩
  have h1 := hc j u hj
  rw [← h1]
  exact World.cell?_of_block (hk.block b (World.block_lt_of_cell? w _ h1) (hA b o e))
theorem RDk.kpF {S : Nat → Prop} (h : RDk w A c B k d) (hk : Kp S w w') (hA : ∀ b o, A = some ⟨b, o, none⟩ → ¬ S b) (hB : ∀ b o, B = some ⟨b, o, none⟩ → ¬ S b) : RDk w' A c B k d := ⟨h.sec.kpF hk hA, h.pen.kpF hk hB, h.nc, h.cm, h.pk, h.km, h.len, h.wid, h.pin, h.fu⟩
/-- A slice lies in blocks that are new since W. -/
def FrA (W W' : World) (A : Option Addr) : Prop := ∀ b o, A = some ⟨b, o, none⟩ → W.heap.size ≤ b ∧ b < W'.heap.size
theorem FrA.none (W W' : World) : FrA W W' none := fun _ _ e => by cases e
theorem FrA.own {base n size cap : Nat} {e : TypeId} {xs : List Value} {W : World} (h : w.ownsRow base e size (.slice A n cap) n xs) (hb : W.heap.size ≤ base) : FrA W w A := fun b o he => by
  subst he
  exact ⟨Nat.le_trans hb (h.lt b rfl).1, (h.lt b rfl).2⟩
theorem RDk.secR (h : RDk w A c B k d) (i : Nat) (hi : i < d.stable.length) : ∃ b o, A = some ⟨b, o, none⟩ ∧ w.rangeAt b (o + i * 128) (bv (secAt d.stable i)) := by
  have hl : (secs (d.stable.take i)).length = i * 128 := by
    rw [secs_length _ (fun x hx => h.wid x (List.mem_of_mem_take hx)), List.length_take]
    congr 1
    omega
  obtain ⟨b, o, hA, hc⟩ := h.sec.2 (by rw [secs_length _ h.wid]; omega)
  refine ⟨b, o, hA, fun j u hj => ?_⟩
  rw [Nat.add_assoc]
  refine hc _ u ?_
  rw [secs_split d.stable i hi]
  have := mid_get (secs (d.stable.take i)) (bv (secAt d.stable i)) (secs (d.stable.drop (i + 1))) j u hj
  rwa [hl] at this
theorem RDk.penR (h : RDk w A c B k d) (i : Nat) (hi : i < d.pend.length) : ∃ b o, B = some ⟨b, o, none⟩ ∧ w.rangeAt b (o + i * 129) (penC (penAt d.pend i)) := by
  have hl : (pcells (d.pend.take i)).length = i * 129 := by
    rw [pcells_length _ (fun x hx => (h.pin x (List.mem_of_mem_take hx)).2), List.length_take]
    congr 1
    omega
  obtain ⟨b, o, hB, hc⟩ := h.pen.2 (by rw [pcells_length _ (fun x hx => (h.pin x hx).2)]; omega)
  refine ⟨b, o, hB, fun j u hj => ?_⟩
  rw [Nat.add_assoc]
  refine hc _ u ?_
  have hp := pcells_split d.pend i hi
  rw [List.append_assoc] at hp
  rw [hp]
  have := mid_get (pcells (d.pend.take i)) (Value.int .i64 ((penAt d.pend i).1 : Int) :: bv (penAt d.pend i).2) (pcells (d.pend.drop (i + 1))) j u hj
  rwa [hl] at this
theorem RDk.pinAt (h : RDk w A c B k d) (i : Nat) (hi : i < d.pend.length) : (penAt d.pend i).1 < d.stable.length ∧ (penAt d.pend i).2.length = 128 := h.pin _ (penAt_mem hi)
theorem RDk.secL (h : RDk w A c B k d) (i : Nat) (hi : i < d.stable.length) : (secAt d.stable i).length = 128 := h.wid _ (secAt_mem hi)
end
theorem Try.sizeRD : (Try.prog.info? 49).map (·.size) = some 4 := by kernel_rfl
theorem Try.sizeRW : (Try.prog.info? 61).map (·.size) = some 129 := by kernel_rfl
theorem size_rw (x : Nat × List UInt8) (h : x.2.length = 128) : (Try.prog.info? 61).map (·.size) = some (penC x).length := by rw [penC_length x h]; exact Try.sizeRW
/-- The fields of a disk in a box. -/
theorem rd_cells {w : World} {g : Nat} {A : Option Addr} {c : Nat} {B : Option Addr} {k : Nat} {d : Dk} (h : RowAt w g 49 (rdC A c B k d)) :
    w.cell? ⟨g, 0, none⟩ = some (.slice A d.stable.length c) ∧ w.cell? ⟨g, 1, none⟩ = some (.slice B d.pend.length k) ∧ w.cell? ⟨g, 2, none⟩ = some (.int .i64 d.fuel) ∧ w.cell? ⟨g, 3, none⟩ = some (.bool d.dead) :=
  ⟨h.cell 0 _ rfl, h.cell 1 _ rfl, h.cell 2 _ rfl, h.cell 3 _ rfl⟩
theorem zsec_new (w : World) : SecAt (w.alloc (.cells Try.zeroCells28 28)) w.heap.size zsec := by
  rw [Try.zero37]
  exact SecAt.new w zsec zsec_length
theorem zsec_new' (w : World) (g : Nat) (hg : g = w.heap.size) : SecAt (w.alloc (.cells Try.zeroCells28 28)) g zsec := hg ▸ zsec_new w
theorem RowAt.new' (w : World) (t : TypeId) (cs : List Value) (g : Nat) (hg : g = w.heap.size) : RowAt (w.alloc (.cells cs.toArray t)) g t cs := hg ▸ RowAt.new w t cs
/-- Results that lie in a variable: a disk; a disk and something more; a sector; a sector and something more. -/
theorem ret_rd {fn : Func} {p : Tmp} (h : fn.results = #[.cell p 49]) (tmps : Array Value) (w : World) (A : Option Addr) (c : Nat) (B : Option Addr) (k : Nat) (d : Dk) (g : Nat) (hp : tmps.getD p undef = .pointer (some ⟨g, 0, none⟩)) (hb : RowAt w g 49 (rdC A c B k d)) :
    (results fn tmps).run Try.prog w = .ok (.agg (rdC A c B k d).toArray) w :=
  res_row h tmps _ _ _ _ _ hp hb.range Try.underlying49 rfl Try.sizeRD
theorem ret_rd_tmp {fn : Func} {p q : Tmp} (h : fn.results = #[.cell p 49, .tmp q]) (tmps : Array Value) (w : World) (A : Option Addr) (c : Nat) (B : Option Addr) (k : Nat) (d : Dk) (u : Value) (g : Nat) (hp : tmps.getD p undef = .pointer (some ⟨g, 0, none⟩)) (hq : tmps.getD q undef = u) (hb : RowAt w g 49 (rdC A c B k d)) :
    (results fn tmps).run Try.prog w = .ok (.tuple #[.agg (rdC A c B k d).toArray, u]) w :=
  res_row_tmp h tmps _ _ _ _ _ u hp hq hb.range Try.underlying49 rfl Try.sizeRD
theorem ret37_atT {fn : Func} {p q : Tmp} (h : fn.results = #[.cell p 28, .tmp q]) (tmps : Array Value) (w : World) (l : List UInt8) (u : Value) (g : Nat) (hp : tmps.getD p undef = .pointer (some ⟨g, 0, none⟩)) (hq : tmps.getD q undef = u) (hb : SecAt w g l) :
    (results fn tmps).run Try.prog w = .ok (.tuple #[secV l, u]) w :=
  res_row_tmp h tmps _ _ _ (bv l) _ u hp hq hb.range Try.underlying28 rfl (Try.size37.trans (by simp [bv_length, hb.2]))
theorem ret37_at1 {fn : Func} {p : Tmp} (h : fn.results = #[.cell p 28]) (tmps : Array Value) (w : World) (l : List UInt8) (g : Nat) (hp : tmps.getD p undef = .pointer (some ⟨g, 0, none⟩)) (hb : SecAt w g l) :
    (results fn tmps).run Try.prog w = .ok (secV l) w :=
  res_row h tmps _ _ _ (bv l) _ hp hb.range Try.underlying28 rfl (Try.size37.trans (by simp [bv_length, hb.2]))

section
variable {w : World} {A : Option Addr} {c : Nat} {B : Option Addr} {k : Nat} {d : Dk}
set_option maxHeartbeats 400000 in
theorem ref_There_yes (i : Nat) (hi : i < d.stable.length) (w : World) : Calls Try.prog 29 #[.agg (rdC A c B k d).toArray, .int .i64 i] w fun e w' => e = .returned (.bool true) ∧ Below w.heap.size w w' := by
  obtain ⟨c0, -, -, -⟩ := rd_cells (RowAt.new w 49 (rdC A c B k d))
  have hk0 : (0 : Int) ≤ (i : Int) := Int.natCast_nonneg _
  have hk1 : (i : Int) < (d.stable.length : Int) := by omega
  go_enter Try.func29, Try.ntmps29
  go_wp2
  go_ret
  exact ⟨ret_bool (by first | rfl | simp), below_alloc w _⟩
set_option maxHeartbeats 400000 in
theorem ref_There_no (i : Int) (hi : i < 0 ∨ (d.stable.length : Int) ≤ i) (w : World) : Calls Try.prog 29 #[.agg (rdC A c B k d).toArray, .int .i64 i] w fun e w' => e = .returned (.bool false) ∧ Below w.heap.size w w' := by
  obtain ⟨c0, -, -, -⟩ := rd_cells (RowAt.new w 49 (rdC A c B k d))
  by_cases h0 : i < 0
  · go_enter Try.func29, Try.ntmps29
    go_wp2
    go_ret
    exact ⟨rfl, below_alloc w _⟩
  · have h1 : (d.stable.length : Int) ≤ i := by omega
    clear hi
    go_enter Try.func29, Try.ntmps29
    go_wp2
    go_ret
    exact ⟨ret_bool (by simp [h1]), below_alloc w _⟩
end
end Go.Proofs.Ytoghmakbdhepfaa
