/- The journal's Add. -/
import Derived.Test.YtgakajofggmbjaaMg12
import Derived.Test.YtgakajofggmbjaaMg10
import Derived.Test.YtgakajofggmbjaaMg11
import Derived.Test.YtgakajofggmbjaaMg3
import Derived.Deep.RegionHeld3
import Derived.Deep.QuietTactic
import Derived.BigQuiet
import Derived.Deep.Cut
import Derived.Deep.CutRange
namespace Go.Proofs.Ytgakajofggmbjaa
open Go.RowKit Go.Shelf
attribute [local go_sem] Oper.semAt_some
attribute [local go_sem ↓] loadAt37 storeAt37

theorem JAt.below {w w' : World} {j p gen count : Nat} {first : Int} (h : JAt w j p first gen count) (hb : Below w.heap.size w w') : JAt w' j p first gen count := RowAt.below h hb
theorem quiet_leftJ {P : Program} {f : FuncId} {args : Array Value} {w : World} {n : Nat} {v : Value}
    (h : Calls P f args (w.drewN n) fun e w' => e = .returned v ∧ w.drewN n = w') : Calls P f args (w.drewN n) fun e w'' => e = .returned v ∧ ∃ m, w'' = w.drewN m :=
  h.mono fun _ _ ⟨he, hm⟩ => ⟨he, n, hm.symm⟩
/-- slices.Chunk, whatever the slice's start where there is nothing. -/
theorem chunk_anyJ (n : Nat) (hn : 1 ≤ n) (Bs Bm b off N q cap : Nat) (A : Option Addr) (hA : 0 < N → A = some ⟨b, off, none⟩) (hq : N ≤ 128 * q ∧ 128 * q < N + 128) (hcap : N ≤ cap) (hcap2 : cap ≤ 9223372036854775807) (hN : N ≤ 140737488355328) (w : World) (hBs0 : Bs < w.heap.size) (hBm0 : Bm < w.heap.size)
    (hBs : w.cell? ⟨Bs, 0, none⟩ = some (.slice A N cap)) (hBm : w.cell? ⟨Bm, 0, none⟩ = some (.int .i64 128)) :
    SeqStopsK Fence.wide n Try.prog 46 #[.pointer (some ⟨Bs, 0, none⟩), .pointer (some ⟨Bm, 0, none⟩)] (fun x : Fin q => #[pieceJ b off N x.1]) (KC Bs Bm) (fun ys => ys.map (·.1) = List.range q) (fun pre => ∃ k, k ≤ q ∧ pre.map (·.1) = List.range k) q w := by
  rcases Nat.eq_zero_or_pos N with rfl | hp
  · obtain rfl : q = 0 := by omega
    intro l J Jx W hW hJ _ hY h0
    have hBs' := (hW.cell (p := ⟨Bs, 0, none⟩) hBs0).trans hBs
    refine (chunk0_in Fence.wide n trivial rfl l Bs Bm A cap (J []) W hBs' h0).mono ?_
    rintro e W' ⟨he, hj⟩
    exact ⟨he, .inl ⟨[], rfl, hj⟩⟩
  · obtain rfl := hA hp
    exact chunk_stops n hn Bs Bm b off N q cap hq hcap hcap2 hN w hBs0 hBm0 hBs hBm
/-- Between two rounds: all the pieces that came are pending. -/
def JI (w : World) (base p s j : Nat) (v : Value) (d : Dk) (first gen count : Nat) (A : Option Addr) (n c : Nat) (b : List UInt8) (q : Nat) (pre : List (Fin q)) (W : World) : Prop :=
  AddI w base p s j v first gen count A n c b ((first + 4 * count + 1 + pre.length : Nat) : Int) 0 (putsL d (first + 4 * count + 1) b (pre.map (·.1))).1 W ∧ (putsL d (first + 4 * count + 1) b (pre.map (·.1))).2.2 = true
/-- Left: no power. -/
def JX (w : World) (base p s j : Nat) (v : Value) (d : Dk) (first gen count : Nat) (A : Option Addr) (n c : Nat) (b : List UInt8) (q : Nat) (cd : Code) (pre : List (Fin q)) (W : World) : Prop :=
  AddI w base p s j v first gen count A n c b ((first + 4 * count + pre.length : Nat) : Int) 42 (putsL d (first + 4 * count + 1) b (pre.map (·.1))).1 W ∧ (putsL d (first + 4 * count + 1) b (pre.map (·.1))).2.2 = false ∧ cd = .ret
theorem ji_own {w : World} {base p s j : Nat} {v : Value} {d : Dk} {first gen count : Nat} {A : Option Addr} {n c : Nat} {b : List UInt8} {q : Nat} (hA : RecAt w p s v A) (hj : j < w.heap.size) : OwnFrom (w.heap.size + 5) (JI w base p s j v d first gen count A n c b q) :=
  OwnFrom.and (addI_own hA hj fun pre : List (Fin q) => (((first + 4 * count + 1 + pre.length : Nat) : Int), 0, (putsL d (first + 4 * count + 1) b (pre.map (·.1))).1)) (fun _ _ _ _ hs _ _ => hs)
theorem jx_own {w : World} {base p s j : Nat} {v : Value} {d : Dk} {first gen count : Nat} {A : Option Addr} {n c : Nat} {b : List UInt8} {q : Nat} (hA : RecAt w p s v A) (hj : j < w.heap.size) (cd : Code) : OwnFrom (w.heap.size + 5) (JX w base p s j v d first gen count A n c b q cd) :=
  OwnFrom.and (addI_own hA hj fun pre : List (Fin q) => (((first + 4 * count + pre.length : Nat) : Int), 42, (putsL d (first + 4 * count + 1) b (pre.map (·.1))).1)) (fun _ _ _ _ hs _ _ => hs)
/-- What Add answers and leaves. -/
def AddPost (w : World) (base p s j : Nat) (v : Value) (d : Dk) (first gen count : Nat) (b : List UInt8) (e : Ending) (w' : World) : Prop :=
  ∃ v', e = .returned (.int .i64 (addM d first gen count b).2.2) ∧ DiskAt w' base p s v' (addM d first gen count b).1 ∧ JAt w' j p first gen (addM d first gen count b).2.1 ∧ Kp (fun k => foot p s v k ∨ k = j) w w' ∧ ∀ g, v'.ownBlock = some g → v.ownBlock = some g ∨ w.heap.size ≤ g
theorem keeps_bl {W W' : World} (h : Below W.heap.size W W') : KeepsOthers W W' :=
  ⟨h.size, fun k o hk _ => (h.block k (Array.getElem?_eq_some_iff.1 hk).1).trans hk⟩
theorem belowN {k : Nat} {w w' : World} (h : Below k w w') (m : Nat) : Below k w (w'.drewN m) := ⟨h.os, h.tape, h.output, h.size, h.block⟩
theorem size_chain (X : World) (nq : Nat) (o1 o2 o3 : Obj) : ((((X.drewN nq).alloc o1).alloc o2).alloc o3).heap.size = X.heap.size + 3 := by
  simp only [World.size_alloc]
  rfl
theorem add_cells (w : World) (o1 o2 o3 : Obj) (nq : Nat) (sl sz : Value) (T T' : TypeId) :
    ((((((w.alloc o1).alloc o2).drewN nq).alloc o3).alloc (.cells #[sl] T)).alloc (.cells #[sz] T')).heap.size = w.heap.size + 5 ∧
    ((((((w.alloc o1).alloc o2).drewN nq).alloc o3).alloc (.cells #[sl] T)).alloc (.cells #[sz] T')).cell? ⟨w.heap.size + 3, 0, none⟩ = some sl ∧
    ((((((w.alloc o1).alloc o2).drewN nq).alloc o3).alloc (.cells #[sl] T)).alloc (.cells #[sz] T')).cell? ⟨w.heap.size + 4, 0, none⟩ = some sz := by
  have e0 : ((w.alloc o1).alloc o2).heap.size = w.heap.size + 2 := by simp
  generalize (w.alloc o1).alloc o2 = X at *
  have e1 : ((X.drewN nq).alloc o3).heap.size = w.heap.size + 3 := by rw [World.size_alloc]; show X.heap.size + 1 = _; omega
  generalize (X.drewN nq).alloc o3 = Y at *
  have h1 := RowAt.new Y T [sl]
  have h2 := RowAt.new (Y.alloc (.cells #[sl] T)) T' [sz]
  rw [World.size_alloc, e1] at h2
  rw [e1] at h1
  exact ⟨by simp [e1], (h1.below (below_alloc _ (.cells #[sz] T'))).cell 0 _ rfl, h2.cell 0 _ rfl⟩
theorem add_start {w : World} {base p s j : Nat} {v : Value} {d : Dk} {first : Int} {gen count : Nat} (hd : DiskAt w base p s v d) (hj : JAt w j p first gen count) {A : Option Addr} {n c : Nat} {b : List UInt8} (hr : RB w A n c b) (nx : Int) (nq : Nat) (sl sz : Value) (T T' : TypeId) :
    AddI w base p s j v first gen count A n c b nx 0 d ((((((w.alloc (.cells #[.pointer (some ⟨j, 0, none⟩)] 33)).alloc (.cells #[.int .i64 0] 41)).drewN nq).alloc (.cells #[.int .i64 nx] 3)).alloc (.cells #[sl] T)).alloc (.cells #[sz] T')) := by
  have b1 := below_alloc2 w (.cells #[.pointer (some ⟨j, 0, none⟩)] 33) (.cells #[.int .i64 0] 41)
  have h0 := RowAt.new w 33 [.pointer (some ⟨j, 0, none⟩)]
  have h1 := RowAt.new (w.alloc (.cells #[.pointer (some ⟨j, 0, none⟩)] 33)) 41 [.int .i64 0]
  have h2 := RowAt.new (((w.alloc (.cells #[.pointer (some ⟨j, 0, none⟩)] 33)).alloc (.cells #[.int .i64 0] 41)).drewN nq) 3 [.int .i64 nx]
  rw [World.size_alloc] at h1
  have e2 : (((w.alloc (.cells #[.pointer (some ⟨j, 0, none⟩)] 33)).alloc (.cells #[.int .i64 0] 41)).drewN nq).heap.size = w.heap.size + 2 := by
    show ((w.alloc (.cells #[.pointer (some ⟨j, 0, none⟩)] 33)).alloc (.cells #[.int .i64 0] 41)).heap.size = _
    simp
  rw [e2] at h2
  have h1' := (h1.below (belowN (Below.refl _ _) nq)).below (below_alloc _ (.cells #[.int .i64 nx] 3))
  have h0' := ((h0.below (below_alloc _ (.cells #[.int .i64 0] 41))).below (belowN (Below.refl _ _) nq)).below (below_alloc _ (.cells #[.int .i64 nx] 3))
  have b2 : Below w.heap.size w ((((w.alloc (.cells #[.pointer (some ⟨j, 0, none⟩)] 33)).alloc (.cells #[.int .i64 0] 41)).drewN nq).alloc (.cells #[.int .i64 nx] 3)) := balloc (belowN b1 nq) _
  generalize hW2 : ((w.alloc (.cells #[.pointer (some ⟨j, 0, none⟩)] 33)).alloc (.cells #[.int .i64 0] 41)).drewN nq = W2 at *
  have b3 := below_alloc2 (W2.alloc (.cells #[.int .i64 nx] 3)) (.cells #[sl] T) (.cells #[sz] T')
  have b4 := bthen b2 b3
  exact ⟨h0'.below b3, h1'.below b3, h2.below b3, hj.below b4, hr.below b4, ⟨v, hd.below b4, fun g hg => .inl hg⟩, Kp.of_below b4, by simp [e2]⟩
/-- Where it ends ahead of the count. -/
theorem AddI.post {w : World} {base p s j : Nat} {v : Value} {d : Dk} {first gen count : Nat} {A : Option Addr} {n c : Nat} {b : List UInt8} {nx : Int} {d' : Dk} {W : World} {err : Int} (h : AddI w base p s j v first gen count A n c b nx err d' W) (hm : addM d first gen count b = (d', count, err)) :
    AddPost w base p s j v d first gen count b (.returned (.int .i64 err)) W := by
  obtain ⟨v', hd, ho⟩ := h.dk
  unfold AddPost
  rw [hm]
  exact ⟨v', rfl, hd, h.jr, h.kp.imp (fun _ _ hf => .inl hf), fun g hg => (ho g hg).imp id (fun h => by omega)⟩
theorem range_split (k q : Nat) (h : k ≤ q) : ∃ r, List.range q = List.range k ++ r := ⟨(List.range (q - k)).map (k + ·), by rw [← List.range_add]; congr 1; omega⟩
set_option maxRecDepth 100000 in
set_option maxHeartbeats 8000000 in
theorem journal_Add {w : World} {base p s j : Nat} {v : Value} {d : Dk} {first gen count : Nat} (hd : DiskAt w base p s v d) (hj : JAt w j p first gen count) (A : Option Addr) (n c : Nat) (b : List UInt8) (hr : RB w A n c b) (hA : RecAt w p s v A)
    (hgen : gen < 281474976710656) (hcount : count ≤ 4) (hfit : first + 16 ≤ d.stable.length) (hpl : d.pend.length ≤ 1000) (hn : n ≤ 140737488351232) (hbase : base ≤ w.heap.size) :
    Calls Try.prog 13 #[.pointer (some ⟨j, 0, none⟩), .slice A n c] w (AddPost w base p s j v d first gen count b) := by
  refine (callsIn_wide (n := 9)).1 ?_
  refine callsIn_of_wp_marks Try.func13 rfl trivial ?_ rfl
  simp only [Try.ntmps13, List.size_toArray, List.length_cons, List.length_nil, Nat.reduceAdd, Nat.reduceSub, Array.replicate_succ, Array.replicate_zero, List.push_toArray, List.append_toArray, List.nil_append, List.cons_append]
  have hlb : b.length = n := hr.1
  have HD := Lib.hid hd; have HJ := Lib.hid hj; have HR := Lib.hid hr
  have hbB : Below w.heap.size w ((w.alloc (.cells #[.pointer (some ⟨j, 0, none⟩)] 33)).alloc (.cells #[.int .i64 0] 41)) := below_alloc2 w _ _
  have HBB := Lib.hid hbB
  have hjw := hj.below hbB
  have hc3 := hjw.c3
  have hc1 := hjw.c1
  clear hd hj hr hbB hjw
  by_cases hbig : 384 < n
  · have q1 : decide ((384 : Int) < (n : Int)) = true := decide_eq_true (by omega)
    gi_wp2
    have e1 := RowAt.new (w.alloc (.cells #[.pointer (some ⟨j, 0, none⟩)] 33)) 41 [.int .i64 63]
    rw [World.size_alloc] at e1
    have c0 := e1.cell 0 _ rfl
    refine ⟨.int .i64 63, ?_, ?_⟩
    · simp [results, Try.f13, go_sem, c0]
    · have hm : addM d first gen count b = (d, count, 63) := by unfold addM; rw [if_pos (by omega)]
      have hb := below_alloc2 w (.cells #[.pointer (some ⟨j, 0, none⟩)] 33) (.cells #[.int .i64 63] 41)
      exact ⟨v, by rw [hm], by rw [hm]; exact HD.out.below hb, by rw [hm]; exact HJ.out.below hb, Kp.of_below hb, fun g hg => .inl hg⟩
  · have q1 : decide ((384 : Int) < (n : Int)) = false := decide_eq_false (by omega)
    by_cases hfull : 4 ≤ count
    · have q2 : decide ((4 : Int) ≤ (count : Int)) = true := decide_eq_true (by omega)
      gi_wp2
      have e1 := RowAt.new (w.alloc (.cells #[.pointer (some ⟨j, 0, none⟩)] 33)) 41 [.int .i64 62]
      rw [World.size_alloc] at e1
      have c0 := e1.cell 0 _ rfl
      refine ⟨.int .i64 62, ?_, ?_⟩
      · simp [results, Try.f13, go_sem, c0]
      · have hm : addM d first gen count b = (d, count, 62) := by unfold addM; rw [if_neg (by omega), if_pos hfull]
        have hb := below_alloc2 w (.cells #[.pointer (some ⟨j, 0, none⟩)] 33) (.cells #[.int .i64 62] 41)
        exact ⟨v, by rw [hm], by rw [hm]; exact HD.out.below hb, by rw [hm]; exact HJ.out.below hb, Kp.of_below hb, fun g hg => .inl hg⟩
    · have q2 : decide ((4 : Int) ≤ (count : Int)) = false := decide_eq_false (by omega)
      have hf1 : first ≤ 100000 := by have := HD.out.len; omega
      have hnx : IntKind.i64.wrap (((first + 4 * count : Nat) : Int) + 1) = ((first + 4 * count + 1 : Nat) : Int) := by simp [IntKind.wrap, IntKind.signed, IntKind.bits]; omega
      gi_wp2
      refine wpIn_wide.2 ?_
      go_quiet (exact quiet_leftJ (journal_head first count hf1 (by omega) _))
      gi_wp2_with (refine ⟨trivial, ?_⟩; gi_at_call 26; refine (callsIn_wide.2 (chunk_make _ _ _ _)).mono ?_; rintro e w' ⟨rfl, rfl⟩)
      obtain ⟨q, HQ⟩ : ∃ q, Hid (q = (n + 127) / 128) := ⟨_, Lib.hid rfl⟩
      have hq : n ≤ 128 * q ∧ 128 * q < n + 128 := by have := HQ.out; omega
      have hnx1 : (((first + 4 * count : Nat) : Int) + 1) = ((first + 4 * count + 1 : Nat) : Int) := by omega
      have hjw : j < w.heap.size := HJ.out.lt
      have hst := add_start HD.out HJ.out HR.out ((first + 4 * count + 1 : Nat) : Int) nq (.slice A n c) (.int .i64 128) 37 3
      obtain ⟨bk, off, hAk⟩ : ∃ bk off, 0 < n → A = some ⟨bk, off, none⟩ := by
        by_cases h0 : 0 < n
        · obtain ⟨bk, off, h, _⟩ := HR.out.2.2.2 h0
          exact ⟨bk, off, fun _ => h⟩
        · exact ⟨0, 0, fun h => absurd h h0⟩
      obtain ⟨hsW, hk1, hk2⟩ := add_cells w (.cells #[.pointer (some ⟨j, 0, none⟩)] 33) (.cells #[.int .i64 0] 41) (.cells #[.int .i64 ((first + 4 * count + 1 : Nat) : Int)] 3) nq (.slice A n c) (.int .i64 128) 37 3
      rw [show ((first + 4 * count + 1 : Nat) : Int) = ((first : Int) + 4 * (count : Int) + 1) by omega] at hst hk1 hk2 hsW
      generalize hWs : (((((w.alloc (.cells #[.pointer (some ⟨j, 0, none⟩)] 33)).alloc (.cells #[.int .i64 0] 41)).drewN nq).alloc (.cells #[.int .i64 ((first : Int) + 4 * (count : Int) + 1)] 3)).alloc (.cells #[.slice A n c] 37)).alloc (.cells #[.int .i64 128] 3) = Ws at *
      clear hWs
      have HST := Lib.hid hst
      clear hst hc3 hc1 HBB
      refine' wpIn_rangeFunc_ownG (F := Fence.wide) rfl (by omega) (gf := 46) (lb := #[.pointer (some ⟨w.heap.size + 3, 0, none⟩), .pointer (some ⟨w.heap.size + 4, 0, none⟩)]) rfl trivial (enters_of Try.func46 (by kernel_rfl) rfl)
          (chunk_anyJ _ (by omega) (w.heap.size + 3) (w.heap.size + 4) bk off n q c A hAk hq HR.out.2.1 HR.out.2.2.1 (by omega) Ws (by omega) (by omega) hk1 hk2) KC.trans (KC.put (by omega) (by omega)) (Below.refl _ _) (fun _ => rfl)
          (JI w base p s j v d first gen count A n c b q) (JX w base p s j v d first gen count A n c b q) (by rw [hsW]; exact ji_own hA hjw) (fun cd => by rw [hsW]; exact jx_own hA hjw cd)
          ⟨by rw [show ((first + 4 * count + 1 + ([] : List (Fin q)).length : Nat) : Int) = ((first : Int) + 4 * (count : Int) + 1) by simp]; exact HST.out, rfl⟩ _ ?assign1 ?body1 ?done1 ?stop1
      case assign1 =>
        intro l x W K hK
        gi_wp2
        exact hK
      case stop1 =>
        rintro D cd pre W hD ⟨k, hk, hpre⟩ ⟨hI, hno, rfl⟩ hK
        rw [hsW] at hD
        obtain ⟨r, hr⟩ := range_split k q hk
        have hm : addM d first gen count b = ((putsL d (first + 4 * count + 1) b (pre.map (·.1))).1, count, 42) := by
          unfold addM
          rw [if_neg (by omega), if_neg hfull]
          have e : putsL d (first + 4 * count + 1) b (List.range ((b.length + 127) / 128)) = putsL d (first + 4 * count + 1) b (pre.map (·.1)) := by
            rw [hlb, ← HQ.out, hr, hpre, putsL_false _ _ _ _ _ (hpre ▸ hno)]
          simp only [e, hno, if_true]
        have hI5 := (addI_own hA hjw (fun _ : Unit => (((first + 4 * count + pre.length : Nat) : Int), (42 : Int), (putsL d (first + 4 * count + 1) b (pre.map (·.1))).1)) (base := base) (first := (first : Int)) (gen := gen) (count := count) (n := n) (c := c) (b := b) (s := s)).putObj (s := ()) (.deferred none) hI hD hK rfl
        have c1 := hI5.eb.cell 0 _ rfl
        gi_wp2
        refine ⟨by simp, .inl ⟨_, _, rfl, run_takeDeferred hK, ?_⟩⟩
        refine ⟨.int .i64 42, ?_, hI5.post hm⟩
        simp [results, Try.f13, go_sem, c1]
      case body1 =>
        rintro l pre x W ⟨hI, hok⟩ hlt
        have hx := x.2
        obtain rfl : A = some ⟨bk, off, none⟩ := hAk (by omega)
        have HI := Lib.hid hI
        obtain ⟨m, HM⟩ : ∃ m, Hid (m = min 128 (n - 128 * x.1)) := ⟨_, Lib.hid rfl⟩
        have hpl2 : ((b.drop (128 * x.1)).take 128).length = m := by rw [HM.out, List.length_take, List.length_drop, hlb]
        have HLN : Hid ((bv ((b.drop (128 * x.1)).take 128)).length = Nat.min (min 128 (n - 128 * x.1)) 128) := Lib.hid (by rw [bv_length, hpl2, HM.out]; show _ = min _ _; omega)
        have HSRC : Hid (∀ (j : Nat) (u : Value), (bv ((b.drop (128 * x.1)).take 128))[j]? = some u → (W.alloc (.cells Try.zeroCells55 55)).cell? ((⟨bk, off + 128 * x.1, none⟩ : Addr).add j) = some u) := Lib.hid (fun i u hu => by
          have hi : i < ((b.drop (128 * x.1)).take 128).length := by
            have := (List.getElem?_eq_some_iff.1 hu).1
            rwa [bv_length] at this
          rw [bv_get _ _ hi] at hu
          injection hu with hu
          obtain ⟨b', o', hbo, hc⟩ := hI.rb.2.2.2 (by omega)
          injection hbo with hbo
          injection hbo with hb1 ho1
          subst hb1 ho1
          have hc2 := hc (128 * x.1 + i) (by rw [hpl2, HM.out] at hi; omega)
          rw [add_none, Nat.add_assoc, ← hu]
          refine ((below_alloc W _).cell (p := ⟨bk, off + (128 * x.1 + i), none⟩) (World.block_lt_of_cell? W _ hc2)).trans ?_
          rw [hc2]
          congr 3
          simp only [at8, List.getD_eq_getElem?_getD]
          rw [List.getElem?_take_of_lt (by rw [hpl2, HM.out] at hi; omega), List.getElem?_drop])
        have HTH : Hid ((W.alloc (.cells Try.zeroCells55 55)).there W.heap.size 0 (bv ((b.drop (128 * x.1)).take 128)).length) := Lib.hid (fun i hi => there_alloc W Try.zeroCells55 55 i (by rw [bv_length, hpl2, HM.out] at hi; show i < 128; omega))
        gi_wp2_with (refine wpListIn_copy (by rfl) _ _ _ _ (by rfl) 5 Try.underlying37 (by kernel_rfl) W.heap.size 0 128 128 ⟨bk, off + 128 * x.1, none⟩ (min 128 (n - 128 * x.1)) (min 128 (n - 128 * x.1)) (by rfl) (by rfl) (bv ((b.drop (128 * x.1)).take 128)) HLN.out HSRC.out HTH.out (bv_one _) ?_)
        have hsec : SecAt ((W.alloc (.cells Try.zeroCells55 55)).setCells W.heap.size 0 (bv ((b.drop (128 * x.1)).take 128))) W.heap.size (pieceS b x.1) ∧ Below W.heap.size W ((W.alloc (.cells Try.zeroCells55 55)).setCells W.heap.size 0 (bv ((b.drop (128 * x.1)).take 128))) := by
          have hz := zsec_new W
          obtain ⟨hz1, hz2⟩ := setCells_heap W.heap.size 55 (bv ((b.drop (128 * x.1)).take 128)) (bv zsec).toArray 0 _ hz.1 (by rw [bv_length, hpl2, HM.out]; simp [bv_length, zsec_length]; omega)
          refine ⟨⟨by rw [hz1, List.toList_toArray, bv_splice]; rfl, pieceS_length _ _⟩, (below_alloc W _).trans (hz2.below (by simp) (fun _ e => e ▸ Nat.le_refl _))⟩
        obtain ⟨hsec, hB3⟩ := hsec
        generalize (W.alloc (.cells Try.zeroCells55 55)).setCells W.heap.size 0 (bv ((b.drop (128 * x.1)).take 128)) = W3 at *
        obtain ⟨v', hdW, ho⟩ := hI.dk
        have hI3 := (hI.below hB3).below (belowN (Below.refl _ _) 1)
        have hd3 : DiskAt W3.drew base p s v' (putsL d (first + 4 * count + 1) b (pre.map (·.1))).1 := (hdW.below hB3).drew
        have hft : ∀ k, foot p s v' k → k < w.heap.size ∨ w.heap.size + 5 ≤ k := fun k hf => (foot_up ho k hf).imp (fun h => HD.out.foot_lt k h) (fun h => h)
        have hf8 : ¬ foot p s v' W.heap.size := fun hf => Nat.lt_irrefl _ (hdW.foot_lt _ hf)
        have hkp3 : KeepsOthers W W3.drew := (keeps_bl hB3).trans (KeepsOthers.drew W3)
        have hkc3 : KC (w.heap.size + 3) (w.heap.size + 4) W W3.drew := KC.of_below hB3.drew (by have := hI.sz; omega) (by have := hI.sz; omega)
        obtain ⟨f1, f2, f3⟩ := putsL_true d (first + 4 * count + 1) b (pre.map (·.1)) d (first + 4 * count + 1) hok
        have HF := Lib.hid (⟨f1, f2, f3⟩ : (putsL d (first + 4 * count + 1) b (pre.map (·.1))).2.1 = _ ∧ (putsL d (first + 4 * count + 1) b (pre.map (·.1))).1.stable = _ ∧ (putsL d (first + 4 * count + 1) b (pre.map (·.1))).1.pend.length = _)
        clear f1 f2 f3
        have HD3 := Lib.hid hd3; have HKP3 := Lib.hid hkp3; have HKC3 := Lib.hid hkc3; have HFT := Lib.hid hft; have HO := Lib.hid ho; have HF8 := Lib.hid hf8
        clear hd3 hkp3 hkc3 hft ho hf8 hdW
        have hS3 := hsec.below (belowN (Below.refl _ _) 1)
        have hmx : Try.prog.follows .mixedOrders = true := by kernel_rfl
        have HI3 := Lib.hid hI3
        have HS3 := Lib.hid hS3
        have hS : W3.drew.cell? ⟨w.heap.size, 0, none⟩ = some (.pointer (some ⟨j, 0, none⟩)) ∧ W3.drew.cell? ⟨j, 0, none⟩ = some (.pointer (some ⟨p, 0, none⟩)) ∧ W3.drew.cell? ⟨w.heap.size + 2, 0, none⟩ = some (.int .i64 ((first + 4 * count + 1 + pre.length : Nat) : Int)) ∧ (ldSec (.pointer (some ⟨W.heap.size, 0, none⟩))).run Try.prog W3.drew = .ok (.agg (bv (pieceS b x.1)).toArray) W3.drew := ⟨hI3.jb.cell 0 _ rfl, hI3.jr.c0, hI3.nb.cell 0 _ rfl, run_ldSec hS3.range hS3.2⟩
        clear hsec hB3 hI hI3 hS3 HTH HSRC HLN hpl2 HI HST hk1 hk2
        refine wpIn_region_round (S := fun W' => W'.cell? ⟨w.heap.size, 0, none⟩ = some (.pointer (some ⟨j, 0, none⟩)) ∧ W'.cell? ⟨j, 0, none⟩ = some (.pointer (some ⟨p, 0, none⟩)) ∧ W'.cell? ⟨w.heap.size + 2, 0, none⟩ = some (.int .i64 ((first + 4 * count + 1 + pre.length : Nat) : Int)) ∧ (ldSec (.pointer (some ⟨W.heap.size, 0, none⟩))).run Try.prog W' = .ok (.agg (bv (pieceS b x.1)).toArray) W') hmx (by kernel_rfl) ?_
        refine wpAnyH_take (i := 0) (v := ?_) rfl (by kernel_rfl) (by kernel_rfl) (by kernel_rfl) (fun _ _ _ h => h) (Or.inl ⟨by rfl, ?_⟩) hS ?_
        rotate_left
        · intro w hSw
          try dsimp only at hSw
          go_simp
          try with_reducible rfl
        try simp only [Act.put, List.setIfInBounds_toArray]
        refine wpAnyH_take (i := 1) (v := ?_) rfl (by kernel_rfl) (by kernel_rfl) (by kernel_rfl) (fun _ _ _ h => h) (Or.inl ⟨by rfl, ?_⟩) hS ?_
        rotate_left
        · intro w hSw
          try dsimp only at hSw
          go_simp
          try with_reducible rfl
        try simp only [Act.put]
        refine wpAnyH_take (i := 2) (v := ?_) rfl (by kernel_rfl) (by kernel_rfl) (by kernel_rfl) (fun _ _ _ h => h) (Or.inl ⟨by rfl, ?_⟩) hS ?_
        rotate_left
        · intro w hSw
          try dsimp only at hSw
          go_simp
          try with_reducible rfl
        try simp only [Act.put]
        refine wpAnyH_take (i := 3) (v := ?_) rfl (by kernel_rfl) (by kernel_rfl) (by kernel_rfl) (fun _ _ _ h => h) (Or.inl ⟨by rfl, ?_⟩) hS ?_
        rotate_left
        · intro w hSw
          try dsimp only at hSw
          go_simp
          try with_reducible rfl
        try simp only [Act.put]
        refine wpAnyH_take (i := 4) (v := ?_) rfl (by kernel_rfl) (by kernel_rfl) (by kernel_rfl) (fun _ _ _ h => h) (Or.inl ⟨by rfl, ?_⟩) hS ?_
        rotate_left
        · intro w hSw
          try dsimp only at hSw
          go_simp
          try with_reducible rfl
        try simp only [Act.put]
        refine wpAnyH_take (i := 5) (v := ?_) rfl (by kernel_rfl) (by kernel_rfl) (by kernel_rfl) (fun _ _ _ h => h) (Or.inl ⟨by rfl, ?_⟩) hS ?_
        rotate_left
        · intro w hSw
          try dsimp only at hSw
          go_simp
          try with_reducible rfl
        try simp only [Act.put]
        refine wpAnyH_ready (rs := [6]) (by kernel_rfl) (by simp) (AllReadyH.cons rfl (fun K hK => ?_) AllReadyH.nil)
        go_simp
        clear hS
        have hkl : first + 4 * count + 1 + pre.length < (putsL d (first + 4 * count + 1) b (pre.map (·.1))).1.stable.length := by rw [HF.out.2.1]; omega
        have hpend : (putsL d (first + 4 * count + 1) b (pre.map (·.1))).1.pend.length ≤ 1000000 := by rw [HF.out.2.2, List.length_map]; omega
        have hmap : (pre ++ [x]).map (fun y : Fin q => y.1) = pre.map (fun y : Fin q => y.1) ++ [x.1] := by simp
        have hlen : (pre ++ [x]).length = pre.length + 1 := by simp
        by_cases hpw : (putsL d (first + 4 * count + 1) b (pre.map (·.1))).1.power.2 = true
        · refine (disk_Write_yes HD3.out (Nat.le_trans hbase (Nat.le_trans (Nat.le_add_right _ 5) HI3.out.sz)) (first + 4 * count + 1 + pre.length) hkl (pieceS b x.1) (pieceS_length _ _) hpw hpend).mono ?_
          rintro e w4 ⟨v4, rfl, hd4, hk4, hv4⟩
          have hI4 := HI3.out.acted hA HD3.out HO.out hd4 hk4 (fun g hg => by
            rcases hv4 with h | ⟨g', h, h'⟩
            · exact .inl (h ▸ hg)
            · rw [h] at hg; cases hg; exact .inr h')
          have hS4 := HS3.out.kp hk4 HF8.out
          have c2 := hI4.nb.cell 0 _ rfl
          have z2 := frozen_of_row w4 (w.heap.size + 2) 0 _ _ hI4.nb
          have hwr : IntKind.i64.wrap (((first + 4 * count + 1 + pre.length : Nat) : Int) + 1) = ((first + 4 * count + 1 + pre.length + 1 : Nat) : Int) := by simp [IntKind.wrap, IntKind.signed, IntKind.bits]; omega
          have hfin : KeepsFrom (w.heap.size + 5) W (w4.setCell ⟨w.heap.size + 2, 0, none⟩ (.int .i64 ((first + 4 * count + 1 + pre.length + 1 : Nat) : Int))) ∧ KC (w.heap.size + 3) (w.heap.size + 4) W (w4.setCell ⟨w.heap.size + 2, 0, none⟩ (.int .i64 ((first + 4 * count + 1 + pre.length + 1 : Nat) : Int))) ∧ JI w base p s j v d first gen count (some ⟨bk, off, none⟩) n c b q (pre ++ [x]) (w4.setCell ⟨w.heap.size + 2, 0, none⟩ (.int .i64 ((first + 4 * count + 1 + pre.length + 1 : Nat) : Int))) := by
            refine ⟨((HKP3.out.trans (keeps_foot HD3.out hk4)).trans (KeepsOthers.setCell _ _ _)).from _, HKC3.out.trans ⟨?_, ?_⟩, ?_, ?_⟩
            · refine (Below.heap_setCell _ _ _ _ (by show _ ≠ w.heap.size + 2; omega)).trans (hk4.block _ (Nat.lt_of_lt_of_le (by omega) HI3.out.sz) (fun hf => by have := HFT.out _ hf; omega))
            · refine (Below.heap_setCell _ _ _ _ (by show _ ≠ w.heap.size + 2; omega)).trans (hk4.block _ (Nat.lt_of_lt_of_le (by omega) HI3.out.sz) (fun hf => by have := HFT.out _ hf; omega))
            · have h5 := hI4.next hA hjw ((first + 4 * count + 1 + pre.length + 1 : Nat) : Int)
              rw [hmap, hlen, putsL_snoc]
              have e : (putStep b (putsL d (first + 4 * count + 1) b (pre.map (fun y : Fin q => y.1))) x.1).1 = { (putsL d (first + 4 * count + 1) b (pre.map (fun y : Fin q => y.1))).1.power.1 with pend := (putsL d (first + 4 * count + 1) b (pre.map (fun y : Fin q => y.1))).1.pend ++ [(first + 4 * count + 1 + pre.length, pieceS b x.1)] } := by
                unfold putStep
                rw [if_pos hok, if_pos hpw]
                simp only [Dk.push, power_pend, HF.out.1, List.length_map]
              rw [e]
              exact h5
            · rw [hmap, putsL_snoc]
              unfold putStep
              rw [if_pos hok, if_pos hpw]
          have HFIN := Lib.hid hfin
          have q4 : w4.cell? ⟨w.heap.size, 0, none⟩ = some (.pointer (some ⟨j, 0, none⟩)) ∧ w4.cell? ⟨j, 0, none⟩ = some (.pointer (some ⟨p, 0, none⟩)) ∧ w4.cell? ⟨w.heap.size + 2, 0, none⟩ = some (.int .i64 ((first + 4 * count + 1 + pre.length : Nat) : Int)) ∧ (ldSec (.pointer (some ⟨W.heap.size, 0, none⟩))).run Try.prog w4 = .ok (.agg (bv (pieceS b x.1)).toArray) w4 := ⟨hI4.jb.cell 0 _ rfl, hI4.jr.c0, hI4.nb.cell 0 _ rfl, run_ldSec hS4.range hS4.2⟩
          clear hfin hI4 hS4 hd4 hk4 hv4
          refine hK.out _ _ ?_ (fun hS => ?_)
          · exact q4
          clear hK K q4
          try simp only [Act.put, List.setIfInBounds_toArray, List.set_cons_zero, List.set_cons_succ]
          refine wpAnyH_take (i := 7) (v := ?_) rfl (by kernel_rfl) (by kernel_rfl) (by kernel_rfl) (fun _ _ _ h => h) (Or.inl ⟨by rfl, ?_⟩) hS ?_
          rotate_left
          · intro w hSw
            try dsimp only at hSw
            go_simp
            try with_reducible rfl
          try simp only [Act.put, List.setIfInBounds_toArray]
          refine wpAnyH_done (by kernel_rfl) ?_ _
          clear hS
          dsimp only [OnlyN]
          gi_wp2
          exact HFIN.out
        · have hpf : (putsL d (first + 4 * count + 1) b (pre.map (·.1))).1.power.2 = false := by simpa using hpw
          refine (disk_Write_dead HD3.out (first + 4 * count + 1 + pre.length) hkl (pieceS b x.1) hpf).mono ?_
          rintro e w4 ⟨rfl, hd4, hk4'⟩
          have hk4 := hk4'.imp (S' := foot p s v') (fun i _ h => .inl h)
          have hI4 := HI3.out.acted hA HD3.out HO.out hd4 hk4 (fun g hg => .inl hg)
          have hS4 := HS3.out.kp hk4 HF8.out
          have c2 := hI4.eb.cell 0 _ rfl
          have z2 := frozen_of_row w4 (w.heap.size + 1) 0 _ _ hI4.eb
          have hfin : KeepsFrom (w.heap.size + 5) W (w4.setCell ⟨w.heap.size + 1, 0, none⟩ (.int .i64 42)) ∧ JX w base p s j v d first gen count (some ⟨bk, off, none⟩) n c b q .ret (pre ++ [x]) (w4.setCell ⟨w.heap.size + 1, 0, none⟩ (.int .i64 42)) := by
            refine ⟨((HKP3.out.trans (keeps_foot HD3.out hk4)).trans (KeepsOthers.setCell _ _ _)).from _, ?_, ?_, rfl⟩
            · have h5 := hI4.error hA hjw 42
              have e : (putStep b (putsL d (first + 4 * count + 1) b (pre.map (fun y : Fin q => y.1))) x.1).1 = (putsL d (first + 4 * count + 1) b (pre.map (fun y : Fin q => y.1))).1.power.1 := by
                unfold putStep
                rw [if_pos hok, if_neg hpw]
              rw [hmap, hlen, putsL_snoc, e, show first + 4 * count + (pre.length + 1) = first + 4 * count + 1 + pre.length by omega]
              exact h5
            · rw [hmap, putsL_snoc]
              unfold putStep
              rw [if_pos hok, if_neg hpw]
          have HFIN := Lib.hid hfin
          have q4 : w4.cell? ⟨w.heap.size, 0, none⟩ = some (.pointer (some ⟨j, 0, none⟩)) ∧ w4.cell? ⟨j, 0, none⟩ = some (.pointer (some ⟨p, 0, none⟩)) ∧ w4.cell? ⟨w.heap.size + 2, 0, none⟩ = some (.int .i64 ((first + 4 * count + 1 + pre.length : Nat) : Int)) ∧ (ldSec (.pointer (some ⟨W.heap.size, 0, none⟩))).run Try.prog w4 = .ok (.agg (bv (pieceS b x.1)).toArray) w4 := ⟨hI4.jb.cell 0 _ rfl, hI4.jr.c0, hI4.nb.cell 0 _ rfl, run_ldSec hS4.range hS4.2⟩
          clear hfin hI4 hS4 hd4 hk4 hk4'
          refine hK.out _ _ ?_ (fun hS => ?_)
          · exact q4
          clear hK K q4
          try simp only [Act.put, List.setIfInBounds_toArray, List.set_cons_zero, List.set_cons_succ]
          refine wpAnyH_take (i := 7) (v := ?_) rfl (by kernel_rfl) (by kernel_rfl) (by kernel_rfl) (fun _ _ _ h => h) (Or.inl ⟨by rfl, ?_⟩) hS ?_
          rotate_left
          · intro w hSw
            try dsimp only at hSw
            go_simp
            try with_reducible rfl
          try simp only [Act.put, List.setIfInBounds_toArray]
          refine wpAnyH_done (by kernel_rfl) ?_ _
          clear hS
          dsimp only [OnlyN]
          gi_wp2
          exact HFIN.out
      case done1 =>
        rintro D ys W hD hys ⟨hI, hok⟩ hK
        rw [hsW] at hD
        rw [hys] at hI hok
        obtain ⟨f1, f2, f3⟩ := putsL_true d (first + 4 * count + 1) b (List.range q) d (first + 4 * count + 1) hok
        have HST2 : Hid ((putsL d (first + 4 * count + 1) b (List.range q)).1.stable = d.stable) := Lib.hid f2
        have HPE2 : Hid ((putsL d (first + 4 * count + 1) b (List.range q)).1.pend.length ≤ 1010) := Lib.hid (by rw [show (putsL d (first + 4 * count + 1) b (List.range q)).1.pend.length = _ from f3, List.length_range]; have := HQ.out; omega)
        have HM0 : Hid (addM d first gen count b = (if (putsL d (first + 4 * count + 1) b (List.range q)).1.flush.2 = false then ((putsL d (first + 4 * count + 1) b (List.range q)).1.flush.1, count, 42)
          else if (putsL d (first + 4 * count + 1) b (List.range q)).1.flush.1.power.2 = false then ((putsL d (first + 4 * count + 1) b (List.range q)).1.flush.1.power.1, count, 42)
          else if ((putsL d (first + 4 * count + 1) b (List.range q)).1.flush.1.power.1.push (first + 4 * count) (sealL (gen * 256 + (count + 1)) (hdBody b))).flush.2 = false then (((putsL d (first + 4 * count + 1) b (List.range q)).1.flush.1.power.1.push (first + 4 * count) (sealL (gen * 256 + (count + 1)) (hdBody b))).flush.1, count, 42) else (((putsL d (first + 4 * count + 1) b (List.range q)).1.flush.1.power.1.push (first + 4 * count) (sealL (gen * 256 + (count + 1)) (hdBody b))).flush.1, count + 1, 0))) := Lib.hid (by
          unfold addM
          rw [if_neg (by omega), if_neg hfull, hlb, ← HQ.out]
          simp only [hok, if_neg (show ¬ (true = false) by decide)])
        generalize (putsL d (first + 4 * count + 1) b (List.range q)).1 = D1 at *
        clear f1 f2 f3 hok hk1 hk2 HST
        have c0 := hI.jb.cell 0 _ rfl
        have c1 := hI.jr.c0
        obtain ⟨v1, hd1, ho1⟩ := hI.dk
        have hpe1 : D1.pend.length ≤ 1000000 := by have := HPE2.out; omega
        by_cases hfl : D1.flush.2 = true
        · have HFL := disk_Flush_any hd1 hpe1
          rw [if_pos hfl] at HFL
          have HI := Lib.hid hI; have HD1 := Lib.hid hd1
          have hwn : IntKind.u64.wrap (n : Int) = (n : Int) := by simp [IntKind.wrap, IntKind.signed, IntKind.bits]; omega
          have hcl : (crcAdd 0#32 b).toNat < 4294967296 := (crcAdd 0#32 b).isLt
          have hwc : IntKind.u64.wrap (((crcAdd 0#32 b).toNat : Nat) : Int) = (((crcAdd 0#32 b).toNat : Nat) : Int) := by simp only [IntKind.wrap, IntKind.signed, IntKind.bits]; simp; omega
          clear hI hd1
          gi_wp2_with (first
            | (refine ⟨trivial, ?_⟩; gi_at_call 28; refine (callsIn_wide.2 HFL).mono ?_; rintro e w2 ⟨v2, rfl, hd2, hk2, ho2⟩; have hI2 := HI.out.acted hA HD1.out ho1 hd2 hk2 ho2)
            | (refine ⟨trivial, ?_⟩; gi_at_call 30; refine (callsIn_wide.2 (crc_Sum1 A n c b w2 hI2.rb)).mono ?_; rintro e w3 ⟨rfl, rfl⟩)
            | (refine ⟨trivial, ?_⟩; gi_at_call 29; refine (callsIn_wide.2 (head_Pack b n hlb (by omega) (w2.alloc (.cells #[.slice A n c] 37)) (w2.heap.size + 1) (by rw [World.size_alloc]))).mono ?_; rintro e w5 ⟨A5, c5, rfl, hr5, hb5⟩))
          have hI5 := hI2.below (bthen (below_alloc w2 (.cells #[.slice A n c] 37)) hb5)
          have hK5 : w5.heap[D]? = some (.deferred (some [])) := (keeps_bl (bthen (below_alloc w2 (.cells #[.slice A n c] 37)) hb5)).same D _ ((keeps_foot HD1.out hk2).same D _ hK rfl) rfl
          have HI5 := Lib.hid hI5; have HK5 := Lib.hid hK5; have HR5 := Lib.hid hr5
          have hmk : gen * 256 + (count + 1) < 18446744073709551616 := by omega
          have hwq : IntKind.i64.wrap ((count : Int) + 1) = ((count + 1 : Nat) : Int) := by simp [IntKind.wrap, IntKind.signed, IntKind.bits]; omega
          have HMARK := Lib.hid (fun W' : World => journal_mark gen (count + 1) hmk (by omega) W')
          have HMAKE := Lib.hid (fun (W' : World) (h : Below w5.heap.size w5 W') => mark_seal (gen * 256 + (count + 1)) hmk (by omega) A5 6 c5 (hdBody b) W' (HR5.out.below h) (by omega))
          have HLL : Hid ((sealL (gen * 256 + (count + 1)) (hdBody b)).length = 128) := Lib.hid (sealL_length (by rw [hdBody_length]; omega))
          have HSO := Lib.hid (fun (W' : World) (h : Below w5.heap.size w5 W') => (⟨(HI5.out.below h).jb.cell 0 _ rfl, (HI5.out.below h).jr.c2, (HI5.out.below h).jr.c3⟩ : W'.cell? ⟨w.heap.size, 0, none⟩ = some (.pointer (some ⟨j, 0, none⟩)) ∧ W'.cell? ⟨j, 2, none⟩ = some (.int .u64 (gen : Int)) ∧ W'.cell? ⟨j, 3, none⟩ = some (.int .i64 (count : Int))))
          have hmx : Try.prog.follows .mixedOrders = true := by kernel_rfl
          clear hI5 hK5 hr5 hI2 hd2 hk2 ho2 hb5 HFL c0 c1
          refine wpIn_wide.2 ?_
          go_cut [13, 14] from 76 to 90 (fun pp ee wx => ∃ g, pp = .pointer (some ⟨g, 0, none⟩) ∧ ee = .int .i64 0 ∧ Hid (SecAt wx g (sealL (gen * 256 + (count + 1)) (hdBody b))) ∧ Hid (w5.heap.size ≤ g) ∧ Hid (Below w5.heap.size w5 wx))
          case first =>
            have hb0 : Below w5.heap.size w5 w5.drew := (Below.refl _ w5).drew
            refine wp_region_only (S := fun W' => W'.cell? ⟨w.heap.size, 0, none⟩ = some (.pointer (some ⟨j, 0, none⟩)) ∧ W'.cell? ⟨j, 2, none⟩ = some (.int .u64 (gen : Int)) ∧ W'.cell? ⟨j, 3, none⟩ = some (.int .i64 (count : Int))) hmx (HSO.out _ hb0) (fun hS => ?_)
            refine wpAnyH_take (i := 0) (v := ?_) rfl (by kernel_rfl) (by kernel_rfl) (by kernel_rfl) (fun _ _ _ h => h) (Or.inl ⟨by rfl, ?_⟩) hS ?_
            rotate_left
            · intro w hSw
              try dsimp only at hSw
              go_simp
              try with_reducible rfl
            try simp only [Act.put, List.setIfInBounds_toArray]
            refine wpAnyH_take (i := 1) (v := ?_) rfl (by kernel_rfl) (by kernel_rfl) (by kernel_rfl) (fun _ _ _ h => h) (Or.inl ⟨by rfl, ?_⟩) hS ?_
            rotate_left
            · intro w hSw
              try dsimp only at hSw
              go_simp
              try with_reducible rfl
            try simp only [Act.put]
            refine wpAnyH_take (i := 2) (v := ?_) rfl (by kernel_rfl) (by kernel_rfl) (by kernel_rfl) (fun _ _ _ h => h) (Or.inl ⟨by rfl, ?_⟩) hS ?_
            rotate_left
            · intro w hSw
              try dsimp only at hSw
              go_simp
              try with_reducible rfl
            try simp only [Act.put]
            refine wpAnyH_take (i := 3) (v := ?_) rfl (by kernel_rfl) (by kernel_rfl) (by kernel_rfl) (fun _ _ _ h => h) (Or.inl ⟨by rfl, ?_⟩) hS ?_
            rotate_left
            · intro w hSw
              try dsimp only at hSw
              go_simp
              try with_reducible rfl
            try simp only [Act.put]
            refine wpAnyH_take (i := 4) (v := ?_) rfl (by kernel_rfl) (by kernel_rfl) (by kernel_rfl) (fun _ _ _ h => h) (Or.inl ⟨by rfl, ?_⟩) hS ?_
            rotate_left
            · intro w hSw
              try dsimp only at hSw
              go_simp
              try with_reducible rfl
            try simp only [Act.put]
            refine wpAnyH_take (i := 5) (v := ?_) rfl (by kernel_rfl) (by kernel_rfl) (by kernel_rfl) (fun _ _ _ h => h) (Or.inl ⟨by rfl, ?_⟩) hS ?_
            rotate_left
            · intro w hSw
              try dsimp only at hSw
              go_simp
              try with_reducible rfl
            try simp only [Act.put]
            refine wpAnyH_take (i := 6) (v := ?_) rfl (by kernel_rfl) (by kernel_rfl) (by kernel_rfl) (fun _ _ _ h => h) (Or.inl ⟨by rfl, ?_⟩) hS ?_
            rotate_left
            · intro w hSw
              try dsimp only at hSw
              go_simp
              try with_reducible rfl
            try simp only [Act.put]
            refine wpAnyH_take (i := 7) (v := ?_) rfl (by kernel_rfl) (by kernel_rfl) (by kernel_rfl) (fun _ _ _ h => h) (Or.inl ⟨by rfl, ?_⟩) hS ?_
            rotate_left
            · intro w hSw
              try dsimp only at hSw
              go_simp
              try with_reducible rfl
            try simp only [Act.put]
            refine wpAnyH_take (i := 8) (v := ?_) rfl (by kernel_rfl) (by kernel_rfl) (by kernel_rfl) (fun _ _ _ h => h) (Or.inl ⟨by rfl, ?_⟩) hS ?_
            rotate_left
            · intro w hSw
              try dsimp only at hSw
              go_simp
              try with_reducible rfl
            try simp only [Act.put]
            refine wpAnyH_take (i := 10) (v := ?_) rfl (by kernel_rfl) (by kernel_rfl) (by kernel_rfl) (fun _ _ _ h => h) (Or.inl ⟨by rfl, ?_⟩) hS ?_
            rotate_left
            · intro w hSw
              try dsimp only at hSw
              go_simp
              try with_reducible rfl
            try simp only [Act.put]
            refine wpAnyH_ready (rs := [9, 15]) (by kernel_rfl) (by simp) (AllReadyH.cons rfl (fun K hK => ?_) (AllReadyH.cons rfl (fun K hK => ?_) AllReadyH.nil))
            · go_simp
              refine (HMARK.out _).mono ?_
              rintro e w' ⟨rfl, rfl⟩
              clear hS
              refine hK.out _ _ ?_ (fun hS => ?_)
              · exact HSO.out _ hb0
              clear hK K
              try simp only [Act.put, List.setIfInBounds_toArray, List.set_cons_zero, List.set_cons_succ]
              refine wpAnyH_ready (rs := [11, 15]) (by kernel_rfl) (by simp) (AllReadyH.cons rfl (fun K hK => ?_) (AllReadyH.cons rfl (fun K hK => ?_) AllReadyH.nil))
              · go_simp
                refine (HMAKE.out _ hb0).mono ?_
                rintro e w6 ⟨rfl, hbw6⟩
                have hBw6 := bthen hb0 hbw6
                clear hS
                refine hK.out _ _ ?_ (fun hS => ?_)
                · exact HSO.out _ hBw6
                clear hK K
                try simp only [Act.put, List.setIfInBounds_toArray, List.set_cons_zero, List.set_cons_succ]
                refine wpAnyH_take (i := 12) (v := ?_) rfl (by kernel_rfl) (by kernel_rfl) (by kernel_rfl) (fun _ _ _ h => h) (Or.inl ⟨by rfl, ?_⟩) hS ?_
                rotate_left
                · intro w hSw
                  try dsimp only at hSw
                  go_simp
                  try with_reducible rfl
                try simp only [Act.put, List.setIfInBounds_toArray]
                refine wpAnyH_take (i := 13) (v := ?_) rfl (by kernel_rfl) (by kernel_rfl) (by kernel_rfl) (fun _ _ _ h => h) (Or.inl ⟨by rfl, ?_⟩) hS ?_
                rotate_left
                · intro w hSw
                  try dsimp only at hSw
                  go_simp
                  try with_reducible rfl
                try simp only [Act.put]
                refine wpAnyH_take (i := 14) (v := ?_) rfl (by kernel_rfl) (by kernel_rfl) (by kernel_rfl) (fun _ _ _ h => h) (Or.inl ⟨by rfl, ?_⟩) hS ?_
                rotate_left
                · intro w hSw
                  try dsimp only at hSw
                  go_simp
                  try with_reducible rfl
                try simp only [Act.put]
                refine wpAnyH_ready (rs := [15]) (by kernel_rfl) (by simp) (AllReadyH.cons rfl (fun K hK => ?_) AllReadyH.nil)
                go_simp
                have hB7 := balloc hBw6 (.cells Try.zeroCells55 55)
                clear hS
                try simp only [Act.put, List.setIfInBounds_toArray, List.set_cons_zero, List.set_cons_succ]
                refine hK.out _ _ ?_ (fun hS => ?_)
                · exact HSO.out _ hB7
                clear hK K
                try simp only [Act.put, List.setIfInBounds_toArray, List.set_cons_zero, List.set_cons_succ]
                obtain ⟨hst, hse, hbe⟩ := sec_over (l := sealL (gen * 256 + (count + 1)) (hdBody b)) hB7 hBw6.size (zsec_new w6) HLL.out
                have HSE := Lib.hid hse; have HBE := Lib.hid hbe
                refine wpAnyH_ready (rs := [16]) (by kernel_rfl) (by simp) (AllReadyH.cons rfl (fun K hK => ?_) AllReadyH.nil)
                go_simp
                clear hS
                try simp only [Act.put, List.setIfInBounds_toArray, List.set_cons_zero, List.set_cons_succ]
                refine hK.out _ _ ?_ (fun hS => ?_)
                · exact HSO.out _ HBE.out
                clear hK K
                try simp only [Act.put, List.setIfInBounds_toArray, List.set_cons_zero, List.set_cons_succ]
                refine wpAnyH_ready (rs := [17]) (by kernel_rfl) (by simp) (AllReadyH.cons rfl (fun K hK => ?_) AllReadyH.nil)
                go_simp
                clear hS
                try simp only [Act.put, List.setIfInBounds_toArray, List.set_cons_zero, List.set_cons_succ]
                refine hK.out _ _ ?_ (fun hS => ?_)
                · exact HSO.out _ HBE.out
                clear hK K
                try simp only [Act.put, List.setIfInBounds_toArray, List.set_cons_zero, List.set_cons_succ]
                refine wpAnyH_done (by kernel_rfl) ?_ _
                dsimp only [OnlyN]
                go_wp2_with fail
                go_meet
                exact ⟨_, rfl, rfl, Lib.hid HSE.out, Lib.hid hBw6.size, Lib.hid HBE.out⟩
              · go_simp
                have hB6 := balloc hb0 (.cells Try.zeroCells55 55)
                clear hS
                try simp only [Act.put, List.setIfInBounds_toArray, List.set_cons_zero, List.set_cons_succ]
                refine hK.out _ _ ?_ (fun hS => ?_)
                · exact HSO.out _ hB6
                clear hK K
                try simp only [Act.put, List.setIfInBounds_toArray, List.set_cons_zero, List.set_cons_succ]
                refine wpAnyH_ready (rs := [11]) (by kernel_rfl) (by simp) (AllReadyH.cons rfl (fun K hK => ?_) AllReadyH.nil)
                go_simp
                refine (HMAKE.out _ hB6).mono ?_
                rintro e w7 ⟨rfl, hbw7⟩
                have hBw7 := bthen hB6 hbw7
                clear hS
                refine hK.out _ _ ?_ (fun hS => ?_)
                · exact HSO.out _ hBw7
                clear hK K
                try simp only [Act.put, List.setIfInBounds_toArray, List.set_cons_zero, List.set_cons_succ]
                refine wpAnyH_take (i := 12) (v := ?_) rfl (by kernel_rfl) (by kernel_rfl) (by kernel_rfl) (fun _ _ _ h => h) (Or.inl ⟨by rfl, ?_⟩) hS ?_
                rotate_left
                · intro w hSw
                  try dsimp only at hSw
                  go_simp
                  try with_reducible rfl
                try simp only [Act.put, List.setIfInBounds_toArray]
                refine wpAnyH_take (i := 13) (v := ?_) rfl (by kernel_rfl) (by kernel_rfl) (by kernel_rfl) (fun _ _ _ h => h) (Or.inl ⟨by rfl, ?_⟩) hS ?_
                rotate_left
                · intro w hSw
                  try dsimp only at hSw
                  go_simp
                  try with_reducible rfl
                try simp only [Act.put]
                refine wpAnyH_take (i := 14) (v := ?_) rfl (by kernel_rfl) (by kernel_rfl) (by kernel_rfl) (fun _ _ _ h => h) (Or.inl ⟨by rfl, ?_⟩) hS ?_
                rotate_left
                · intro w hSw
                  try dsimp only at hSw
                  go_simp
                  try with_reducible rfl
                try simp only [Act.put]
                have hz7 := (zsec_new w5.drew).below hbw7
                obtain ⟨hst, hse, hbe⟩ := sec_over (l := sealL (gen * 256 + (count + 1)) (hdBody b)) hBw7 (Nat.le_refl _) hz7 HLL.out
                have HSE := Lib.hid hse; have HBE := Lib.hid hbe
                refine wpAnyH_ready (rs := [16]) (by kernel_rfl) (by simp) (AllReadyH.cons rfl (fun K hK => ?_) AllReadyH.nil)
                go_simp
                clear hS
                try simp only [Act.put, List.setIfInBounds_toArray, List.set_cons_zero, List.set_cons_succ]
                refine hK.out _ _ ?_ (fun hS => ?_)
                · exact HSO.out _ HBE.out
                clear hK K
                try simp only [Act.put, List.setIfInBounds_toArray, List.set_cons_zero, List.set_cons_succ]
                refine wpAnyH_ready (rs := [17]) (by kernel_rfl) (by simp) (AllReadyH.cons rfl (fun K hK => ?_) AllReadyH.nil)
                go_simp
                clear hS
                try simp only [Act.put, List.setIfInBounds_toArray, List.set_cons_zero, List.set_cons_succ]
                refine hK.out _ _ ?_ (fun hS => ?_)
                · exact HSO.out _ HBE.out
                clear hK K
                try simp only [Act.put, List.setIfInBounds_toArray, List.set_cons_zero, List.set_cons_succ]
                refine wpAnyH_done (by kernel_rfl) ?_ _
                dsimp only [OnlyN]
                go_wp2_with fail
                go_meet
                exact ⟨_, rfl, rfl, Lib.hid HSE.out, Lib.hid (Nat.le_refl _), Lib.hid HBE.out⟩
            · go_simp
              have hB6 := balloc hb0 (.cells Try.zeroCells55 55)
              clear hS
              try simp only [Act.put, List.setIfInBounds_toArray, List.set_cons_zero, List.set_cons_succ]
              refine hK.out _ _ ?_ (fun hS => ?_)
              · exact HSO.out _ hB6
              clear hK K
              try simp only [Act.put, List.setIfInBounds_toArray, List.set_cons_zero, List.set_cons_succ]
              refine wpAnyH_ready (rs := [9]) (by kernel_rfl) (by simp) (AllReadyH.cons rfl (fun K hK => ?_) AllReadyH.nil)
              go_simp
              refine (HMARK.out _).mono ?_
              rintro e w' ⟨rfl, rfl⟩
              clear hS
              refine hK.out _ _ ?_ (fun hS => ?_)
              · exact HSO.out _ hB6
              clear hK K
              try simp only [Act.put, List.setIfInBounds_toArray, List.set_cons_zero, List.set_cons_succ]
              refine wpAnyH_ready (rs := [11]) (by kernel_rfl) (by simp) (AllReadyH.cons rfl (fun K hK => ?_) AllReadyH.nil)
              go_simp
              refine (HMAKE.out _ hB6).mono ?_
              rintro e w7 ⟨rfl, hbw7⟩
              have hBw7 := bthen hB6 hbw7
              clear hS
              refine hK.out _ _ ?_ (fun hS => ?_)
              · exact HSO.out _ hBw7
              clear hK K
              try simp only [Act.put, List.setIfInBounds_toArray, List.set_cons_zero, List.set_cons_succ]
              refine wpAnyH_take (i := 12) (v := ?_) rfl (by kernel_rfl) (by kernel_rfl) (by kernel_rfl) (fun _ _ _ h => h) (Or.inl ⟨by rfl, ?_⟩) hS ?_
              rotate_left
              · intro w hSw
                try dsimp only at hSw
                go_simp
                try with_reducible rfl
              try simp only [Act.put, List.setIfInBounds_toArray]
              refine wpAnyH_take (i := 13) (v := ?_) rfl (by kernel_rfl) (by kernel_rfl) (by kernel_rfl) (fun _ _ _ h => h) (Or.inl ⟨by rfl, ?_⟩) hS ?_
              rotate_left
              · intro w hSw
                try dsimp only at hSw
                go_simp
                try with_reducible rfl
              try simp only [Act.put]
              refine wpAnyH_take (i := 14) (v := ?_) rfl (by kernel_rfl) (by kernel_rfl) (by kernel_rfl) (fun _ _ _ h => h) (Or.inl ⟨by rfl, ?_⟩) hS ?_
              rotate_left
              · intro w hSw
                try dsimp only at hSw
                go_simp
                try with_reducible rfl
              try simp only [Act.put]
              have hz7 := (zsec_new w5.drew).below hbw7
              obtain ⟨hst, hse, hbe⟩ := sec_over (l := sealL (gen * 256 + (count + 1)) (hdBody b)) hBw7 (Nat.le_refl _) hz7 HLL.out
              have HSE := Lib.hid hse; have HBE := Lib.hid hbe
              refine wpAnyH_ready (rs := [16]) (by kernel_rfl) (by simp) (AllReadyH.cons rfl (fun K hK => ?_) AllReadyH.nil)
              go_simp
              clear hS
              try simp only [Act.put, List.setIfInBounds_toArray, List.set_cons_zero, List.set_cons_succ]
              refine hK.out _ _ ?_ (fun hS => ?_)
              · exact HSO.out _ HBE.out
              clear hK K
              try simp only [Act.put, List.setIfInBounds_toArray, List.set_cons_zero, List.set_cons_succ]
              refine wpAnyH_ready (rs := [17]) (by kernel_rfl) (by simp) (AllReadyH.cons rfl (fun K hK => ?_) AllReadyH.nil)
              go_simp
              clear hS
              try simp only [Act.put, List.setIfInBounds_toArray, List.set_cons_zero, List.set_cons_succ]
              refine hK.out _ _ ?_ (fun hS => ?_)
              · exact HSO.out _ HBE.out
              clear hK K
              try simp only [Act.put, List.setIfInBounds_toArray, List.set_cons_zero, List.set_cons_succ]
              refine wpAnyH_done (by kernel_rfl) ?_ _
              dsimp only [OnlyN]
              go_wp2_with fail
              go_meet
              exact ⟨_, rfl, rfl, Lib.hid HSE.out, Lib.hid (Nat.le_refl _), Lib.hid HBE.out⟩
          case rest =>
            obtain ⟨g5, rfl, rfl, HS5, HG5, HB5⟩ := hcut
            obtain ⟨v6, hd5, ho6⟩ := HI5.out.dk
            have hI6 := (HI5.out.below HB5.out).below (belowN (Below.refl _ _) 1)
            have hS6 := HS5.out.below (belowN (Below.refl _ _) 1)
            have HD6 := Lib.hid (hd5.below HB5.out).drew
            have HF6 : Hid (¬ foot p s v6 g5) := Lib.hid (fun hf => Nat.lt_irrefl _ (Nat.lt_of_lt_of_le (hd5.foot_lt _ hf) HG5.out))
            have HK6 := Lib.hid ((keeps_bl HB5.out).same D _ HK5.out rfl)
            have hkl : first + 4 * count < D1.flush.1.stable.length := by rw [flush_len, HST2.out]; omega
            have hpe6 : D1.flush.1.pend.length ≤ 1000000 := by have := flush_pend D1; omega
            have hS : wc.drew.cell? ⟨w.heap.size, 0, none⟩ = some (.pointer (some ⟨j, 0, none⟩)) ∧ wc.drew.cell? ⟨j, 0, none⟩ = some (.pointer (some ⟨p, 0, none⟩)) ∧ (ldSec (.pointer (some ⟨g5, 0, none⟩))).run Try.prog wc.drew = .ok (.agg (bv (sealL (gen * 256 + (count + 1)) (hdBody b))).toArray) wc.drew := ⟨hI6.jb.cell 0 _ rfl, hI6.jr.c0, run_ldSec hS6.range hS6.2⟩
            have HI6 := Lib.hid hI6; have HS6 := Lib.hid hS6
            clear hd5 hI6 hS6
            gi_wp2
            refine wpIn_wide.2 ?_
            refine wp_region_only (S := fun W' => W'.cell? ⟨w.heap.size, 0, none⟩ = some (.pointer (some ⟨j, 0, none⟩)) ∧ W'.cell? ⟨j, 0, none⟩ = some (.pointer (some ⟨p, 0, none⟩)) ∧ (ldSec (.pointer (some ⟨g5, 0, none⟩))).run Try.prog W' = .ok (.agg (bv (sealL (gen * 256 + (count + 1)) (hdBody b))).toArray) W') hmx hS (fun hS => ?_)
            refine wpAnyH_take (i := 0) (v := ?_) rfl (by kernel_rfl) (by kernel_rfl) (by kernel_rfl) (fun _ _ _ h => h) (Or.inl ⟨by rfl, ?_⟩) hS ?_
            rotate_left
            · intro w hSw
              try dsimp only at hSw
              go_simp
              try with_reducible rfl
            try simp only [Act.put, List.setIfInBounds_toArray]
            refine wpAnyH_take (i := 1) (v := ?_) rfl (by kernel_rfl) (by kernel_rfl) (by kernel_rfl) (fun _ _ _ h => h) (Or.inl ⟨by rfl, ?_⟩) hS ?_
            rotate_left
            · intro w hSw
              try dsimp only at hSw
              go_simp
              try with_reducible rfl
            try simp only [Act.put]
            refine wpAnyH_take (i := 2) (v := ?_) rfl (by kernel_rfl) (by kernel_rfl) (by kernel_rfl) (fun _ _ _ h => h) (Or.inl ⟨by rfl, ?_⟩) hS ?_
            rotate_left
            · intro w hSw
              try dsimp only at hSw
              go_simp
              try with_reducible rfl
            try simp only [Act.put]
            refine wpAnyH_take (i := 3) (v := ?_) rfl (by kernel_rfl) (by kernel_rfl) (by kernel_rfl) (fun _ _ _ h => h) (Or.inl ⟨by rfl, ?_⟩) hS ?_
            rotate_left
            · intro w hSw
              try dsimp only at hSw
              go_simp
              try with_reducible rfl
            try simp only [Act.put]
            refine wpAnyH_take (i := 4) (v := ?_) rfl (by kernel_rfl) (by kernel_rfl) (by kernel_rfl) (fun _ _ _ h => h) (Or.inl ⟨by rfl, ?_⟩) hS ?_
            rotate_left
            · intro w hSw
              try dsimp only at hSw
              go_simp
              try with_reducible rfl
            try simp only [Act.put]
            refine wpAnyH_take (i := 5) (v := ?_) rfl (by kernel_rfl) (by kernel_rfl) (by kernel_rfl) (fun _ _ _ h => h) (Or.inl ⟨by rfl, ?_⟩) hS ?_
            rotate_left
            · intro w hSw
              try dsimp only at hSw
              go_simp
              try with_reducible rfl
            try simp only [Act.put]
            refine wpAnyH_ready (rs := [6]) (by kernel_rfl) (by simp) (AllReadyH.cons rfl (fun K hK => ?_) AllReadyH.nil)
            go_simp
            clear hS
            by_cases hpw : D1.flush.1.power.2 = true
            · obtain ⟨D3, hD3⟩ : ∃ D3, D3 = D1.flush.1.power.1.push (first + 4 * count) (sealL (gen * 256 + (count + 1)) (hdBody b)) := ⟨_, rfl⟩
              have HM3 : Hid (addM d first gen count b = if D3.flush.2 = false then (D3.flush.1, count, 42) else (D3.flush.1, count + 1, 0)) := Lib.hid (HM0.out.trans (by rw [if_neg (by rw [hfl]; decide), if_neg (by rw [hpw]; decide), ← hD3]))
              have hpe3 : D3.pend.length ≤ 1000000 := by
                have := flush_pend D1
                have := HPE2.out
                rw [hD3]
                simp only [Dk.push, power_pend, List.length_append, List.length_cons, List.length_nil]
                omega
              have e3 : ({ D1.flush.1.power.1 with pend := D1.flush.1.pend ++ [(first + 4 * count, (sealL (gen * 256 + (count + 1)) (hdBody b)))] } : Dk) = D3 := by rw [hD3]; simp only [Dk.push, power_pend]
              refine (disk_Write_yes HD6.out (Nat.le_trans hbase (Nat.le_trans (Nat.le_add_right _ 5) HI6.out.sz)) (first + 4 * count) hkl (sealL (gen * 256 + (count + 1)) (hdBody b)) HLL.out hpw hpe6).mono ?_
              rintro e w7 ⟨v7, rfl, hd7, hk7, hv7⟩
              rw [e3] at hd7
              have hI7 := HI6.out.acted hA HD6.out ho6 hd7 hk7 (fun g hg => by
                rcases hv7 with h | ⟨g', h, h'⟩
                · exact .inl (h ▸ hg)
                · rw [h] at hg; cases hg; exact .inr h')
              have hS7 := HS6.out.kp hk7 HF6.out
              have HK7 := Lib.hid ((keeps_foot HD6.out hk7).same D _ HK6.out rfl)
              have q7 : w7.cell? ⟨w.heap.size, 0, none⟩ = some (.pointer (some ⟨j, 0, none⟩)) ∧ w7.cell? ⟨j, 0, none⟩ = some (.pointer (some ⟨p, 0, none⟩)) ∧ (ldSec (.pointer (some ⟨g5, 0, none⟩))).run Try.prog w7 = .ok (.agg (bv (sealL (gen * 256 + (count + 1)) (hdBody b))).toArray) w7 := ⟨hI7.jb.cell 0 _ rfl, hI7.jr.c0, run_ldSec hS7.range hS7.2⟩
              have r0 := q7.1
              have r1 := q7.2.1
              have HI7 := Lib.hid hI7
              clear hI7 hS7 hd7 hk7 hv7 e3 hD3
              refine hK.out _ _ ?_ (fun hS => ?_)
              · exact q7
              clear hK K hS
              try simp only [Act.put, List.setIfInBounds_toArray, List.set_cons_zero, List.set_cons_succ]
              refine wpAnyH_ready (rs := [7]) (by kernel_rfl) (by simp) (AllReadyH.cons rfl (fun K hK => ?_) AllReadyH.nil)
              go_simp
              try simp only [Act.put, List.setIfInBounds_toArray, List.set_cons_zero, List.set_cons_succ]
              refine hK.out _ _ ?_ (fun hS => ?_)
              · exact q7
              clear hK K hS q7
              try simp only [Act.put, List.setIfInBounds_toArray, List.set_cons_zero, List.set_cons_succ]
              refine wpAnyH_done (by kernel_rfl) ?_ _
              dsimp only [OnlyN]
              obtain ⟨v7', hd7', ho7⟩ := HI7.out.dk
              have HF3 := disk_Flush_any hd7' hpe3
              have HD7 := Lib.hid hd7'; have HO7 := Lib.hid ho7
              clear hd7' ho7
              by_cases hfl3 : D3.flush.2 = true
              · rw [if_pos hfl3] at HF3
                have HM : Hid (addM d first gen count b = (D3.flush.1, count + 1, 0)) := Lib.hid (HM3.out.trans (by rw [if_neg (by rw [hfl3]; decide)]))
                gi_wp2_with (refine ⟨trivial, ?_⟩; gi_at_call 28; refine (callsIn_wide.2 HF3).mono ?_; rintro e w8 ⟨v8, rfl, hd8, hk8, ho8⟩; have hI8 := HI7.out.acted hA HD7.out HO7.out hd8 hk8 ho8; have s0 := hI8.jb.cell 0 _ rfl; have s3 := hI8.jr.c3; have z3 := hI8.jr.fz 3; have s1 := hI8.eb.cell 0 _ rfl; have z1 := frozen_of_row w8 (w.heap.size + 1) 0 _ _ hI8.eb)
                have hK8 : w8.heap[D]? = some (.deferred (some [])) := (keeps_foot HD7.out hk8).same D _ HK7.out rfl
                have hdn := hI8.done hjw hD hK8 (count + 1) 0
                rw [show ((count + 1 : Nat) : Int) = (count : Int) + 1 by omega] at hdn
                obtain ⟨⟨v9, hd9, ho9⟩, hj9, hk9, hc9, hK9⟩ := hdn
                refine ⟨by simp, .inl ⟨_, _, rfl, run_takeDeferred hK9, ?_⟩⟩
                refine ⟨.int .i64 0, ?_, ?_⟩
                · simp [results, Try.f13, go_sem, hc9]
                · unfold AddPost
                  rw [HM.out]
                  exact ⟨v9, rfl, hd9, hj9, hk9, ho9⟩
              · have hfl4 : D3.flush.2 = false := by simpa using hfl3
                have HM : Hid (addM d first gen count b = (D3.flush.1, count, 42)) := Lib.hid (HM3.out.trans (by rw [if_pos hfl4]))
                rw [if_neg hfl3] at HF3
                gi_wp2_with (refine ⟨trivial, ?_⟩; gi_at_call 28; refine (callsIn_wide.2 HF3).mono ?_; rintro e w8 ⟨v8, rfl, hd8, hk8, ho8⟩; have hI8 := HI7.out.acted hA HD7.out HO7.out hd8 hk8 ho8; have s1 := hI8.eb.cell 0 _ rfl; have z1 := frozen_of_row w8 (w.heap.size + 1) 0 _ _ hI8.eb)
                have hK9 : (w8.setCell ⟨w.heap.size + 1, 0, none⟩ (.int .i64 42)).heap[D]? = some (.deferred (some [])) := (KeepsOthers.setCell _ _ _).same D _ ((keeps_foot HD7.out hk8).same D _ HK7.out rfl) rfl
                have hI9 := (addI_own hA hjw (fun _ : Unit => (((first + 4 * count + 1 + ys.length : Nat) : Int), (42 : Int), D3.flush.1)) (base := base) (first := (first : Int)) (gen := gen) (count := count) (n := n) (c := c) (b := b) (s := s)).putObj (s := ()) (.deferred none) (hI8.error hA hjw 42) hD hK9 rfl
                have c5 := hI9.eb.cell 0 _ rfl
                refine ⟨by simp, .inl ⟨_, _, rfl, run_takeDeferred hK9, ?_⟩⟩
                refine ⟨.int .i64 42, ?_, hI9.post HM.out⟩
                simp [results, Try.f13, go_sem, c5]
            · have hpf : D1.flush.1.power.2 = false := by simpa using hpw
              have HM : Hid (addM d first gen count b = (D1.flush.1.power.1, count, 42)) := Lib.hid (HM0.out.trans (by rw [if_neg (by rw [hfl]; decide), if_pos hpf]))
              refine (disk_Write_dead HD6.out (first + 4 * count) hkl (sealL (gen * 256 + (count + 1)) (hdBody b)) hpf).mono ?_
              rintro e w7 ⟨rfl, hd7, hk7'⟩
              have hk7 := hk7'.imp (S' := foot p s v6) (fun i _ h => .inl h)
              have hI7 := HI6.out.acted hA HD6.out ho6 hd7 hk7 (fun g hg => .inl hg)
              have hS7 := HS6.out.kp hk7 HF6.out
              have c1 := hI7.eb.cell 0 _ rfl
              have z1 := frozen_of_row w7 (w.heap.size + 1) 0 _ _ hI7.eb
              have hK8 : (w7.setCell ⟨w.heap.size + 1, 0, none⟩ (.int .i64 42)).heap[D]? = some (.deferred (some [])) := (KeepsOthers.setCell _ _ _).same D _ ((keeps_foot HD6.out hk7).same D _ HK6.out rfl) rfl
              have hI8 := (addI_own hA hjw (fun _ : Unit => (((first + 4 * count + 1 + ys.length : Nat) : Int), (42 : Int), D1.flush.1.power.1)) (base := base) (first := (first : Int)) (gen := gen) (count := count) (n := n) (c := c) (b := b) (s := s)).putObj (s := ()) (.deferred none) (hI7.error hA hjw 42) hD hK8 rfl
              have c5 := hI8.eb.cell 0 _ rfl
              have q7 : w7.cell? ⟨w.heap.size, 0, none⟩ = some (.pointer (some ⟨j, 0, none⟩)) ∧ w7.cell? ⟨j, 0, none⟩ = some (.pointer (some ⟨p, 0, none⟩)) ∧ (ldSec (.pointer (some ⟨g5, 0, none⟩))).run Try.prog w7 = .ok (.agg (bv (sealL (gen * 256 + (count + 1)) (hdBody b))).toArray) w7 := ⟨hI7.jb.cell 0 _ rfl, hI7.jr.c0, run_ldSec hS7.range hS7.2⟩
              have HI8 := Lib.hid hI8; have HK8 := Lib.hid hK8; have HC5 := Lib.hid c5
              clear hI7 hS7 hd7 hk7 hk7' hI8 hK8 c5
              refine hK.out _ _ ?_ (fun hS => ?_)
              · exact q7
              clear hK K hS
              try simp only [Act.put, List.setIfInBounds_toArray, List.set_cons_zero, List.set_cons_succ]
              refine wpAnyH_ready (rs := [7]) (by kernel_rfl) (by simp) (AllReadyH.cons rfl (fun K hK => ?_) AllReadyH.nil)
              go_simp
              try simp only [Act.put, List.setIfInBounds_toArray, List.set_cons_zero, List.set_cons_succ]
              refine hK.out _ _ ?_ (fun hS => ?_)
              · exact q7
              clear hK K hS q7
              try simp only [Act.put, List.setIfInBounds_toArray, List.set_cons_zero, List.set_cons_succ]
              refine wpAnyH_done (by kernel_rfl) ?_ _
              dsimp only [OnlyN]
              gi_wp2
              have c5 := HC5.out
              refine ⟨by simp, .inl ⟨_, _, rfl, run_takeDeferred HK8.out, ?_⟩⟩
              refine ⟨.int .i64 42, ?_, HI8.out.post HM.out⟩
              simp [results, Try.f13, go_sem, c5]
        · have hfl' : D1.flush.2 = false := by simpa using hfl
          have HFL := disk_Flush_any hd1 hpe1
          rw [hfl'] at HFL
          have HI := Lib.hid hI; have HD1 := Lib.hid hd1
          have HM : Hid (addM d first gen count b = (D1.flush.1, count, 42)) := Lib.hid (HM0.out.trans (if_pos hfl'))
          clear hI hd1
          gi_wp2_with (refine ⟨trivial, ?_⟩; gi_at_call 28; refine (callsIn_wide.2 HFL).mono ?_; rintro e w2 ⟨v2, rfl, hd2, hk2, ho2⟩; have hI2 := HI.out.acted hA HD1.out ho1 hd2 hk2 ho2; have c1 := hI2.eb.cell 0 _ rfl; have z1 := frozen_of_row w2 (w.heap.size + 1) 0 _ _ hI2.eb)
          have hK2 : (w2.setCell ⟨w.heap.size + 1, 0, none⟩ (.int .i64 42)).heap[D]? = some (.deferred (some [])) := (KeepsOthers.setCell _ _ _).same D _ ((keeps_foot HD1.out hk2).same D _ hK rfl) rfl
          have hI5 := (addI_own hA hjw (fun _ : Unit => (((first + 4 * count + 1 + ys.length : Nat) : Int), (42 : Int), D1.flush.1)) (base := base) (first := (first : Int)) (gen := gen) (count := count) (n := n) (c := c) (b := b) (s := s)).putObj (s := ()) (.deferred none) (hI2.error hA hjw 42) hD hK2 rfl
          have c5 := hI5.eb.cell 0 _ rfl
          refine ⟨by simp, .inl ⟨_, _, rfl, run_takeDeferred hK2, ?_⟩⟩
          refine ⟨.int .i64 42, ?_, hI5.post HM.out⟩
          simp [results, Try.f13, go_sem, c5]
end Go.Proofs.Ytgakajofggmbjaa
