/- super.head and super.Read. -/
import Derived.Test.YtanibabfdpgbbaaSuperW2
import Derived.Deep.RegionHeld3
import Derived.Deep.CutRange
namespace Go.Proofs.Ytanibabfdpgbbaa
open Go.RowKit
attribute [local go_sem ↓] loadAt37

/-- Fields after a shape of digits have small numbers. -/
theorem small_nums (sh : List UInt8) (hsh : ∀ c ∈ sh, c = 52 ∨ c = 50) : ∀ (vs : List V) (x : List UInt8), packL sh vs = some x → vs.length = sh.length ∧ ∀ v ∈ vs, v.1 < 4294967296 := by
  induction sh with
  | nil =>
    intro vs x h
    match vs, h with
    | [], _ => exact ⟨rfl, fun v hv => absurd hv (by simp)⟩
  | cons c sh ih =>
    intro vs x h
    match vs, h with
    | v :: vs, h =>
      simp only [packL] at h
      split at h
      · rename_i a b ha hb
        obtain ⟨h1, h2⟩ := ih (fun c hc => hsh c (List.mem_cons_of_mem _ hc)) vs b hb
        refine ⟨by simp [h1], fun v' hv' => ?_⟩
        rcases List.mem_cons.1 hv' with rfl | hv'
        · rcases hsh c List.mem_cons_self with rfl | rfl
          · have w4 : letterW 52 = some (3 + 1) := by decide
            simp only [encV, w4] at ha
            split at ha
            · rename_i hlt
              have : (256 : Nat) ^ (3 + 1) = 4294967296 := by decide
              omega
            · cases ha
          · have w2 : letterW 50 = some (1 + 1) := by decide
            simp only [encV, w2] at ha
            split at ha
            · rename_i hlt
              have : (256 : Nat) ^ (1 + 1) = 65536 := by decide
              omega
            · cases ha
        · exact h2 v' hv'
      · cases h
theorem super_nums {body : List UInt8} {vs : List V} (h : unpackM superSh body = some vs) : vs.length = 5 ∧ ∀ v ∈ vs, v.1 < 4294967296 := by
  obtain ⟨_, h1⟩ := (unpackM_iff _ _ _).1 h
  obtain ⟨x, hx, _⟩ := un_pack _ _ _ _ h1
  exact small_nums superSh (by decide) vs x hx
def numAt (vs : List V) (k : Nat) : Nat := (vs.getD k (0, [])).1
def sdOf (gen : Nat) (vs : List V) : SD := ⟨gen, numAt vs 0, numAt vs 1, numAt vs 2, numAt vs 3, numAt vs 4⟩
/-- The super of a sector, if it has one. -/
def headM (x : List UInt8) (k : Nat) : SD × Bool :=
  match openM x with
  | none => (SD.z, false)
  | some (gen, body) => match unpackM superSh body with
    | none => (SD.z, false)
    | some vs => if gen % 2 = k then (sdOf gen vs, decide (sdOf gen vs).right) else (SD.z, false)
def HeadPost (w : World) (r : SD × Bool) (e : Ending) (w' : World) : Prop := e = .returned (.tuple #[r.1.v, .bool r.2]) ∧ Below w.heap.size w w'
set_option maxRecDepth 20000 in
set_option maxHeartbeats 1600000 in
/-- The function within: a field's number. -/
theorem head_num (g : Nat) (A : Option Addr) (n c : Nat) (l : List FieldD) (k : Nat) (w : World) (hc : w.cell? ⟨g, 0, none⟩ = some (.slice A n c)) (hl : RFields w A n c l) (hk : k < n) (hs : (fieldAt l k).num < 4294967296) :
    Calls Try.prog 46 #[.int .i64 k, .pointer (some ⟨g, 0, none⟩)] w fun e w' => e = .returned (.int .i64 ((fieldAt l k).num : Nat)) ∧ w = w' := by
  obtain ⟨b, o, rfl, hf⟩ := hl.2.2.2 (by omega)
  have hcell : w.cell? ⟨b, o + k * 2, none⟩ = some (.int .u64 ((fieldAt l k).num : Nat)) := (hf k hk).1 0 _ rfl
  have hk0 : (0 : Int) ≤ (k : Int) := Int.natCast_nonneg _
  have hk1 : (k : Int) < (n : Int) := by omega
  clear hl hf
  generalize (fieldAt l k).num = m at *
  have hw : IntKind.i64.wrap (m : Int) = (m : Int) := by simp [IntKind.wrap, IntKind.signed, IntKind.bits]; omega
  go_enter Try.func46, Try.ntmps46
  go_wp2_with fail
  go_ret
  exact ⟨rfl, rfl⟩
theorem numAt_vals {lk : List FieldD} {k : Nat} (h : k < lk.length) : numAt (vals lk) k = (fieldAt lk k).num := by
  rw [numAt, fieldAt_get h]
  simp [vals, List.getD_eq_getElem?_getD, h]
def ldSup (p : Value) : Sem Value := Instr.loadAt 24 p
theorem loadAtSup (p : Value) : Instr.loadAt 24 p = ldSup p := rfl
theorem run_ldSup {w : World} {g : Nat} {cs : List Value} (h : RowAt w g 24 cs) (hl : cs.length = 6) : (ldSup (.pointer (some ⟨g, 0, none⟩))).run Try.prog w = .ok (.agg cs.toArray) w :=
  run_loadAt_mid w g 0 _ cs _ h.range Try.underlying24 rfl (Try.sizeSuper.trans (by rw [hl]))
set_option maxRecDepth 20000 in
set_option maxHeartbeats 6400000 in
theorem super_head {w : World} {base p s : Nat} {v : Value} {d : Dk} (h : DiskAt w base p s v d) (hpl : d.pend.length ≤ 1000) (k : Nat) (hk : k < d.stable.length) (hk2 : k < 2) :
    Calls Try.prog 27 #[.pointer (some ⟨p, 0, none⟩), .int .i64 k] w (HeadPost w (headM (d.read k) k)) := by
  have hmf : ∀ (fn : Fn) (first cap : Array Value) (w : World), (Instr.makeFunc fn first cap).run Try.prog w = .ok (.func fn first cap) w := fun _ _ _ _ => rfl
  have HLX := Lib.hid (read_len h k hk)
  have hb0 := below_alloc w (.cells #[.int .u64 0, .int .i64 0, .int .i64 0, .int .i64 0, .int .i64 0, .int .i64 0] 24)
  have HZ := Lib.hid (RowAt.new w 24 [.int .u64 0, .int .i64 0, .int .i64 0, .int .i64 0, .int .i64 0, .int .i64 0])
  have HB0 := Lib.hid hb0
  have HRD := Lib.hid (disk_Read_yes (h.below hb0) k hk (by omega))
  have hk0 : (0 : Int) ≤ (k : Int) := Int.natCast_nonneg _
  have hk1 : (k : Int) < 2 := by omega
  generalize d.read k = x at *
  clear h hb0 hpl hk
  go_enter Try.func27, Try.ntmps27
  go_wp2_with fail
  generalize w.alloc (.cells #[.int .u64 0, .int .i64 0, .int .i64 0, .int .i64 0, .int .i64 0, .int .i64 0] 24) = w1 at *
  refine HRD.out.mono ?_
  rintro e w2 ⟨rfl, hb2⟩
  have HB2 := Lib.hid (balloc (bthen HB0.out hb2) (.cells (bv x).toArray 32))
  have HZ2 := Lib.hid ((HZ.out.below hb2).below (below_alloc w2 (.cells (bv x).toArray 32)))
  have hld := run_ldSec (w := w2.alloc (.cells (bv x).toArray 32)) (range_alloc w2 (bv x) _ _) HLX.out
  clear hb2 HRD
  go_wp2_with (refine st37 rfl _ _ rfl _ _ rfl rfl x rfl HLX.out rfl ?_)
  generalize hw3 : w2.alloc (.cells (bv x).toArray 32) = w3 at *
  clear hw3
  refine (seal_Open x HLX.out w3).mono ?_
  rintro e w4 ⟨mk, A4, m4, c4, b4, rfl, hb4, hcase⟩
  have HB4 := Lib.hid (bthen HB2.out hb4)
  have HZ4 := Lib.hid (HZ2.out.below hb4)
  rcases hcase with ⟨body, ho, rfl, hrb⟩ | ⟨hno, rfl, rfl, rfl, rfl, rfl⟩
  · have HO := Lib.hid ho; have HRB := Lib.hid hrb
    clear hb4 ho hrb hld
    go_wp2_with fail
    refine (codec_Unpack superSh A4 m4 c4 body w4 HRB.out).mono ?_
    rintro e w5 ⟨hb5, hcase5⟩
    have HB5 := Lib.hid (bthen HB4.out hb5)
    have HZ5 := Lib.hid (HZ4.out.below hb5)
    rcases hcase5 with ⟨v5, lk, ho5, rfl, hof⟩ | ⟨ho5, rfl⟩
    · obtain ⟨A5, c5, rfl, hrf⟩ := hof.read
      have HF5 := Lib.hid hrf; have HO5 := Lib.hid ho5
      clear hb5 hof hrf ho5
      have HB6 := Lib.hid (balloc HB5.out (.cells #[.slice A5 lk.length c5] 79))
      have HZ6 := Lib.hid (HZ5.out.below (below_alloc w5 (.cells #[.slice A5 lk.length c5] 79)))
      by_cases hpar : mk % 2 = k
      · have hq : ((mk : Int) % 2 != (k : Int)) = false := by rw [show (mk : Int) % 2 = (k : Int) by omega]; simp
        have HM : Hid (headM x k = (sdOf mk (vals lk), decide (sdOf mk (vals lk)).right)) := Lib.hid (by unfold headM; rw [HO.out]; simp only; rw [HO5.out]; simp only; rw [if_pos hpar])
        clear hpar
        have hnum := super_nums HO5.out
        have hl5 : lk.length = 5 := by have := hnum.1; simpa [vals] using this
        have hsm : ∀ i, i < 5 → (fieldAt lk i).num < 4294967296 := fun i hi => by
          have := hnum.2 ((fieldAt lk i).num, (fieldAt lk i).bytes) (by
            rw [fieldAt_get (by omega)]
            exact List.mem_map.2 ⟨_, List.getElem_mem _, rfl⟩)
          exact this
        have hsd : sdOf mk (vals lk) = ⟨mk, (fieldAt lk 0).num, (fieldAt lk 1).num, (fieldAt lk 2).num, (fieldAt lk 3).num, (fieldAt lk 4).num⟩ := by
          unfold sdOf
          rw [numAt_vals (by omega), numAt_vals (by omega), numAt_vals (by omega), numAt_vals (by omega), numAt_vals (by omega)]
        rw [hsd] at HM
        have hc6 : (w5.alloc (.cells #[.slice A5 lk.length c5] 79)).cell? ⟨w5.heap.size, 0, none⟩ = some (.slice A5 lk.length c5) := by simp [go_sem]
        have HF6 := HF5.out.below (below_alloc w5 (.cells #[.slice A5 lk.length c5] 79))
        rw [hl5] at hc6 HF6 HB6 HZ6 ⊢
        have HN0 := Lib.hid (head_num w5.heap.size A5 5 c5 lk 0 _ hc6 HF6 (by omega) (hsm 0 (by omega)))
        have HN1 := Lib.hid (head_num w5.heap.size A5 5 c5 lk 1 _ hc6 HF6 (by omega) (hsm 1 (by omega)))
        have HN2 := Lib.hid (head_num w5.heap.size A5 5 c5 lk 2 _ hc6 HF6 (by omega) (hsm 2 (by omega)))
        have HN3 := Lib.hid (head_num w5.heap.size A5 5 c5 lk 3 _ hc6 HF6 (by omega) (hsm 3 (by omega)))
        have HN4 := Lib.hid (head_num w5.heap.size A5 5 c5 lk 4 _ hc6 HF6 (by omega) (hsm 4 (by omega)))
        clear hnum hsm hsd hc6 HF6
        generalize (fieldAt lk 0).num = n0 at *
        generalize (fieldAt lk 1).num = n1 at *
        generalize (fieldAt lk 2).num = n2 at *
        generalize (fieldAt lk 3).num = n3 at *
        generalize (fieldAt lk 4).num = n4 at *
        go_wp2_with fail
        refine HN0.out.mono ?_
        rintro e w6 ⟨rfl, rfl⟩
        go_wp2_with fail
        refine HN1.out.mono ?_
        rintro e w6 ⟨rfl, rfl⟩
        go_wp2_with fail
        refine HN2.out.mono ?_
        rintro e w6 ⟨rfl, rfl⟩
        go_wp2_with fail
        refine HN3.out.mono ?_
        rintro e w6 ⟨rfl, rfl⟩
        go_wp2_with fail
        refine HN4.out.mono ?_
        rintro e w6 ⟨rfl, rfl⟩
        clear HN0 HN1 HN2 HN3 HN4
        go_wp2_with (refine stN 24 [.int .u64 mk, .int .i64 n0, .int .i64 n1, .int .i64 n2, .int .i64 n3, .int .i64 n4] rfl _ _ rfl _ _ rfl rfl rfl (by simp [Value.oneCell']) Try.sizeSuper rfl ?_)
        have hsx : RowAt ((w5.alloc (.cells #[.slice A5 5 c5] 79)).alloc (.cells #[.int .u64 mk, .int .i64 n0, .int .i64 n1, .int .i64 n2, .int .i64 n3, .int .i64 n4] 24)) (w5.heap.size + 1) 24 [.int .u64 mk, .int .i64 n0, .int .i64 n1, .int .i64 n2, .int .i64 n3, .int .i64 n4] := by
          have := RowAt.new (w5.alloc (.cells #[.slice A5 5 c5] 79)) 24 [.int .u64 mk, .int .i64 n0, .int .i64 n1, .int .i64 n2, .int .i64 n3, .int .i64 n4]
          rw [show (w5.alloc (.cells #[.slice A5 5 c5] 79)).heap.size = w5.heap.size + 1 by simp] at this
          exact this
        have HSX := Lib.hid hsx
        have HBX := Lib.hid (balloc HB6.out (.cells #[.int .u64 mk, .int .i64 n0, .int .i64 n1, .int .i64 n2, .int .i64 n3, .int .i64 n4] 24))
        have HZX := Lib.hid (HZ6.out.below (below_alloc _ (.cells #[.int .u64 mk, .int .i64 n0, .int .i64 n1, .int .i64 n2, .int .i64 n3, .int .i64 n4] 24)))
        clear hsx
        generalize hwx : (w5.alloc (.cells #[.slice A5 5 c5] 79)).alloc (.cells #[.int .u64 mk, .int .i64 n0, .int .i64 n1, .int .i64 n2, .int .i64 n3, .int .i64 n4] 24) = wx at *
        clear hwx
        have hne : w.heap.size ≠ w5.heap.size + 1 := by have := HB5.out.size; omega
        generalize hgx : w5.heap.size + 1 = gx at *
        clear hgx
        have hx0 := HSX.out.cell 0 _ rfl
        have hx1 := HSX.out.cell 1 _ rfl
        have hx2 := HSX.out.cell 2 _ rfl
        have hx3 := HSX.out.cell 3 _ rfl
        have hx4 := HSX.out.cell 4 _ rfl
        have hx5 := HSX.out.cell 5 _ rfl
        go_region_held3 (fun w' => w'.cell? ⟨gx, 0, none⟩ = some (.int .u64 mk) ∧ w'.cell? ⟨gx, 1, none⟩ = some (.int .i64 n0) ∧ w'.cell? ⟨gx, 2, none⟩ = some (.int .i64 n1) ∧ w'.cell? ⟨gx, 3, none⟩ = some (.int .i64 n2) ∧ w'.cell? ⟨gx, 4, none⟩ = some (.int .i64 n3) ∧ w'.cell? ⟨gx, 5, none⟩ = some (.int .i64 n4)) (first | go_keep | (refine ⟨?_, ?_, ?_, ?_, ?_, ?_⟩ <;> (repeat rw [World.cell?_setCell_far _ _ _ _ hne]) <;> assumption))
          (first
            | (go_at_call 12
               refine (super_Right ⟨mk, n0, n1, n2, n3, n4⟩ _).mono ?_
               rintro e w9 ⟨rfl, hb9⟩
               have hb9' : Below wx.heap.size wx w9 := bthen (Below.refl _ wx).drew hb9
               have HS9 := Lib.hid (HSX.out.below hb9'); have HZ9 := Lib.hid (HZX.out.below hb9'); have HB9 := Lib.hid (bthen HBX.out hb9')
               have hS := (⟨HS9.out.cell 0 _ rfl, HS9.out.cell 1 _ rfl, HS9.out.cell 2 _ rfl, HS9.out.cell 3 _ rfl, HS9.out.cell 4 _ rfl, HS9.out.cell 5 _ rfl⟩ : w9.cell? ⟨gx, 0, none⟩ = some (.int .u64 mk) ∧ w9.cell? ⟨gx, 1, none⟩ = some (.int .i64 n0) ∧ w9.cell? ⟨gx, 2, none⟩ = some (.int .i64 n1) ∧ w9.cell? ⟨gx, 3, none⟩ = some (.int .i64 n2) ∧ w9.cell? ⟨gx, 4, none⟩ = some (.int .i64 n3) ∧ w9.cell? ⟨gx, 5, none⟩ = some (.int .i64 n4))
               have hz0 := HZ9.out.cell 0 _ rfl
               have hz1 := HZ9.out.cell 1 _ rfl
               have hz2 := HZ9.out.cell 2 _ rfl
               have hz3 := HZ9.out.cell 3 _ rfl
               have hz4 := HZ9.out.cell 4 _ rfl
               have hz5 := HZ9.out.cell 5 _ rfl
               have hf0 := frozen_of_row w9 w.heap.size 0 _ _ HZ9.out
               have hf1 := frozen_of_row w9 w.heap.size 1 _ _ HZ9.out
               have hf2 := frozen_of_row w9 w.heap.size 2 _ _ HZ9.out
               have hf3 := frozen_of_row w9 w.heap.size 3 _ _ HZ9.out
               have hf4 := frozen_of_row w9 w.heap.size 4 _ _ HZ9.out
               have hf5 := frozen_of_row w9 w.heap.size 5 _ _ HZ9.out
               have hoc : ∀ u ∈ ([.int .u64 mk, .int .i64 n0, .int .i64 n1, .int .i64 n2, .int .i64 n3, .int .i64 n4] : List Value), u.oneCell' = true := by simp [Value.oneCell']
               have hth : w9.there w.heap.size 0 6 := by
                 intro j hj
                 rw [Nat.zero_add]
                 refine ⟨?_, frozen_of_row _ _ _ _ _ HZ9.out⟩
                 rw [HZ9.out.cell j ([.int .u64 0, .int .i64 0, .int .i64 0, .int .i64 0, .int .i64 0, .int .i64 0][j]'hj) (List.getElem?_eq_getElem hj)]
                 rfl
               have hsz := Try.sizeSuper
               clear hb9 hb9'))
        have hfin := setCells_heap w.heap.size 24 [.int .u64 mk, .int .i64 n0, .int .i64 n1, .int .i64 n2, .int .i64 n3, .int .i64 n4] ([.int .u64 0, .int .i64 0, .int .i64 0, .int .i64 0, .int .i64 0, .int .i64 0] : List Value).toArray 0 w9 HZ9.out (by simp)
        have hrow : RowAt (w9.setCells w.heap.size 0 [.int .u64 mk, .int .i64 n0, .int .i64 n1, .int .i64 n2, .int .i64 n3, .int .i64 n4]) w.heap.size 24 [.int .u64 mk, .int .i64 n0, .int .i64 n1, .int .i64 n2, .int .i64 n3, .int .i64 n4] := hfin.1
        have HROW := Lib.hid hrow
        have HBF := Lib.hid (HB9.out.trans (hfin.2.below HB9.out.size (fun _ e => by rw [e]; exact Nat.le_refl _)))
        simp only [World.setCells] at HROW HBF
        clear hfin hrow hx0 hx1 hx2 hx3 hx4 hx5 hz0 hz1 hz2 hz3 hz4 hz5 hf0 hf1 hf2 hf3 hf4 hf5 hoc hth hsz
        go_wp2_with fail
        (try simp only [Exit.inBlock, Exit.then])
        refine bodyPost_ret (res_row_tmp rfl _ _ w.heap.size 0 [.int .u64 mk, .int .i64 n0, .int .i64 n1, .int .i64 n2, .int .i64 n3, .int .i64 n4] _ (.bool (decide (⟨mk, n0, n1, n2, n3, n4⟩ : SD).right)) rfl rfl HROW.out.range Try.underlying24 rfl Try.sizeSuper) rfl ?_
        exact ⟨by rw [HM.out]; rfl, HBF.out⟩
      · have hq : ((mk : Int) % 2 != (k : Int)) = true := by rw [bne_iff_ne]; omega
        have HM : Hid (headM x k = (SD.z, false)) := Lib.hid (by unfold headM; rw [HO.out]; simp only; rw [HO5.out]; simp only; rw [if_neg hpar])
        clear hpar
        go_wp2_with (refine stN_at 24 [.int .u64 0, .int .i64 0, .int .i64 0, .int .i64 0, .int .i64 0, .int .i64 0] [.int .u64 0, .int .i64 0, .int .i64 0, .int .i64 0, .int .i64 0, .int .i64 0] rfl _ _ rfl w.heap.size rfl HZ6.out rfl (by simp [Value.oneCell']) Try.sizeSuper rfl ?_; intro w8 hz8 hk8; have HZ8 := Lib.hid hz8; have HB8 := Lib.hid ((HB6.out).trans (hk8.below (HB6.out).size (fun _ e => by rw [e]; exact Nat.le_refl _))); clear hz8 hk8)
        (try simp only [Exit.inBlock, Exit.then])
        refine bodyPost_ret (res_row_tmp rfl _ _ w.heap.size 0 [.int .u64 0, .int .i64 0, .int .i64 0, .int .i64 0, .int .i64 0, .int .i64 0] _ (.bool false) rfl rfl HZ8.out.range Try.underlying24 rfl Try.sizeSuper) rfl ?_
        exact ⟨by rw [HM.out]; rfl, HB8.out⟩
    · have HM : Hid (headM x k = (SD.z, false)) := Lib.hid (by unfold headM; rw [HO.out]; simp only; rw [ho5])
      have HB6 := Lib.hid (balloc HB5.out (.cells #[.slice none 0 0] 79))
      have HZ6 := Lib.hid (HZ5.out.below (below_alloc w5 (.cells #[.slice none 0 0] 79)))
      clear ho5 hb5
      go_wp2_with (refine stN_at 24 [.int .u64 0, .int .i64 0, .int .i64 0, .int .i64 0, .int .i64 0, .int .i64 0] [.int .u64 0, .int .i64 0, .int .i64 0, .int .i64 0, .int .i64 0, .int .i64 0] rfl _ _ rfl w.heap.size rfl HZ6.out rfl (by simp [Value.oneCell']) Try.sizeSuper rfl ?_; intro w8 hz8 hk8; have HZ8 := Lib.hid hz8; have HB8 := Lib.hid ((HB6.out).trans (hk8.below (HB6.out).size (fun _ e => by rw [e]; exact Nat.le_refl _))); clear hz8 hk8)
      (try simp only [Exit.inBlock, Exit.then])
      refine bodyPost_ret (res_row_tmp rfl _ _ w.heap.size 0 [.int .u64 0, .int .i64 0, .int .i64 0, .int .i64 0, .int .i64 0, .int .i64 0] _ (.bool false) rfl rfl HZ8.out.range Try.underlying24 rfl Try.sizeSuper) rfl ?_
      exact ⟨by rw [HM.out]; rfl, HB8.out⟩
  · have HM : Hid (headM x k = (SD.z, false)) := Lib.hid (by unfold headM; rw [hno])
    clear hb4 hno hld
    go_wp2_with fail
    have hu := codec_Unpack superSh none 0 0 [] w4 (RB.nil w4)
    rw [show unpackM superSh [] = none from by decide] at hu
    refine hu.mono ?_
    clear hu
    rintro e w5 ⟨hb5, ⟨v5, lk, ho5, -⟩ | ⟨-, rfl⟩⟩
    · cases ho5
    · have HB6 := Lib.hid (balloc (bthen HB4.out hb5) (.cells #[.slice none 0 0] 79))
      have HZ6 := Lib.hid ((HZ4.out.below hb5).below (below_alloc w5 (.cells #[.slice none 0 0] 79)))
      clear hb5
      go_wp2_with (refine stN_at 24 [.int .u64 0, .int .i64 0, .int .i64 0, .int .i64 0, .int .i64 0, .int .i64 0] [.int .u64 0, .int .i64 0, .int .i64 0, .int .i64 0, .int .i64 0, .int .i64 0] rfl _ _ rfl w.heap.size rfl HZ6.out rfl (by simp [Value.oneCell']) Try.sizeSuper rfl ?_; intro w8 hz8 hk8; have HZ8 := Lib.hid hz8; have HB8 := Lib.hid ((HB6.out).trans (hk8.below (HB6.out).size (fun _ e => by rw [e]; exact Nat.le_refl _))); clear hz8 hk8)
      (try simp only [Exit.inBlock, Exit.then])
      refine bodyPost_ret (res_row_tmp rfl _ _ w.heap.size 0 [.int .u64 0, .int .i64 0, .int .i64 0, .int .i64 0, .int .i64 0, .int .i64 0] _ (.bool false) rfl rfl HZ8.out.range Try.underlying24 rfl Try.sizeSuper) rfl ?_
      exact ⟨by rw [HM.out]; rfl, HB8.out⟩
end Go.Proofs.Ytanibabfdpgbbaa
