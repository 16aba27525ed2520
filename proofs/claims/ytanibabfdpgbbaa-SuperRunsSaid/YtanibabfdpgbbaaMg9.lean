/- super.head and super.Read. -/
import Derived.Test.YtanibabfdpgbbaaMg8
import Derived.Deep.RegionHeld3
import Derived.Deep.CutRange
import Derived.Test.YtanibabfdpgbbaaMg6
import Derived.Test.YtanibabfdpgbbaaMg7
import Derived.Test.YtanibabfdpgbbaaMg3
namespace Go.Proofs.Ytanibabfdpgbbaa
open Go.RowKit
attribute [local go_sem ↓] loadAt37

/-- Fields after a shape of digits have small numbers. -/
theorem small_nums (sh : List UInt8) (hsh : ∀ c ∈ sh, c = 52 ∨ c = 50) : ∀ (vs : List V) (x : List UInt8), packL sh vs = some x → vs.length = sh.length ∧ ∀ v ∈ vs, v.1 < 4294967296 := by
  induction sh with
  | nil =>
    intro vs x h
    match vs, h with
    | [], _ => exact ⟨rfl, fun v hv => absurd hv (by simp)⟩
  | cons c sh ih =>
    intro vs x h
    match vs, h with
    | v :: vs, h =>
      simp only [packL] at h
      split at h
      · rename_i a b ha hb
        obtain ⟨h1, h2⟩ := ih (fun c hc => hsh c (List.mem_cons_of_mem _ hc)) vs b hb
        refine ⟨by simp [h1], fun v' hv' => ?_⟩
        rcases List.mem_cons.1 hv' with rfl | hv'
        · rcases hsh c List.mem_cons_self with rfl | rfl
          · have w4 : letterW 52 = some (3 + 1) := by decide
            simp only [encV, w4] at ha
            split at ha
            · rename_i hlt
              have : (256 : Nat) ^ (3 + 1) = 4294967296 := by decide
              omega
            · cases ha
          · have w2 : letterW 50 = some (1 + 1) := by decide
            simp only [encV, w2] at ha
            split at ha
            · rename_i hlt
              have : (256 : Nat) ^ (1 + 1) = 65536 := by decide
              omega
            · cases ha
        · exact h2 v' hv'
      · cases h
theorem super_nums {body : List UInt8} {vs : List V} (h : unpackM superSh body = some vs) : vs.length = 5 ∧ ∀ v ∈ vs, v.1 < 4294967296 := by
  obtain ⟨_, h1⟩ := (unpackM_iff _ _ _).1 h
  obtain ⟨x, hx, _⟩ := un_pack _ _ _ _ h1
  exact small_nums superSh (by decide) vs x hx
def numAt (vs : List V) (k : Nat) : Nat := (vs.getD k (0, [])).1
def sdOf (gen : Nat) (vs : List V) : SD := ⟨gen, numAt vs 0, numAt vs 1, numAt vs 2, numAt vs 3, numAt vs 4⟩
/-- The super of a sector, if it has one. -/
def headM (x : List UInt8) (k : Nat) : SD × Bool :=
  match openM x with
  | none => (SD.z, false)
  | some (gen, body) => match unpackM superSh body with
    | none => (SD.z, false)
    | some vs => if gen % 2 = k then (sdOf gen vs, decide (sdOf gen vs).right) else (SD.z, false)
def HeadPost (w : World) (r : SD × Bool) (e : Ending) (w' : World) : Prop := e = .returned (.tuple #[r.1.v, .bool r.2]) ∧ Below w.heap.size w w'
set_option maxRecDepth 20000 in
set_option maxHeartbeats 1600000 in
/-- The function within: a field's number. -/
theorem head_num (g : Nat) (A : Option Addr) (n c : Nat) (l : List FieldD) (k : Nat) (w : World) (hc : w.cell? ⟨g, 0, none⟩ = some (.slice A n c)) (hl : RFields w A n c l) (hk : k < n) (hs : (fieldAt l k).num < 4294967296) :
    Calls Try.prog 46 #[.int .i64 k, .pointer (some ⟨g, 0, none⟩)] w fun e w' => e = .returned (.int .i64 ((fieldAt l k).num : Nat)) ∧ w = w' := by
  obtain ⟨b, o, rfl, hf⟩ := hl.2.2.2 (by omega)
  have hcell : w.cell? ⟨b, o + k * 2, none⟩ = some (.int .u64 ((fieldAt l k).num : Nat)) := (hf k hk).1 0 _ rfl
  have hk0 : (0 : Int) ≤ (k : Int) := Int.natCast_nonneg _
  have hk1 : (k : Int) < (n : Int) := by omega
  clear hl hf
  generalize (fieldAt l k).num = m at *
  have hw : IntKind.i64.wrap (m : Int) = (m : Int) := by simp [IntKind.wrap, IntKind.signed, IntKind.bits]; omega
  go_enter Try.func46, Try.ntmps46
  go_wp2_with fail
  go_ret
  exact ⟨rfl, rfl⟩
theorem numAt_vals {lk : List FieldD} {k : Nat} (h : k < lk.length) : numAt (vals lk) k = (fieldAt lk k).num := by
  rw [numAt, fieldAt_get h]
  simp [vals, List.getD_eq_getElem?_getD, h]
def ldSup (p : Value) : Sem Value := Instr.loadAt 24 p
theorem loadAtSup (p : Value) : Instr.loadAt 24 p = ldSup p := rfl
theorem run_ldSup {w : World} {g : Nat} {cs : List Value} (h : RowAt w g 24 cs) (hl : cs.length = 6) : (ldSup (.pointer (some ⟨g, 0, none⟩))).run Try.prog w = .ok (.agg cs.toArray) w :=
  run_loadAt_mid w g 0 _ cs _ h.range Try.underlying24 rfl (Try.sizeSuper.trans (by rw [hl]))
set_option maxRecDepth 20000 in
set_option maxHeartbeats 6400000 in
theorem super_head {w : World} {base p s : Nat} {v : Value} {d : Dk} (h : DiskAt w base p s v d) (hpl : d.pend.length ≤ 1000) (k : Nat) (hk : k < d.stable.length) (hk2 : k < 2) :
    Calls Try.prog 27 #[.pointer (some ⟨p, 0, none⟩), .int .i64 k] w (HeadPost w (headM (d.read k) k)) := by
  have hmf : ∀ (fn : Fn) (first cap : Array Value) (w : World), (Instr.makeFunc fn first cap).run Try.prog w = .ok (.func fn first cap) w := fun _ _ _ _ => rfl
  have HLX := Lib.hid (read_len h k hk)
  have hb0 := below_alloc w (.cells #[.int .u64 0, .int .i64 0, .int .i64 0, .int .i64 0, .int .i64 0, .int .i64 0] 24)
  have HZ := Lib.hid (RowAt.new w 24 [.int .u64 0, .int .i64 0, .int .i64 0, .int .i64 0, .int .i64 0, .int .i64 0])
  have HB0 := Lib.hid hb0
  have HRD := Lib.hid (disk_Read_yes (h.below hb0) k hk (by omega))
  have hk0 : (0 : Int) ≤ (k : Int) := Int.natCast_nonneg _
  have hk1 : (k : Int) < 2 := by omega
  generalize d.read k = x at *
  clear h hb0 hpl hk
  go_enter Try.func27, Try.ntmps27
  go_wp2_with fail
  generalize w.alloc (.cells #[.int .u64 0, .int .i64 0, .int .i64 0, .int .i64 0, .int .i64 0, .int .i64 0] 24) = w1 at *
  refine HRD.out.mono ?_
  rintro e w2 ⟨rfl, hb2⟩
  have HB2 := Lib.hid (balloc (bthen HB0.out hb2) (.cells (bv x).toArray 32))
  have HZ2 := Lib.hid ((HZ.out.below hb2).below (below_alloc w2 (.cells (bv x).toArray 32)))
  have hld := run_ldSec (w := w2.alloc (.cells (bv x).toArray 32)) (range_alloc w2 (bv x) _ _) HLX.out
  clear hb2 HRD
  go_wp2_with (refine st37 rfl _ _ rfl _ _ rfl rfl x rfl HLX.out rfl ?_)
  generalize hw3 : w2.alloc (.cells (bv x).toArray 32) = w3 at *
  clear hw3
  refine (seal_Open x HLX.out w3).mono ?_
  rintro e w4 ⟨mk, A4, m4, c4, b4, rfl, hb4, hcase⟩
  have HB4 := Lib.hid (bthen HB2.out hb4)
  have HZ4 := Lib.hid (HZ2.out.below hb4)
  rcases hcase with ⟨body, ho, rfl, hrb⟩ | ⟨hno, rfl, rfl, rfl, rfl, rfl⟩
  · have HO := Lib.hid ho; have HRB := Lib.hid hrb
    clear hb4 ho hrb hld
    go_wp2_with fail
    refine (codec_Unpack superSh A4 m4 c4 body w4 HRB.out).mono ?_
    rintro e w5 ⟨hb5, hcase5⟩
    have HB5 := Lib.hid (bthen HB4.out hb5)
    have HZ5 := Lib.hid (HZ4.out.below hb5)
    rcases hcase5 with ⟨v5, lk, ho5, rfl, hof⟩ | ⟨ho5, rfl⟩
    · obtain ⟨A5, c5, rfl, hrf⟩ := hof.read
      have HF5 := Lib.hid hrf; have HO5 := Lib.hid ho5
      clear hb5 hof hrf ho5
      have HB6 := Lib.hid (balloc HB5.out (.cells #[.slice A5 lk.length c5] 79))
      have HZ6 := Lib.hid (HZ5.out.below (below_alloc w5 (.cells #[.slice A5 lk.length c5] 79)))
      by_cases hpar : mk % 2 = k
      · have hq : ((mk : Int) % 2 != (k : Int)) = false := by rw [show (mk : Int) % 2 = (k : Int) by omega]; simp
        have HM : Hid (headM x k = (sdOf mk (vals lk), decide (sdOf mk (vals lk)).right)) := Lib.hid (by unfold headM; rw [HO.out]; simp only; rw [HO5.out]; simp only; rw [if_pos hpar])
        clear hpar
        have hnum := super_nums HO5.out
        have hl5 : lk.length = 5 := by have := hnum.1; simpa [vals] using this
        have hsm : ∀ i, i < 5 → (fieldAt lk i).num < 4294967296 := fun i hi => by
          have := hnum.2 ((fieldAt lk i).num, (fieldAt lk i).bytes) (by
            rw [fieldAt_get (by omega)]
            exact List.mem_map.2 ⟨_, List.getElem_mem _, rfl⟩)
          exact this
        have hsd : sdOf mk (vals lk) = ⟨mk, (fieldAt lk 0).num, (fieldAt lk 1).num, (fieldAt lk 2).num, (fieldAt lk 3).num, (fieldAt lk 4).num⟩ := by
          unfold sdOf
          rw [numAt_vals (by omega), numAt_vals (by omega), numAt_vals (by omega), numAt_vals (by omega), numAt_vals (by omega)]
        rw [hsd] at HM
        have hc6 : (w5.alloc (.cells #[.slice A5 lk.length c5] 79)).cell? ⟨w5.heap.size, 0, none⟩ = some (.slice A5 lk.length c5) := by simp [go_sem]
        have HF6 := HF5.out.below (below_alloc w5 (.cells #[.slice A5 lk.length c5] 79))
        rw [hl5] at hc6 HF6 HB6 HZ6 ⊢
        have HN0 := Lib.hid (head_num w5.heap.size A5 5 c5 lk 0 _ hc6 HF6 (by omega) (hsm 0 (by omega)))
        have HN1 := Lib.hid (head_num w5.heap.size A5 5 c5 lk 1 _ hc6 HF6 (by omega) (hsm 1 (by omega)))
        have HN2 := Lib.hid (head_num w5.heap.size A5 5 c5 lk 2 _ hc6 HF6 (by omega) (hsm 2 (by omega)))
        have HN3 := Lib.hid (head_num w5.heap.size A5 5 c5 lk 3 _ hc6 HF6 (by omega) (hsm 3 (by omega)))
        have HN4 := Lib.hid (head_num w5.heap.size A5 5 c5 lk 4 _ hc6 HF6 (by omega) (hsm 4 (by omega)))
        clear hnum hsm hsd hc6 HF6
        generalize (fieldAt lk 0).num = n0 at *
        generalize (fieldAt lk 1).num = n1 at *
        generalize (fieldAt lk 2).num = n2 at *
        generalize (fieldAt lk 3).num = n3 at *
        generalize (fieldAt lk 4).num = n4 at *
        go_wp2_with fail
        refine HN0.out.mono ?_
        rintro e w6 ⟨rfl, rfl⟩
        go_wp2_with fail
        refine HN1.out.mono ?_
        rintro e w6 ⟨rfl, rfl⟩
        go_wp2_with fail
        refine HN2.out.mono ?_
        rintro e w6 ⟨rfl, rfl⟩
        go_wp2_with fail
        refine HN3.out.mono ?_
        rintro e w6 ⟨rfl, rfl⟩
        go_wp2_with fail
        refine HN4.out.mono ?_
        rintro e w6 ⟨rfl, rfl⟩
        clear HN0 HN1 HN2 HN3 HN4
        go_wp2_with (refine stN 24 [.int .u64 mk, .int .i64 n0, .int .i64 n1, .int .i64 n2, .int .i64 n3, .int .i64 n4] rfl _ _ rfl _ _ rfl rfl rfl (by simp [Value.oneCell']) Try.sizeSuper rfl ?_)
        have hsx : RowAt ((w5.alloc (.cells #[.slice A5 5 c5] 79)).alloc (.cells #[.int .u64 mk, .int .i64 n0, .int .i64 n1, .int .i64 n2, .int .i64 n3, .int .i64 n4] 24)) (w5.heap.size + 1) 24 [.int .u64 mk, .int .i64 n0, .int .i64 n1, .int .i64 n2, .int .i64 n3, .int .i64 n4] := by
          have := RowAt.new (w5.alloc (.cells #[.slice A5 5 c5] 79)) 24 [.int .u64 mk, .int .i64 n0, .int .i64 n1, .int .i64 n2, .int .i64 n3, .int .i64 n4]
          rw [show (w5.alloc (.cells #[.slice A5 5 c5] 79)).heap.size = w5.heap.size + 1 by simp] at this
          exact this
        have HSX := Lib.hid hsx
        have HBX := Lib.hid (balloc HB6.out (.cells #[.int .u64 mk, .int .i64 n0, .int .i64 n1, .int .i64 n2, .int .i64 n3, .int .i64 n4] 24))
        have HZX := Lib.hid (HZ6.out.below (below_alloc _ (.cells #[.int .u64 mk, .int .i64 n0, .int .i64 n1, .int .i64 n2, .int .i64 n3, .int .i64 n4] 24)))
        clear hsx
        generalize hwx : (w5.alloc (.cells #[.slice A5 5 c5] 79)).alloc (.cells #[.int .u64 mk, .int .i64 n0, .int .i64 n1, .int .i64 n2, .int .i64 n3, .int .i64 n4] 24) = wx at *
        clear hwx
        have hne : w.heap.size ≠ w5.heap.size + 1 := by have := HB5.out.size; omega
        generalize hgx : w5.heap.size + 1 = gx at *
        clear hgx
        have hx0 := HSX.out.cell 0 _ rfl
        have hx1 := HSX.out.cell 1 _ rfl
        have hx2 := HSX.out.cell 2 _ rfl
        have hx3 := HSX.out.cell 3 _ rfl
        have hx4 := HSX.out.cell 4 _ rfl
        have hx5 := HSX.out.cell 5 _ rfl
        go_region_held3 (fun w' => w'.cell? ⟨gx, 0, none⟩ = some (.int .u64 mk) ∧ w'.cell? ⟨gx, 1, none⟩ = some (.int .i64 n0) ∧ w'.cell? ⟨gx, 2, none⟩ = some (.int .i64 n1) ∧ w'.cell? ⟨gx, 3, none⟩ = some (.int .i64 n2) ∧ w'.cell? ⟨gx, 4, none⟩ = some (.int .i64 n3) ∧ w'.cell? ⟨gx, 5, none⟩ = some (.int .i64 n4)) (first | go_keep | (refine ⟨?_, ?_, ?_, ?_, ?_, ?_⟩ <;> (repeat rw [World.cell?_setCell_far _ _ _ _ hne]) <;> assumption))
          (first
            | (go_at_call 12
               refine (super_Right ⟨mk, n0, n1, n2, n3, n4⟩ _).mono ?_
               rintro e w9 ⟨rfl, hb9⟩
               have hb9' : Below wx.heap.size wx w9 := bthen (Below.refl _ wx).drew hb9
               have HS9 := Lib.hid (HSX.out.below hb9'); have HZ9 := Lib.hid (HZX.out.below hb9'); have HB9 := Lib.hid (bthen HBX.out hb9')
               have hS := (⟨HS9.out.cell 0 _ rfl, HS9.out.cell 1 _ rfl, HS9.out.cell 2 _ rfl, HS9.out.cell 3 _ rfl, HS9.out.cell 4 _ rfl, HS9.out.cell 5 _ rfl⟩ : w9.cell? ⟨gx, 0, none⟩ = some (.int .u64 mk) ∧ w9.cell? ⟨gx, 1, none⟩ = some (.int .i64 n0) ∧ w9.cell? ⟨gx, 2, none⟩ = some (.int .i64 n1) ∧ w9.cell? ⟨gx, 3, none⟩ = some (.int .i64 n2) ∧ w9.cell? ⟨gx, 4, none⟩ = some (.int .i64 n3) ∧ w9.cell? ⟨gx, 5, none⟩ = some (.int .i64 n4))
               have hz0 := HZ9.out.cell 0 _ rfl
               have hz1 := HZ9.out.cell 1 _ rfl
               have hz2 := HZ9.out.cell 2 _ rfl
               have hz3 := HZ9.out.cell 3 _ rfl
               have hz4 := HZ9.out.cell 4 _ rfl
               have hz5 := HZ9.out.cell 5 _ rfl
               have hf0 := frozen_of_row w9 w.heap.size 0 _ _ HZ9.out
               have hf1 := frozen_of_row w9 w.heap.size 1 _ _ HZ9.out
               have hf2 := frozen_of_row w9 w.heap.size 2 _ _ HZ9.out
               have hf3 := frozen_of_row w9 w.heap.size 3 _ _ HZ9.out
               have hf4 := frozen_of_row w9 w.heap.size 4 _ _ HZ9.out
               have hf5 := frozen_of_row w9 w.heap.size 5 _ _ HZ9.out
               have hoc : ∀ u ∈ ([.int .u64 mk, .int .i64 n0, .int .i64 n1, .int .i64 n2, .int .i64 n3, .int .i64 n4] : List Value), u.oneCell' = true := by simp [Value.oneCell']
               have hth : w9.there w.heap.size 0 6 := by
                 intro j hj
                 rw [Nat.zero_add]
                 refine ⟨?_, frozen_of_row _ _ _ _ _ HZ9.out⟩
                 rw [HZ9.out.cell j ([.int .u64 0, .int .i64 0, .int .i64 0, .int .i64 0, .int .i64 0, .int .i64 0][j]'hj) (List.getElem?_eq_getElem hj)]
                 rfl
               have hsz := Try.sizeSuper
               clear hb9 hb9'))
        have hfin := setCells_heap w.heap.size 24 [.int .u64 mk, .int .i64 n0, .int .i64 n1, .int .i64 n2, .int .i64 n3, .int .i64 n4] ([.int .u64 0, .int .i64 0, .int .i64 0, .int .i64 0, .int .i64 0, .int .i64 0] : List Value).toArray 0 w9 HZ9.out (by simp)
        have hrow : RowAt (w9.setCells w.heap.size 0 [.int .u64 mk, .int .i64 n0, .int .i64 n1, .int .i64 n2, .int .i64 n3, .int .i64 n4]) w.heap.size 24 [.int .u64 mk, .int .i64 n0, .int .i64 n1, .int .i64 n2, .int .i64 n3, .int .i64 n4] := hfin.1
        have HROW := Lib.hid hrow
        have HBF := Lib.hid (HB9.out.trans (hfin.2.below HB9.out.size (fun _ e => by rw [e]; exact Nat.le_refl _)))
        simp only [World.setCells] at HROW HBF
        clear hfin hrow hx0 hx1 hx2 hx3 hx4 hx5 hz0 hz1 hz2 hz3 hz4 hz5 hf0 hf1 hf2 hf3 hf4 hf5 hoc hth hsz
        go_wp2_with fail
        (try simp only [Exit.inBlock, Exit.then])
        refine bodyPost_ret (res_row_tmp rfl _ _ w.heap.size 0 [.int .u64 mk, .int .i64 n0, .int .i64 n1, .int .i64 n2, .int .i64 n3, .int .i64 n4] _ (.bool (decide (⟨mk, n0, n1, n2, n3, n4⟩ : SD).right)) rfl rfl HROW.out.range Try.underlying24 rfl Try.sizeSuper) rfl ?_
        exact ⟨by rw [HM.out]; rfl, HBF.out⟩
      · have hq : ((mk : Int) % 2 != (k : Int)) = true := by rw [bne_iff_ne]; omega
        have HM : Hid (headM x k = (SD.z, false)) := Lib.hid (by unfold headM; rw [HO.out]; simp only; rw [HO5.out]; simp only; rw [if_neg hpar])
        clear hpar
        go_wp2_with (refine stN_at 24 [.int .u64 0, .int .i64 0, .int .i64 0, .int .i64 0, .int .i64 0, .int .i64 0] [.int .u64 0, .int .i64 0, .int .i64 0, .int .i64 0, .int .i64 0, .int .i64 0] rfl _ _ rfl w.heap.size rfl HZ6.out rfl (by simp [Value.oneCell']) Try.sizeSuper rfl ?_; intro w8 hz8 hk8; have HZ8 := Lib.hid hz8; have HB8 := Lib.hid ((HB6.out).trans (hk8.below (HB6.out).size (fun _ e => by rw [e]; exact Nat.le_refl _))); clear hz8 hk8)
        (try simp only [Exit.inBlock, Exit.then])
        refine bodyPost_ret (res_row_tmp rfl _ _ w.heap.size 0 [.int .u64 0, .int .i64 0, .int .i64 0, .int .i64 0, .int .i64 0, .int .i64 0] _ (.bool false) rfl rfl HZ8.out.range Try.underlying24 rfl Try.sizeSuper) rfl ?_
        exact ⟨by rw [HM.out]; rfl, HB8.out⟩
    · have HM : Hid (headM x k = (SD.z, false)) := Lib.hid (by unfold headM; rw [HO.out]; simp only; rw [ho5])
      have HB6 := Lib.hid (balloc HB5.out (.cells #[.slice none 0 0] 79))
      have HZ6 := Lib.hid (HZ5.out.below (below_alloc w5 (.cells #[.slice none 0 0] 79)))
      clear ho5 hb5
      go_wp2_with (refine stN_at 24 [.int .u64 0, .int .i64 0, .int .i64 0, .int .i64 0, .int .i64 0, .int .i64 0] [.int .u64 0, .int .i64 0, .int .i64 0, .int .i64 0, .int .i64 0, .int .i64 0] rfl _ _ rfl w.heap.size rfl HZ6.out rfl (by simp [Value.oneCell']) Try.sizeSuper rfl ?_; intro w8 hz8 hk8; have HZ8 := Lib.hid hz8; have HB8 := Lib.hid ((HB6.out).trans (hk8.below (HB6.out).size (fun _ e => by rw [e]; exact Nat.le_refl _))); clear hz8 hk8)
      (try simp only [Exit.inBlock, Exit.then])
      refine bodyPost_ret (res_row_tmp rfl _ _ w.heap.size 0 [.int .u64 0, .int .i64 0, .int .i64 0, .int .i64 0, .int .i64 0, .int .i64 0] _ (.bool false) rfl rfl HZ8.out.range Try.underlying24 rfl Try.sizeSuper) rfl ?_
      exact ⟨by rw [HM.out]; rfl, HB8.out⟩
  · have HM : Hid (headM x k = (SD.z, false)) := Lib.hid (by unfold headM; rw [hno])
    clear hb4 hno hld
    go_wp2_with fail
    have hu := codec_Unpack superSh none 0 0 [] w4 (RB.nil w4)
    rw [show unpackM superSh [] = none from by decide] at hu
    refine hu.mono ?_
    clear hu
    rintro e w5 ⟨hb5, ⟨v5, lk, ho5, -⟩ | ⟨-, rfl⟩⟩
    · cases ho5
    · have HB6 := Lib.hid (balloc (bthen HB4.out hb5) (.cells #[.slice none 0 0] 79))
      have HZ6 := Lib.hid ((HZ4.out.below hb5).below (below_alloc w5 (.cells #[.slice none 0 0] 79)))
      clear hb5
      go_wp2_with (refine stN_at 24 [.int .u64 0, .int .i64 0, .int .i64 0, .int .i64 0, .int .i64 0, .int .i64 0] [.int .u64 0, .int .i64 0, .int .i64 0, .int .i64 0, .int .i64 0, .int .i64 0] rfl _ _ rfl w.heap.size rfl HZ6.out rfl (by simp [Value.oneCell']) Try.sizeSuper rfl ?_; intro w8 hz8 hk8; have HZ8 := Lib.hid hz8; have HB8 := Lib.hid ((HB6.out).trans (hk8.below (HB6.out).size (fun _ e => by rw [e]; exact Nat.le_refl _))); clear hz8 hk8)
      (try simp only [Exit.inBlock, Exit.then])
      refine bodyPost_ret (res_row_tmp rfl _ _ w.heap.size 0 [.int .u64 0, .int .i64 0, .int .i64 0, .int .i64 0, .int .i64 0, .int .i64 0] _ (.bool false) rfl rfl HZ8.out.range Try.underlying24 rfl Try.sizeSuper) rfl ?_
      exact ⟨by rw [HM.out]; rfl, HB8.out⟩
end Go.Proofs.Ytanibabfdpgbbaa

/- super.Read. -/
namespace Go.Proofs.Ytanibabfdpgbbaa
open Go.RowKit

/-- The super that counts of the first k sectors. -/
def readTo (rd : Nat → List UInt8) : Nat → SD × Bool
  | 0 => (SD.z, false)
  | k + 1 => if (headM (rd k) k).2 = true ∧ (readTo rd k).1.gen ≤ (headM (rd k) k).1.gen then ((headM (rd k) k).1, true) else readTo rd k
def ReadPost (w : World) (r : SD × Bool) (e : Ending) (w' : World) : Prop := e = .returned (.tuple #[r.1.v, .bool r.2]) ∧ Below w.heap.size w w'
set_option maxRecDepth 20000 in
set_option maxHeartbeats 6400000 in
theorem super_Read {w : World} {base p s : Nat} {v : Value} {d : Dk} (h : DiskAt w base p s v d) (hpl : d.pend.length ≤ 1000) (hlen : 2 ≤ d.stable.length) :
    Calls Try.prog 9 #[.pointer (some ⟨p, 0, none⟩)] w (ReadPost w (readTo d.read 2)) := by
  have HD := Lib.hid h; have HPL := Lib.hid hpl; have HLN := Lib.hid hlen
  obtain ⟨wA, hwA⟩ : ∃ wA, wA = (w.alloc (.cells #[.int .u64 0, .int .i64 0, .int .i64 0, .int .i64 0, .int .i64 0, .int .i64 0] 24)).alloc (.cells #[.int .u64 0, .int .i64 0, .int .i64 0, .int .i64 0, .int .i64 0, .int .i64 0] 24) := ⟨_, rfl⟩
  have h2 : RowAt wA w.heap.size 24 [.int .u64 0, .int .i64 0, .int .i64 0, .int .i64 0, .int .i64 0, .int .i64 0] := by
    rw [hwA]
    exact (RowAt.new w 24 [.int .u64 0, .int .i64 0, .int .i64 0, .int .i64 0, .int .i64 0, .int .i64 0]).below (below_alloc _ _)
  have h4 : RowAt wA (w.heap.size + 1) 24 [.int .u64 0, .int .i64 0, .int .i64 0, .int .i64 0, .int .i64 0, .int .i64 0] := by
    have := RowAt.new (w.alloc (.cells ([.int .u64 0, .int .i64 0, .int .i64 0, .int .i64 0, .int .i64 0, .int .i64 0] : List Value).toArray 24)) 24 [.int .u64 0, .int .i64 0, .int .i64 0, .int .i64 0, .int .i64 0, .int .i64 0]
    rw [hwA]
    simpa using this
  have hb : Below w.heap.size w wA := by
    rw [hwA]
    exact (below_alloc w _).alloc (by simp) _
  have HWA := Lib.hid hwA; have H2 := Lib.hid h2; have H4 := Lib.hid h4; have HB := Lib.hid hb
  clear h hpl hlen hwA h2 h4 hb
  go_enter Try.func9, Try.ntmps9
  go_wp2_with (refine stN 24 [.int .u64 0, .int .i64 0, .int .i64 0, .int .i64 0, .int .i64 0, .int .i64 0] rfl _ _ rfl _ _ rfl (by simp) rfl (by simp [Value.oneCell']) Try.sizeSuper rfl ?_)
  rw [← HWA.out]
  clear HWA
  go_loopw [5, 10] (fun f i wr => ∃ k bg b1 b2 b3 b4 b5 fb, k ≤ 2 ∧ i = .int .i64 (k : Nat) ∧ f = .bool fb ∧ Hid (readTo d.read k = (⟨bg, b1, b2, b3, b4, b5⟩, fb)) ∧ Hid (RowAt wr (w.heap.size + 1) 24 [.int .u64 (bg : Nat), .int .i64 b1, .int .i64 b2, .int .i64 b3, .int .i64 b4, .int .i64 b5]) ∧ Hid (RowAt wr w.heap.size 24 [.int .u64 0, .int .i64 0, .int .i64 0, .int .i64 0, .int .i64 0, .int .i64 0]) ∧ Hid (Below w.heap.size w wr)) (fun _ i _ => 2 - (intOf i).toNat)
  case atStart => exact ⟨0, 0, 0, 0, 0, 0, 0, false, by omega, rfl, rfl, Lib.hid rfl, H4, H2, HB⟩
  case round =>
    obtain ⟨k, bg, b1, b2, b3, b4, b5, fb, hk, rfl, rfl, HM, HR4, HR2, HBr⟩ := hrel
    by_cases hlt : k < 2
    · have hk0 : (0 : Int) ≤ (k : Int) := Int.natCast_nonneg _
      have hk1 : (k : Int) < 2 := by omega
      have HH := Lib.hid (super_head (HD.out.below HBr.out) HPL.out k (by have := HLN.out; omega) hlt)
      have hnx : readTo d.read (k + 1) = if (headM (d.read k) k).2 = true ∧ bg ≤ (headM (d.read k) k).1.gen then ((headM (d.read k) k).1, true) else (⟨bg, b1, b2, b3, b4, b5⟩, fb) := by
        rw [readTo, HM.out]
      have HNX := Lib.hid hnx
      clear hnx
      generalize headM (d.read k) k = hm at *
      obtain ⟨⟨sg, s1, s2, s3, s4, s5⟩, ok⟩ := hm
      go_wp2_with fail
      refine HH.out.mono ?_
      clear HH
      rintro e w5 ⟨rfl, hb5⟩
      unfold SD.v
      dsimp only
      have HB5 := Lib.hid (balloc (bthen HBr.out hb5) (.cells ([.int .u64 (sg : Nat), .int .i64 s1, .int .i64 s2, .int .i64 s3, .int .i64 s4, .int .i64 s5] : List Value).toArray 24))
      have HS5 := Lib.hid (RowAt.new w5 24 [.int .u64 (sg : Nat), .int .i64 s1, .int .i64 s2, .int .i64 s3, .int .i64 s4, .int .i64 s5])
      have HR45 := Lib.hid ((HR4.out.below hb5).below (below_alloc w5 (.cells ([.int .u64 (sg : Nat), .int .i64 s1, .int .i64 s2, .int .i64 s3, .int .i64 s4, .int .i64 s5] : List Value).toArray 24)))
      have HR25 := Lib.hid ((HR2.out.below hb5).below (below_alloc w5 (.cells ([.int .u64 (sg : Nat), .int .i64 s1, .int .i64 s2, .int .i64 s3, .int .i64 s4, .int .i64 s5] : List Value).toArray 24)))
      have hc4 := HR45.out.cell 0 _ rfl
      clear hb5
      cases ok with
      | false =>
        have HN : Hid (readTo d.read (k + 1) = (⟨bg, b1, b2, b3, b4, b5⟩, fb)) := Lib.hid (by rw [HNX.out, if_neg (by simp)])
        clear HNX
        go_wp2_with (refine stN 24 [.int .u64 (sg : Nat), .int .i64 s1, .int .i64 s2, .int .i64 s3, .int .i64 s4, .int .i64 s5] rfl _ _ rfl _ _ rfl rfl rfl (by simp [Value.oneCell']) Try.sizeSuper rfl ?_)
        go_roundw
        case rel => exact ⟨k + 1, bg, b1, b2, b3, b4, b5, fb, by omega, by go_num, rfl, HN, HR45, HR25, HB5⟩
        case measure => simp [intOf]; omega
      | true =>
        by_cases hge : bg ≤ sg
        · have HN : Hid (readTo d.read (k + 1) = (⟨sg, s1, s2, s3, s4, s5⟩, true)) := Lib.hid (by rw [HNX.out, if_pos ⟨rfl, hge⟩])
          have hd1 : decide (bg ≤ sg) = true := decide_eq_true hge
          have hd2 : decide ((bg : Int) ≤ (sg : Int)) = true := decide_eq_true (by omega)
          clear HNX
          go_wp2_with (first
            | (refine stN 24 [.int .u64 (sg : Nat), .int .i64 s1, .int .i64 s2, .int .i64 s3, .int .i64 s4, .int .i64 s5] rfl _ _ rfl _ _ rfl rfl rfl (by simp [Value.oneCell']) Try.sizeSuper rfl ?_)
            | (refine ldN 24 [.int .u64 (sg : Nat), .int .i64 s1, .int .i64 s2, .int .i64 s3, .int .i64 s4, .int .i64 s5] rfl _ rfl w5.heap.size 0 rfl HS5.out.range Try.underlying24 rfl Try.sizeSuper ?_)
            | (refine stN_at 24 [.int .u64 (sg : Nat), .int .i64 s1, .int .i64 s2, .int .i64 s3, .int .i64 s4, .int .i64 s5] [.int .u64 (bg : Nat), .int .i64 b1, .int .i64 b2, .int .i64 b3, .int .i64 b4, .int .i64 b5] rfl _ _ rfl (w.heap.size + 1) rfl HR45.out rfl (by simp [Value.oneCell']) Try.sizeSuper rfl ?_
               intro w8 hz8 hk8
               have HZ8 := Lib.hid hz8
               have HB8 := Lib.hid (HB5.out.trans (hk8.below HB5.out.size (fun _ e => by rw [e]; omega)))
               have HR28 := Lib.hid (HR25.out.kp hk8 (by omega))
               clear hz8 hk8))
          go_roundw
          case rel => exact ⟨k + 1, sg, s1, s2, s3, s4, s5, true, by omega, by go_num, rfl, HN, HZ8, HR28, HB8⟩
          case measure => simp [intOf]; omega
        · have HN : Hid (readTo d.read (k + 1) = (⟨bg, b1, b2, b3, b4, b5⟩, fb)) := Lib.hid (by rw [HNX.out, if_neg (fun h => hge h.2)])
          have hd1 : decide (bg ≤ sg) = false := decide_eq_false hge
          have hd2 : decide ((bg : Int) ≤ (sg : Int)) = false := decide_eq_false (by omega)
          clear HNX
          go_wp2_with (refine stN 24 [.int .u64 (sg : Nat), .int .i64 s1, .int .i64 s2, .int .i64 s3, .int .i64 s4, .int .i64 s5] rfl _ _ rfl _ _ rfl rfl rfl (by simp [Value.oneCell']) Try.sizeSuper rfl ?_)
          go_roundw
          case rel => exact ⟨k + 1, bg, b1, b2, b3, b4, b5, fb, by omega, by go_num, rfl, HN, HR45, HR25, HB5⟩
          case measure => simp [intOf]; omega
    · obtain rfl : k = 2 := by omega
      go_wp2_with (first
        | (refine ldN 24 [.int .u64 (bg : Nat), .int .i64 b1, .int .i64 b2, .int .i64 b3, .int .i64 b4, .int .i64 b5] rfl _ rfl (w.heap.size + 1) 0 rfl HR4.out.range Try.underlying24 rfl Try.sizeSuper ?_)
        | (refine stN_at 24 [.int .u64 (bg : Nat), .int .i64 b1, .int .i64 b2, .int .i64 b3, .int .i64 b4, .int .i64 b5] [.int .u64 0, .int .i64 0, .int .i64 0, .int .i64 0, .int .i64 0, .int .i64 0] rfl _ _ rfl w.heap.size rfl HR2.out rfl (by simp [Value.oneCell']) Try.sizeSuper rfl ?_
           intro w8 hz8 hk8
           have HZ8 := Lib.hid hz8
           have HB8 := Lib.hid (HBr.out.trans (hk8.below HBr.out.size (fun _ e => by rw [e]; exact Nat.le_refl _)))
           clear hz8 hk8))
      (try simp only [Exit.inBlock, Exit.then])
      refine bodyPost_ret (res_row_tmp rfl _ _ w.heap.size 0 [.int .u64 (bg : Nat), .int .i64 b1, .int .i64 b2, .int .i64 b3, .int .i64 b4, .int .i64 b5] _ (.bool fb) rfl rfl HZ8.out.range Try.underlying24 rfl Try.sizeSuper) rfl ?_
      exact ⟨by rw [HM.out]; rfl, HB8.out⟩
end Go.Proofs.Ytanibabfdpgbbaa

/- What is sealed is opened; no program in sight. -/
namespace Go.Proofs.Ytanibabfdpgbbaa
open Go.RowKit

/-- What is sealed is opened. -/
theorem open_seal (mark : Nat) (body : List UInt8) (hm : mark < 18446744073709551616) (h0 : mark ≠ 0) (hb : body.length ≤ 106) : openM (sealL mark body) = some (mark, body) := by
  have e : sealL mark body = be mark 8 ++ (be body.length 2 ++ (body ++ (List.replicate (106 - body.length) 0 ++ (be (sumL mark body) 4 ++ be mark 8)))) := by simp [sealL, preL]
  have t8 : (sealL mark body).take 8 = be mark 8 := by rw [e, List.take_append_of_le_length (by rw [be_length]; omega), List.take_of_length_le (by rw [be_length]; omega)]
  have d8 : (sealL mark body).drop 8 = be body.length 2 ++ (body ++ (List.replicate (106 - body.length) 0 ++ (be (sumL mark body) 4 ++ be mark 8))) := by
    rw [e, List.drop_append_of_le_length (by rw [be_length]; omega), List.drop_of_length_le (by rw [be_length]; omega), List.nil_append]
  have t2 : ((sealL mark body).drop 8).take 2 = be body.length 2 := by rw [d8, List.take_append_of_le_length (by rw [be_length]; omega), List.take_of_length_le (by rw [be_length]; omega)]
  have d10 : (sealL mark body).drop 10 = body ++ (List.replicate (106 - body.length) 0 ++ (be (sumL mark body) 4 ++ be mark 8)) := by
    rw [show (10 : Nat) = 8 + 2 from rfl, ← List.drop_drop, d8, List.drop_append_of_le_length (by rw [be_length]; omega), List.drop_of_length_le (by rw [be_length]; omega), List.nil_append]
  have n8 : numOf (be mark 8) = mark := numOf_be 8 mark (by omega)
  have n2 : numOf (be body.length 2) = body.length := numOf_be 2 _ (by omega)
  unfold openM
  rw [t2, n2, if_neg (by omega), t8, n8, d10, List.take_left]
  have hm2 : makeM mark body = some (sealL mark body) := by unfold makeM; rw [if_neg (by omega)]
  rw [hm2, if_pos rfl]
/-- What opens is its own seal. -/
theorem seal_open {l : List UInt8} {mark : Nat} {body : List UInt8} (h : openM l = some (mark, body)) : makeM mark body = some l ∧ mark ≠ 0 ∧ body.length ≤ 106 := by
  unfold openM at h
  split at h
  · cases h
  · split at h
    · rename_i h1 h2
      injection h with h
      injection h with hm hb
      rw [hm, hb] at h2
      refine ⟨h2, ?_⟩
      unfold makeM at h2
      split at h2
      · cases h2
      · omega
    · cases h
theorem open_zeros : openM zsec = none := by
  cases h : openM zsec with
  | none => rfl
  | some mb =>
    exfalso
    obtain ⟨mark, body⟩ := mb
    obtain ⟨_, h0, _⟩ := seal_open h
    unfold openM at h
    split at h
    · cases h
    · split at h
      · injection h with h
        injection h with hm _
        exact h0 (hm.symm.trans (by decide))
      · cases h
end Go.Proofs.Ytanibabfdpgbbaa

/- The law's example of supers. -/
namespace Go.Proofs.Ytanibabfdpgbbaa
open Go.RowKit

theorem head_sealed (gen r b q c e : Nat) (hg1 : 1 ≤ gen) (hg2 : gen ≤ 281474976710655) (hr : r ≤ 1024) (hb : b ≤ 255) (hq : q ≤ 48) (hc : c ≤ 1024) (he : e ≤ 65535) (k : Nat) (hk : gen % 2 = k) : headM (sealL gen (bodyL r b q c e)) k = (⟨gen, r, b, q, c, e⟩, true) := by
  unfold headM
  rw [open_seal gen _ (by omega) (by omega) (by rw [bodyL_length]; omega)]
  simp only
  rw [super_unpack r b q c e hr hb hq hc he]
  simp only
  rw [if_pos hk]
  have e1 : sdOf gen [(r, []), (b, []), (q, []), (c, []), (e, [])] = ⟨gen, r, b, q, c, e⟩ := rfl
  rw [e1]
  have hright : (⟨gen, r, b, q, c, e⟩ : SD).right := ⟨hg1, hg2, ⟨by show (0 : Int) ≤ (r : Int); omega, by show (r : Int) ≤ 1024; omega⟩, ⟨by show (0 : Int) ≤ (c : Int); omega, by show (c : Int) ≤ 1024; omega⟩, ⟨by show (0 : Int) ≤ (b : Int); omega, by show (b : Int) ≤ 255; omega⟩, ⟨by show (0 : Int) ≤ (q : Int); omega, by show (q : Int) ≤ 48; omega⟩, ⟨by show (0 : Int) ≤ (e : Int); omega, by show (e : Int) ≤ 65535; omega⟩⟩
  rw [decide_eq_true hright]
theorem head_zero (k : Nat) : headM zsec k = (SD.z, false) := by
  unfold headM
  rw [open_zeros]
theorem new_read (k : Nat) (hk : k < 2) : (newDk 2).read k = zsec := by
  match k, hk with
  | 0, _ => rfl
  | 1, _ => rfl
set_option maxRecDepth 20000 in
set_option maxHeartbeats 3200000 in
theorem superAlive_true (w : World) : Calls Try.prog 11 #[] w fun e w' => e = .returned (.bool true) ∧ Below w.heap.size w w' := by
  go_enter Try.func11, Try.ntmps11
  go_wp2_with fail
  refine (disk_New 2 w).mono ?_
  rintro e w1 ⟨p, s, rfl, hd1, hb1⟩
  have HB1 := Lib.hid hb1
  have HW1 := Lib.hid (super_Write 1 0 0 0 0 0 (by omega) (by omega) (by omega) (by omega) (by omega) (by omega) (by omega) hd1 hb1.size ⟨rfl, rfl⟩ (by simp [newDk]) (by decide : 2 ≤ (newDk 2).stable.length))
  have HF1 := Lib.hid hd1
  clear hd1 hb1
  go_wp2_with fail
  refine HW1.out.mono ?_
  clear HW1
  rintro e w2 ⟨d2, rfl, hd2, hl2, hp2, hn2, hr2, hk2⟩
  have hb2 : Below w.heap.size w w2 := HB1.out.trans (hk2.below HB1.out.size (fun k hk => HF1.out.foot_base k hk))
  have hn22 : 2 ≤ d2.stable.length := by rw [hn2]; exact (by decide : 2 ≤ (newDk 2).stable.length)
  have HB2 := Lib.hid hb2; have HR2 := Lib.hid hr2; have HF2 := Lib.hid hd2
  have HW2 := Lib.hid (super_Write 2 7 3 0 0 0 (by omega) (by omega) (by omega) (by omega) (by omega) (by omega) (by omega) hd2 hb2.size hl2 (by rw [hp2]; simp) hn22)
  have HN2 := Lib.hid hn22
  clear hd2 hl2 hp2 hn2 hr2 hk2 hb2 hn22
  go_wp2_with fail
  refine HW2.out.mono ?_
  clear HW2
  rintro e w3 ⟨d3, rfl, hd3, hl3, hp3, hn3, hr3, hk3⟩
  have hb3 : Below w.heap.size w w3 := HB2.out.trans (hk3.below HB2.out.size (fun k hk => HF2.out.foot_base k hk))
  have hm : readTo d3.read 2 = (⟨2, 7, 3, 0, 0, 0⟩, true) := by
    have e0 : d3.read 0 = sealL 2 (bodyL 7 3 0 0 0) := by rw [hr3 0]; rfl
    have e1 : d3.read 1 = sealL 1 (bodyL 0 0 0 0 0) := by rw [hr3 1, if_neg (by omega), HR2.out 1]; rfl
    have h0 := head_sealed 2 7 3 0 0 0 (by omega) (by omega) (by omega) (by omega) (by omega) (by omega) (by omega) 0 rfl
    have h1 := head_sealed 1 0 0 0 0 0 (by omega) (by omega) (by omega) (by omega) (by omega) (by omega) (by omega) 1 rfl
    simp only [readTo, e0, e1, h0, h1]
    simp [SD.z]
  have HB3 := Lib.hid hb3
  have HRD := Lib.hid (super_Read hd3 (by rw [hp3]; simp) (by rw [hn3]; exact HN2.out))
  rw [hm] at HRD
  clear hd3 hl3 hp3 hn3 hr3 hk3 hb3 hm
  go_wp2_with fail
  refine HRD.out.mono ?_
  clear HRD
  rintro e w4 ⟨rfl, hb4⟩
  unfold SD.v
  dsimp only
  have HB4 := Lib.hid (balloc (bthen HB3.out hb4) (.cells #[.int .u64 2, .int .i64 7, .int .i64 3, .int .i64 0, .int .i64 0, .int .i64 0] 24))
  clear hb4
  go_wp2_with (refine stN 24 [.int .u64 2, .int .i64 7, .int .i64 3, .int .i64 0, .int .i64 0, .int .i64 0] rfl _ _ rfl _ _ rfl rfl rfl (by simp [Value.oneCell']) Try.sizeSuper rfl ?_)
  go_ret
  exact ⟨rfl, HB4.out⟩
end Go.Proofs.Ytanibabfdpgbbaa

/- Supers that came in. -/
namespace Go.Proofs.Ytanibabfdpgbbaa
open Go.ChangeShapes Go.WideShapes Go.ChangeAt Go.RowKit

section
variable {H : Type} {enc : TypeId × Value → H} {W : World} {base : Nat} {v : Value} {d : DataW H} {p : List MemPlace}
set_option maxRecDepth 100000 in
theorem open_super (o : Value.okWide Try.prog W .any base 24 v) (r : DataW.Trod enc Try.prog W 0 (fun _ => true) true 24 v d p) :
    ∃ s : SD, v = s.v ∧ s.gen < 18446744073709551616 := by
  have hc85 : Try.prog.cellsOf 22 = 1 := by kernel_rfl
  have hc3 : Try.prog.cellsOf 3 = 1 := by kernel_rfl
  have hct : Try.prog.cellsOf 24 = 6 := by kernel_rfl
  obtain ⟨cs, rfl, hcs⟩ := okWide_struct Try.underlying24 o
  obtain ⟨fuel, hf⟩ := r
  obtain ⟨xs, m, _, hx, hl, hxl, hfe⟩ := DataW.trod_struct Try.underlying24 hf
  rw [hct] at hl
  have hxl : xs.length = 6 := hxl
  have f0 : DataW.trod enc Try.prog W 0 (fun _ => true) true m 22 (((Value.agg cs).cells.toList.drop 0).take (Try.prog.cellsOf 22)) = xs[0]? := hfe 0 _ rfl
  have f1 : DataW.trod enc Try.prog W 0 (fun _ => true) true m 3 (((Value.agg cs).cells.toList.drop 1).take (Try.prog.cellsOf 3)) = xs[1]? := hfe 1 _ rfl
  have f2 : DataW.trod enc Try.prog W 0 (fun _ => true) true m 3 (((Value.agg cs).cells.toList.drop 2).take (Try.prog.cellsOf 3)) = xs[2]? := hfe 2 _ rfl
  have f3 : DataW.trod enc Try.prog W 0 (fun _ => true) true m 3 (((Value.agg cs).cells.toList.drop 3).take (Try.prog.cellsOf 3)) = xs[3]? := hfe 3 _ rfl
  have f4 : DataW.trod enc Try.prog W 0 (fun _ => true) true m 3 (((Value.agg cs).cells.toList.drop 4).take (Try.prog.cellsOf 3)) = xs[4]? := hfe 4 _ rfl
  have f5 : DataW.trod enc Try.prog W 0 (fun _ => true) true m 3 (((Value.agg cs).cells.toList.drop 5).take (Try.prog.cellsOf 3)) = xs[5]? := hfe 5 _ rfl
  rw [hc85, List.getElem?_eq_getElem (by omega)] at f0
  rw [hc3, List.getElem?_eq_getElem (by omega)] at f1 f2 f3 f4 f5
  obtain ⟨n0, e0, _, w0⟩ := DataW.trod_int Try.underlying22 f0
  obtain ⟨n1, e1, _, _⟩ := DataW.trod_int Try.underlying3 f1
  obtain ⟨n2, e2, _, _⟩ := DataW.trod_int Try.underlying3 f2
  obtain ⟨n3, e3, _, _⟩ := DataW.trod_int Try.underlying3 f3
  obtain ⟨n4, e4, _, _⟩ := DataW.trod_int Try.underlying3 f4
  obtain ⟨n5, e5, _, _⟩ := DataW.trod_int Try.underlying3 f5
  obtain ⟨h0, h0'⟩ := u64_wf w0
  obtain ⟨g, rfl⟩ := Int.eq_ofNat_of_zero_le h0
  refine ⟨⟨g, n1, n2, n3, n4, n5⟩, ?_, show g < 18446744073709551616 by omega⟩
  have g0 := take1F e0
  have g1 := take1F e1
  have g2 := take1F e2
  have g3 := take1F e3
  have g4 := take1F e4
  have g5 := take1F e5
  obtain ⟨cl⟩ := cs
  match cl, hl, g0, g1, g2, g3, g4, g5 with
  | [a, b, c, d, e, f], _, g0, g1, g2, g3, g4, g5 =>
    simp [Value.cells] at g0 g1 g2 g3 g4 g5
    subst g0 g1 g2 g3 g4 g5
    rfl
end
end Go.Proofs.Ytanibabfdpgbbaa

/- Sectors, numbers and pairs that came in. -/
namespace Go.Proofs.Ytanibabfdpgbbaa
open Go.ChangeShapes Go.WideShapes Go.ChangeAt Go.RowKit
set_option maxRecDepth 100000

/-- A number of 64 bits that came in. -/
theorem open_u64 {H : Type} {enc : TypeId × Value → H} {P : Program} {W : World} {base : Nat} {t : TypeId} {v : Value} {d : DataW H} {p : List MemPlace} (hu : P.underlying t = some (.int .u64)) (o : Value.okWide P W .any base t v) (r : DataW.Trod enc P W 0 (fun _ => true) true t v d p) : ∃ x : Nat, v = .int .u64 (x : Int) ∧ x < 18446744073709551616 := by
  obtain ⟨x, rfl, _, _, wx⟩ := open_int hu o r
  have hb : 0 ≤ x ∧ x ≤ 18446744073709551615 := by simpa [Lit.wf, IntKind.min, IntKind.max, IntKind.signed, IntKind.bits] using wx
  obtain ⟨k, rfl⟩ := Int.eq_ofNat_of_zero_le hb.1
  exact ⟨k, rfl, by omega⟩
section
variable {H : Type} {enc : TypeId × Value → H} {W : World} {base : Nat} {v : Value} {d : DataW H} {p : List MemPlace}
/-- A sector that came in. -/
theorem open_sector (o : Value.okWide Try.prog W .any base 32 v) (r : DataW.Trod enc Try.prog W 0 (fun _ => true) true 32 v d p) : ∃ l, v = secV l ∧ l.length = 128 := by
  have hct : Try.prog.cellsOf 32 = 128 := by kernel_rfl
  have hc : Try.prog.cellsOf 5 = 1 := by kernel_rfl
  obtain ⟨cs, rfl⟩ : ∃ cs, v = .agg cs := by
    simp only [Value.okWide, Try.underlying32] at o
    obtain ⟨cs, h1, _⟩ := o
    exact ⟨cs, h1⟩
  obtain ⟨fuel, hf⟩ := r
  obtain ⟨l, h1, h2⟩ := trod_bytes Try.underlying32 Try.underlying5 hc hct hf
  refine ⟨l, ?_, h2⟩
  unfold secV
  rw [← h1]
  rfl
end
end Go.Proofs.Ytanibabfdpgbbaa
