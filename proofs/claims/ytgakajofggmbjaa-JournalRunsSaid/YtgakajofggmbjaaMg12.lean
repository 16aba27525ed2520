/- The seal's Open. -/
import Derived.Test.YtgakajofggmbjaaMg11
import Derived.Deep.RegionHeld3
import Derived.OwnWalk
import Derived.Test.YtgakajofggmbjaaMg5
import Derived.Deep.QuietTactic
import Derived.BigQuiet
import Derived.Test.YtgakajofggmbjaaMg3
namespace Go.Proofs.Ytgakajofggmbjaa
open Go.RowKit
attribute [local go_sem ↓] loadAt37

/-- What Open answers, in one form (the reference's as well). -/
def OpenPost (w : World) (r : Option (Nat × List UInt8)) (e : Ending) (w' : World) : Prop :=
  ∃ mk A m c b, e = .returned (.tuple #[.int .u64 ((mk : Nat) : Int), .slice A m c, .bool b]) ∧ Below w.heap.size w w' ∧ ((∃ body, r = some (mk, body) ∧ b = true ∧ RB w' A m c body) ∨ (r = none ∧ mk = 0 ∧ A = none ∧ m = 0 ∧ c = 0 ∧ b = false))
theorem run_cutS (g l k : Nat) (hl : l < 128) (hk : l + k ≤ 128) (w : World) (L H : Int) (hL : L = (l : Int)) (hH : H = (l : Int) + (k : Int)) :
    (Instr.sliceAt 55 (.pointer (some ⟨g, 0, none⟩)) (some (.int .i64 L)) (some (.int .i64 H)) none).run Try.prog w = .ok (.slice (some ⟨g, l, none⟩) k (128 - l)) w := by
  subst hL hH
  have ht : Try.prog.underlying 55 = some (.array (Try.prog.arrayLen 55) (Try.prog.elem 55)) := by kernel_rfl
  have he : Try.prog.elem 55 = 5 := by kernel_rfl
  have ha : Try.prog.arrayLen 55 = 128 := by kernel_rfl
  obtain ⟨i0, hi0, hz0, hz1, hz2⟩ := info_parts Try.infoU8'
  rw [run_sliceAt_array_lh w _ ⟨g, 0, none⟩ ht .i64 .i64 (l : Int) ((l : Int) + (k : Int)) (by omega) (by omega) (by rw [ha]; omega), he, ha]
  have e2 : ((l : Int) + (k : Int)).toNat = l + k := by omega
  have e3 : ¬ (128 = l) := by omega
  simp [sizeOf, typeInfo, hi0, hz1, e2, slicedAt, Result.andThen, e3, add_none]
section
variable {ops : Array Oper} {rest : List Oper} {o : Oper} {a : Act} {w : World} {Q : Exit → Act → World → Prop}
theorem wpList_cutS (hgd : o.guard = none) (x lo hi : Operand) (ho : o.op = .slice 55 x (some lo) (some hi) none) (g l k : Nat) (L H : Int) (hx : a.eval x = .pointer (some ⟨g, 0, none⟩)) (hlo : a.eval lo = .int .i64 L) (hhi : a.eval hi = .int .i64 H) (hL : L = (l : Int)) (hH : H = (l : Int) + (k : Int)) (hl : l < 128) (hk : l + k ≤ 128)
    (h : wpList Try.prog ops Q rest (a.put o.dst (.slice (some ⟨g, l, none⟩) k (128 - l))) w) : wpList Try.prog ops Q (o :: rest) a w := by
  refine wpList_plain hgd fun K hK => ?_
  unfold Oper.wp execOp
  simp only [ho, Option.map_some, Option.map_none, hx, hlo, hhi]
  simp only [Sem.run_bind, run_cutS g l k hl hk w L H hL hH, Result.andThen_ok, Sem.run_pure]
  exact hK _ _ h
end
set_option maxRecDepth 20000 in
set_option maxHeartbeats 3200000 in
theorem seal_Open (l : List UInt8) (hl : l.length = 128) (w : World) :
    Calls Try.prog 56 #[secV l] w (OpenPost w (openM l)) := by
  have HG := Lib.hid (SecAt.new w l hl)
  have HL := Lib.hid hl
  have hb1 := below_alloc w (.cells (bv l).toArray 55)
  have HB1 := Lib.hid hb1
  have hbl : (bv l).length = 128 := by rw [bv_length, hl]
  clear hl hb1
  unfold secV
  go_enter Try.func56, Try.ntmps56
  go_wp2_with fail
  have hr8 := HG.out.rb 0 8 128 (by omega) (by omega) (by omega)
  have hr2 := HG.out.rb 8 2 120 (by omega) (by omega) (by omega)
  rw [List.drop_zero] at hr8
  have HR8 := Lib.hid hr8; have HR2 := Lib.hid hr2
  have hm8 := numOf_small l 8 (by omega)
  have hm2 := numOf_lt (l.drop 8) 2
  have HM8 := Lib.hid hm8
  have hopen : openM l = openM l := rfl
  conv at hopen => rhs; unfold openM
  have HO := Lib.hid hopen
  have hwrap : IntKind.i64.wrap ((numOf ((l.drop 8).take 2) : Nat) : Int) = ((numOf ((l.drop 8).take 2) : Nat) : Int) := by
    have : numOf ((l.drop 8).take 2) < 65536 := by omega
    simp [IntKind.wrap, IntKind.signed, IntKind.bits]
    omega
  clear hr8 hr2 hm8 hopen
  generalize hmk : numOf (l.take 8) = mk at *
  generalize hn : numOf ((l.drop 8).take 2) = n at *
  generalize w.alloc (.cells (bv l).toArray 55) = w1 at *
  go_region_held3 (fun _ => True) (first | go_keep | trivial)
    (first
      | (go_at_call 62
         have hB := HB2
         refine (seal_get 2 (.inl rfl) (some ⟨w.heap.size, 8, none⟩) 120 ((l.drop 8).take 2) _ (HR2.out.below HB2.out)).mono ?_
         rw [hn]
         rintro e w3 ⟨rfl, hb3⟩
         have HB3 := Lib.hid (bthen HB2.out hb3)
         have hS : True := trivial
         clear hb3 hB)
      | (go_at_call 62
         refine (seal_get 8 (.inr (.inr rfl)) (some ⟨w.heap.size, 0, none⟩) 128 (l.take 8) _ (HR8.out.below (Below.refl _ _).drew)).mono ?_
         rw [hmk]
         rintro e w2 ⟨rfl, hb2⟩
         have HB2 := Lib.hid (bthen (Below.refl _ w1).drew hb2)
         have hS : True := trivial
         clear hb2))
  have HB3' := Lib.hid (bthen HB1.out HB3.out)
  have HG3 := Lib.hid (HG.out.below HB3.out)
  clear HB1 HB2 HB3 HR8 HR2 HG
  by_cases hbig : 106 < n
  · have hd : decide ((106 : Int) < (n : Int)) = true := decide_eq_true (by omega)
    have HN : Hid (openM l = none) := Lib.hid (by rw [HO.out, if_pos hbig])
    clear hbig HO hm2 hwrap
    go_wp2_with fail
    go_ret3
    exact ⟨0, none, 0, 0, false, rfl, HB3'.out, .inr ⟨HN.out, rfl, rfl, rfl, rfl, rfl⟩⟩
  · have hd : decide ((106 : Int) < (n : Int)) = false := decide_eq_false (by omega)
    have hn0 : (0 : Int) ≤ (n : Int) := Int.natCast_nonneg _
    have hn1 : (10 : Int) + (n : Int) ≤ 128 := by omega
    have HN : Hid (openM l = if makeM mk ((l.drop 10).take n) = some l then some (mk, (l.drop 10).take n) else none) := Lib.hid (by rw [HO.out, if_neg hbig])
    have HN106 : Hid (n ≤ 106) := Lib.hid (by omega)
    have hrb := HG3.out.rb 10 n 118 (by omega) (by omega) (by omega)
    generalize hbody : (l.drop 10).take n = body at *
    have HRB := Lib.hid hrb
    clear hbig HO hm2 hwrap hrb hbody
    go_wp2_with (refine wpList_cutS rfl _ _ _ rfl w.heap.size 10 n _ _ rfl rfl rfl rfl rfl (by omega) (by have := HN106.out; omega) ?_)
    refine (clone_bytes w.heap.size 10 n 118 body w3 HRB.out (by have := HN106.out; omega)).mono ?_
    rintro e w4 ⟨A4, c4, rfl, hr4, hb4⟩
    have HR4 := Lib.hid hr4; have HB4 := Lib.hid (bthen HB3'.out hb4); have HG4 := Lib.hid (HG3.out.below hb4)
    clear hr4 hb4
    go_wp2_with fail
    refine (seal_Make mk HM8.out A4 n c4 body w4 HR4.out (by have := HN106.out; omega)).mono ?_
    rintro e w5 ⟨l5, ev, rfl, hl5, hb5, hc5⟩
    have HL5 := Lib.hid hl5; have HB5 := Lib.hid (bthen HB4.out hb5); have HG5 := Lib.hid (HG4.out.below hb5); have HR5 := Lib.hid (HR4.out.below hb5)
    clear hl5 hb5
    have HB6 := Lib.hid (HB5.out.alloc HB5.out.size (.cells (bv l5).toArray 55))
    have HR6 := Lib.hid (HR5.out.alloc (.cells (bv l5).toArray 55))
    have hld1 := run_ldSec (w := w5.alloc (.cells (bv l5).toArray 55)) (range_alloc w5 (bv l5) _ _) HL5.out
    have hld2 := run_ldSec (w := w5.alloc (.cells (bv l5).toArray 55)) (HG5.out.below (below_alloc w5 _)).range HL.out
    have heq := eq37 (w5.alloc (.cells (bv l5).toArray 55)) l5 l HL5.out HL.out
    clear hbl HG3 HG4 HG5 HB3' HB4 HB5 HR4 HR5 HRB
    rcases hc5 with ⟨hmk5, rfl⟩ | ⟨hmk5, rfl, rfl⟩
    · by_cases hsame : l5 = l
      · have HF : Hid (openM l = some (mk, body)) := Lib.hid (by rw [HN.out, hmk5, if_pos (by rw [hsame])])
        have hdd : decide (l5 = l) = true := decide_eq_true hsame
        rw [hdd] at heq
        clear hmk5 hsame hdd
        go_wp2_with (refine st37 rfl _ _ rfl _ _ rfl rfl l5 rfl HL5.out rfl ?_)
        go_ret3
        exact ⟨mk, A4, n, c4, true, rfl, HB6.out, .inl ⟨body, HF.out, rfl, HR6.out⟩⟩
      · have HF : Hid (openM l = none) := Lib.hid (by rw [HN.out, hmk5, if_neg (by intro e; injection e with e; exact hsame e)])
        have hdd : decide (l5 = l) = false := decide_eq_false hsame
        rw [hdd] at heq
        clear hmk5 hsame hdd
        go_wp2_with (refine st37 rfl _ _ rfl _ _ rfl rfl l5 rfl HL5.out rfl ?_)
        go_ret3
        exact ⟨0, none, 0, 0, false, rfl, HB6.out, .inr ⟨HF.out, rfl, rfl, rfl, rfl, rfl⟩⟩
    · have HF : Hid (openM l = none) := Lib.hid (by rw [HN.out, hmk5, if_neg (by intro e; cases e)])
      clear hmk5 heq hld1 hld2
      go_wp2_with (refine st37 rfl _ _ rfl _ _ rfl rfl zsec rfl zsec_length rfl ?_)
      go_ret3
      exact ⟨0, none, 0, 0, false, rfl, HB6.out, .inr ⟨HF.out, rfl, rfl, rfl, rfl, rfl⟩⟩
end Go.Proofs.Ytgakajofggmbjaa

/- The journal's record: what it reads of a place. -/
namespace Go.Proofs.Ytgakajofggmbjaa
open Go.RowKit
attribute [local go_sem ↓] loadAt37

/-- What record answers, in one shape. -/
def RecPost (w : World) (r : Option (List UInt8)) (e : Ending) (w' : World) : Prop :=
  ∃ A n c b, e = .returned (.tuple #[.slice A n c, .bool b]) ∧ Below w.heap.size w w' ∧ ((∃ xs, r = some xs ∧ b = true ∧ n ≤ 384 ∧ (∃ g o, A = some ⟨g, o, none⟩) ∧ RB w' A n c xs) ∨ (r = none ∧ b = false))
theorem nmAt_vals {lk : List FieldD} {k : Nat} (h : k < lk.length) : nmAt (vals lk) k = (fieldAt lk k).num := by
  rw [nmAt, fieldAt_get h]
  simp [vals, List.getD_eq_getElem?_getD, h]
theorem rfield_cells {w : World} {A : Option Addr} {n c : Nat} {l : List FieldD} (h : RFields w A n c l) (hn : 0 < n) : ∃ b o, A = some ⟨b, o, none⟩ ∧ ∀ k, k < n → w.cell? ⟨b, o + k * 2, none⟩ = some (.int .u64 ((fieldAt l k).num : Nat)) := by
  obtain ⟨b, o, e, hf⟩ := h.2.2.2 hn
  exact ⟨b, o, e, fun k hk => (hf k hk).1 0 _ rfl⟩
theorem unpack24_two {body : List UInt8} {lk : List FieldD} (h : unpackM [50, 52] body = some (vals lk)) : lk.length = 2 := by
  rw [unpack24] at h
  split at h
  · injection h with h
    have := congrArg List.length h
    simpa [vals] using this.symm
  · cases h
/-- The whole sector as a slice. -/
theorem run_cutAll (g : Nat) (w : World) : (Instr.sliceAt 55 (.pointer (some ⟨g, 0, none⟩)) none none none).run Try.prog w = .ok (.slice (some ⟨g, 0, none⟩) 128 128) w := by
  simp [go_sem]
set_option maxRecDepth 20000 in
set_option maxHeartbeats 6400000 in
theorem journal_record {w : World} {base p s : Nat} {v : Value} {d : Dk} (h : DiskAt w base p s v d) (hpl : d.pend.length ≤ 1000000) (at' want : Nat) (hat : at' + 3 < d.stable.length) :
    Calls Try.prog 39 #[.pointer (some ⟨p, 0, none⟩), .int .i64 at', .int .u64 want] w (RecPost w (recM d.read at' want)) := by
  have HD := Lib.hid h; have HPL := Lib.hid hpl; have HAT := Lib.hid hat
  have HLX := Lib.hid (read_len h at' (by omega))
  have HRD := Lib.hid (disk_Read_yes h at' (by omega) hpl)
  have hst : d.stable.length ≤ 1024 := h.len
  have HS := Lib.hid hst
  have hrec : recM d.read at' want = recM d.read at' want := rfl
  conv at hrec => rhs; unfold recM
  have HM := Lib.hid hrec
  clear h hpl hat hst hrec
  generalize hx : d.read at' = x at *
  clear hx
  go_enter Try.func39, Try.ntmps39
  go_wp2_with fail
  refine HRD.out.mono ?_
  rintro e w2 ⟨rfl, hb2⟩
  have HB2 := Lib.hid (balloc hb2 (.cells (bv x).toArray 55))
  have hld := run_ldSec (w := w2.alloc (.cells (bv x).toArray 55)) (range_alloc w2 (bv x) _ _) HLX.out
  clear hb2 HRD
  go_wp2_with (refine st37 rfl _ _ rfl _ _ rfl rfl x rfl HLX.out rfl ?_)
  generalize hw3 : w2.alloc (.cells (bv x).toArray 55) = w3 at *
  clear hw3
  refine (seal_Open x HLX.out w3).mono ?_
  rintro e w4 ⟨mk, A4, m4, c4, b4, rfl, hb4, hcase⟩
  have HB4 := Lib.hid (bthen HB2.out hb4)
  rcases hcase with ⟨body, ho, rfl, hrb⟩ | ⟨hno, rfl, rfl, rfl, rfl, rfl⟩
  · rw [ho] at HM
    have HRB := Lib.hid hrb
    clear hb4 ho hrb hld
    go_wp2_with fail
    refine (codec_Unpack [50, 52] A4 m4 c4 body w4 HRB.out).mono ?_
    rintro e w5 ⟨hb5, hcase5⟩
    have HB5 := Lib.hid (bthen HB4.out hb5)
    rcases hcase5 with ⟨v5, lk, ho5, rfl, hof⟩ | ⟨ho5, rfl⟩
    · obtain ⟨A5, c5, rfl, hrf⟩ := hof.read
      have hl2 := unpack24_two ho5
      have HMK : Hid (recM d.read at' want = if mk ≠ want then none else if 384 < nmAt (vals lk) 0 then none else if (crcAdd 0#32 ((recAll d.read at' 3).take (nmAt (vals lk) 0))).toNat = nmAt (vals lk) 1 then some ((recAll d.read at' 3).take (nmAt (vals lk) 0)) else none) := Lib.hid (by rw [HM.out]; simp only [ho5])
      rw [nmAt_vals (by omega), nmAt_vals (by omega)] at HMK
      obtain ⟨bf, of_, rfl, hcells⟩ := rfield_cells hrf (by omega)
      have f0 := hcells 0 (by omega)
      have f1 := hcells 1 (by omega)
      have HC := Lib.hid (fun (W : World) (hb : Below w5.heap.size w5 W) => (⟨(hb.cell (p := ⟨bf, of_ + 0 * 2, none⟩) (World.block_lt_of_cell? w5 _ f0)).trans f0, (hb.cell (p := ⟨bf, of_ + 1 * 2, none⟩) (World.block_lt_of_cell? w5 _ f1)).trans f1⟩ : W.cell? ⟨bf, of_ + 0 * 2, none⟩ = some (.int .u64 ((fieldAt lk 0).num : Nat)) ∧ W.cell? ⟨bf, of_ + 1 * 2, none⟩ = some (.int .u64 ((fieldAt lk 1).num : Nat))))
      have hn0 : (fieldAt lk 0).num < 18446744073709551616 := hof.num _ (by rw [fieldAt_get (by omega)]; exact List.getElem_mem _)
      rw [hl2]
      clear hb5 hof hrf HM hl2 hcells HRB
      simp only [Nat.zero_mul, Nat.one_mul, Nat.add_zero] at f0 f1 HC
      generalize (fieldAt lk 0).num = n0 at *
      generalize (fieldAt lk 1).num = n1 at *
      by_cases hmk : mk = want
      · subst hmk
        have hq : ((mk : Int) != (mk : Int)) = false := by simp
        by_cases hbig : 384 < n0
        · have hd1 : decide ((384 : Int) < (n0 : Int)) = true := decide_eq_true (by omega)
          have HN : Hid (recM d.read at' mk = none) := Lib.hid (by rw [HMK.out, if_neg (by simp), if_pos hbig])
          clear hbig HMK
          go_wp2_with fail
          go_ret2
          exact ⟨_, _, _, _, rfl, HB5.out, .inr ⟨HN.out, rfl⟩⟩
        · have hd1 : decide ((384 : Int) < (n0 : Int)) = false := decide_eq_false (by omega)
          have HN0 : Hid (n0 ≤ 384) := Lib.hid (by omega)
          have HN : Hid (recM d.read at' mk = if (crcAdd 0#32 ((recAll d.read at' 3).take n0)).toNat = n1 then some ((recAll d.read at' 3).take n0) else none) := Lib.hid (by rw [HMK.out, if_neg (by simp), if_neg hbig])
          clear hbig HMK
          go_wp2_with fail
          clear hq hd1 f0 f1
          go_loopw [15, 59] (fun u i wr => ∃ k : Nat, k ≤ 3 ∧ i = .int .i64 k ∧ Hid (wr.ownsRow w5.heap.size 5 1 u (128 * k) (bv (recAll d.read at' k))) ∧ Hid (Below w5.heap.size w5 wr)) (fun _ i _ => 3 - (intOf i).toNat)
          case atStart => exact ⟨0, by omega, rfl, Lib.hid (own_empty w5 _ _ _ (Nat.le_refl _)), Lib.hid (below_alloc w5 _)⟩
          case round =>
            obtain ⟨k, hk, rfl, HO, HB⟩ := hrel
            by_cases hlt : k < 3
            · have hk0 : (0 : Int) ≤ (k : Int) := Int.natCast_nonneg _
              have hk1 : (k : Int) < 3 := by omega
              have hdk := HD.out.below (bthen HB5.out HB.out)
              have HLK := Lib.hid (read_len hdk (at' + 1 + k) (by have := HAT.out; omega))
              have HRK := Lib.hid (disk_Read_yes hdk (at' + 1 + k) (by have := HAT.out; omega) HPL.out)
              have hw1 : IntKind.i64.wrap ((at' : Int) + 1) = ((at' + 1 : Nat) : Int) := by have := HS.out; have := HAT.out; simp [IntKind.wrap, IntKind.signed, IntKind.bits]; omega
              have hw2 : IntKind.i64.wrap (((at' + 1 : Nat) : Int) + (k : Int)) = ((at' + 1 + k : Nat) : Int) := by have := HS.out; have := HAT.out; simp [IntKind.wrap, IntKind.signed, IntKind.bits]; omega
              have HN2 : Hid (recAll d.read at' (k + 1) = recAll d.read at' k ++ d.read (at' + 1 + k)) := Lib.hid rfl
              generalize hy : d.read (at' + 1 + k) = y at *
              clear hdk hy
              go_wp2_with fail
              rw [show wrap64 ((at' : Int) + 1 + (k : Int)) = ((at' + 1 + k : Nat) : Int) by have := HS.out; have := HAT.out; simp [wrap64]; omega]
              refine HRK.out.mono ?_
              rintro e w6 ⟨rfl, hb6⟩
              have HB6 := Lib.hid (balloc (bthen HB.out hb6) (.cells (bv y).toArray 55))
              have HO6 := Lib.hid (own_below (own_below HO.out hb6) (below_alloc w6 (.cells (bv y).toArray 55)))
              have hrd6 := (SecAt.new w6 y HLK.out).rb 0 128 128 (by omega) (by omega) (by omega)
              rw [List.drop_zero, List.take_of_length_le (by rw [HLK.out]; exact Nat.le_refl _)] at hrd6
              have HR6 := Lib.hid hrd6
              clear hb6 hrd6 HRK hw1 hw2
              go_wp2_with (first
                | (refine st37 rfl _ _ rfl _ _ rfl rfl y rfl HLK.out rfl ?_)
                | (at_builtin; go_must (refine wpList_append_any (w0 := w5) w5.heap.size rfl _ _ 37 5 (.int .u8 0) 1 1 rfl Try.underlying37 (by kernel_rfl) rfl (by decide) (by decide) u15 _ _ (some ⟨w6.heap.size, 0, none⟩) 128 128 (bv y) rfl rfl HO6.out HR6.out.rd (bv_one _) (by omega) HB6.out HB6.out.size ?_; intro v1 w7 hown7 hb7 _ _)))
              have HO7 : Hid (w7.ownsRow w5.heap.size 5 1 v1 (128 * (k + 1)) (bv (recAll d.read at' (k + 1)))) := Lib.hid (by rw [HN2.out, bv_append]; exact hown7)
              have HB7 := Lib.hid hb7
              clear hown7 hb7
              go_roundw
              case rel => exact ⟨k + 1, by omega, by go_num, HO7, HB7⟩
              case measure => simp [intOf]; omega
            · obtain rfl : k = 3 := by omega
              obtain ⟨A7, c7, rfl, hr7⟩ := own_rb HO.out
              obtain ⟨f0, f1⟩ := HC.out wr HB.out
              have HNZ : Hid (∃ g o, A7 = some ⟨g, o, none⟩) := Lib.hid (by obtain ⟨g, o, e, _⟩ := hr7.2.2.2 (by omega); exact ⟨g, o, e⟩)
              have HR7 := Lib.hid (hr7.first n0 (by have := HN0.out; omega))
              have hk0 : (0 : Int) ≤ (n0 : Int) := Int.natCast_nonneg _
              have hk1 : (n0 : Int) ≤ (c7 : Int) := by have := HN0.out; have := hr7.2.1; omega
              clear hr7
              go_wp2_with fail
              have hcr : IntKind.u64.wrap (((crcAdd 0#32 ((recAll d.read at' 3).take n0)).toNat : Nat) : Int) = (((crcAdd 0#32 ((recAll d.read at' 3).take n0)).toNat : Nat) : Int) := by
                have := (crcAdd 0#32 ((recAll d.read at' 3).take n0)).isLt
                simp only [IntKind.wrap, IntKind.signed, IntKind.bits]
                simp
                omega
              generalize (recAll d.read at' 3).take n0 = ys at *
              have HF := Lib.hid (bthen (bthen HB5.out HB.out) (balloc (Below.refl _ wr).drew (.cells #[.slice A7 n0 c7] 37)))
              generalize hcv : (crcAdd 0#32 ys).toNat = cv at *
              go_region_held3 (fun w' => w'.cell? ⟨bf, of_ + 2, none⟩ = some (.int .u64 (n1 : Nat))) (go_keep)
                (first
                  | (go_at_call 30
                     refine (crc_Sum1 A7 n0 c7 ys wr.drew (HR7.out.below (Below.refl _ _).drew)).mono ?_
                     rw [hcv]
                     rintro e w9 ⟨rfl, rfl⟩
                     have hS := (HC.out (wr.drew.alloc (.cells #[.slice A7 n0 c7] 37)) (bthen HB.out (balloc (Below.refl _ wr).drew _))).2))
              go_wp2_with fail
              go_ret2
              refine ⟨A7, n0, c7, ((cv : Int) == (n1 : Int)), rfl, bthen (bthen HB5.out HB.out) (balloc (Below.refl _ wr) (.cells #[.slice A7 n0 c7] 37)).drew, ?_⟩
              by_cases he : cv = n1
              · exact .inl ⟨ys, by rw [HN.out, if_pos he], by rw [he]; simp, HN0.out, HNZ.out, HR7.out.below (balloc (Below.refl _ wr) (.cells #[.slice A7 n0 c7] 37)).drew⟩
              · exact .inr ⟨by rw [HN.out, if_neg he], by rw [beq_eq_false_iff_ne]; omega⟩
      · have hq : ((mk : Int) != (want : Int)) = true := by rw [bne_iff_ne]; omega
        have HN : Hid (recM d.read at' want = none) := Lib.hid (by rw [HMK.out, if_pos hmk])
        clear hmk HMK
        go_wp2_with fail
        go_ret2
        exact ⟨_, _, _, _, rfl, HB5.out, .inr ⟨HN.out, rfl⟩⟩
    · have HN : Hid (recM d.read at' want = none) := Lib.hid (by
        rw [HM.out]
        simp only [ho5]
        split <;> rfl)
      clear ho5 hb5 HM
      by_cases hmk : mk = want
      · have hq : ((mk : Int) != (want : Int)) = false := by rw [hmk]; simp
        clear hmk
        go_wp2_with fail
        go_ret2
        exact ⟨_, _, _, _, rfl, HB5.out, .inr ⟨HN.out, rfl⟩⟩
      · have hq : ((mk : Int) != (want : Int)) = true := by rw [bne_iff_ne]; omega
        clear hmk
        go_wp2_with fail
        go_ret2
        exact ⟨_, _, _, _, rfl, HB5.out, .inr ⟨HN.out, rfl⟩⟩
  · rw [hno] at HM
    have HN : Hid (recM d.read at' want = none) := Lib.hid (by rw [HM.out])
    clear hb4 hno hld HM
    go_wp2_with fail
    have hu := codec_Unpack [50, 52] none 0 0 [] w4 (RB.nil w4)
    rw [show unpackM [50, 52] [] = none from by decide] at hu
    refine hu.mono ?_
    clear hu
    rintro e w5 ⟨hb5, ⟨v5, lk, ho5, -⟩ | ⟨-, rfl⟩⟩
    · cases ho5
    · have HB5 := Lib.hid (bthen HB4.out hb5)
      clear hb5
      go_wp2_with fail
      go_ret2
      exact ⟨_, _, _, _, rfl, HB5.out, .inr ⟨HN.out, rfl⟩⟩
end Go.Proofs.Ytgakajofggmbjaa

/- Rows of bytes of one's own, in a row of one's own; slices.Clone. -/
namespace Go.Proofs.Ytgakajofggmbjaa
open Go.RowKit

/-- The cells of slices in a row. -/
def slCells (l : List FieldD) : List Value := l.map fun f => .slice f.A f.n f.c
/-- Rows of bytes in rows of one's own. -/
structure OBs (w : World) (base : Nat) (v : Value) (l : List FieldD) : Prop where
  row : w.ownsRow base 37 1 v l.length (slCells l)
  bytes : ∀ f ∈ l, w.ownsRow base 5 1 (.slice f.A f.n f.c) f.n (bv f.bytes)
section
variable {w w' : World} {base : Nat} {v : Value} {l : List FieldD}
theorem OBs.nil (w : World) (base : Nat) : OBs w base (.slice none 0 0) [] := ⟨World.ownsRow_nil _ _ _ _, fun f hf => by cases hf⟩
theorem OBs.below (h : OBs w base v l) (hb : Below w.heap.size w w') : OBs w' base v l := ⟨own_below h.row hb, fun f hf => own_below (h.bytes f hf) hb⟩
theorem OBs.read (h : OBs w base v l) : ∃ A c, v = .slice A l.length c ∧ RRB w A l.length c (l.map (·.bytes)) := by
  have ok : ∀ f ∈ l, RB w f.A f.n f.c f.bytes := fun f hf => by
    obtain ⟨A, c, e, hr⟩ := own_rb (h.bytes f hf)
    injection e with e1 _ e3
    subst e1 e3
    exact hr
  rcases h.row.2 with ⟨rfl, h0⟩ | ⟨g, cap, cur, rfl, _, hg, hnc, hcm, _⟩
  · obtain rfl : l = [] := List.eq_nil_of_length_eq_zero h0
    exact ⟨none, 0, rfl, RRB.nil w⟩
  · refine ⟨_, cap, rfl, by simp, hnc, by simpa [maxLen] using hcm, fun _ => ⟨g, 0, rfl, fun k hk => ⟨(fieldAt l k).A, (fieldAt l k).n, (fieldAt l k).c, ?_, ?_⟩⟩⟩
    · have := h.row.cells (g := g) rfl k (.slice (fieldAt l k).A (fieldAt l k).n (fieldAt l k).c) (by rw [slCells, List.getElem?_map, List.getElem?_eq_getElem hk, fieldAt_get hk]; rfl)
      rwa [add_none] at this
    · have e : atL (l.map (·.bytes)) k = (fieldAt l k).bytes := by rw [fieldAt_get hk]; simp [atL, List.getD_eq_getElem?_getD, hk]
      rw [e]
      exact ok _ (by rw [fieldAt_get hk]; exact List.getElem_mem _)
/-- One more. -/
theorem OBs.push (h : OBs w base v l) (f : FieldD) (hb : w.ownsRow base 5 1 (.slice f.A f.n f.c) f.n (bv f.bytes)) {v' : Value} (hg : w.grownBy w' v.ownBlock)
    (hr : w'.ownsRow base 37 1 v' (l.length + 1) (slCells l ++ [.slice f.A f.n f.c])) : OBs w' base v' (l ++ [f]) := by
  have keep : ∀ f' : FieldD, w.ownsRow base 5 1 (.slice f'.A f'.n f'.c) f'.n (bv f'.bytes) → w'.ownsRow base 5 1 (.slice f'.A f'.n f'.c) f'.n (bv f'.bytes) := fun f' hf' =>
    hf'.kept hg (by
      cases hv : v.ownBlock with
      | none =>
        cases hv' : (Value.slice f'.A f'.n f'.c).ownBlock with
        | none => exact .inl rfl
        | some g => exact .inr (fun e => by cases e)
      | some g => exact .inr (own_apart h.row hf' (by decide) g hv))
  refine ⟨?_, fun f' hf' => ?_⟩
  · rw [List.length_append, List.length_singleton]
    have e : slCells (l ++ [f]) = slCells l ++ [.slice f.A f.n f.c] := by simp [slCells]
    rw [e]
    exact hr
  · rcases List.mem_append.1 hf' with hf' | hf'
    · exact keep _ (h.bytes _ hf')
    · rw [List.mem_singleton.1 hf']; exact keep _ hb
end
theorem Try.infoBs : (Try.prog.info? 37).map (fun i => (i.zero, i.size, i.bytes)) = some (some (.slice none 0 0), 1, 24) := by kernel_rfl
set_option maxHeartbeats 1600000 in
/-- slices.Clone of bytes: its row is its own. -/
theorem clone_own (b o n c : Nat) (xs : List UInt8) (w : World) (hr : RB w (some ⟨b, o, none⟩) n c xs) (hn : n ≤ 140737488355328) :
    Calls Try.prog 40 #[.slice (some ⟨b, o, none⟩) n c] w fun e w' => ∃ A1 c1, e = .returned (.slice A1 n c1) ∧ w'.ownsRow w.heap.size 5 1 (.slice A1 n c1) n (bv xs) ∧ Below w.heap.size w w' := by
  have HR := Lib.hid hr
  have hnil := fun W => Lib.run_eql_slice_nil (P := Try.prog) W 37 5 (some ⟨b, o, none⟩) n c 0 0 Try.underlying37
  clear hr
  go_enter Try.func40, Try.ntmps40
  go_wp2_with (at_builtin; refine wpList_copy_bytes (W := w) rfl _ _ 37 5 rfl Try.underlying37 Try.infoU8' (some ⟨b, o, none⟩) n c xs w.heap.size rfl rfl rfl HR.out hn ?_; intro A1 c1 w1 hown1 hrb1 hb1; have HB1 := Lib.hid hb1; have HO1 := Lib.hid hown1; clear hown1 hrb1 hb1)
  go_ret
  exact ⟨A1, c1, rfl, HO1.out, HB1.out⟩
end Go.Proofs.Ytgakajofggmbjaa

/- The journal's Scan: the records of a generation. -/
namespace Go.Proofs.Ytgakajofggmbjaa
open Go.RowKit

/-- What a scan answers (the document's as well). -/
def ScanPost (w : World) (l : List (List UInt8)) (e : Ending) (w' : World) : Prop :=
  ∃ A c, e = .returned (.slice A l.length c) ∧ RRB w' A l.length c l ∧ Below w.heap.size w w'
theorem scanF_stop {rd : Nat → List UInt8} {first gen place n : Nat} (h : recM rd (first + 4 * place) (gen * 256 + (place + 1)) = none) : scanF rd first gen (n + 1) place = [] := by rw [scanF, h]
theorem scanF_next {rd : Nat → List UInt8} {first gen place n : Nat} {b : List UInt8} (h : recM rd (first + 4 * place) (gen * 256 + (place + 1)) = some b) : scanF rd first gen (n + 1) place = b :: scanF rd first gen n (place + 1) := by rw [scanF, h]
set_option maxRecDepth 20000 in
set_option maxHeartbeats 3200000 in
theorem journal_Scan {w : World} {base p s : Nat} {v : Value} {d : Dk} (h : DiskAt w base p s v d) (hpl : d.pend.length ≤ 1000000) (first gen : Nat) (hfit : first + 16 ≤ d.stable.length) (hgen : gen < 281474976710656 * 2) :
    Calls Try.prog 21 #[.pointer (some ⟨p, 0, none⟩), .int .i64 first, .int .u64 gen] w (ScanPost w (scanM d.read first gen)) := by
  have HD := Lib.hid h; have HPL := Lib.hid hpl; have HF := Lib.hid hfit; have HG := Lib.hid hgen
  have HS := Lib.hid h.len
  clear h hpl hfit hgen
  go_enter Try.func21, Try.ntmps21
  go_wp2_with fail
  go_loopw [7, 11] (fun u i wr => ∃ (k : Nat) (lk : List FieldD), k ≤ 4 ∧ i = .int .i64 k ∧ Hid (scanM d.read first gen = lk.map (·.bytes) ++ scanF d.read first gen (4 - k) k) ∧ Hid (lk.length = k) ∧ Hid (OBs wr w.heap.size u lk) ∧ Hid (Below w.heap.size w wr)) (fun _ i _ => 4 - (intOf i).toNat)
  case atStart => exact ⟨0, [], by omega, rfl, Lib.hid rfl, Lib.hid rfl, Lib.hid (OBs.nil _ _), Lib.hid (Below.refl _ _)⟩
  case round =>
    obtain ⟨k, lk, hk, rfl, HM, HL, HO, HB⟩ := hrel
    by_cases hlt : k < 4
    · have hk0 : (0 : Int) ≤ (k : Int) := Int.natCast_nonneg _
      have hk1 : (k : Int) < 4 := by omega
      obtain ⟨at', hat⟩ : ∃ at', at' = first + 4 * k := ⟨_, rfl⟩
      obtain ⟨mk, hmk⟩ : ∃ mk, mk = gen * 256 + (k + 1) := ⟨_, rfl⟩
      have HRC := Lib.hid (journal_record (HD.out.below HB.out) HPL.out at' mk (by have := HF.out; omega))
      have HHD : Hid (Calls Try.prog 25 #[.int .i64 (first : Int), .int .i64 (k : Int)] wr fun e w' => e = .returned (.int .i64 (at' : Int)) ∧ wr = w') := Lib.hid (by rw [hat]; exact journal_head first k (by have := HF.out; have := HS.out; omega) (by omega) wr)
      have HMK : Hid (Calls Try.prog 32 #[.int .u64 (gen : Int), .int .i64 ((k : Int) + 1)] wr fun e w' => e = .returned (.int .u64 (mk : Int)) ∧ wr = w') := Lib.hid (by rw [hmk]; exact journal_mark gen (k + 1) (by have := HG.out; omega) (by omega) wr)
      have HST := Lib.hid (show recM d.read at' mk = none → scanF d.read first gen ((4 - (k + 1)) + 1) k = [] from fun h => scanF_stop (by rw [← hat, ← hmk]; exact h))
      have HNX := Lib.hid (show ∀ b, recM d.read at' mk = some b → scanF d.read first gen ((4 - (k + 1)) + 1) k = b :: scanF d.read first gen (4 - (k + 1)) (k + 1) from fun b h => scanF_next (by rw [← hat, ← hmk]; exact h))
      clear hat hmk
      go_wp2_with fail
      refine HHD.out.mono ?_
      rintro e w' ⟨rfl, rfl⟩
      go_wp2_with fail
      refine HMK.out.mono ?_
      rintro e w' ⟨rfl, rfl⟩
      go_wp2_with fail
      refine HRC.out.mono ?_
      clear HRC HHD HMK
      rintro e w2 ⟨A2, n2, c2, b2, rfl, hb2, hcase⟩
      have HO2 := Lib.hid (HO.out.below hb2); have HB2 := Lib.hid (bthen HB.out hb2)
      clear hb2
      rcases hcase with ⟨xs, hx, rfl, hn, ⟨g, o, rfl⟩, hr⟩ | ⟨hno, rfl⟩
      · have HCL := Lib.hid (clone_own g o n2 c2 xs w2 hr (by omega))
        have HN : Hid (scanM d.read first gen = (lk.map (·.bytes) ++ [xs]) ++ scanF d.read first gen (4 - (k + 1)) (k + 1)) := Lib.hid (by
          rw [HM.out, show 4 - k = (4 - (k + 1)) + 1 by omega, HNX.out _ hx]
          simp)
        clear hr hn hx HM
        go_wp2_with fail
        refine HCL.out.mono ?_
        rintro e w3 ⟨A3, c3, rfl, hown3, hb3⟩
        have HO3 := Lib.hid ((HO2.out.below hb3).below (below_alloc w3 (.cells #[.slice A3 n2 c3] 37)))
        have HB3 := Lib.hid (balloc (bthen HB2.out hb3) (.cells #[.slice A3 n2 c3] 37))
        have HW3 := Lib.hid (own_below (own_mono hown3 HB2.out.size) (below_alloc w3 (.cells #[.slice A3 n2 c3] 37)))
        have HR3 := Lib.hid (rd_one w3 (.slice A3 n2 c3) 37 w3.heap.size rfl)
        clear hown3 hb3 HCL HO2
        go_wp2_with (at_builtin; go_must (refine wpList_append_any (w0 := w) w.heap.size rfl _ _ 51 37 (.slice none 0 0) 1 24 rfl Try.underlying51 Try.infoBs rfl (by decide) (by decide) u7 _ _ (some ⟨w3.heap.size, 0, none⟩) 1 1 [.slice A3 n2 c3] rfl rfl HO3.out.row HR3.out (by simp [Value.oneCell']) (by have := HL.out; omega) HB3.out HB3.out.size ?_; intro v1 w4 hown4 hb4 hg4 _))
        have HO4 := Lib.hid (HO3.out.push ⟨0, A3, n2, c3, xs⟩ HW3.out hg4 hown4)
        have HB4 := Lib.hid hb4
        clear hown4 hb4 hg4 HO3 HW3
        go_roundw
        case rel => exact ⟨k + 1, lk ++ [⟨0, A3, n2, c3, xs⟩], by omega, by go_num, Lib.hid (by rw [HN.out]; simp), Lib.hid (by simp [HL.out]), HO4, HB4⟩
        case measure => simp [intOf]; omega
      · have HN : Hid (scanM d.read first gen = lk.map (·.bytes)) := Lib.hid (by
          rw [HM.out, show 4 - k = (4 - (k + 1)) + 1 by omega, HST.out hno, List.append_nil])
        clear hno HM
        obtain ⟨A, c, rfl, hrr⟩ := HO2.out.read
        have HRR := Lib.hid hrr
        clear hrr
        go_wp2_with fail
        go_ret
        refine ⟨A, c, ?_, ?_, HB2.out⟩
        · rw [HN.out, List.length_map]; rfl
        · rw [HN.out, List.length_map]; exact HRR.out
    · obtain rfl : k = 4 := by omega
      have HN : Hid (scanM d.read first gen = lk.map (·.bytes)) := Lib.hid (by rw [HM.out]; simp [scanF])
      obtain ⟨A, c, rfl, hrr⟩ := HO.out.read
      have HRR := Lib.hid hrr
      clear hrr
      go_wp2_with fail
      go_ret
      refine ⟨A, c, ?_, ?_, HB.out⟩
      · rw [HN.out, List.length_map]; rfl
      · rw [HN.out, List.length_map]; exact HRR.out
end Go.Proofs.Ytgakajofggmbjaa

/- The end of the journal's Add: the count is written. -/
namespace Go.Proofs.Ytgakajofggmbjaa
open Go.RowKit

theorem kp_putObj {W : World} {D : Nat} (o' : Obj) : Kp (· = D) W (W.putObj D o') := Kp.of_grown (grownBy_putObj' W D o') (fun k e => by injection e with e; exact e.symm)
theorem AddI.done {w W : World} {base p s j : Nat} {v : Value} {first : Int} {gen count : Nat} {A : Option Addr} {n c : Nat} {b : List UInt8} {nx err : Int} {d' : Dk} {D : Nat} (h : AddI w base p s j v first gen count A n c b nx err d' W) (hj : j < w.heap.size) (hD : w.heap.size + 5 ≤ D) (hK : W.heap[D]? = some (.deferred (some []))) (cnt : Nat) (err' : Int) :
    (∃ v', DiskAt (((W.setCell ⟨j, 3, none⟩ (.int .i64 (cnt : Int))).setCell ⟨w.heap.size + 1, 0, none⟩ (.int .i64 err')).putObj D (.deferred none)) base p s v' d' ∧ ∀ g, v'.ownBlock = some g → v.ownBlock = some g ∨ w.heap.size ≤ g) ∧
    JAt (((W.setCell ⟨j, 3, none⟩ (.int .i64 (cnt : Int))).setCell ⟨w.heap.size + 1, 0, none⟩ (.int .i64 err')).putObj D (.deferred none)) j p first gen cnt ∧
    Kp (fun k => foot p s v k ∨ k = j) w (((W.setCell ⟨j, 3, none⟩ (.int .i64 (cnt : Int))).setCell ⟨w.heap.size + 1, 0, none⟩ (.int .i64 err')).putObj D (.deferred none)) ∧
    (((W.setCell ⟨j, 3, none⟩ (.int .i64 (cnt : Int))).setCell ⟨w.heap.size + 1, 0, none⟩ (.int .i64 err')).putObj D (.deferred none)).cell? ⟨w.heap.size + 1, 0, none⟩ = some (.int .i64 err') ∧
    ((W.setCell ⟨j, 3, none⟩ (.int .i64 (cnt : Int))).setCell ⟨w.heap.size + 1, 0, none⟩ (.int .i64 err')).heap[D]? = some (.deferred (some [])) := by
  obtain ⟨v', hd, ho⟩ := h.dk
  have hfj := h.jr.not_foot hd
  have hfe := foot_not hd h.eb (by decide) (by decide) (by decide)
  have hfD : ¬ foot p s v' D := fun hf => by
    rcases hf with rfl | rfl | hf
    · rw [hd.obj] at hK; cases hK
    · rw [hd.sta] at hK; cases hK
    · rcases hd.pen.2 with ⟨rfl, _⟩ | ⟨g, cap, cur, rfl, _, hgb, _⟩
      · cases hf
      · obtain rfl : g = D := by simpa [Value.ownBlock] using hf
        rw [hgb] at hK; cases hK
  have k1 : Kp (fun k => k = j) W (W.setCell ⟨j, 3, none⟩ (.int .i64 (cnt : Int))) := (Kp.refl _ W).setCell _ _ (fun _ => rfl)
  have j1 := h.jr.set3 cnt
  have e1 := h.eb.kp k1 (by omega)
  have hK1 : (W.setCell ⟨j, 3, none⟩ (.int .i64 (cnt : Int))).heap[D]? = some (.deferred (some [])) := (KeepsOthers.setCell _ _ _).same D _ hK rfl
  have d1 := hd.kept k1 (fun k hf e => hfj (e ▸ hf))
  have s1 : W.heap.size ≤ (W.setCell ⟨j, 3, none⟩ (.int .i64 (cnt : Int))).heap.size := k1.size
  have p1 : Kp (fun k => foot p s v k ∨ k = j) w (W.setCell ⟨j, 3, none⟩ (.int .i64 (cnt : Int))) := (h.kp.imp (fun _ _ hf => Or.inl hf)).trans k1 (fun i _ e => Or.inr e)
  generalize W.setCell ⟨j, 3, none⟩ (.int .i64 (cnt : Int)) = W1 at *
  have k2 : Kp (fun k => k = w.heap.size + 1) W1 (W1.setCell ⟨w.heap.size + 1, 0, none⟩ (.int .i64 err')) := (Kp.refl _ W1).setCell _ _ (fun _ => rfl)
  have j2 := RowAt.kp j1 k2 (by omega)
  have e2 : RowAt (W1.setCell ⟨w.heap.size + 1, 0, none⟩ (.int .i64 err')) (w.heap.size + 1) 41 [.int .i64 err'] := heap_setCell_same W1 (w.heap.size + 1) 0 _ _ _ e1
  have hK2 : (W1.setCell ⟨w.heap.size + 1, 0, none⟩ (.int .i64 err')).heap[D]? = some (.deferred (some [])) := (KeepsOthers.setCell _ _ _).same D _ hK1 rfl
  have d2 := d1.kept k2 (fun k hf e => hfe (e ▸ hf))
  have p2 : Kp (fun k => foot p s v k ∨ k = j) w (W1.setCell ⟨w.heap.size + 1, 0, none⟩ (.int .i64 err')) := p1.trans k2 (fun i hi e => by omega)
  generalize W1.setCell ⟨w.heap.size + 1, 0, none⟩ (.int .i64 err') = W2 at *
  have k3 : Kp (fun k => k = D) W2 (W2.putObj D (.deferred none)) := kp_putObj _
  exact ⟨⟨v', d2.kept k3 (fun k hf e => hfD (e ▸ hf)), fun g hg => (ho g hg).imp id (fun h => by omega)⟩, RowAt.kp j2 k3 (by omega), p2.trans k3 (fun i hi e => by omega), (e2.kp k3 (by omega)).cell 0 _ rfl, hK2⟩
end Go.Proofs.Ytgakajofggmbjaa
