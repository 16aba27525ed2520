/- The seal's Open. -/
import Derived.Test.YtanibabfdpgbbaaSealW2
import Derived.Deep.RegionHeld3
import Derived.OwnWalk
namespace Go.Proofs.Ytanibabfdpgbbaa
open Go.RowKit
attribute [local go_sem ↓] loadAt37

/-- What Open answers, in one form (the reference's as well). -/
def OpenPost (w : World) (r : Option (Nat × List UInt8)) (e : Ending) (w' : World) : Prop :=
  ∃ mk A m c b, e = .returned (.tuple #[.int .u64 ((mk : Nat) : Int), .slice A m c, .bool b]) ∧ Below w.heap.size w w' ∧ ((∃ body, r = some (mk, body) ∧ b = true ∧ RB w' A m c body) ∨ (r = none ∧ mk = 0 ∧ A = none ∧ m = 0 ∧ c = 0 ∧ b = false))
theorem run_cutS (g l k : Nat) (hl : l < 128) (hk : l + k ≤ 128) (w : World) (L H : Int) (hL : L = (l : Int)) (hH : H = (l : Int) + (k : Int)) :
    (Instr.sliceAt 32 (.pointer (some ⟨g, 0, none⟩)) (some (.int .i64 L)) (some (.int .i64 H)) none).run Try.prog w = .ok (.slice (some ⟨g, l, none⟩) k (128 - l)) w := by
  subst hL hH
  have ht : Try.prog.underlying 32 = some (.array (Try.prog.arrayLen 32) (Try.prog.elem 32)) := by kernel_rfl
  have he : Try.prog.elem 32 = 5 := by kernel_rfl
  have ha : Try.prog.arrayLen 32 = 128 := by kernel_rfl
  obtain ⟨i0, hi0, hz0, hz1, hz2⟩ := info_parts Try.infoU8'
  rw [run_sliceAt_array_lh w _ ⟨g, 0, none⟩ ht .i64 .i64 (l : Int) ((l : Int) + (k : Int)) (by omega) (by omega) (by rw [ha]; omega), he, ha]
  have e2 : ((l : Int) + (k : Int)).toNat = l + k := by omega
  have e3 : ¬ (128 = l) := by omega
  simp [sizeOf, typeInfo, hi0, hz1, e2, slicedAt, Result.andThen, e3, add_none]
section
variable {ops : Array Oper} {rest : List Oper} {o : Oper} {a : Act} {w : World} {Q : Exit → Act → World → Prop}
theorem wpList_cutS (hgd : o.guard = none) (x lo hi : Operand) (ho : o.op = .slice 32 x (some lo) (some hi) none) (g l k : Nat) (L H : Int) (hx : a.eval x = .pointer (some ⟨g, 0, none⟩)) (hlo : a.eval lo = .int .i64 L) (hhi : a.eval hi = .int .i64 H) (hL : L = (l : Int)) (hH : H = (l : Int) + (k : Int)) (hl : l < 128) (hk : l + k ≤ 128)
    (h : wpList Try.prog ops Q rest (a.put o.dst (.slice (some ⟨g, l, none⟩) k (128 - l))) w) : wpList Try.prog ops Q (o :: rest) a w := by
  refine wpList_plain hgd fun K hK => ?_
  unfold Oper.wp execOp
  simp only [ho, Option.map_some, Option.map_none, hx, hlo, hhi]
  simp only [Sem.run_bind, run_cutS g l k hl hk w L H hL hH, Result.andThen_ok, Sem.run_pure]
  exact hK _ _ h
end
set_option maxRecDepth 20000 in
set_option maxHeartbeats 3200000 in
theorem seal_Open (l : List UInt8) (hl : l.length = 128) (w : World) :
    Calls Try.prog 44 #[secV l] w (OpenPost w (openM l)) := by
  have HG := Lib.hid (SecAt.new w l hl)
  have HL := Lib.hid hl
  have hb1 := below_alloc w (.cells (bv l).toArray 32)
  have HB1 := Lib.hid hb1
  have hbl : (bv l).length = 128 := by rw [bv_length, hl]
  clear hl hb1
  unfold secV
  go_enter Try.func44, Try.ntmps44
  go_wp2_with fail
  have hr8 := HG.out.rb 0 8 128 (by omega) (by omega) (by omega)
  have hr2 := HG.out.rb 8 2 120 (by omega) (by omega) (by omega)
  rw [List.drop_zero] at hr8
  have HR8 := Lib.hid hr8; have HR2 := Lib.hid hr2
  have hm8 := numOf_small l 8 (by omega)
  have hm2 := numOf_lt (l.drop 8) 2
  have HM8 := Lib.hid hm8
  have hopen : openM l = openM l := rfl
  conv at hopen => rhs; unfold openM
  have HO := Lib.hid hopen
  have hwrap : IntKind.i64.wrap ((numOf ((l.drop 8).take 2) : Nat) : Int) = ((numOf ((l.drop 8).take 2) : Nat) : Int) := by
    have : numOf ((l.drop 8).take 2) < 65536 := by omega
    simp [IntKind.wrap, IntKind.signed, IntKind.bits]
    omega
  clear hr8 hr2 hm8 hopen
  generalize hmk : numOf (l.take 8) = mk at *
  generalize hn : numOf ((l.drop 8).take 2) = n at *
  generalize w.alloc (.cells (bv l).toArray 32) = w1 at *
  go_region_held3 (fun _ => True) (first | go_keep | trivial)
    (first
      | (go_at_call 54
         have hB := HB2
         refine (seal_get 2 (.inl rfl) (some ⟨w.heap.size, 8, none⟩) 120 ((l.drop 8).take 2) _ (HR2.out.below HB2.out)).mono ?_
         rw [hn]
         rintro e w3 ⟨rfl, hb3⟩
         have HB3 := Lib.hid (bthen HB2.out hb3)
         have hS : True := trivial
         clear hb3 hB)
      | (go_at_call 54
         refine (seal_get 8 (.inr (.inr rfl)) (some ⟨w.heap.size, 0, none⟩) 128 (l.take 8) _ (HR8.out.below (Below.refl _ _).drew)).mono ?_
         rw [hmk]
         rintro e w2 ⟨rfl, hb2⟩
         have HB2 := Lib.hid (bthen (Below.refl _ w1).drew hb2)
         have hS : True := trivial
         clear hb2))
  have HB3' := Lib.hid (bthen HB1.out HB3.out)
  have HG3 := Lib.hid (HG.out.below HB3.out)
  clear HB1 HB2 HB3 HR8 HR2 HG
  by_cases hbig : 106 < n
  · have hd : decide ((106 : Int) < (n : Int)) = true := decide_eq_true (by omega)
    have HN : Hid (openM l = none) := Lib.hid (by rw [HO.out, if_pos hbig])
    clear hbig HO hm2 hwrap
    go_wp2_with fail
    go_ret3
    exact ⟨0, none, 0, 0, false, rfl, HB3'.out, .inr ⟨HN.out, rfl, rfl, rfl, rfl, rfl⟩⟩
  · have hd : decide ((106 : Int) < (n : Int)) = false := decide_eq_false (by omega)
    have hn0 : (0 : Int) ≤ (n : Int) := Int.natCast_nonneg _
    have hn1 : (10 : Int) + (n : Int) ≤ 128 := by omega
    have HN : Hid (openM l = if makeM mk ((l.drop 10).take n) = some l then some (mk, (l.drop 10).take n) else none) := Lib.hid (by rw [HO.out, if_neg hbig])
    have HN106 : Hid (n ≤ 106) := Lib.hid (by omega)
    have hrb := HG3.out.rb 10 n 118 (by omega) (by omega) (by omega)
    generalize hbody : (l.drop 10).take n = body at *
    have HRB := Lib.hid hrb
    clear hbig HO hm2 hwrap hrb hbody
    go_wp2_with (refine wpList_cutS rfl _ _ _ rfl w.heap.size 10 n _ _ rfl rfl rfl rfl rfl (by omega) (by have := HN106.out; omega) ?_)
    refine (clone_bytes w.heap.size 10 n 118 body w3 HRB.out (by have := HN106.out; omega)).mono ?_
    rintro e w4 ⟨A4, c4, rfl, hr4, hb4⟩
    have HR4 := Lib.hid hr4; have HB4 := Lib.hid (bthen HB3'.out hb4); have HG4 := Lib.hid (HG3.out.below hb4)
    clear hr4 hb4
    go_wp2_with fail
    refine (seal_Make mk HM8.out A4 n c4 body w4 HR4.out (by have := HN106.out; omega)).mono ?_
    rintro e w5 ⟨l5, ev, rfl, hl5, hb5, hc5⟩
    have HL5 := Lib.hid hl5; have HB5 := Lib.hid (bthen HB4.out hb5); have HG5 := Lib.hid (HG4.out.below hb5); have HR5 := Lib.hid (HR4.out.below hb5)
    clear hl5 hb5
    have HB6 := Lib.hid (HB5.out.alloc HB5.out.size (.cells (bv l5).toArray 32))
    have HR6 := Lib.hid (HR5.out.alloc (.cells (bv l5).toArray 32))
    have hld1 := run_ldSec (w := w5.alloc (.cells (bv l5).toArray 32)) (range_alloc w5 (bv l5) _ _) HL5.out
    have hld2 := run_ldSec (w := w5.alloc (.cells (bv l5).toArray 32)) (HG5.out.below (below_alloc w5 _)).range HL.out
    have heq := eq37 (w5.alloc (.cells (bv l5).toArray 32)) l5 l HL5.out HL.out
    clear hbl HG3 HG4 HG5 HB3' HB4 HB5 HR4 HR5 HRB
    rcases hc5 with ⟨hmk5, rfl⟩ | ⟨hmk5, rfl, rfl⟩
    · by_cases hsame : l5 = l
      · have HF : Hid (openM l = some (mk, body)) := Lib.hid (by rw [HN.out, hmk5, if_pos (by rw [hsame])])
        have hdd : decide (l5 = l) = true := decide_eq_true hsame
        rw [hdd] at heq
        clear hmk5 hsame hdd
        go_wp2_with (refine st37 rfl _ _ rfl _ _ rfl rfl l5 rfl HL5.out rfl ?_)
        go_ret3
        exact ⟨mk, A4, n, c4, true, rfl, HB6.out, .inl ⟨body, HF.out, rfl, HR6.out⟩⟩
      · have HF : Hid (openM l = none) := Lib.hid (by rw [HN.out, hmk5, if_neg (by intro e; injection e with e; exact hsame e)])
        have hdd : decide (l5 = l) = false := decide_eq_false hsame
        rw [hdd] at heq
        clear hmk5 hsame hdd
        go_wp2_with (refine st37 rfl _ _ rfl _ _ rfl rfl l5 rfl HL5.out rfl ?_)
        go_ret3
        exact ⟨0, none, 0, 0, false, rfl, HB6.out, .inr ⟨HF.out, rfl, rfl, rfl, rfl, rfl⟩⟩
    · have HF : Hid (openM l = none) := Lib.hid (by rw [HN.out, hmk5, if_neg (by intro e; cases e)])
      clear hmk5 heq hld1 hld2
      go_wp2_with (refine st37 rfl _ _ rfl _ _ rfl rfl zsec rfl zsec_length rfl ?_)
      go_ret3
      exact ⟨0, none, 0, 0, false, rfl, HB6.out, .inr ⟨HF.out, rfl, rfl, rfl, rfl, rfl⟩⟩
end Go.Proofs.Ytanibabfdpgbbaa
