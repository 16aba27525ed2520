/- What crc.Add and the document's sum compute: crcAdd. -/
import Derived.Test.YtanibabfdpgbbaaProg
import Derived.Test.YtanibabfdpgbbaaMg6
import Derived.Lib.Hide
import Derived.Deep.RegionHeld3
import Derived.OwnWalk
import Derived.Test.YtanibabfdpgbbaaMg3
import Derived.Test.YtanibabfdpgbbaaMg2
namespace Go.Proofs.Ytanibabfdpgbbaa
open Go.RowKit

theorem ret_u32 {a b : Int} (h : a = b) : Ending.returned (.int .u32 a) = .returned (.int .u32 b) := by rw [h]

set_option maxHeartbeats 400000 in
theorem crc_Add (s : BitVec 32) (A : Option Addr) (n c : Nat) (xs : List UInt8) (w : World) (hx : RB w A n c xs) :
    Calls Try.prog 60 #[.int .u32 (s.toNat : Int), .slice A n c] w fun e w' => e = .returned (.int .u32 ((crcAdd s xs).toNat : Int)) ∧ w = w' := by
  obtain ⟨hl, hnc, hc, hA⟩ := hx
  have HL := Lib.hid hl; clear hl
  have hs := s.isLt
  go_enter Try.func60, Try.ntmps60
  go_wp2
  go_loop [0, 11] (fun t i => ∃ k : Nat, k ≤ n ∧ i = .int .i64 k ∧ t = .int .u32 ((crcFold (~~~ s) (xs.take k)).toNat : Int)) (fun _ i => n - (intOf i).toNat)
  case atStart => exact ⟨0, by omega, rfl, by rw [not_int]; rfl⟩
  case round =>
    obtain ⟨k, hk, rfl, rfl⟩ := hrel
    by_cases hlt : k < n
    · obtain ⟨b, o, rfl, hX⟩ := hA (by omega)
      have hcell := hX k hlt
      have HF := Lib.hid (crcFold_take (~~~ s) xs k (by rw [HL.out]; exact hlt))
      clear hX hA
      go_wp2
      go_loop [0, 19] (fun t i => ∃ j : Nat, j ≤ 8 ∧ i = .int .i64 j ∧ t = .int .u32 ((iter crcStep j (crcFold (~~~ s) (xs.take k) ^^^ (at8 xs k).toBitVec.setWidth 32)).toNat : Int)) (fun _ i => 8 - (intOf i).toNat)
      case atStart => exact ⟨0, by omega, rfl, by rw [crcByte_int]; rfl⟩
      case round =>
        obtain ⟨j, hj, rfl, rfl⟩ := hrel
        by_cases hlt8 : j < 8
        · go_wp2
          go_round
          case rel => exact ⟨j + 1, by omega, by go_num, by rw [crcStep_int]; rfl⟩
          case measure => simp [intOf]; omega
        · obtain rfl : j = 8 := by omega
          go_wp2
          go_round
          case rel => exact ⟨k + 1, by omega, by go_num, by rw [HF.out]⟩
          case measure => simp [intOf]; omega
    · obtain rfl : k = n := by omega
      go_wp2
      go_ret
      exact ⟨ret_u32 (by rw [not_int, List.take_of_length_le (by rw [HL.out]; omega)]; rfl), rfl⟩

set_option maxHeartbeats 400000 in
theorem ref03_Sum (s : BitVec 32) (A : Option Addr) (n c : Nat) (xs : List UInt8) (w : World) (hx : RB w A n c xs) :
    Calls Try.prog 53 #[.int .u32 (s.toNat : Int), .slice A n c] w fun e w' => e = .returned (.int .u32 ((crcAdd s xs).toNat : Int)) ∧ w = w' := by
  obtain ⟨hl, hnc, hc, hA⟩ := hx
  have HL := Lib.hid hl; clear hl
  have hs := s.isLt
  go_enter Try.func53, Try.ntmps53
  go_wp2
  go_loop [5, 6] (fun t i => ∃ k : Nat, k ≤ n ∧ i = .int .i64 k ∧ t = .int .u32 ((crcFold (~~~ s) (xs.take k)).toNat : Int)) (fun _ i => n - (intOf i).toNat)
  case atStart => exact ⟨0, by omega, rfl, by rw [not_sub]; rfl⟩
  case round =>
    obtain ⟨k, hk, rfl, rfl⟩ := hrel
    by_cases hlt : k < n
    · obtain ⟨b, o, rfl, hX⟩ := hA (by omega)
      have hcell := hX k hlt
      have HF := Lib.hid (crcFold_take (~~~ s) xs k (by rw [HL.out]; exact hlt))
      clear hX hA
      go_wp2
      go_loop [5, 7] (fun t i => ∃ j : Nat, j ≤ 8 ∧ i = .int .i64 j ∧ t = .int .u32 ((iter crcStep j (crcFold (~~~ s) (xs.take k) ^^^ (at8 xs k).toBitVec.setWidth 32)).toNat : Int)) (fun _ i => 8 - (intOf i).toNat)
      case atStart => exact ⟨0, by omega, rfl, by rw [crcByte_int]; rfl⟩
      case round =>
        obtain ⟨j, hj, rfl, rfl⟩ := hrel
        by_cases hlt8 : j < 8
        · by_cases hodd : ((iter crcStep j (crcFold (~~~ s) (xs.take k) ^^^ (at8 xs k).toBitVec.setWidth 32)).toNat : Int) % 2 = 1
          · have HO := Lib.hid hodd
            have hb : (((iter crcStep j (crcFold (~~~ s) (xs.take k) ^^^ (at8 xs k).toBitVec.setWidth 32)).toNat : Int) % 2 == 1) = true := beq_iff_eq.2 hodd
            clear hodd
            go_wp2
            go_round
            case rel => exact ⟨j + 1, by omega, by go_num, by rw [crcStep_odd _ HO.out]; rfl⟩
            case measure => simp [intOf]; omega
          · have HO := Lib.hid hodd
            have hb : (((iter crcStep j (crcFold (~~~ s) (xs.take k) ^^^ (at8 xs k).toBitVec.setWidth 32)).toNat : Int) % 2 == 1) = false := beq_eq_false_iff_ne.2 hodd
            clear hodd
            go_wp2
            go_round
            case rel => exact ⟨j + 1, by omega, by go_num, by rw [crcStep_even _ HO.out]; rfl⟩
            case measure => simp [intOf]; omega
        · obtain rfl : j = 8 := by omega
          go_wp2
          go_round
          case rel => exact ⟨k + 1, by omega, by go_num, by rw [HF.out]⟩
          case measure => simp [intOf]; omega
    · obtain rfl : k = n := by omega
      go_wp2
      go_ret
      exact ⟨ret_u32 (by rw [not_sub, List.take_of_length_le (by rw [HL.out]; omega)]; rfl), rfl⟩

set_option maxHeartbeats 400000 in
theorem crc_Sum (A : Option Addr) (n c : Nat) (xss : List (List UInt8)) (w : World) (hx : RRB w A n c xss) :
    Calls Try.prog 52 #[.slice A n c] w fun e w' => e = .returned (.int .u32 ((crcSums xss).toNat : Int)) ∧ w = w' := by
  obtain ⟨hl, hnc, hc, hA⟩ := hx
  have HL := Lib.hid hl; clear hl
  go_enter Try.func52, Try.ntmps52
  go_wp2
  go_loop [3, 8] (fun t i => ∃ k : Nat, k ≤ n ∧ i = .int .i64 k ∧ t = .int .u32 ((crcSums (xss.take k)).toNat : Int)) (fun _ i => n - (intOf i).toNat)
  case atStart => exact ⟨0, by omega, rfl, rfl⟩
  case round =>
    obtain ⟨k, hk, rfl, rfl⟩ := hrel
    by_cases hlt : k < n
    · obtain ⟨b, o, rfl, hX⟩ := hA (by omega)
      obtain ⟨A', n', c', hcell, hrb⟩ := hX k hlt
      have HF := Lib.hid (crcSums_take xss k (by rw [HL.out]; exact hlt))
      have HR := Lib.hid hrb
      clear hX hA hrb
      go_wp2_with (go_at_call 60; refine (crc_Add _ _ _ _ _ _ HR.out).mono ?_; rintro e w' ⟨rfl, rfl⟩)
      go_round
      case rel => exact ⟨k + 1, by omega, by go_num, by rw [HF.out]⟩
      case measure => simp [intOf]; omega
    · obtain rfl : k = n := by omega
      go_wp2
      go_ret
      exact ⟨ret_u32 (by rw [List.take_of_length_le (by rw [HL.out]; omega)]), rfl⟩

end Go.Proofs.Ytanibabfdpgbbaa

/- The seal's Make. -/
namespace Go.Proofs.Ytanibabfdpgbbaa
open Go.RowKit

/-- What Make answers, in one form (the reference's as well). -/
def MadePost (w : World) (r : Option (List UInt8)) (e : Ending) (w' : World) : Prop :=
  ∃ l ev, e = .returned (.tuple #[secV l, .int .i64 ev]) ∧ l.length = 128 ∧ Below w.heap.size w w' ∧ ((r = some l ∧ ev = 0) ∨ (r = none ∧ l = zsec ∧ ev = 51))
theorem retS_tmp {fn : Func} {p q : Tmp} (h : fn.results = #[.cell p 32, .tmp q]) (tmps : Array Value) (w : World) (l : List UInt8) (u : Value) (g : Nat) (hp : tmps.getD p undef = .pointer (some ⟨g, 0, none⟩)) (hq : tmps.getD q undef = u) (hg : SecAt w g l) :
    (results fn tmps).run Try.prog w = .ok (.tuple #[secV l, u]) w :=
  res_row_tmp h tmps w g 0 (bv l) _ u hp hq hg.range Try.underlying32 rfl (Try.size37.trans (by simp [bv_length, hg.2]))
theorem two_step {w a b : World} {g0 g1 : Nat} {z : List UInt8} (hb : Below w.heap.size w a) (h0 : SecAt a g0 z) (hk : Kp (· = g1) a b) (hg0 : g0 ≠ g1) (hg1 : w.heap.size ≤ g1) : Below w.heap.size w b ∧ SecAt b g0 z :=
  ⟨hb.trans (hk.below hb.size (fun _ e => e ▸ hg1)), h0.kp hk hg0⟩
theorem splice_length (l : List UInt8) (o : Nat) (xs : List UInt8) (hl : l.length = 128) (h : o + xs.length ≤ 128) : (splice l o xs).length = 128 := by
  simp [splice, hl]
  omega
set_option maxRecDepth 20000 in
set_option maxHeartbeats 3200000 in
theorem seal_Make (mark : Nat) (hmk : mark < 18446744073709551616) (A : Option Addr) (n c : Nat) (body : List UInt8) (w : World) (hr : RB w A n c body) (hn : n ≤ 140737488351232) :
    Calls Try.prog 37 #[.int .u64 mark, .slice A n c] w (MadePost w (makeM mark body)) := by
  have hlen : body.length = n := hr.1
  have HR := Lib.hid hr
  have HLEN := Lib.hid hlen
  have hg0 : SecAt ((w.alloc (.cells Try.zeroCells32 32)).alloc (.cells Try.zeroCells32 32)) w.heap.size zsec := by
    rw [Try.zero37]
    exact (SecAt.new w zsec zsec_length).below (below_alloc _ _)
  have hg1 : SecAt ((w.alloc (.cells Try.zeroCells32 32)).alloc (.cells Try.zeroCells32 32)) (w.heap.size + 1) zsec := by
    have := SecAt.new (w.alloc (.cells Try.zeroCells32 32)) zsec zsec_length
    rw [Try.zero37]
    simpa [Try.zero37] using this
  have hb1 : Below w.heap.size w ((w.alloc (.cells Try.zeroCells32 32)).alloc (.cells Try.zeroCells32 32)) := (below_alloc w _).alloc (by simp) _
  have HG0 := Lib.hid hg0; have HG1 := Lib.hid hg1; have HB1 := Lib.hid hb1
  clear hr hlen hg0 hg1 hb1
  by_cases hbad : mark = 0 ∨ 106 < n
  · have HM : Hid (makeM mark body = none) := Lib.hid (by unfold makeM; rw [if_pos (by rw [HLEN.out]; exact hbad)])
    have key : ∀ P : Prop, ((((mark : Int) == 0) = true → P) ∧ ((((mark : Int) == 0) = false ∧ decide ((106 : Int) < (n : Int)) = true) → P)) → P := fun P ⟨h1, h2⟩ => by
      by_cases h0 : mark = 0
      · exact h1 (by subst h0; rfl)
      · exact h2 ⟨by rw [beq_eq_false_iff_ne]; omega, decide_eq_true (by omega)⟩
    clear hbad
    refine key _ ⟨fun h1 => ?_, fun ⟨h1, h2⟩ => ?_⟩
    all_goals
      clear key
      go_enter Try.func37, Try.ntmps37
      go_wp2_with (first | (refine ld37 rfl _ rfl (w.heap.size + 1) 0 rfl zsec HG1.out.range zsec_length ?_) | (refine st37_at rfl _ _ rfl w.heap.size zsec rfl HG0.out zsec rfl zsec_length ?_; intro w2 hg2 hk2; have HG2 := Lib.hid hg2; have HB2 := Lib.hid (HB1.out.trans (hk2.below HB1.out.size (fun _ e => by rw [e]; exact Nat.le_refl _))); clear hg2 hk2))
      (try simp only [Exit.inBlock, Exit.then])
      refine bodyPost_ret (retS_tmp rfl _ _ zsec _ w.heap.size rfl rfl HG2.out) rfl ?_
      exact ⟨zsec, 51, rfl, zsec_length, HB2.out, .inr ⟨HM.out, rfl, rfl⟩⟩
  · have HM : Hid (makeM mark body = some (sealL mark body)) := Lib.hid (by unfold makeM; rw [if_neg (by rw [HLEN.out]; exact hbad)])
    have hn106 : n ≤ 106 := by omega
    have h1 : ((mark : Int) == 0) = false := by rw [beq_eq_false_iff_ne]; omega
    have h2 : decide ((106 : Int) < (n : Int)) = false := decide_eq_false (by omega)
    have hn0 : (0 : Int) ≤ (n : Int) := Int.natCast_nonneg _
    have hwr : IntKind.u64.wrap (n : Int) = (n : Int) := by simp [IntKind.wrap, IntKind.signed, IntKind.bits]; omega
    have HP := Lib.hid (put_pre mark body (by rw [HLEN.out]; exact hn106))
    have HS := Lib.hid (put_sum mark body (by rw [HLEN.out]; exact hn106))
    rw [HLEN.out] at HP
    have HMK : Hid (mark < 256 ^ 8) := Lib.hid (by omega)
    have HN : Hid (n < 256 ^ 2 ∧ n ≤ 106) := Lib.hid ⟨by omega, hn106⟩
    clear hbad hn106 hmk
    go_enter Try.func37, Try.ntmps37
    go_wp2_with fail
    refine (seal_put 8 (.inr (.inr rfl)) mark HMK.out (w.heap.size + 1) zsec 0 (by omega) _ HG1.out).mono ?_
    rintro e w2 ⟨rfl, hg2, hk2⟩
    obtain ⟨hb2, hz2⟩ := two_step HB1.out HG0.out hk2 (by omega) (by omega)
    have HG2 := Lib.hid hg2; have HB2 := Lib.hid hb2; have HZ2 := Lib.hid hz2
    clear hg2 hk2 hb2 hz2
    go_wp2_with fail
    refine (seal_put 2 (.inl rfl) n HN.out.1 (w.heap.size + 1) _ 8 (by omega) _ HG2.out).mono ?_
    rintro e w3 ⟨rfl, hg3, hk3⟩
    obtain ⟨hb3, hz3⟩ := two_step HB2.out HZ2.out hk3 (by omega) (by omega)
    have HG3 := Lib.hid hg3; have HB3 := Lib.hid hb3; have HZ3 := Lib.hid hz3
    clear hg3 hk3 hb3 hz3
    go_wp2_with (refine wpList_copy_sec rfl _ _ rfl (w.heap.size + 1) 10 118 118 A n c rfl rfl _ HG3.out body (HR.out.below HB3.out) (by have := HN.out.2; omega) (by have := HN.out.2; omega) ?_; intro w4 hg4 hk4; obtain ⟨hb4, hz4⟩ := two_step HB3.out HZ3.out hk4 (by omega) (by omega); rw [HP.out] at hg4; have HG4 := Lib.hid hg4; have HB4 := Lib.hid hb4; have HZ4 := Lib.hid hz4; clear hg4 hk4 hb4 hz4)
    have hrb := HG4.out.rb 0 116 128 (by omega) (by omega) (by omega)
    rw [List.drop_zero, take_pre mark body _ (by rw [HLEN.out]; exact HN.out.2)] at hrb
    refine (crc_Sum _ _ _ [preL mark body] _ (rrb_one hrb _)).mono ?_
    rintro e w5 ⟨rfl, rfl⟩
    rw [sums_one]
    have hsl := sumL_lt mark body
    have HSL : Hid (sumL mark body < 256 ^ 4) := Lib.hid (by omega)
    rw [show (crcAdd 0#32 (preL mark body)).toNat = sumL mark body from rfl]
    generalize hsm : sumL mark body = sm at *
    have hs0 : (0 : Int) ≤ (sm : Int) := Int.natCast_nonneg _
    have hs1 : (sm : Int) < 4294967296 := by omega
    clear hrb hsl
    go_wp2_with fail
    refine (seal_put 4 (.inr (.inl rfl)) sm HSL.out (w.heap.size + 1) _ 116 (by omega) _ (HG4.out.below (below_alloc _ _))).mono ?_
    rintro e w6 ⟨rfl, hg6, hk6⟩
    obtain ⟨hb6, hz6⟩ := two_step (HB4.out.alloc HB4.out.size _) (HZ4.out.below (below_alloc _ _)) hk6 (by omega) (by omega)
    have HG6 := Lib.hid hg6; have HB6 := Lib.hid hb6; have HZ6 := Lib.hid hz6
    clear hg6 hk6 hb6 hz6
    go_wp2_with fail
    refine (seal_put 8 (.inr (.inr rfl)) mark HMK.out (w.heap.size + 1) _ 120 (by omega) _ HG6.out).mono ?_
    rintro e w7 ⟨rfl, hg7, hk7⟩
    obtain ⟨hb7, hz7⟩ := two_step HB6.out HZ6.out hk7 (by omega) (by omega)
    rw [HS.out] at hg7
    have HG7 := Lib.hid hg7; have HB7 := Lib.hid hb7; have HZ7 := Lib.hid hz7
    clear hg7 hk7 hb7 hz7
    go_wp2_with (first | (refine ld37 rfl _ rfl (w.heap.size + 1) 0 rfl (sealL mark body) HG7.out.range HG7.out.2 ?_) | (refine st37_at rfl _ _ rfl w.heap.size zsec rfl HZ7.out (sealL mark body) rfl HG7.out.2 ?_; intro w8 hg8 hk8; have HG8 := Lib.hid hg8; have HB8 := Lib.hid (HB7.out.trans (hk8.below HB7.out.size (fun _ e => by rw [e]; exact Nat.le_refl _))); clear hg8 hk8))
    (try simp only [Exit.inBlock, Exit.then])
    refine bodyPost_ret (retS_tmp rfl _ _ (sealL mark body) _ w.heap.size rfl rfl HG8.out) rfl ?_
    exact ⟨sealL mark body, 0, rfl, HG8.out.2, HB8.out, .inl ⟨HM.out, rfl⟩⟩
end Go.Proofs.Ytanibabfdpgbbaa

/- The seal's Open. -/
namespace Go.Proofs.Ytanibabfdpgbbaa
open Go.RowKit
attribute [local go_sem ↓] loadAt37

/-- What Open answers, in one form (the reference's as well). -/
def OpenPost (w : World) (r : Option (Nat × List UInt8)) (e : Ending) (w' : World) : Prop :=
  ∃ mk A m c b, e = .returned (.tuple #[.int .u64 ((mk : Nat) : Int), .slice A m c, .bool b]) ∧ Below w.heap.size w w' ∧ ((∃ body, r = some (mk, body) ∧ b = true ∧ RB w' A m c body) ∨ (r = none ∧ mk = 0 ∧ A = none ∧ m = 0 ∧ c = 0 ∧ b = false))
theorem run_cutS (g l k : Nat) (hl : l < 128) (hk : l + k ≤ 128) (w : World) (L H : Int) (hL : L = (l : Int)) (hH : H = (l : Int) + (k : Int)) :
    (Instr.sliceAt 32 (.pointer (some ⟨g, 0, none⟩)) (some (.int .i64 L)) (some (.int .i64 H)) none).run Try.prog w = .ok (.slice (some ⟨g, l, none⟩) k (128 - l)) w := by
  subst hL hH
  have ht : Try.prog.underlying 32 = some (.array (Try.prog.arrayLen 32) (Try.prog.elem 32)) := by kernel_rfl
  have he : Try.prog.elem 32 = 5 := by kernel_rfl
  have ha : Try.prog.arrayLen 32 = 128 := by kernel_rfl
  obtain ⟨i0, hi0, hz0, hz1, hz2⟩ := info_parts Try.infoU8'
  rw [run_sliceAt_array_lh w _ ⟨g, 0, none⟩ ht .i64 .i64 (l : Int) ((l : Int) + (k : Int)) (by omega) (by omega) (by rw [ha]; omega), he, ha]
  have e2 : ((l : Int) + (k : Int)).toNat = l + k := by omega
  have e3 : ¬ (128 = l) := by omega
  simp [sizeOf, typeInfo, hi0, hz1, e2, slicedAt, Result.andThen, e3, add_none]
section
variable {ops : Array Oper} {rest : List Oper} {o : Oper} {a : Act} {w : World} {Q : Exit → Act → World → Prop}
theorem wpList_cutS (hgd : o.guard = none) (x lo hi : Operand) (ho : o.op = .slice 32 x (some lo) (some hi) none) (g l k : Nat) (L H : Int) (hx : a.eval x = .pointer (some ⟨g, 0, none⟩)) (hlo : a.eval lo = .int .i64 L) (hhi : a.eval hi = .int .i64 H) (hL : L = (l : Int)) (hH : H = (l : Int) + (k : Int)) (hl : l < 128) (hk : l + k ≤ 128)
    (h : wpList Try.prog ops Q rest (a.put o.dst (.slice (some ⟨g, l, none⟩) k (128 - l))) w) : wpList Try.prog ops Q (o :: rest) a w := by
  refine wpList_plain hgd fun K hK => ?_
  unfold Oper.wp execOp
  simp only [ho, Option.map_some, Option.map_none, hx, hlo, hhi]
  simp only [Sem.run_bind, run_cutS g l k hl hk w L H hL hH, Result.andThen_ok, Sem.run_pure]
  exact hK _ _ h
end
set_option maxRecDepth 20000 in
set_option maxHeartbeats 3200000 in
theorem seal_Open (l : List UInt8) (hl : l.length = 128) (w : World) :
    Calls Try.prog 44 #[secV l] w (OpenPost w (openM l)) := by
  have HG := Lib.hid (SecAt.new w l hl)
  have HL := Lib.hid hl
  have hb1 := below_alloc w (.cells (bv l).toArray 32)
  have HB1 := Lib.hid hb1
  have hbl : (bv l).length = 128 := by rw [bv_length, hl]
  clear hl hb1
  unfold secV
  go_enter Try.func44, Try.ntmps44
  go_wp2_with fail
  have hr8 := HG.out.rb 0 8 128 (by omega) (by omega) (by omega)
  have hr2 := HG.out.rb 8 2 120 (by omega) (by omega) (by omega)
  rw [List.drop_zero] at hr8
  have HR8 := Lib.hid hr8; have HR2 := Lib.hid hr2
  have hm8 := numOf_small l 8 (by omega)
  have hm2 := numOf_lt (l.drop 8) 2
  have HM8 := Lib.hid hm8
  have hopen : openM l = openM l := rfl
  conv at hopen => rhs; unfold openM
  have HO := Lib.hid hopen
  have hwrap : IntKind.i64.wrap ((numOf ((l.drop 8).take 2) : Nat) : Int) = ((numOf ((l.drop 8).take 2) : Nat) : Int) := by
    have : numOf ((l.drop 8).take 2) < 65536 := by omega
    simp [IntKind.wrap, IntKind.signed, IntKind.bits]
    omega
  clear hr8 hr2 hm8 hopen
  generalize hmk : numOf (l.take 8) = mk at *
  generalize hn : numOf ((l.drop 8).take 2) = n at *
  generalize w.alloc (.cells (bv l).toArray 32) = w1 at *
  go_region_held3 (fun _ => True) (first | go_keep | trivial)
    (first
      | (go_at_call 54
         have hB := HB2
         refine (seal_get 2 (.inl rfl) (some ⟨w.heap.size, 8, none⟩) 120 ((l.drop 8).take 2) _ (HR2.out.below HB2.out)).mono ?_
         rw [hn]
         rintro e w3 ⟨rfl, hb3⟩
         have HB3 := Lib.hid (bthen HB2.out hb3)
         have hS : True := trivial
         clear hb3 hB)
      | (go_at_call 54
         refine (seal_get 8 (.inr (.inr rfl)) (some ⟨w.heap.size, 0, none⟩) 128 (l.take 8) _ (HR8.out.below (Below.refl _ _).drew)).mono ?_
         rw [hmk]
         rintro e w2 ⟨rfl, hb2⟩
         have HB2 := Lib.hid (bthen (Below.refl _ w1).drew hb2)
         have hS : True := trivial
         clear hb2))
  have HB3' := Lib.hid (bthen HB1.out HB3.out)
  have HG3 := Lib.hid (HG.out.below HB3.out)
  clear HB1 HB2 HB3 HR8 HR2 HG
  by_cases hbig : 106 < n
  · have hd : decide ((106 : Int) < (n : Int)) = true := decide_eq_true (by omega)
    have HN : Hid (openM l = none) := Lib.hid (by rw [HO.out, if_pos hbig])
    clear hbig HO hm2 hwrap
    go_wp2_with fail
    go_ret3
    exact ⟨0, none, 0, 0, false, rfl, HB3'.out, .inr ⟨HN.out, rfl, rfl, rfl, rfl, rfl⟩⟩
  · have hd : decide ((106 : Int) < (n : Int)) = false := decide_eq_false (by omega)
    have hn0 : (0 : Int) ≤ (n : Int) := Int.natCast_nonneg _
    have hn1 : (10 : Int) + (n : Int) ≤ 128 := by omega
    have HN : Hid (openM l = if makeM mk ((l.drop 10).take n) = some l then some (mk, (l.drop 10).take n) else none) := Lib.hid (by rw [HO.out, if_neg hbig])
    have HN106 : Hid (n ≤ 106) := Lib.hid (by omega)
    have hrb := HG3.out.rb 10 n 118 (by omega) (by omega) (by omega)
    generalize hbody : (l.drop 10).take n = body at *
    have HRB := Lib.hid hrb
    clear hbig HO hm2 hwrap hrb hbody
    go_wp2_with (refine wpList_cutS rfl _ _ _ rfl w.heap.size 10 n _ _ rfl rfl rfl rfl rfl (by omega) (by have := HN106.out; omega) ?_)
    refine (clone_bytes w.heap.size 10 n 118 body w3 HRB.out (by have := HN106.out; omega)).mono ?_
    rintro e w4 ⟨A4, c4, rfl, hr4, hb4⟩
    have HR4 := Lib.hid hr4; have HB4 := Lib.hid (bthen HB3'.out hb4); have HG4 := Lib.hid (HG3.out.below hb4)
    clear hr4 hb4
    go_wp2_with fail
    refine (seal_Make mk HM8.out A4 n c4 body w4 HR4.out (by have := HN106.out; omega)).mono ?_
    rintro e w5 ⟨l5, ev, rfl, hl5, hb5, hc5⟩
    have HL5 := Lib.hid hl5; have HB5 := Lib.hid (bthen HB4.out hb5); have HG5 := Lib.hid (HG4.out.below hb5); have HR5 := Lib.hid (HR4.out.below hb5)
    clear hl5 hb5
    have HB6 := Lib.hid (HB5.out.alloc HB5.out.size (.cells (bv l5).toArray 32))
    have HR6 := Lib.hid (HR5.out.alloc (.cells (bv l5).toArray 32))
    have hld1 := run_ldSec (w := w5.alloc (.cells (bv l5).toArray 32)) (range_alloc w5 (bv l5) _ _) HL5.out
    have hld2 := run_ldSec (w := w5.alloc (.cells (bv l5).toArray 32)) (HG5.out.below (below_alloc w5 _)).range HL.out
    have heq := eq37 (w5.alloc (.cells (bv l5).toArray 32)) l5 l HL5.out HL.out
    clear hbl HG3 HG4 HG5 HB3' HB4 HB5 HR4 HR5 HRB
    rcases hc5 with ⟨hmk5, rfl⟩ | ⟨hmk5, rfl, rfl⟩
    · by_cases hsame : l5 = l
      · have HF : Hid (openM l = some (mk, body)) := Lib.hid (by rw [HN.out, hmk5, if_pos (by rw [hsame])])
        have hdd : decide (l5 = l) = true := decide_eq_true hsame
        rw [hdd] at heq
        clear hmk5 hsame hdd
        go_wp2_with (refine st37 rfl _ _ rfl _ _ rfl rfl l5 rfl HL5.out rfl ?_)
        go_ret3
        exact ⟨mk, A4, n, c4, true, rfl, HB6.out, .inl ⟨body, HF.out, rfl, HR6.out⟩⟩
      · have HF : Hid (openM l = none) := Lib.hid (by rw [HN.out, hmk5, if_neg (by intro e; injection e with e; exact hsame e)])
        have hdd : decide (l5 = l) = false := decide_eq_false hsame
        rw [hdd] at heq
        clear hmk5 hsame hdd
        go_wp2_with (refine st37 rfl _ _ rfl _ _ rfl rfl l5 rfl HL5.out rfl ?_)
        go_ret3
        exact ⟨0, none, 0, 0, false, rfl, HB6.out, .inr ⟨HF.out, rfl, rfl, rfl, rfl, rfl⟩⟩
    · have HF : Hid (openM l = none) := Lib.hid (by rw [HN.out, hmk5, if_neg (by intro e; cases e)])
      clear hmk5 heq hld1 hld2
      go_wp2_with (refine st37 rfl _ _ rfl _ _ rfl rfl zsec rfl zsec_length rfl ?_)
      go_ret3
      exact ⟨0, none, 0, 0, false, rfl, HB6.out, .inr ⟨HF.out, rfl, rfl, rfl, rfl, rfl⟩⟩
end Go.Proofs.Ytanibabfdpgbbaa

/- What a super is, as data; Right. -/
namespace Go.Proofs.Ytanibabfdpgbbaa
open Go.RowKit

structure SD where
  gen : Nat
  root : Int
  boot : Int
  quota : Int
  sectors : Int
  every : Int
  deriving DecidableEq
def SD.cells (s : SD) : List Value := [.int .u64 s.gen, .int .i64 s.root, .int .i64 s.boot, .int .i64 s.quota, .int .i64 s.sectors, .int .i64 s.every]
def SD.v (s : SD) : Value := .agg #[.int .u64 s.gen, .int .i64 s.root, .int .i64 s.boot, .int .i64 s.quota, .int .i64 s.sectors, .int .i64 s.every]
def SD.z : SD := ⟨0, 0, 0, 0, 0, 0⟩
def within (n m : Int) : Prop := 0 ≤ n ∧ n ≤ m
structure SD.right (s : SD) : Prop where
  g1 : 1 ≤ s.gen
  g2 : s.gen ≤ 281474976710655
  root : within s.root 1024
  sectors : within s.sectors 1024
  boot : within s.boot 255
  quota : within s.quota 48
  every : within s.every 65535
instance (n m : Int) : Decidable (within n m) := inferInstanceAs (Decidable (0 ≤ n ∧ n ≤ m))
theorem SD.right_iff (s : SD) : s.right ↔ (1 ≤ s.gen ∧ s.gen ≤ 281474976710655 ∧ within s.root 1024 ∧ within s.sectors 1024 ∧ within s.boot 255 ∧ within s.quota 48 ∧ within s.every 65535) :=
  ⟨fun h => ⟨h.1, h.2, h.3, h.4, h.5, h.6, h.7⟩, fun ⟨a, b, c, d, e, f, g⟩ => ⟨a, b, c, d, e, f, g⟩⟩
instance (s : SD) : Decidable s.right := decidable_of_iff _ (SD.right_iff s).symm
theorem within_t (n m : Int) (h : within n m) (w : World) : Calls Try.prog 28 #[.int .i64 n, .int .i64 m] w fun e w' => e = .returned (.bool true) ∧ w = w' := by
  obtain ⟨h1, h2⟩ := h
  have d1 : decide (0 ≤ n) = true := decide_eq_true h1
  have d2 : decide (n ≤ m) = true := decide_eq_true h2
  go_enter Try.func28, Try.ntmps28
  go_wp2_with fail
  go_ret
  exact ⟨rfl, rfl⟩
theorem within_f (n m : Int) (h : ¬ within n m) (w : World) : Calls Try.prog 28 #[.int .i64 n, .int .i64 m] w fun e w' => e = .returned (.bool false) ∧ w = w' := by
  by_cases h1 : 0 ≤ n
  · have d1 : decide (0 ≤ n) = true := decide_eq_true h1
    have d2 : decide (n ≤ m) = false := decide_eq_false fun h2 => h ⟨h1, h2⟩
    go_enter Try.func28, Try.ntmps28
    go_wp2_with fail
    go_ret
    exact ⟨rfl, rfl⟩
  · have d1 : decide (0 ≤ n) = false := decide_eq_false h1
    go_enter Try.func28, Try.ntmps28
    go_wp2_with fail
    go_ret
    exact ⟨rfl, rfl⟩
set_option maxRecDepth 20000 in
set_option maxHeartbeats 6400000 in
theorem super_Right (s : SD) (w : World) : Calls Try.prog 12 #[s.v] w fun e w' => e = .returned (.bool (decide s.right)) ∧ Below w.heap.size w w' := by
  obtain ⟨gen, root, boot, quota, sectors, every⟩ := s
  have HB := Lib.hid (below_alloc w (.cells #[.int .u64 gen, .int .i64 root, .int .i64 boot, .int .i64 quota, .int .i64 sectors, .int .i64 every] 24))
  have no : ∀ b : Bool, (¬ (⟨gen, root, boot, quota, sectors, every⟩ : SD).right → b = false) → ¬ (⟨gen, root, boot, quota, sectors, every⟩ : SD).right → Ending.returned (.bool b) = .returned (.bool (decide (⟨gen, root, boot, quota, sectors, every⟩ : SD).right)) := fun b hb h => by rw [hb h, decide_eq_false h]
  have HNO := Lib.hid no
  clear no
  unfold SD.v
  dsimp only
  by_cases g1 : 1 ≤ gen
  · have d1 : decide ((1 : Int) ≤ (gen : Int)) = true := decide_eq_true (by omega)
    by_cases g2 : gen ≤ 281474976710655
    · have d2 : decide ((gen : Int) ≤ 281474976710655) = true := decide_eq_true (by omega)
      by_cases h0 : within root 1024
      · skip
        by_cases h1 : within sectors 1024
        · skip
          by_cases h2 : within boot 255
          · skip
            by_cases h3 : within quota 48
            · skip
              by_cases h4 : within every 65535
              · skip
                go_enter Try.func12, Try.ntmps12
                go_wp2_with fail
                refine (within_t root 1024 h0 _).mono ?_
                rintro e w' ⟨rfl, rfl⟩
                go_wp2_with fail
                refine (within_t sectors 1024 h1 _).mono ?_
                rintro e w' ⟨rfl, rfl⟩
                go_wp2_with fail
                refine (within_t boot 255 h2 _).mono ?_
                rintro e w' ⟨rfl, rfl⟩
                go_wp2_with fail
                refine (within_t quota 48 h3 _).mono ?_
                rintro e w' ⟨rfl, rfl⟩
                go_wp2_with fail
                refine (within_t every 65535 h4 _).mono ?_
                rintro e w' ⟨rfl, rfl⟩
                go_wp2_with fail
                go_ret
                exact ⟨by rw [decide_eq_true (⟨g1, g2, h0, h1, h2, h3, h4⟩ : (⟨gen, root, boot, quota, sectors, every⟩ : SD).right)]; rfl, HB.out⟩
              · go_enter Try.func12, Try.ntmps12
                go_wp2_with fail
                refine (within_t root 1024 h0 _).mono ?_
                rintro e w' ⟨rfl, rfl⟩
                go_wp2_with fail
                refine (within_t sectors 1024 h1 _).mono ?_
                rintro e w' ⟨rfl, rfl⟩
                go_wp2_with fail
                refine (within_t boot 255 h2 _).mono ?_
                rintro e w' ⟨rfl, rfl⟩
                go_wp2_with fail
                refine (within_t quota 48 h3 _).mono ?_
                rintro e w' ⟨rfl, rfl⟩
                go_wp2_with fail
                refine (within_f every 65535 h4 _).mono ?_
                rintro e w' ⟨rfl, rfl⟩
                go_wp2_with fail
                go_ret
                exact ⟨HNO.out _ (fun _ => rfl) (fun h => h4 h.every), HB.out⟩
            · go_enter Try.func12, Try.ntmps12
              go_wp2_with fail
              refine (within_t root 1024 h0 _).mono ?_
              rintro e w' ⟨rfl, rfl⟩
              go_wp2_with fail
              refine (within_t sectors 1024 h1 _).mono ?_
              rintro e w' ⟨rfl, rfl⟩
              go_wp2_with fail
              refine (within_t boot 255 h2 _).mono ?_
              rintro e w' ⟨rfl, rfl⟩
              go_wp2_with fail
              refine (within_f quota 48 h3 _).mono ?_
              rintro e w' ⟨rfl, rfl⟩
              go_wp2_with fail
              go_ret
              exact ⟨HNO.out _ (fun _ => rfl) (fun h => h3 h.quota), HB.out⟩
          · go_enter Try.func12, Try.ntmps12
            go_wp2_with fail
            refine (within_t root 1024 h0 _).mono ?_
            rintro e w' ⟨rfl, rfl⟩
            go_wp2_with fail
            refine (within_t sectors 1024 h1 _).mono ?_
            rintro e w' ⟨rfl, rfl⟩
            go_wp2_with fail
            refine (within_f boot 255 h2 _).mono ?_
            rintro e w' ⟨rfl, rfl⟩
            go_wp2_with fail
            go_ret
            exact ⟨HNO.out _ (fun _ => rfl) (fun h => h2 h.boot), HB.out⟩
        · go_enter Try.func12, Try.ntmps12
          go_wp2_with fail
          refine (within_t root 1024 h0 _).mono ?_
          rintro e w' ⟨rfl, rfl⟩
          go_wp2_with fail
          refine (within_f sectors 1024 h1 _).mono ?_
          rintro e w' ⟨rfl, rfl⟩
          go_wp2_with fail
          go_ret
          exact ⟨HNO.out _ (fun _ => rfl) (fun h => h1 h.sectors), HB.out⟩
      · go_enter Try.func12, Try.ntmps12
        go_wp2_with fail
        refine (within_f root 1024 h0 _).mono ?_
        rintro e w' ⟨rfl, rfl⟩
        go_wp2_with fail
        go_ret
        exact ⟨HNO.out _ (fun _ => rfl) (fun h => h0 h.root), HB.out⟩
    · have d2 : decide ((gen : Int) ≤ 281474976710655) = false := decide_eq_false (by omega)
      go_enter Try.func12, Try.ntmps12
      go_wp2_with fail
      go_ret
      exact ⟨HNO.out _ (fun _ => rfl) (fun h => g2 h.g2), HB.out⟩
  · have d1 : decide ((1 : Int) ≤ (gen : Int)) = false := decide_eq_false (by omega)
    go_enter Try.func12, Try.ntmps12
    go_wp2_with fail
    go_ret
    exact ⟨HNO.out _ (fun _ => rfl) (fun h => g1 h.g1), HB.out⟩
end Go.Proofs.Ytanibabfdpgbbaa

/- What the disk's small methods compute: there, power, Len, Dead, Break, Stable. -/
namespace Go.Proofs.Ytanibabfdpgbbaa
open Go.RowKit

theorem ret_bool {a b : Bool} (h : a = b) : Ending.returned (.bool a) = .returned (.bool b) := by rw [h]
theorem ret_i64 {a b : Int} (h : a = b) : Ending.returned (.int .i64 a) = .returned (.int .i64 b) := by rw [h]

section
variable {w : World} {base p s : Nat} {v : Value} {d : Dk}
set_option maxHeartbeats 400000 in
theorem disk_there_no (h : DiskAt w base p s v d) (i : Int) (hi : i < 0 ∨ (d.stable.length : Int) ≤ i) :
    Calls Try.prog 29 #[.pointer (some ⟨p, 0, none⟩), .int .i64 i] w fun e w' => e = .returned (.bool false) ∧ w = w' := by
  have c0 := h.c0
  clear h
  by_cases h0 : i < 0
  · go_enter Try.func29, Try.ntmps29
    go_wp2
    go_ret
    exact ⟨rfl, rfl⟩
  · have h1 : (d.stable.length : Int) ≤ i := by omega
    clear hi
    go_enter Try.func29, Try.ntmps29
    go_wp2
    go_ret
    exact ⟨ret_bool (by simp [h1]), rfl⟩
set_option maxHeartbeats 400000 in
theorem disk_there_yes (h : DiskAt w base p s v d) (k : Nat) (hk : k < d.stable.length) :
    Calls Try.prog 29 #[.pointer (some ⟨p, 0, none⟩), .int .i64 k] w fun e w' => e = .returned (.bool true) ∧ w = w' := by
  have c0 := h.c0
  clear h
  go_enter Try.func29, Try.ntmps29
  go_wp2
  go_ret
  exact ⟨ret_bool (by first | rfl | simp), rfl⟩

/-- Is there power for one more? -/
def Dk.power (d : Dk) : Dk × Bool := if d.dead = true ∨ d.fuel = 0 then ({ d with dead := true }, false) else ({ d with fuel := if 0 < d.fuel then d.fuel - 1 else d.fuel }, true)
set_option maxHeartbeats 400000 in
theorem disk_power (h : DiskAt w base p s v d) :
    Calls Try.prog 30 #[.pointer (some ⟨p, 0, none⟩)] w fun e w' => e = .returned (.bool d.power.2) ∧ DiskAt w' base p s v d.power.1 ∧ Kp (fun k => k = p) w w' := by
  have c2 := h.c2
  have c3 := h.c3
  have f2 := h.fz 2
  have f3 := h.fz 3
  have hf := h.fu
  have hk : ∀ (a : Addr) (u : Value), a.block = p → Kp (fun k => k = p) w (w.setCell a u) := fun a u ha => (Kp.refl _ w).setCell a u (fun _ => ha)
  have H := Lib.hid h
  clear h
  have HK := Lib.hid hk
  clear hk
  unfold Dk.power
  by_cases hd : d.dead = true
  · rw [if_pos (.inl hd)]
    rw [hd] at c3
    have H3 := Lib.hid (H.out.set3 true)
    clear hd
    go_enter Try.func30, Try.ntmps30
    go_wp2
    go_ret
    exact ⟨rfl, H3.out, HK.out _ _ rfl⟩
  · have hd' : d.dead = false := by simpa using hd
    rw [hd'] at c3
    by_cases h0 : d.fuel = 0
    · rw [if_pos (.inr h0)]
      rw [h0] at c2
      have H3 := Lib.hid (H.out.set3 true)
      clear hd hd' h0 hf
      go_enter Try.func30, Try.ntmps30
      go_wp2
      go_ret
      exact ⟨rfl, H3.out, HK.out _ _ rfl⟩
    · rw [if_neg (by rintro (h | h); exact hd h; exact h0 h)]
      have hne : (d.fuel == 0) = false := beq_eq_false_iff_ne.2 h0
      by_cases h1 : 0 < d.fuel
      · rw [if_pos h1]
        have H2 := Lib.hid (H.out.set2 (d.fuel - 1) ⟨by omega, by omega⟩)
        clear hd hd' h0
        go_enter Try.func30, Try.ntmps30
        go_wp2
        go_ret
        exact ⟨rfl, H2.out, HK.out _ _ rfl⟩
      · rw [if_neg h1]
        clear hd hd' h0
        go_enter Try.func30, Try.ntmps30
        go_wp2
        go_ret
        exact ⟨rfl, H.out, Kp.refl _ _⟩
theorem disk_Dead (h : DiskAt w base p s v d) :
    Calls Try.prog 23 #[.pointer (some ⟨p, 0, none⟩)] w fun e w' => e = .returned (.bool d.dead) ∧ w = w' := by
  have c3 := h.c3
  clear h
  go_enter Try.func23, Try.ntmps23
  go_wp2
  go_ret
  exact ⟨rfl, rfl⟩
theorem disk_Break (h : DiskAt w base p s v d) (n : Int) (hn : n ≤ 9223372036854775807) :
    Calls Try.prog 19 #[.pointer (some ⟨p, 0, none⟩), .int .i64 n] w fun e w' => e = .returned (.tuple #[]) ∧ DiskAt w' base p s v { d with fuel := max n (-1) } ∧ Kp (fun k => k = p) w w' := by
  have c2 := h.c2
  have f2 := h.fz 2
  have HK : Hid (∀ (a : Addr) (u : Value), a.block = p → Kp (fun k => k = p) w (w.setCell a u)) := Lib.hid fun a u ha => (Kp.refl _ w).setCell a u (fun _ => ha)
  by_cases hlt : -1 < n
  · have H2 := Lib.hid (h.set2 n ⟨by omega, by omega⟩)
    have e1 : max n (-1) = n := by omega
    rw [e1]
    clear h e1
    go_enter Try.func19, Try.ntmps19
    go_wp2
    go_end0
    exact ⟨rfl, H2.out, HK.out _ _ rfl⟩
  · have H2 := Lib.hid (h.set2 (-1) ⟨by omega, by omega⟩)
    have e1 : max n (-1) = -1 := by omega
    rw [e1]
    clear h e1
    go_enter Try.func19, Try.ntmps19
    go_wp2
    · go_end0
      exact ⟨rfl, H2.out, HK.out _ _ rfl⟩
    · obtain rfl : n = -1 := by omega
      go_end0
      exact ⟨rfl, H2.out, HK.out _ _ rfl⟩
end
end Go.Proofs.Ytanibabfdpgbbaa

/- What Stable and Read of a disk compute. -/
namespace Go.Proofs.Ytanibabfdpgbbaa
open Go.RowKit

section
variable {w : World} {base p s : Nat} {v : Value} {d : Dk}
set_option maxRecDepth 20000 in
set_option maxHeartbeats 400000 in
theorem disk_Stable_yes (h : DiskAt w base p s v d) (k : Nat) (hk : k < d.stable.length) :
    Calls Try.prog 25 #[.pointer (some ⟨p, 0, none⟩), .int .i64 k] w fun e w' => e = .returned (secV (secAt d.stable k)) ∧ Below w.heap.size w w' := by
  have hsec := h.sec k hk
  have hw := h.swid k hk
  have c0 := (h.below (below_alloc w (.cells Try.zeroCells32 32))).c0
  have H1 := Lib.hid (h.below (below_alloc w (.cells Try.zeroCells32 32)))
  have HS := Lib.hid (range_old hsec (.cells Try.zeroCells32 32))
  have HW := Lib.hid hw
  have hk0 : (0 : Int) ≤ (k : Int) := Int.natCast_nonneg _
  have hk1 : (k : Int) < (d.stable.length : Int) := by omega
  clear h hsec hw
  go_enter Try.func25, Try.ntmps25
  go_wp2_with fail
  refine (disk_there_yes H1.out k hk).mono ?_
  rintro e w1 ⟨rfl, rfl⟩
  go_wp2_with (first | (refine ld37 rfl _ rfl s (k * 128) rfl (secAt d.stable k) HS.out HW.out ?_) | (refine st37 rfl _ _ rfl _ _ rfl rfl (secAt d.stable k) rfl HW.out rfl ?_))
  exact bodyPost_ret (ret37 Try.results25 _ w (secAt d.stable k) HW.out _ rfl rfl) rfl ⟨rfl, below_alloc w _⟩
set_option maxRecDepth 20000 in
set_option maxHeartbeats 400000 in
theorem disk_Stable_no (h : DiskAt w base p s v d) (i : Int) (hi : i < 0 ∨ (d.stable.length : Int) ≤ i) :
    Calls Try.prog 25 #[.pointer (some ⟨p, 0, none⟩), .int .i64 i] w fun e w' => e = .returned (secV zsec) ∧ Below w.heap.size w w' := by
  have H1 := Lib.hid (h.below (below_alloc w (.cells Try.zeroCells32 32)))
  have HI := Lib.hid hi
  clear h hi
  go_enter Try.func25, Try.ntmps25
  go_wp2_with fail
  refine (disk_there_no H1.out i HI.out).mono ?_
  rintro e w1 ⟨rfl, rfl⟩
  go_wp2_with (first | (refine st37 rfl _ _ rfl _ _ rfl rfl zsec rfl zsec_length rfl ?_))
  exact bodyPost_ret (ret37 Try.results25 _ w zsec zsec_length _ rfl rfl) rfl ⟨rfl, below_alloc w _⟩
set_option maxRecDepth 20000 in
set_option maxHeartbeats 400000 in
theorem disk_Read_no (h : DiskAt w base p s v d) (i : Int) (hi : i < 0 ∨ (d.stable.length : Int) ≤ i) :
    Calls Try.prog 43 #[.pointer (some ⟨p, 0, none⟩), .int .i64 i] w fun e w' => e = .returned (.tuple #[secV zsec, .int .i64 41]) ∧ Below w.heap.size w w' := by
  have H1 := Lib.hid (h.below (below_alloc w (.cells Try.zeroCells32 32)))
  have HI := Lib.hid hi
  clear h hi
  go_enter Try.func43, Try.ntmps43
  go_wp2_with fail
  refine (disk_there_no H1.out i HI.out).mono ?_
  rintro e w1 ⟨rfl, rfl⟩
  go_wp2_with (first | (refine st37 rfl _ _ rfl _ _ rfl rfl zsec rfl zsec_length rfl ?_))
  exact bodyPost_ret (ret37_tmp Try.results43 _ w zsec zsec_length _ _ rfl rfl rfl) rfl ⟨rfl, below_alloc w _⟩
set_option maxRecDepth 20000 in
set_option maxHeartbeats 800000 in
theorem disk_Read_yes (h : DiskAt w base p s v d) (k : Nat) (hk : k < d.stable.length) (hpl : d.pend.length ≤ 1000000) :
    Calls Try.prog 43 #[.pointer (some ⟨p, 0, none⟩), .int .i64 k] w fun e w' => e = .returned (.tuple #[secV (d.read k), .int .i64 0]) ∧ Below w.heap.size w w' := by
  obtain ⟨A, c, rfl⟩ := own_form h.pen
  have hsec := h.sec k hk
  have hw := h.swid k hk
  have h1 := h.below (below_alloc w (.cells Try.zeroCells32 32))
  have c0 := h1.c0
  have c1 := h1.c1
  have H1 := Lib.hid h1
  have HS := Lib.hid (range_old hsec (.cells Try.zeroCells32 32))
  have HW := Lib.hid hw
  have hk0 : (0 : Int) ≤ (k : Int) := Int.natCast_nonneg _
  have hk1 : (k : Int) < (d.stable.length : Int) := by omega
  clear h hsec hw h1
  go_enter Try.func43, Try.ntmps43
  go_wp2_with fail
  refine (disk_there_yes H1.out k hk).mono ?_
  rintro e w1 ⟨rfl, rfl⟩
  go_wp2_with fail
  go_loop [6] (fun i => ∃ m : Nat, m ≤ d.pend.length ∧ i = .int .i64 ((m : Int) - 1) ∧ Hid (∀ j, m ≤ j → j < d.pend.length → (penAt d.pend j).1 ≠ k)) (fun i => (intOf i + 1).toNat)
  case atStart => exact ⟨d.pend.length, Nat.le_refl _, rfl, Lib.hid fun j h1 h2 => by omega⟩
  case round =>
    obtain ⟨m, hm, rfl, HN⟩ := hrel
    cases m with
    | zero =>
      go_wp2_with (first | (refine ld37 rfl _ rfl s (k * 128) rfl (secAt d.stable k) HS.out HW.out ?_) | (refine st37 rfl _ _ rfl _ _ rfl rfl (secAt d.stable k) rfl HW.out rfl ?_))
      have e : d.read k = secAt d.stable k := lastW_none _ _ _ fun x hx => by
        obtain ⟨i, hi, rfl⟩ := List.mem_iff_getElem.1 hx
        have := HN.out i (by omega) hi
        rw [penAt, List.getD_eq_getElem?_getD, List.getElem?_eq_getElem hi] at this
        exact this
      rw [e]
      exact bodyPost_ret (ret37_tmp Try.results43 _ w (secAt d.stable k) HW.out _ _ rfl rfl rfl) rfl ⟨rfl, below_alloc w _⟩
    | succ m =>
      have e : (((m + 1 : Nat) : Int) - 1) = (m : Int) := by omega
      rw [e]
      clear e
      obtain ⟨g, rfl, hg, _, hr⟩ := H1.out.pcell m (by omega)
      obtain ⟨hcell, hr1⟩ := range_head hr
      have HR := Lib.hid hr1
      have HP := Lib.hid (H1.out.pin' m (by omega))
      have hm0 : (0 : Int) ≤ (m : Int) := Int.natCast_nonneg _
      have hm1 : (m : Int) < (d.pend.length : Int) := by omega
      clear hr hr1
      by_cases hq : (penAt d.pend m).1 = k
      · have hb : (((penAt d.pend m).1 : Int) == (k : Int)) = true := by rw [beq_iff_eq]; omega
        have HQ := Lib.hid hq
        clear hq
        go_wp2_with (first | (refine ld37 rfl _ rfl g (m * 129 + 1) rfl (penAt d.pend m).2 HR.out HP.out.2 ?_) | (refine st37 rfl _ _ rfl _ _ rfl rfl (penAt d.pend m).2 rfl HP.out.2 rfl ?_))
        have e : d.read k = (penAt d.pend m).2 := lastW_at _ _ m _ (by omega) HQ.out fun i h1 h2 => HN.out i (by omega) h2
        rw [e]
        exact bodyPost_ret (ret37_tmp Try.results43 _ w (penAt d.pend m).2 HP.out.2 _ _ rfl rfl rfl) rfl ⟨rfl, below_alloc w _⟩
      · have hb : (((penAt d.pend m).1 : Int) == (k : Int)) = false := by rw [beq_eq_false_iff_ne]; omega
        have HQ := Lib.hid hq
        clear hq
        go_wp2_with fail
        go_round
        case rel => exact ⟨m, by omega, rfl, Lib.hid fun j h1 h2 => by
          by_cases hj : j = m
          · subst hj; exact HQ.out
          · exact HN.out j (by omega) h2⟩
        case measure => simp [intOf]
end
end Go.Proofs.Ytanibabfdpgbbaa
