/- The seal's Make. -/
import Derived.Test.YtanibabfdpgbbaaSealW1
import Derived.Test.YtanibabfdpgbbaaSealM
import Derived.Test.YtanibabfdpgbbaaCrcWalks
namespace Go.Proofs.Ytanibabfdpgbbaa
open Go.RowKit

/-- What Make answers, in one form (the reference's as well). -/
def MadePost (w : World) (r : Option (List UInt8)) (e : Ending) (w' : World) : Prop :=
  ∃ l ev, e = .returned (.tuple #[secV l, .int .i64 ev]) ∧ l.length = 128 ∧ Below w.heap.size w w' ∧ ((r = some l ∧ ev = 0) ∨ (r = none ∧ l = zsec ∧ ev = 51))
theorem retS_tmp {fn : Func} {p q : Tmp} (h : fn.results = #[.cell p 32, .tmp q]) (tmps : Array Value) (w : World) (l : List UInt8) (u : Value) (g : Nat) (hp : tmps.getD p undef = .pointer (some ⟨g, 0, none⟩)) (hq : tmps.getD q undef = u) (hg : SecAt w g l) :
    (results fn tmps).run Try.prog w = .ok (.tuple #[secV l, u]) w :=
  res_row_tmp h tmps w g 0 (bv l) _ u hp hq hg.range Try.underlying32 rfl (Try.size37.trans (by simp [bv_length, hg.2]))
theorem two_step {w a b : World} {g0 g1 : Nat} {z : List UInt8} (hb : Below w.heap.size w a) (h0 : SecAt a g0 z) (hk : Kp (· = g1) a b) (hg0 : g0 ≠ g1) (hg1 : w.heap.size ≤ g1) : Below w.heap.size w b ∧ SecAt b g0 z :=
  ⟨hb.trans (hk.below hb.size (fun _ e => e ▸ hg1)), h0.kp hk hg0⟩
theorem splice_length (l : List UInt8) (o : Nat) (xs : List UInt8) (hl : l.length = 128) (h : o + xs.length ≤ 128) : (splice l o xs).length = 128 := by
  simp [splice, hl]
  omega
set_option maxRecDepth 20000 in
set_option maxHeartbeats 3200000 in
theorem seal_Make (mark : Nat) (hmk : mark < 18446744073709551616) (A : Option Addr) (n c : Nat) (body : List UInt8) (w : World) (hr : RB w A n c body) (hn : n ≤ 140737488351232) :
    Calls Try.prog 37 #[.int .u64 mark, .slice A n c] w (MadePost w (makeM mark body)) := by
  have hlen : body.length = n := hr.1
  have HR := Lib.hid hr
  have HLEN := Lib.hid hlen
  have hg0 : SecAt ((w.alloc (.cells Try.zeroCells32 32)).alloc (.cells Try.zeroCells32 32)) w.heap.size zsec := by
    rw [Try.zero37]
    exact (SecAt.new w zsec zsec_length).below (below_alloc _ _)
  have hg1 : SecAt ((w.alloc (.cells Try.zeroCells32 32)).alloc (.cells Try.zeroCells32 32)) (w.heap.size + 1) zsec := by
    have := SecAt.new (w.alloc (.cells Try.zeroCells32 32)) zsec zsec_length
    rw [Try.zero37]
    simpa [Try.zero37] using this
  have hb1 : Below w.heap.size w ((w.alloc (.cells Try.zeroCells32 32)).alloc (.cells Try.zeroCells32 32)) := (below_alloc w _).alloc (by simp) _
  have HG0 := Lib.hid hg0; have HG1 := Lib.hid hg1; have HB1 := Lib.hid hb1
  clear hr hlen hg0 hg1 hb1
  by_cases hbad : mark = 0 ∨ 106 < n
  · have HM : Hid (makeM mark body = none) := Lib.hid (by unfold makeM; rw [if_pos (by rw [HLEN.out]; exact hbad)])
    have key : ∀ P : Prop, ((((mark : Int) == 0) = true → P) ∧ ((((mark : Int) == 0) = false ∧ decide ((106 : Int) < (n : Int)) = true) → P)) → P := fun P ⟨h1, h2⟩ => by
      by_cases h0 : mark = 0
      · exact h1 (by subst h0; rfl)
      · exact h2 ⟨by rw [beq_eq_false_iff_ne]; omega, decide_eq_true (by omega)⟩
    clear hbad
    refine key _ ⟨fun h1 => ?_, fun ⟨h1, h2⟩ => ?_⟩
    all_goals
      clear key
      go_enter Try.func37, Try.ntmps37
      go_wp2_with (first | (refine ld37 rfl _ rfl (w.heap.size + 1) 0 rfl zsec HG1.out.range zsec_length ?_) | (refine st37_at rfl _ _ rfl w.heap.size zsec rfl HG0.out zsec rfl zsec_length ?_; intro w2 hg2 hk2; have HG2 := Lib.hid hg2; have HB2 := Lib.hid (HB1.out.trans (hk2.below HB1.out.size (fun _ e => by rw [e]; exact Nat.le_refl _))); clear hg2 hk2))
      (try simp only [Exit.inBlock, Exit.then])
      refine bodyPost_ret (retS_tmp rfl _ _ zsec _ w.heap.size rfl rfl HG2.out) rfl ?_
      exact ⟨zsec, 51, rfl, zsec_length, HB2.out, .inr ⟨HM.out, rfl, rfl⟩⟩
  · have HM : Hid (makeM mark body = some (sealL mark body)) := Lib.hid (by unfold makeM; rw [if_neg (by rw [HLEN.out]; exact hbad)])
    have hn106 : n ≤ 106 := by omega
    have h1 : ((mark : Int) == 0) = false := by rw [beq_eq_false_iff_ne]; omega
    have h2 : decide ((106 : Int) < (n : Int)) = false := decide_eq_false (by omega)
    have hn0 : (0 : Int) ≤ (n : Int) := Int.natCast_nonneg _
    have hwr : IntKind.u64.wrap (n : Int) = (n : Int) := by simp [IntKind.wrap, IntKind.signed, IntKind.bits]; omega
    have HP := Lib.hid (put_pre mark body (by rw [HLEN.out]; exact hn106))
    have HS := Lib.hid (put_sum mark body (by rw [HLEN.out]; exact hn106))
    rw [HLEN.out] at HP
    have HMK : Hid (mark < 256 ^ 8) := Lib.hid (by omega)
    have HN : Hid (n < 256 ^ 2 ∧ n ≤ 106) := Lib.hid ⟨by omega, hn106⟩
    clear hbad hn106 hmk
    go_enter Try.func37, Try.ntmps37
    go_wp2_with fail
    refine (seal_put 8 (.inr (.inr rfl)) mark HMK.out (w.heap.size + 1) zsec 0 (by omega) _ HG1.out).mono ?_
    rintro e w2 ⟨rfl, hg2, hk2⟩
    obtain ⟨hb2, hz2⟩ := two_step HB1.out HG0.out hk2 (by omega) (by omega)
    have HG2 := Lib.hid hg2; have HB2 := Lib.hid hb2; have HZ2 := Lib.hid hz2
    clear hg2 hk2 hb2 hz2
    go_wp2_with fail
    refine (seal_put 2 (.inl rfl) n HN.out.1 (w.heap.size + 1) _ 8 (by omega) _ HG2.out).mono ?_
    rintro e w3 ⟨rfl, hg3, hk3⟩
    obtain ⟨hb3, hz3⟩ := two_step HB2.out HZ2.out hk3 (by omega) (by omega)
    have HG3 := Lib.hid hg3; have HB3 := Lib.hid hb3; have HZ3 := Lib.hid hz3
    clear hg3 hk3 hb3 hz3
    go_wp2_with (refine wpList_copy_sec rfl _ _ rfl (w.heap.size + 1) 10 118 118 A n c rfl rfl _ HG3.out body (HR.out.below HB3.out) (by have := HN.out.2; omega) (by have := HN.out.2; omega) ?_; intro w4 hg4 hk4; obtain ⟨hb4, hz4⟩ := two_step HB3.out HZ3.out hk4 (by omega) (by omega); rw [HP.out] at hg4; have HG4 := Lib.hid hg4; have HB4 := Lib.hid hb4; have HZ4 := Lib.hid hz4; clear hg4 hk4 hb4 hz4)
    have hrb := HG4.out.rb 0 116 128 (by omega) (by omega) (by omega)
    rw [List.drop_zero, take_pre mark body _ (by rw [HLEN.out]; exact HN.out.2)] at hrb
    refine (crc_Sum _ _ _ [preL mark body] _ (rrb_one hrb _)).mono ?_
    rintro e w5 ⟨rfl, rfl⟩
    rw [sums_one]
    have hsl := sumL_lt mark body
    have HSL : Hid (sumL mark body < 256 ^ 4) := Lib.hid (by omega)
    rw [show (crcAdd 0#32 (preL mark body)).toNat = sumL mark body from rfl]
    generalize hsm : sumL mark body = sm at *
    have hs0 : (0 : Int) ≤ (sm : Int) := Int.natCast_nonneg _
    have hs1 : (sm : Int) < 4294967296 := by omega
    clear hrb hsl
    go_wp2_with fail
    refine (seal_put 4 (.inr (.inl rfl)) sm HSL.out (w.heap.size + 1) _ 116 (by omega) _ (HG4.out.below (below_alloc _ _))).mono ?_
    rintro e w6 ⟨rfl, hg6, hk6⟩
    obtain ⟨hb6, hz6⟩ := two_step (HB4.out.alloc HB4.out.size _) (HZ4.out.below (below_alloc _ _)) hk6 (by omega) (by omega)
    have HG6 := Lib.hid hg6; have HB6 := Lib.hid hb6; have HZ6 := Lib.hid hz6
    clear hg6 hk6 hb6 hz6
    go_wp2_with fail
    refine (seal_put 8 (.inr (.inr rfl)) mark HMK.out (w.heap.size + 1) _ 120 (by omega) _ HG6.out).mono ?_
    rintro e w7 ⟨rfl, hg7, hk7⟩
    obtain ⟨hb7, hz7⟩ := two_step HB6.out HZ6.out hk7 (by omega) (by omega)
    rw [HS.out] at hg7
    have HG7 := Lib.hid hg7; have HB7 := Lib.hid hb7; have HZ7 := Lib.hid hz7
    clear hg7 hk7 hb7 hz7
    go_wp2_with (first | (refine ld37 rfl _ rfl (w.heap.size + 1) 0 rfl (sealL mark body) HG7.out.range HG7.out.2 ?_) | (refine st37_at rfl _ _ rfl w.heap.size zsec rfl HZ7.out (sealL mark body) rfl HG7.out.2 ?_; intro w8 hg8 hk8; have HG8 := Lib.hid hg8; have HB8 := Lib.hid (HB7.out.trans (hk8.below HB7.out.size (fun _ e => by rw [e]; exact Nat.le_refl _))); clear hg8 hk8))
    (try simp only [Exit.inBlock, Exit.then])
    refine bodyPost_ret (retS_tmp rfl _ _ (sealL mark body) _ w.heap.size rfl rfl HG8.out) rfl ?_
    exact ⟨sealL mark body, 0, rfl, HG8.out.2, HB8.out, .inl ⟨HM.out, rfl⟩⟩
end Go.Proofs.Ytanibabfdpgbbaa
