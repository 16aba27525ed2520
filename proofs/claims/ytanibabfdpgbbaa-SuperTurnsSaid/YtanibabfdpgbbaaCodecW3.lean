/- The codec's pack. -/
import Derived.Test.YtanibabfdpgbbaaCodecW2
import Derived.Test.YtanibabfdpgbbaaField
import Derived.Test.YtanibabfdpgbbaaCell2
import Derived.Test.YtanibabfdpgbbaaStep
namespace Go.Proofs.Ytanibabfdpgbbaa
open Go.RowKit

/-- A field as bytes, after a letter. -/
def encF (c : UInt8) (f : FieldD) : Option (List UInt8) :=
  match letterW c with
  | none => none
  | some 0 => if 1024 < f.bytes.length then none else some (be f.bytes.length 2 ++ f.bytes)
  | some (w + 1) => if f.num < 256 ^ (w + 1) then some (be f.num (w + 1)) else none
/-- The first k fields as bytes. -/
def packTo (sh : List UInt8) (l : List FieldD) : Nat → Option (List UInt8)
  | 0 => some []
  | k + 1 => match packTo sh l k, encF (at8 sh k) (fieldAt l k) with
    | some o, some x => some (o ++ x)
    | _, _ => none
theorem packTo_none (sh : List UInt8) (l : List FieldD) (k : Nat) (h : packTo sh l k = none) : ∀ m, k ≤ m → packTo sh l m = none := by
  intro m hm
  induction m with
  | zero => obtain rfl : k = 0 := by omega
            exact h
  | succ m ih =>
    by_cases e : k = m + 1
    · rw [← e]; exact h
    · rw [packTo, ih (by omega)]
/-- What pack does with memory. -/
def PackPost (w : World) (r : Option (List UInt8)) (e : Ending) (w' : World) : Prop :=
  (∃ v o, r = some o ∧ e = .returned v ∧ w'.ownsRow w.heap.size 5 1 v o.length (bv o) ∧ Below w.heap.size w w') ∨ (r = none ∧ e = .panicked gaveUp ∧ Below w.heap.size w w')

theorem strOf_get (sh : List UInt8) (k : Nat) (h : k < (strOf sh).size) : (strOf sh)[k]'h = at8 sh k := by
  have h' : k < sh.length := by simpa [strOf, ByteArray.size] using h
  rw [at8, List.getD_eq_getElem?_getD, List.getElem?_eq_getElem h']
  rfl
theorem letterW_cases (c : UInt8) : letterW c = none ∨ (letterW c = some 0 ∧ c = 98) ∨ ∃ w, letterW c = some (w + 1) ∧ ((c = 49 ∧ w + 1 = 1) ∨ (c = 50 ∧ w + 1 = 2) ∨ (c = 52 ∧ w + 1 = 4) ∨ (c = 56 ∧ w + 1 = 8)) := by
  unfold letterW
  split
  · exact .inr (.inr ⟨0, rfl, .inl ⟨by assumption, rfl⟩⟩)
  · split
    · exact .inr (.inr ⟨1, rfl, .inr (.inl ⟨by assumption, rfl⟩)⟩)
    · split
      · exact .inr (.inr ⟨3, rfl, .inr (.inr (.inl ⟨by assumption, rfl⟩))⟩)
      · split
        · exact .inr (.inr ⟨7, rfl, .inr (.inr (.inr ⟨by assumption, rfl⟩))⟩)
        · split
          · exact .inr (.inl ⟨rfl, by assumption⟩)
          · exact .inl rfl
theorem packTo_step {sh : List UInt8} {l : List FieldD} {k : Nat} {o : List UInt8} (h : packTo sh l k = some o) : packTo sh l (k + 1) = (encF (at8 sh k) (fieldAt l k)).map (o ++ ·) := by
  rw [packTo, h]
  cases encF (at8 sh k) (fieldAt l k) <;> rfl

theorem wrap_u64 (n : Nat) (h : n < 18446744073709551616) : IntKind.u64.wrap (n : Int) = (n : Int) := by
  simp [IntKind.wrap, IntKind.signed, IntKind.bits]
  omega
set_option maxRecDepth 20000 in
set_option maxHeartbeats 3200000 in
theorem pack_main (sh : List UInt8) (A : Option Addr) (n c : Nat) (l : List FieldD) (w : World) (hl : RFields w A n c l) (hs : sh.length = n) (hn : n ≤ 200) :
    Calls Try.prog 50 #[.string (strOf sh), .slice A n c] w (PackPost w (packTo sh l n)) := by
  have HL := Lib.hid hl
  have hsz : (strOf sh).size = n := by simp [strOf, hs, ByteArray.size]
  have hd : decide ((200 : Int) < (n : Int)) = false := decide_eq_false (by omega)
  clear hl
  go_enter Try.func50, Try.ntmps50
  go_wp2_with fail
  refine (fail_no _).mono ?_
  rintro e w' ⟨rfl, rfl⟩
  go_wp2_with fail
  go_loopw [5, 22] (fun u i wr => ∃ k o, k ≤ n ∧ i = .int .i64 (k : Nat) ∧ Hid (packTo sh l k = some o) ∧ Hid (wr.ownsRow w.heap.size 5 1 u o.length (bv o)) ∧ Hid (Below w.heap.size w wr) ∧ Hid (o.length ≤ k * 2000)) (fun _ i _ => n - (intOf i).toNat)
  case atStart => exact ⟨0, [], by omega, rfl, Lib.hid rfl, Lib.hid (World.ownsRow_nil _ _ _ _), Lib.hid (Below.refl _ _), Lib.hid (by simp)⟩
  case round =>
    obtain ⟨k, o, hk, rfl, HP, HV, HB, HK⟩ := hrel
    by_cases hlt : k < n
    · have hk0 : (0 : Int) ≤ (k : Int) := Int.natCast_nonneg _
      have hk1 : (k : Int) < (n : Int) := by omega
      obtain ⟨b, o', rfl, hfs⟩ := (HL.out.below HB.out).2.2.2 (by omega)
      obtain ⟨hrg, hok⟩ := hfs k hlt
      have hokw : FieldOk w (fieldAt l k) := by
        obtain ⟨_, _, _, h⟩ := HL.out.2.2.2 (by omega)
        exact (h k hlt).2
      generalize hf : fieldAt l k = f at *
      obtain ⟨num, fA, fn, fc, fb⟩ := f
      have hst := packTo_step HP.out
      rw [hf] at hst
      have hg := strOf_get sh k
      have HRG := Lib.hid hrg
      have HOK := Lib.hid hok
      have HOW := Lib.hid hokw
      clear hf hrg hok hfs hokw
      have HNO : Hid (packTo sh l (k + 1) = none → packTo sh l n = none) := Lib.hid fun h => packTo_none sh l (k + 1) h n (by omega)
      generalize at8 sh k = ch at hst hg
      have HBW := Lib.hid (HB.out.alloc HB.out.size (.cells #[.int .u64 (num : Int), .slice fA fn fc] 83))
      have HVW := Lib.hid (HV.out.alloc (.cells #[.int .u64 (num : Int), .slice fA fn fc] 83))
      rcases letterW_cases ch with hlw | ⟨hlw, rfl⟩ | ⟨wd, hlw, hcw⟩
      · have HST : Hid (packTo sh l (k + 1) = none) := Lib.hid (by rw [hst, encF, hlw]; rfl)
        have HW := Lib.hid (width_none ch hlw)
        clear hst hlw
        go_wp2_with (first | (refine ld2 83 rfl _ rfl b (o' + k * 2) rfl (.int .u64 num) (.slice fA fn fc) HRG.out Try.underlying83 rfl Try.size87 ?_) | (refine st2 83 rfl _ _ rfl _ _ rfl rfl (.int .u64 num) (.slice fA fn fc) rfl rfl rfl Try.size87 rfl ?_))
        refine (HW.out _).mono ?_
        rintro e w' ⟨rfl, rfl⟩
        exact ⟨rfl, .inr ⟨HNO.out HST.out, rfl, HBW.out⟩⟩
      · have hfb : fb.length = fn := HOK.out.rb.1
        by_cases h1024 : 1024 < fn
        · have HST : Hid (packTo sh l (k + 1) = none) := Lib.hid (by rw [hst, encF, hlw]; simp only []; rw [if_pos (by rw [hfb]; exact h1024)]; rfl)
          have hd1 : decide ((1024 : Int) < (fn : Int)) = true := decide_eq_true (by omega)
          clear hst hlw h1024 hfb
          go_wp2_with (first | (refine ld2 83 rfl _ rfl b (o' + k * 2) rfl (.int .u64 num) (.slice fA fn fc) HRG.out Try.underlying83 rfl Try.size87 ?_) | (refine st2 83 rfl _ _ rfl _ _ rfl rfl (.int .u64 num) (.slice fA fn fc) rfl rfl rfl Try.size87 rfl ?_))
          refine (width_b _).mono ?_
          rintro e w' ⟨rfl, rfl⟩
          go_wp2_with fail
          refine (fail_yes _).mono ?_
          rintro e w' ⟨rfl, rfl⟩
          exact ⟨rfl, .inr ⟨HNO.out HST.out, rfl, HBW.out⟩⟩
        · have HST : Hid (packTo sh l (k + 1) = some (o ++ (be fn 2 ++ fb))) := Lib.hid (by rw [hst, encF, hlw]; simp only []; rw [if_neg (by rw [hfb]; exact h1024), hfb]; rfl)
          have hd1 : decide ((1024 : Int) < (fn : Int)) = false := decide_eq_false (by omega)
          have hpt := fun W (hv : W.ownsRow w.heap.size 5 1 u5 o.length (bv o)) (hb : w.heap.size ≤ W.heap.size) => put_fit 2 (by omega) (by omega) fn (by omega) w.heap.size o.length u5 o W hv hb (by have := HK.out; omega)
          have HPT := Lib.hid hpt
          have HH : Hid (fn ≤ 1024) := Lib.hid (by omega)
          have hfn0 : (0 : Int) ≤ (fn : Int) := Int.natCast_nonneg _
          have hfn1 : (fn : Int) ≤ 1024 := by omega
          have HWR : Hid (IntKind.u64.wrap (fn : Int) = (fn : Int)) := Lib.hid (wrap_u64 fn (by omega))
          have hub : u5.ownBlock ≠ some wr.heap.size := fun e => by have := (HV.out.lt _ e).2; omega
          have HU := Lib.hid hub
          have HFB := Lib.hid hfb
          clear hst hlw h1024 hfb hpt hub
          go_wp2_with (first | (refine ld2 83 rfl _ rfl b (o' + k * 2) rfl (.int .u64 num) (.slice fA fn fc) HRG.out Try.underlying83 rfl Try.size87 ?_) | (refine st2 83 rfl _ _ rfl _ _ rfl rfl (.int .u64 num) (.slice fA fn fc) rfl rfl rfl Try.size87 rfl ?_))
          refine (width_b _).mono ?_
          rintro e w' ⟨rfl, rfl⟩
          go_wp2_with fail
          refine (fail_no _).mono ?_
          rintro e w' ⟨rfl, rfl⟩
          go_wp2_with fail
          clear HRG HOK HP HL HV
          go_region_held3 (fun w' => w'.cell? ⟨wr.heap.size, 1, none⟩ = some (.slice fA fn fc)) (first | go_keep | assumption)
            (first
              | (go_at_call 59
                 rw [HWR.out]
                 refine (HPT.out _ HVW.out.drew HBW.out.drew.size).mono ?_
                 rintro e w3 ⟨v', rfl, hown3, hb3, hto3⟩
                 have hb3' : Below w.heap.size w w3 := HBW.out.drew.trans hb3
                 have hS : w3.cell? ⟨wr.heap.size, 1, none⟩ = some (.slice fA fn fc) := by
                   have h1 := World.cell?_of_block (a := ⟨wr.heap.size, 1, none⟩) (hto3.block wr.heap.size (by simp) HU.out)
                   rw [h1]
                   simp [go_sem]
                 have hne3 : v'.ownBlock ≠ some wr.heap.size := fun e => by
                   rcases hto3.at_ _ e with e | e
                   · exact HU.out e
                   · simp at e
                     omega
                 have HNE := Lib.hid hne3
                 have HSZ := Lib.hid hto3.size
                 have HO3 := Lib.hid hown3
                 have HB3 := Lib.hid hb3'
                 clear hown3 hb3 hto3 hb3' hne3)
              | (refine step_append_any (by rfl) _ _ 76 5 (.int .u8 0) 1 1 (by rfl) Try.underlying76 Try.infoU8' rfl (by decide) (by decide) w.heap.size v' (o.length + 2) _ fA fn fc (bv fb) (by rfl) (by rfl) HO3.out ((HOW.out.rb.below HB3.out).rd) (bv_one _) (by have := HK.out; have := HH.out; omega) HB3.out.size ?_
                 intro v1 w4 hown4 hg4 ha4
                 have hb4 : Below w.heap.size w w4 := Below.grown HB3.out hg4 HB3.out.size (fun b' hb' => (HO3.out.lt b' hb').1)
                 have hS4 : w4.cell? ⟨wr.heap.size, 1, none⟩ = some (.slice fA fn fc) := (hg4.cell_far _ (by have := HSZ.out; simp at this; simp; omega) (fun e => HNE.out e.symm)).trans (by assumption)
                 have HO4 := Lib.hid hown4
                 have HB4 := Lib.hid hb4
                 clear hown4 hg4 ha4 hb4))
          go_wp2
          go_roundw
          case rel => exact ⟨k + 1, _, by omega, by go_num, HST, by
            have := HO4.out
            rw [← bv_append, show o.length + 2 + fn = (o ++ (be fn 2 ++ fb)).length by rw [List.length_append, List.length_append, be_length, HFB.out]; omega, List.append_assoc] at this
            exact this, HB4, by
            have := HK.out
            have := HH.out
            show (o ++ (be fn 2 ++ fb)).length ≤ (k + 1) * 2000
            rw [List.length_append, List.length_append, be_length, HFB.out]
            omega⟩
          case measure => simp [intOf]; omega
      · have HW := Lib.hid (width_digit ch (wd + 1) hcw)
        have hw8 : wd + 1 ≤ 8 := by omega
        by_cases hfit : num < 256 ^ (wd + 1)
        · have HST : Hid (packTo sh l (k + 1) = some (o ++ be num (wd + 1))) := Lib.hid (by rw [hst, encF, hlw]; simp only []; rw [if_pos hfit]; rfl)
          have hpt := put_fit (wd + 1) (by omega) hw8 num hfit w.heap.size o.length u5 o _ HVW.out HBW.out.size (by have := HK.out; omega)
          have HPT := Lib.hid hpt
          clear hst hlw hcw hpt hfit
          go_wp2_with (first | (refine ld2 83 rfl _ rfl b (o' + k * 2) rfl (.int .u64 num) (.slice fA fn fc) HRG.out Try.underlying83 rfl Try.size87 ?_) | (refine st2 83 rfl _ _ rfl _ _ rfl rfl (.int .u64 num) (.slice fA fn fc) rfl rfl rfl Try.size87 rfl ?_))
          refine (HW.out _).mono ?_
          rintro e w' ⟨rfl, rfl⟩
          go_wp2_with fail
          refine HPT.out.mono ?_
          rintro e w3 ⟨v', rfl, hown, hb3, _⟩
          have HO3 := Lib.hid hown
          have HB3 := Lib.hid (HBW.out.trans hb3)
          clear hown hb3
          go_wp2_with fail
          go_roundw
          case rel => exact ⟨k + 1, _, by omega, by go_num, HST, by
            have := HO3.out
            rw [show o.length + (wd + 1) = (o ++ be num (wd + 1)).length by rw [List.length_append, be_length]] at this
            exact this, HB3, by
            have := HK.out
            show (o ++ be num (wd + 1)).length ≤ (k + 1) * 2000
            rw [List.length_append, be_length]
            omega⟩
          case measure => simp [intOf]; omega
        · have HST : Hid (packTo sh l (k + 1) = none) := Lib.hid (by rw [hst, encF, hlw]; simp only []; rw [if_neg hfit]; rfl)
          have hlt8 : wd + 1 < 8 := by
            have := HOK.out.num
            rcases hcw with ⟨_, h⟩ | ⟨_, h⟩ | ⟨_, h⟩ | ⟨_, h⟩
            · omega
            · omega
            · omega
            · rw [h] at hfit
              exact absurd this hfit
          have HPT := Lib.hid (put_unfit (wd + 1) hlt8 num (by omega) u5)
          clear hst hlw hcw hfit hlt8
          go_wp2_with (first | (refine ld2 83 rfl _ rfl b (o' + k * 2) rfl (.int .u64 num) (.slice fA fn fc) HRG.out Try.underlying83 rfl Try.size87 ?_) | (refine st2 83 rfl _ _ rfl _ _ rfl rfl (.int .u64 num) (.slice fA fn fc) rfl rfl rfl Try.size87 rfl ?_))
          refine (HW.out _).mono ?_
          rintro e w' ⟨rfl, rfl⟩
          go_wp2_with fail
          refine (HPT.out _).mono ?_
          rintro e w' ⟨rfl, rfl⟩
          exact ⟨rfl, .inr ⟨HNO.out HST.out, rfl, HBW.out⟩⟩
    · obtain rfl : k = n := by omega
      go_wp2_with fail
      go_ret
      exact .inl ⟨u5, o, HP.out, rfl, HV.out, HB.out⟩
end Go.Proofs.Ytanibabfdpgbbaa
