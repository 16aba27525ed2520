/- The reference's Pack. -/
import Derived.Test.YtgakajofggmbjaaMg16
import Derived.Test.YtgakajofggmbjaaMg3
import Derived.Test.YtgakajofggmbjaaMg15
import Derived.Test.YtgakajofggmbjaaMg10
import Derived.Test.YtgakajofggmbjaaMg9
namespace Go.Proofs.Ytgakajofggmbjaa
open Go.RowKit

set_option maxRecDepth 20000 in
set_option maxHeartbeats 3200000 in
theorem ref02_pack_main (sh : List UInt8) (A : Option Addr) (n c : Nat) (l : List FieldD) (w : World) (hl : RFields w A n c l) (hs : sh.length = n) (hn : n ≤ 200) :
    Calls Try.prog 35 #[.string (strOf sh), .slice A n c] w (PackedPost w (packTo sh l n)) := by
  have HL := Lib.hid hl
  have hsz : (strOf sh).size = n := by simp [strOf, hs, ByteArray.size]
  have hd : decide ((200 : Int) < (n : Int)) = false := decide_eq_false (by omega)
  clear hl
  go_enter Try.func35, Try.ntmps35
  go_wp2_with fail
  go_loopw [6, 27] (fun u i wr => ∃ k o, k ≤ n ∧ i = .int .i64 (k : Nat) ∧ Hid (packTo sh l k = some o) ∧ Hid (wr.ownsRow w.heap.size 5 1 u o.length (bv o)) ∧ Hid (Below w.heap.size w wr) ∧ Hid (o.length ≤ k * 2000)) (fun _ i _ => n - (intOf i).toNat)
  case atStart => exact ⟨0, [], by omega, rfl, Lib.hid rfl, Lib.hid (own_empty w _ _ _ (Nat.le_refl _)), Lib.hid (below_alloc _ _), Lib.hid (by simp)⟩
  case round =>
    obtain ⟨k, o, hk, rfl, HP, HV, HB, HK⟩ := hrel
    by_cases hlt : k < n
    · have hk0 : (0 : Int) ≤ (k : Int) := Int.natCast_nonneg _
      have hk1 : (k : Int) < (n : Int) := by omega
      obtain ⟨b, o', rfl, hfs⟩ := (HL.out.below HB.out).2.2.2 (by omega)
      obtain ⟨hrg, hok⟩ := hfs k hlt
      have hokw : FieldOk w (fieldAt l k) := by
        obtain ⟨_, _, _, h⟩ := HL.out.2.2.2 (by omega)
        exact (h k hlt).2
      generalize hf : fieldAt l k = f at *
      obtain ⟨num, fA, fn, fc, fb⟩ := f
      have hst := packTo_step HP.out
      rw [hf] at hst
      have hg := strOf_get sh k
      have HRG := Lib.hid hrg
      have HOK := Lib.hid hok
      have HOW := Lib.hid hokw
      clear hf hrg hok hfs hokw
      have HNO : Hid (packTo sh l (k + 1) = none → packTo sh l n = none) := Lib.hid fun h => packTo_none sh l (k + 1) h n (by omega)
      generalize at8 sh k = ch at hst hg
      have HBW := Lib.hid (HB.out.alloc HB.out.size (.cells #[.int .u64 (num : Int), .slice fA fn fc] 78))
      have HVW := Lib.hid (HV.out.alloc (.cells #[.int .u64 (num : Int), .slice fA fn fc] 78))
      rcases letterW_cases ch with hlw | ⟨hlw, rfl⟩ | ⟨wd, hlw, hcw⟩
      · have HST : Hid (packTo sh l (k + 1) = none) := Lib.hid (by rw [hst, encF, hlw]; rfl)
        have HW := Lib.hid (ref02_width ch)
        rw [letterI_none hlw] at HW
        clear hst hlw
        go_wp2_with (first | (refine ld2 78 rfl _ rfl b (o' + k * 2) rfl (.int .u64 num) (.slice fA fn fc) HRG.out Try.underlying78 rfl Try.size87 ?_) | (refine st2 78 rfl _ _ rfl _ _ rfl rfl (.int .u64 num) (.slice fA fn fc) rfl rfl rfl Try.size87 rfl ?_))
        refine (HW.out _).mono ?_
        rintro e w' ⟨rfl, rfl⟩
        go_wp2_with fail
        go_ret2
        exact ⟨HBW.out, .inr ⟨HNO.out HST.out, rfl⟩⟩
      · have hfb : fb.length = fn := HOK.out.rb.1
        have HW := Lib.hid (ref02_width 98)
        rw [letterI_some hlw] at HW
        by_cases h1024 : 1024 < fn
        · have HST : Hid (packTo sh l (k + 1) = none) := Lib.hid (by rw [hst, encF, hlw]; simp only []; rw [if_pos (by rw [hfb]; exact h1024)]; rfl)
          have hd1 : decide ((1024 : Int) < (fn : Int)) = true := decide_eq_true (by omega)
          clear hst hlw h1024 hfb
          go_wp2_with (first | (refine ld2 78 rfl _ rfl b (o' + k * 2) rfl (.int .u64 num) (.slice fA fn fc) HRG.out Try.underlying78 rfl Try.size87 ?_) | (refine st2 78 rfl _ _ rfl _ _ rfl rfl (.int .u64 num) (.slice fA fn fc) rfl rfl rfl Try.size87 rfl ?_))
          refine (HW.out _).mono ?_
          rintro e w' ⟨rfl, rfl⟩
          go_wp2_with fail
          go_ret2
          exact ⟨HBW.out, .inr ⟨HNO.out HST.out, rfl⟩⟩
        · have HST : Hid (packTo sh l (k + 1) = some (o ++ (be fn 2 ++ fb))) := Lib.hid (by rw [hst, encF, hlw]; simp only []; rw [if_neg (by rw [hfb]; exact h1024), hfb]; rfl)
          have hd1 : decide ((1024 : Int) < (fn : Int)) = false := decide_eq_false (by omega)
          have HN := Lib.hid (ref02_Number fn 2 (by omega) (by omega) (by omega))
          have HH : Hid (fn ≤ 1024) := Lib.hid (by omega)
          have hfn0 : (0 : Int) ≤ (fn : Int) := Int.natCast_nonneg _
          have hfn1 : (fn : Int) ≤ 1024 := by omega
          have HWR : Hid (IntKind.u64.wrap (fn : Int) = (fn : Int)) := Lib.hid (wrap_u64 fn (by omega))
          have hub : u6.ownBlock ≠ some wr.heap.size := fun e => by have := (HV.out.lt _ e).2; omega
          have HU := Lib.hid hub
          have HFB := Lib.hid hfb
          clear hst hlw h1024 hfb hub
          go_wp2_with (first | (refine ld2 78 rfl _ rfl b (o' + k * 2) rfl (.int .u64 num) (.slice fA fn fc) HRG.out Try.underlying78 rfl Try.size87 ?_) | (refine st2 78 rfl _ _ rfl _ _ rfl rfl (.int .u64 num) (.slice fA fn fc) rfl rfl rfl Try.size87 rfl ?_))
          refine (HW.out _).mono ?_
          rintro e w' ⟨rfl, rfl⟩
          go_wp2_with fail
          refine (HN.out _).mono ?_
          rintro e w2 ⟨v, rfl, hown2, hb2⟩
          obtain ⟨A2, c2, rfl, hrb2⟩ := own_rb hown2
          have hb2' := bthen HBW.out hb2
          have hv2 := own_below HVW.out hb2
          have hcl : w2.cell? ⟨wr.heap.size, 1, none⟩ = some (.slice fA fn fc) := (World.cell?_of_block (hb2.block wr.heap.size (by simp))).trans (by simp [go_sem])
          have hlt2 := World.block_lt_of_cell? w2 _ hcl
          have HB2 := Lib.hid hb2'; have HV2 := Lib.hid hv2; have HR2 := Lib.hid hrb2; have HC2 := Lib.hid hcl; have HL2 := Lib.hid hlt2
          clear hown2 hb2 hrb2 hb2' hv2 hcl hlt2
          go_wp2_with (at_builtin; first
            | (refine wpList_append_any (w0 := w) w.heap.size rfl _ _ 37 5 (.int .u8 0) 1 1 rfl Try.underlying37 Try.infoU8' rfl (by decide) (by decide) u6 o.length _ A2 2 c2 (bv (be fn 2)) rfl rfl HV2.out HR2.out.rd (bv_one _) (by have := HK.out; omega) HB2.out HB2.out.size ?_
               intro v3 w3 hown3 hb3 hg3 ha3
               have hc3 : w3.cell? ⟨wr.heap.size, 1, none⟩ = some (.slice fA fn fc) := (hg3.cell_far _ HL2.out (fun e => HU.out e.symm)).trans HC2.out
               have HO3 := Lib.hid hown3; have HB3 := Lib.hid hb3
               clear hown3 hb3 hg3 ha3)
            | (refine wpList_append_any (w0 := w) w.heap.size rfl _ _ 37 5 (.int .u8 0) 1 1 rfl Try.underlying37 Try.infoU8' rfl (by decide) (by decide) v3 (o.length + 2) _ fA fn fc (bv fb) rfl rfl HO3.out ((HOW.out.rb.below HB3.out).rd) (bv_one _) (by have := HK.out; have := HH.out; omega) HB3.out HB3.out.size ?_
               intro v4 w4 hown4 hb4 hg4 ha4
               have HO4 := Lib.hid hown4; have HB4 := Lib.hid hb4
               clear hown4 hb4 hg4 ha4))
          go_roundw
          case rel => exact ⟨k + 1, _, by omega, by go_num, HST, by
            have := HO4.out
            rw [← bv_append, ← bv_append, show o.length + 2 + fn = (o ++ (be fn 2 ++ fb)).length by rw [List.length_append, List.length_append, be_length, HFB.out]; omega, List.append_assoc] at this
            exact this, HB4, by
            have := HK.out
            have := HH.out
            show (o ++ (be fn 2 ++ fb)).length ≤ (k + 1) * 2000
            rw [List.length_append, List.length_append, be_length, HFB.out]
            omega⟩
          case measure => simp [intOf]; omega
      · have HW := Lib.hid (ref02_width ch)
        rw [letterI_some hlw] at HW
        have hw8 : wd + 1 ≤ 8 := by omega
        have hw0 : ((wd + 1 : Nat) : Int) ≠ 0 := by omega
        have hw1 : decide (((wd + 1 : Nat) : Int) < 0) = false := decide_eq_false (by omega)
        have hw2 : (((wd + 1 : Nat) : Int) == 0) = false := by rw [beq_eq_false_iff_ne]; omega
        have HN := Lib.hid (ref02_Number num (wd + 1) HOK.out.num (by omega) hw8)
        by_cases hfit : num < 256 ^ (wd + 1)
        · have HST : Hid (packTo sh l (k + 1) = some (o ++ be num (wd + 1))) := Lib.hid (by rw [hst, encF, hlw]; simp only []; rw [if_pos hfit]; rfl)
          rw [decide_eq_true hfit] at HN
          clear hst hlw hcw hfit
          generalize hwd : wd + 1 = wi at *
          go_wp2_with (first | (refine ld2 78 rfl _ rfl b (o' + k * 2) rfl (.int .u64 num) (.slice fA fn fc) HRG.out Try.underlying78 rfl Try.size87 ?_) | (refine st2 78 rfl _ _ rfl _ _ rfl rfl (.int .u64 num) (.slice fA fn fc) rfl rfl rfl Try.size87 rfl ?_))
          refine (HW.out _).mono ?_
          rintro e w' ⟨rfl, rfl⟩
          go_wp2_with fail
          refine (HN.out _).mono ?_
          rintro e w2 ⟨v, rfl, hown2, hb2⟩
          obtain ⟨A2, c2, rfl, hrb2⟩ := own_rb hown2
          have hb2' := bthen HBW.out hb2
          have hv2 := own_below HVW.out hb2
          have HB2 := Lib.hid hb2'; have HV2 := Lib.hid hv2; have HR2 := Lib.hid hrb2
          clear hown2 hb2 hrb2 hb2' hv2
          go_wp2_with (at_builtin; go_must (refine wpList_append_any (w0 := w) w.heap.size rfl _ _ 37 5 (.int .u8 0) 1 1 rfl Try.underlying37 Try.infoU8' rfl (by decide) (by decide) u6 o.length _ A2 wi c2 (bv (be num wi)) rfl rfl HV2.out HR2.out.rd (bv_one _) (by have := HK.out; omega) HB2.out HB2.out.size ?_; intro v3 w3 hown3 hb3 hg3 ha3; have HO3 := Lib.hid hown3; have HB3 := Lib.hid hb3; clear hown3 hb3 hg3 ha3))
          go_roundw
          case rel => exact ⟨k + 1, _, by omega, by go_num, HST, by
            have := HO3.out
            rw [← bv_append, show o.length + wi = (o ++ be num wi).length by rw [List.length_append, be_length]] at this
            exact this, HB3, by
            have := HK.out
            show (o ++ be num wi).length ≤ (k + 1) * 2000
            rw [List.length_append, be_length]
            omega⟩
          case measure => simp [intOf]; omega
        · have HST : Hid (packTo sh l (k + 1) = none) := Lib.hid (by rw [hst, encF, hlw]; simp only []; rw [if_neg hfit]; rfl)
          rw [decide_eq_false hfit] at HN
          clear hst hlw hcw hfit
          generalize hwd : wd + 1 = wi at *
          go_wp2_with (first | (refine ld2 78 rfl _ rfl b (o' + k * 2) rfl (.int .u64 num) (.slice fA fn fc) HRG.out Try.underlying78 rfl Try.size87 ?_) | (refine st2 78 rfl _ _ rfl _ _ rfl rfl (.int .u64 num) (.slice fA fn fc) rfl rfl rfl Try.size87 rfl ?_))
          refine (HW.out _).mono ?_
          rintro e w' ⟨rfl, rfl⟩
          go_wp2_with fail
          refine (HN.out _).mono ?_
          rintro e w2 ⟨v, rfl, hown2, hb2⟩
          have hb2' := bthen HBW.out hb2
          have HB2 := Lib.hid hb2'
          clear hown2 hb2 hb2'
          go_wp2_with fail
          go_ret2
          exact ⟨HB2.out, .inr ⟨HNO.out HST.out, rfl⟩⟩
    · obtain rfl : k = n := by omega
      go_wp2_with fail
      go_ret2
      exact ⟨HB.out, .inl ⟨u6, o, HP.out, rfl, HV.out⟩⟩
set_option maxRecDepth 20000 in
set_option maxHeartbeats 1600000 in
theorem ref02_pack_bad (sh : List UInt8) (A : Option Addr) (n c : Nat) (w : World) (h : 200 < sh.length ∨ (sh.length ≤ 200 ∧ sh.length ≠ n)) :
    Calls Try.prog 35 #[.string (strOf sh), .slice A n c] w fun e w' => e = .returned (.tuple #[.slice none 0 0, .int .i64 21]) ∧ w = w' := by
  have hsz : (strOf sh).size = sh.length := by simp [strOf, ByteArray.size]
  generalize sh.length = m at *
  rcases h with h | ⟨h, h'⟩
  · have hd : decide ((200 : Int) < (m : Int)) = true := decide_eq_true (by omega)
    go_enter Try.func35, Try.ntmps35
    go_wp2_with fail
    go_ret2
    exact ⟨rfl, rfl⟩
  · have hd : decide ((200 : Int) < (m : Int)) = false := decide_eq_false (by omega)
    have hq : ((m : Int) != (n : Int)) = true := by rw [bne_iff_ne]; omega
    go_enter Try.func35, Try.ntmps35
    go_wp2_with fail
    go_ret2
    exact ⟨rfl, rfl⟩
/-- The reference's Pack. -/
theorem ref02_Pack (sh : List UInt8) (A : Option Addr) (n c : Nat) (l : List FieldD) (w : World) (hl : RFields w A n c l) :
    Calls Try.prog 35 #[.string (strOf sh), .slice A n c] w (PackedPost w (packM sh l)) := by
  have hn : l.length = n := hl.1
  unfold packM
  by_cases h : 200 < sh.length ∨ sh.length ≠ l.length
  · rw [if_pos h]
    refine (ref02_pack_bad sh A n c w (by omega)).mono fun e w' ⟨he, hw⟩ => ⟨hw ▸ Below.refl _ _, .inr ⟨rfl, he⟩⟩
  · rw [if_neg h, hn]
    exact ref02_pack_main sh A n c l w hl (by omega) (by omega)
end Go.Proofs.Ytgakajofggmbjaa

/- The document's Add to a journal: what lies in memory while it runs. -/
namespace Go.Proofs.Ytgakajofggmbjaa
open Go.RowKit

/-- A journal of the document as cells. -/
def rjC (first gen count : Nat) : List Value := [.int .i64 (first : Int), .int .u64 (gen : Int), .int .i64 (count : Int)]
theorem rjC_one (first gen count : Nat) : ∀ u ∈ rjC first gen count, u.oneCell' = true := by simp [rjC, Value.oneCell']
theorem Try.sizeRJ : (Try.prog.info? 36).map (·.size) = some 3 := by kernel_rfl
/-- What the document's Add leaves. -/
def AddRefPost (w : World) (A B : Option Addr) (first gen : Nat) (r : Dk × Nat × Int) (e : Ending) (w' : World) : Prop :=
  ∃ A' c' B' k', e = .returned (.tuple #[.agg (rdC A' c' B' k' r.1).toArray, .agg (rjC first gen r.2.1).toArray, .int .i64 r.2.2]) ∧ RDk w' A' c' B' k' r.1 ∧ Below w.heap.size w w' ∧ (A' = A ∨ FrA w w' A') ∧ (B' = B ∨ FrA w w' B')
/-- Where a slice of the disk's may lie while Add runs. -/
def FrB (w W : World) (A A' : Option Addr) : Prop := A' = A ∨ ∀ b o, A' = some ⟨b, o, none⟩ → w.heap.size + 4 ≤ b ∧ b < W.heap.size
structure RI (w W : World) (A B : Option Addr) (first gen count : Nat) (A' : Option Addr) (c' : Nat) (B' : Option Addr) (k' : Nat) (d' : Dk) : Prop where
  bd : RowAt W w.heap.size 30 (rdC A' c' B' k' d')
  bj : RowAt W (w.heap.size + 1) 36 (rjC first gen count)
  zd : RowAt W (w.heap.size + 1 + 1) 30 rdZ
  zj : RowAt W (w.heap.size + 1 + 1 + 1) 36 (rjC 0 0 0)
  rd : RDk W A' c' B' k' d'
  fa : FrB w W A A'
  fb : FrB w W B B'
  bl : Below w.heap.size w W
  sz : w.heap.size + 4 ≤ W.heap.size
theorem FrB.up {w W W' : World} {A A' : Option Addr} (h : FrB w W A A') (hs : W.heap.size ≤ W'.heap.size) : FrB w W' A A' := h.imp id (fun h b o e => ⟨(h b o e).1, Nat.lt_of_lt_of_le (h b o e).2 hs⟩)
theorem FrB.fr {w W : World} {A A' : Option Addr} (h : FrB w W A A') : A' = A ∨ FrA w W A' := h.imp id (fun h b o e => ⟨by have := (h b o e).1; omega, (h b o e).2⟩)
theorem FrB.box {w W : World} {A A' : Option Addr} (h : FrB w W A A') (hA : ∀ b o, A = some ⟨b, o, none⟩ → b < w.heap.size) (i : Nat) (hi : i < 4) : ∀ b o, A' = some ⟨b, o, none⟩ → b ≠ w.heap.size + i := fun b o e => by
  rcases h with h | h
  · subst h
    have := hA b o e
    omega
  · have := (h b o e).1
    omega
theorem FrB.next {w W W' : World} {A A' A2 : Option Addr} (h : FrB w W A A') (hsz : w.heap.size + 4 ≤ W.heap.size) (hb : Below W.heap.size W W') (h2 : A2 = A' ∨ FrA W W' A2) : FrB w W' A A2 := by
  rcases h2 with rfl | h2
  · exact h.up hb.size
  · exact .inr fun b o e => ⟨Nat.le_trans hsz (h2 b o e).1, (h2 b o e).2⟩
section
variable {w W W1 W2 : World} {A B : Option Addr} {first gen count : Nat} {A' : Option Addr} {c' : Nat} {B' : Option Addr} {k' : Nat} {d' : Dk} {A2 : Option Addr} {c2 : Nat} {B2 : Option Addr} {k2 : Nat} {d2 : Dk}
theorem RI.below (h : RI w W A B first gen count A' c' B' k' d') (hb : Below W.heap.size W W1) : RI w W1 A B first gen count A' c' B' k' d' :=
  ⟨h.bd.below hb, h.bj.below hb, h.zd.below hb, h.zj.below hb, h.rd.below hb, h.fa.up hb.size, h.fb.up hb.size, bthen h.bl hb, Nat.le_trans h.sz hb.size⟩
/-- The disk's box is written anew. -/
theorem RI.put (h : RI w W A B first gen count A' c' B' k' d') (hA : ∀ b o, A = some ⟨b, o, none⟩ → b < w.heap.size) (hB : ∀ b o, B = some ⟨b, o, none⟩ → b < w.heap.size) (hb : Below W.heap.size W W1) (hr : RDk W1 A2 c2 B2 k2 d2) (h2 : A2 = A' ∨ FrA W W1 A2) (h3 : B2 = B' ∨ FrA W W1 B2)
    (hrow : RowAt W2 w.heap.size 30 (rdC A2 c2 B2 k2 d2)) (hk : Kp (· = w.heap.size) W1 W2) : RI w W2 A B first gen count A2 c2 B2 k2 d2 := by
  have h1 := h.below hb
  have f1 := h.fa.next h.sz hb h2
  have f2 := h.fb.next h.sz hb h3
  exact ⟨hrow, h1.bj.kp hk (by omega), h1.zd.kp hk (by omega), h1.zj.kp hk (by omega), hr.kpF hk (fun b o e => f1.box hA 0 (by omega) b o e) (fun b o e => f2.box hB 0 (by omega) b o e), f1.up hk.size, f2.up hk.size, h1.bl.trans (hk.below h1.bl.size (fun i e => by subst e; exact Nat.le_refl _)), Nat.le_trans h1.sz hk.size⟩
end
/-- The count is written. -/
theorem RI.bump {w W : World} {A B : Option Addr} {first gen count : Nat} {A' : Option Addr} {c' : Nat} {B' : Option Addr} {k' : Nat} {d' : Dk} (h : RI w W A B first gen count A' c' B' k' d') (hA : ∀ b o, A = some ⟨b, o, none⟩ → b < w.heap.size) (hB : ∀ b o, B = some ⟨b, o, none⟩ → b < w.heap.size) (m : Nat) :
    RI w (W.setCell ⟨w.heap.size + 1, 2, none⟩ (.int .i64 (m : Int))) A B first gen m A' c' B' k' d' := by
  have hk : Kp (· = w.heap.size + 1) W (W.setCell ⟨w.heap.size + 1, 2, none⟩ (.int .i64 (m : Int))) := (Kp.refl _ W).setCell _ _ (fun _ => rfl)
  have hj := heap_setCell_same W (w.heap.size + 1) 2 _ _ (.int .i64 (m : Int)) h.bj
  exact ⟨h.bd.kp hk (by omega), hj, h.zd.kp hk (by omega), h.zj.kp hk (by omega), h.rd.kpF hk (h.fa.box hA 1 (by omega)) (h.fb.box hB 1 (by omega)), h.fa.up hk.size, h.fb.up hk.size, h.bl.trans (hk.below h.bl.size (fun i e => by omega)), Nat.le_trans h.sz hk.size⟩
def ldD (p : Value) : Sem Value := Instr.loadAt 30 p
theorem loadAtD (p : Value) : Instr.loadAt 30 p = ldD p := rfl
def ldJ (p : Value) : Sem Value := Instr.loadAt 36 p
theorem loadAtJ (p : Value) : Instr.loadAt 36 p = ldJ p := rfl
def stD (p x : Value) : Sem Unit := Instr.storeAt 30 p x
theorem storeAtD (p x : Value) : Instr.storeAt 30 p x = stD p x := rfl
def stJ (p x : Value) : Sem Unit := Instr.storeAt 36 p x
theorem storeAtJ (p x : Value) : Instr.storeAt 36 p x = stJ p x := rfl
section
variable {w : World} {g : Nat}
theorem run_ldD {A : Option Addr} {c : Nat} {B : Option Addr} {k : Nat} {d : Dk} (h : RowAt w g 30 (rdC A c B k d)) : (ldD (.pointer (some ⟨g, 0, none⟩))).run Try.prog w = .ok (.agg (rdC A c B k d).toArray) w :=
  run_loadAt_mid w g 0 _ (rdC A c B k d) _ h.range Try.underlying30 rfl Try.sizeRD
theorem run_ldJ {first gen count : Nat} (h : RowAt w g 36 (rjC first gen count)) : (ldJ (.pointer (some ⟨g, 0, none⟩))).run Try.prog w = .ok (.agg (rjC first gen count).toArray) w :=
  run_loadAt_mid w g 0 _ (rjC first gen count) _ h.range Try.underlying36 rfl Try.sizeRJ
theorem row_there {t : TypeId} {cs : List Value} (h : RowAt w g t cs) : w.there g 0 cs.length := by
  intro j hj
  rw [Nat.zero_add]
  exact ⟨by rw [h.cell j cs[j] (List.getElem?_eq_getElem hj)]; rfl, frozen_of_row _ _ _ _ _ h⟩
theorem run_stD {cs0 : List Value} (h : RowAt w g 30 cs0) (hl : cs0.length = 4) (A : Option Addr) (c : Nat) (B : Option Addr) (k : Nat) (d : Dk) : (stD (.pointer (some ⟨g, 0, none⟩)) (.agg (rdC A c B k d).toArray)).run Try.prog w = .ok () (w.setCells g 0 (rdC A c B k d)) := by
  have hth := row_there h
  rw [hl] at hth
  have := run_storeAt_mid (P := Try.prog) w g 0 30 (rdC A c B k d).toArray (by simpa [rdC] using hth) (Try.sizeRD.trans (by simp [rdC])) (all_oneCell_toArray (rdC_one A c B k d))
  unfold stD
  simpa using this
theorem run_stJ {cs0 : List Value} (h : RowAt w g 36 cs0) (hl : cs0.length = 3) (first gen count : Nat) : (stJ (.pointer (some ⟨g, 0, none⟩)) (.agg (rjC first gen count).toArray)).run Try.prog w = .ok () (w.setCells g 0 (rjC first gen count)) := by
  have hth := row_there h
  rw [hl] at hth
  have := run_storeAt_mid (P := Try.prog) w g 0 36 (rjC first gen count).toArray (by simpa [rjC] using hth) (Try.sizeRJ.trans (by simp [rjC])) (all_oneCell_toArray (rjC_one first gen count))
  unfold stJ
  simpa using this
theorem row_set {t : TypeId} {cs0 cs : List Value} (h : RowAt w g t cs0) (hl : cs0.length = cs.length) : RowAt (w.setCells g 0 cs) g t cs ∧ Kp (· = g) w (w.setCells g 0 cs) := by
  obtain ⟨h1, h2⟩ := setCells_heap g t cs cs0.toArray 0 w h (by simp [hl])
  refine ⟨?_, h2⟩
  unfold RowAt
  rw [h1, List.toList_toArray]
  congr 3
  simp only [splice, List.take_zero, List.nil_append, Nat.zero_add]
  rw [List.drop_eq_nil_of_le (by omega), List.append_nil]
end
/-- The stores at an exit, in either order. -/
structure ExitF (w W : World) (first gen count : Nat) (A' : Option Addr) (c' : Nat) (B' : Option Addr) (k' : Nat) (d' : Dk) : Prop where
  l0 : (ldD (.pointer (some ⟨w.heap.size, 0, none⟩))).run Try.prog W = .ok (.agg (rdC A' c' B' k' d').toArray) W
  l1 : (ldJ (.pointer (some ⟨w.heap.size + 1, 0, none⟩))).run Try.prog W = .ok (.agg (rjC first gen count).toArray) W
  s0 : (stD (.pointer (some ⟨w.heap.size + 1 + 1, 0, none⟩)) (.agg (rdC A' c' B' k' d').toArray)).run Try.prog W = .ok () (W.setCells (w.heap.size + 1 + 1) 0 (rdC A' c' B' k' d'))
  s1 : (stJ (.pointer (some ⟨w.heap.size + 1 + 1 + 1, 0, none⟩)) (.agg (rjC first gen count).toArray)).run Try.prog W = .ok () (W.setCells (w.heap.size + 1 + 1 + 1) 0 (rjC first gen count))
  m0 : (ldD (.pointer (some ⟨w.heap.size, 0, none⟩))).run Try.prog (W.setCells (w.heap.size + 1 + 1 + 1) 0 (rjC first gen count)) = .ok (.agg (rdC A' c' B' k' d').toArray) (W.setCells (w.heap.size + 1 + 1 + 1) 0 (rjC first gen count))
  m1 : (ldJ (.pointer (some ⟨w.heap.size + 1, 0, none⟩))).run Try.prog (W.setCells (w.heap.size + 1 + 1) 0 (rdC A' c' B' k' d')) = .ok (.agg (rjC first gen count).toArray) (W.setCells (w.heap.size + 1 + 1) 0 (rdC A' c' B' k' d'))
  t0 : (stD (.pointer (some ⟨w.heap.size + 1 + 1, 0, none⟩)) (.agg (rdC A' c' B' k' d').toArray)).run Try.prog (W.setCells (w.heap.size + 1 + 1 + 1) 0 (rjC first gen count)) = .ok () ((W.setCells (w.heap.size + 1 + 1 + 1) 0 (rjC first gen count)).setCells (w.heap.size + 1 + 1) 0 (rdC A' c' B' k' d'))
  t1 : (stJ (.pointer (some ⟨w.heap.size + 1 + 1 + 1, 0, none⟩)) (.agg (rjC first gen count).toArray)).run Try.prog (W.setCells (w.heap.size + 1 + 1) 0 (rdC A' c' B' k' d')) = .ok () ((W.setCells (w.heap.size + 1 + 1) 0 (rdC A' c' B' k' d')).setCells (w.heap.size + 1 + 1 + 1) 0 (rjC first gen count))
/-- What the caller sees. -/
def ExitR (w Wf : World) (A B : Option Addr) (first gen count : Nat) (A' : Option Addr) (c' : Nat) (B' : Option Addr) (k' : Nat) (d' : Dk) : Prop :=
  RowAt Wf (w.heap.size + 1 + 1) 30 (rdC A' c' B' k' d') ∧ RowAt Wf (w.heap.size + 1 + 1 + 1) 36 (rjC first gen count) ∧ RDk Wf A' c' B' k' d' ∧ Below w.heap.size w Wf ∧ (A' = A ∨ FrA w Wf A') ∧ (B' = B ∨ FrA w Wf B')
theorem RI.exits {w W : World} {A B : Option Addr} {first gen count : Nat} {A' : Option Addr} {c' : Nat} {B' : Option Addr} {k' : Nat} {d' : Dk} (h : RI w W A B first gen count A' c' B' k' d') (hA : ∀ b o, A = some ⟨b, o, none⟩ → b < w.heap.size) (hB : ∀ b o, B = some ⟨b, o, none⟩ → b < w.heap.size) :
    ExitF w W first gen count A' c' B' k' d' ∧ ExitR w ((W.setCells (w.heap.size + 1 + 1 + 1) 0 (rjC first gen count)).setCells (w.heap.size + 1 + 1) 0 (rdC A' c' B' k' d')) A B first gen count A' c' B' k' d' ∧ ExitR w ((W.setCells (w.heap.size + 1 + 1) 0 (rdC A' c' B' k' d')).setCells (w.heap.size + 1 + 1 + 1) 0 (rjC first gen count)) A B first gen count A' c' B' k' d' := by
  obtain ⟨d1, dk1⟩ := row_set h.zd (show rdZ.length = (rdC A' c' B' k' d').length from rfl)
  obtain ⟨j1, jk1⟩ := row_set h.zj (show (rjC 0 0 0).length = (rjC first gen count).length from rfl)
  obtain ⟨d2, dk2⟩ := row_set (h.zd.kp jk1 (by omega)) (show rdZ.length = (rdC A' c' B' k' d').length from rfl)
  obtain ⟨j2, jk2⟩ := row_set (h.zj.kp dk1 (by omega)) (show (rjC 0 0 0).length = (rjC first gen count).length from rfl)
  have a2 := h.fa.box hA 2 (by omega)
  have a3 := h.fa.box hA 3 (by omega)
  have b2 := h.fb.box hB 2 (by omega)
  have b3 := h.fb.box hB 3 (by omega)
  refine ⟨⟨run_ldD h.bd, run_ldJ h.bj, run_stD h.zd rfl _ _ _ _ _, run_stJ h.zj rfl _ _ _, run_ldD (h.bd.kp jk1 (by omega)), run_ldJ (h.bj.kp dk1 (by omega)), run_stD (h.zd.kp jk1 (by omega)) rfl _ _ _ _ _, run_stJ (h.zj.kp dk1 (by omega)) rfl _ _ _⟩, ⟨d2, j1.kp dk2 (by omega), (h.rd.kpF jk1 a3 b3).kpF dk2 a2 b2, ?_, ?_, ?_⟩, ⟨d1.kp jk2 (by omega), j2, (h.rd.kpF dk1 a2 b2).kpF jk2 a3 b3, ?_, ?_, ?_⟩⟩
  · exact (h.bl.trans (jk1.below h.bl.size (fun i e => by omega))).trans (dk2.below (Nat.le_trans h.bl.size jk1.size) (fun i e => by omega))
  · exact (h.fa.up (Nat.le_trans jk1.size dk2.size)).fr
  · exact (h.fb.up (Nat.le_trans jk1.size dk2.size)).fr
  · exact (h.bl.trans (dk1.below h.bl.size (fun i e => by omega))).trans (jk2.below (Nat.le_trans h.bl.size dk1.size) (fun i e => by omega))
  · exact (h.fa.up (Nat.le_trans dk1.size jk2.size)).fr
  · exact (h.fb.up (Nat.le_trans dk1.size jk2.size)).fr
theorem res_two_tmp {P : Program} {fn : Func} {p q r : Tmp} {ty ty2 : TypeId} (h : fn.results = #[.cell p ty, .cell q ty2, .tmp r]) (tmps : Array Value) (w : World) (g g2 : Nat) (cs cs2 : List Value) (d d2 : TypeDesc) (u : Value)
    (hp : tmps.getD p undef = .pointer (some ⟨g, 0, none⟩)) (hq : tmps.getD q undef = .pointer (some ⟨g2, 0, none⟩)) (hr : tmps.getD r undef = u) (hg : w.rangeAt g 0 cs) (hg2 : w.rangeAt g2 0 cs2)
    (hu : P.underlying ty = some d) (hd : d.isRow = true) (hi : (P.info? ty).map (·.size) = some cs.length) (hu2 : P.underlying ty2 = some d2) (hd2 : d2.isRow = true) (hi2 : (P.info? ty2).map (·.size) = some cs2.length) :
    (results fn tmps).run P w = .ok (.tuple #[.agg cs.toArray, .agg cs2.toArray, u]) w := by
  have hp' : tmps[p]?.getD undef = .pointer (some ⟨g, 0, none⟩) := by simpa using hp
  have hq' : tmps[q]?.getD undef = .pointer (some ⟨g2, 0, none⟩) := by simpa using hq
  have hr' : tmps[r]?.getD undef = u := by simpa using hr
  have hl := run_loadVar_mid (P := P) w g 0 ty cs d hg hu hd hi
  have hl2 := run_loadVar_mid (P := P) w g2 0 ty2 cs2 d2 hg2 hu2 hd2 hi2
  simp [results, h, hp', hq', hr', asAddr, hl, hl2]
theorem ExitR.ret {w Wf : World} {A B : Option Addr} {first gen count : Nat} {A' : Option Addr} {c' : Nat} {B' : Option Addr} {k' : Nat} {d' : Dk} (h : ExitR w Wf A B first gen count A' c' B' k' d') (tmps : Array Value) (err : Int) (r : Dk × Nat × Int) (hr : r = (d', count, err))
    (hp : tmps.getD 6 undef = .pointer (some ⟨w.heap.size + 1 + 1, 0, none⟩)) (hq : tmps.getD 7 undef = .pointer (some ⟨w.heap.size + 1 + 1 + 1, 0, none⟩)) (h8 : tmps.getD 8 undef = .int .i64 err) :
    ∃ u, (results Try.f14 tmps).run Try.prog Wf = .ok u Wf ∧ AddRefPost w A B first gen r (.returned u) Wf := by
  subst hr
  exact ⟨_, res_two_tmp rfl tmps Wf _ _ (rdC A' c' B' k' d') (rjC first gen count) _ _ _ hp hq h8 h.1.range h.2.1.range Try.underlying30 rfl Try.sizeRD Try.underlying36 rfl Try.sizeRJ, A', c', B', k', rfl, h.2.2.1, h.2.2.2.1, h.2.2.2.2.1, h.2.2.2.2.2⟩
theorem ExitR.body {w Wf : World} {A B : Option Addr} {first gen count : Nat} {A' : Option Addr} {c' : Nat} {B' : Option Addr} {k' : Nat} {d' : Dk} (h : ExitR w Wf A B first gen count A' c' B' k' d') (err : Int) {r : Dk × Nat × Int} (hr : r = (d', count, err)) {tmps : Array Value}
    (hp : tmps.getD 6 undef = .pointer (some ⟨w.heap.size + 1 + 1, 0, none⟩)) (hq : tmps.getD 7 undef = .pointer (some ⟨w.heap.size + 1 + 1 + 1, 0, none⟩)) (h8 : tmps.getD 8 undef = .int .i64 err) :
    bodyPost Try.prog Try.f14 (AddRefPost w A B first gen r) .ret { tmps := tmps, defers := [] } Wf := by
  obtain ⟨u, hu1, hu2⟩ := h.ret tmps err r hr hp hq h8
  exact bodyPost_ret hu1 rfl hu2
end Go.Proofs.Ytgakajofggmbjaa
