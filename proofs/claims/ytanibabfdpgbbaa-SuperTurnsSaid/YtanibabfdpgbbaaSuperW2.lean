/- super.Write: on a live disk that waits for nothing. -/
import Derived.Test.YtanibabfdpgbbaaSuperW1
import Derived.Test.YtanibabfdpgbbaaDiskX
namespace Go.Proofs.Ytanibabfdpgbbaa
open Go.RowKit
attribute [local go_sem ↓] loadAt37

theorem Try.sizeSuper : (Try.prog.info? 24).map (·.size) = some 6 := by kernel_rfl
/-- The super's numbers, in the order of the body. -/
def numF (n : Nat) : FieldD := ⟨n, none, 0, 0, []⟩
def atN (ns : List Nat) (k : Nat) : Nat := ns.getD k 0
def superSh : List UInt8 := [52, 50, 50, 52, 50]
def bodyL (r b q c e : Nat) : List UInt8 := be r 4 ++ (be b 2 ++ (be q 2 ++ (be c 4 ++ be e 2)))
theorem bodyL_length (r b q c e : Nat) : (bodyL r b q c e).length = 14 := by simp [bodyL, be_length]
theorem super_pack (r b q c e : Nat) (hr : r ≤ 1024) (hb : b ≤ 255) (hq : q ≤ 48) (hc : c ≤ 1024) (he : e ≤ 65535) (l : List FieldD) (hl : vals l = [(r, []), (b, []), (q, []), (c, []), (e, [])]) : packM superSh l = some (bodyL r b q c e) := by
  have hlen : l.length = 5 := by have := congrArg List.length hl; simpa [vals] using this
  refine (packM_iff _ _ _).2 ⟨by decide, by rw [hlen]; rfl, ?_⟩
  rw [hl]
  have w4 : letterW 52 = some (3 + 1) := by decide
  have w2 : letterW 50 = some (1 + 1) := by decide
  simp only [superSh, packL, encV, w4, w2]
  rw [if_pos (show r < 256 ^ (3 + 1) by omega), if_pos (show b < 256 ^ (1 + 1) by omega), if_pos (show q < 256 ^ (1 + 1) by omega), if_pos (show c < 256 ^ (3 + 1) by omega), if_pos (show e < 256 ^ (1 + 1) by omega)]
  simp [bodyL]
theorem super_unpack (r b q c e : Nat) (hr : r ≤ 1024) (hb : b ≤ 255) (hq : q ≤ 48) (hc : c ≤ 1024) (he : e ≤ 65535) : unpackM superSh (bodyL r b q c e) = some [(r, []), (b, []), (q, []), (c, []), (e, [])] := by
  have h := back_of (super_pack r b q c e hr hb hq hc he [numF r, numF b, numF q, numF c, numF e] rfl)
  rw [h]
  rfl
/-- What Write leaves. -/
def SWrite (w : World) (base p s : Nat) (v : Value) (d : Dk) (gen : Nat) (body : List UInt8) (e : Ending) (w' : World) : Prop :=
  ∃ d', e = .returned (.int .i64 0) ∧ DiskAt w' base p s (.slice none 0 0) d' ∧ d'.live ∧ d'.pend = [] ∧ d'.stable.length = d.stable.length ∧ (∀ k, d'.read k = if gen % 2 = k then sealL gen body else d.read k) ∧ Kp (foot p s v) w w'
set_option maxRecDepth 20000 in
set_option maxHeartbeats 6400000 in
theorem super_Write (gen r b q c e : Nat) (hg1 : 1 ≤ gen) (hg2 : gen ≤ 281474976710655) (hr : r ≤ 1024) (hb : b ≤ 255) (hq : q ≤ 48) (hc : c ≤ 1024) (he : e ≤ 65535)
    {w : World} {base p s : Nat} {v : Value} {d : Dk} (h : DiskAt w base p s v d) (hbase : base ≤ w.heap.size) (hlive : d.live) (hpl : d.pend.length ≤ 1000) (hlen : 2 ≤ d.stable.length) :
    Calls Try.prog 18 #[.pointer (some ⟨p, 0, none⟩), SD.v ⟨gen, r, b, q, c, e⟩] w (SWrite w base p s v d gen (bodyL r b q c e)) := by
  have HD := Lib.hid h
  have hright : (⟨gen, r, b, q, c, e⟩ : SD).right := ⟨hg1, hg2, ⟨by show (0 : Int) ≤ (r : Int); omega, by show (r : Int) ≤ 1024; omega⟩, ⟨by show (0 : Int) ≤ (c : Int); omega, by show (c : Int) ≤ 1024; omega⟩, ⟨by show (0 : Int) ≤ (b : Int); omega, by show (b : Int) ≤ 255; omega⟩, ⟨by show (0 : Int) ≤ (q : Int); omega, by show (q : Int) ≤ 48; omega⟩, ⟨by show (0 : Int) ≤ (e : Int); omega, by show (e : Int) ≤ 65535; omega⟩⟩
  have HRT := Lib.hid hright
  have HX := Lib.hid (RowAt.new w 24 (SD.cells ⟨gen, r, b, q, c, e⟩))
  have HB1 := Lib.hid (below_alloc w (.cells (SD.cells ⟨gen, r, b, q, c, e⟩).toArray 24))
  have HBND : Hid (r ≤ 1024 ∧ b ≤ 255 ∧ q ≤ 48 ∧ c ≤ 1024 ∧ e ≤ 65535) := Lib.hid ⟨hr, hb, hq, hc, he⟩
  have HGN : Hid (1 ≤ gen ∧ gen ≤ 281474976710655) := Lib.hid ⟨hg1, hg2⟩
  have HPL := Lib.hid hpl; have HLV := Lib.hid hlive; have HLN := Lib.hid hlen; have HBS := Lib.hid hbase
  clear h hright hr hb hq hc he hg1 hg2 hpl hlive hlen hbase
  unfold SD.cells at HX HB1
  unfold SD.v
  dsimp only at HX HB1 ⊢
  go_enter Try.func18, Try.ntmps18
  go_wp2_with (refine ldN 24 [.int .u64 gen, .int .i64 r, .int .i64 b, .int .i64 q, .int .i64 c, .int .i64 e] rfl _ rfl w.heap.size 0 rfl HX.out.range Try.underlying24 rfl Try.sizeSuper ?_)
  refine (super_Right ⟨gen, r, b, q, c, e⟩ _).mono ?_
  rw [decide_eq_true HRT.out]
  rintro e' w2 ⟨rfl, hb2⟩
  have HX2 := Lib.hid (HX.out.below hb2); have HB2 := Lib.hid (bthen HB1.out hb2)
  have hx1 := HX2.out.cell 1 _ rfl
  have hx2 := HX2.out.cell 2 _ rfl
  have hx3 := HX2.out.cell 3 _ rfl
  have hx4 := HX2.out.cell 4 _ rfl
  have hx5 := HX2.out.cell 5 _ rfl
  clear hb2
  go_wp2_with fail
  have HV := Lib.hid (RowAt.new w2 3 [.int .i64 r, .int .i64 b, .int .i64 q, .int .i64 c, .int .i64 e])
  have HBV := Lib.hid (balloc HB2.out (.cells #[.int .i64 r, .int .i64 b, .int .i64 q, .int .i64 c, .int .i64 e] 3))
  have HXV := Lib.hid (HX2.out.below (below_alloc w2 (.cells #[.int .i64 r, .int .i64 b, .int .i64 q, .int .i64 c, .int .i64 e] 3)))
  have hnv : ∀ k, k < 5 → ([.int .i64 r, .int .i64 b, .int .i64 q, .int .i64 c, .int .i64 e] : List Value)[k]? = some (.int .i64 ((atN [r, b, q, c, e] k : Nat) : Int)) ∧ atN [r, b, q, c, e] k ≤ 65535 := fun k hk => by
    have := HBND.out
    match k, hk with
    | 0, _ => exact ⟨rfl, by show r ≤ 65535; omega⟩
    | 1, _ => exact ⟨rfl, by show b ≤ 65535; omega⟩
    | 2, _ => exact ⟨rfl, by show q ≤ 65535; omega⟩
    | 3, _ => exact ⟨rfl, by show c ≤ 65535; omega⟩
    | 4, _ => exact ⟨rfl, by show e ≤ 65535; omega⟩
  have hvs : ∀ k, k < 5 → ([(r, []), (b, []), (q, []), (c, []), (e, [])] : List (Nat × List UInt8)).take (k + 1) = ([(r, []), (b, []), (q, []), (c, []), (e, [])] : List (Nat × List UInt8)).take k ++ [(atN [r, b, q, c, e] k, [])] := fun k hk => by
    match k, hk with
    | 0, _ => rfl
    | 1, _ => rfl
    | 2, _ => rfl
    | 3, _ => rfl
    | 4, _ => rfl
  have HNV := Lib.hid hnv; have HVS := Lib.hid hvs
  clear hnv hvs hx1 hx2 hx3 hx4 hx5
  generalize hw3 : w2.alloc (.cells #[.int .i64 r, .int .i64 b, .int .i64 q, .int .i64 c, .int .i64 e] 3) = w3 at *
  clear hw3
  generalize hg2 : w2.heap.size = g2 at *
  clear hg2
  go_loopw [5, 28] (fun u i wr => ∃ k lk, k ≤ 5 ∧ i = .int .i64 (k : Nat) ∧ Hid (OFields wr w3.heap.size u lk) ∧ Hid (lk.length = k) ∧ Hid (vals lk = ([(r, []), (b, []), (q, []), (c, []), (e, [])] : List (Nat × List UInt8)).take k) ∧ Hid (Below w3.heap.size w3 wr)) (fun _ i _ => 5 - (intOf i).toNat)
  case atStart => exact ⟨0, [], by omega, rfl, Lib.hid ⟨World.ownsRow_nil _ _ _ _, by simp, by simp, by simp⟩, Lib.hid rfl, Lib.hid rfl, Lib.hid (Below.refl _ _)⟩
  case round =>
    obtain ⟨k, lk, hk, rfl, HO, HK, HVL, HBr⟩ := hrel
    by_cases hlt : k < 5
    · have hk0 : (0 : Int) ≤ (k : Int) := Int.natCast_nonneg _
      have hk1 : (k : Int) < 5 := by omega
      obtain ⟨hv1, hv2⟩ := HNV.out k hlt
      have hcell := (HV.out.below HBr.out).cell k _ hv1
      have HVS1 := Lib.hid (HVS.out k hlt)
      generalize atN [r, b, q, c, e] k = nk at *
      have hn0 : (0 : Int) ≤ (nk : Int) := Int.natCast_nonneg _
      have hwr : IntKind.u64.wrap (nk : Int) = (nk : Int) := wrap_u64 nk (by omega)
      clear hv1
      go_wp2_with (at_builtin; go_must (refine wpList_append_any (w0 := wr.alloc (.cells #[.int .u64 nk, .slice none 0 0] 83)) w3.heap.size rfl _ _ 79 83 (.agg #[.int .u64 0, .slice none 0 0]) 2 32 rfl Try.underlying79 Try.info87 rfl (by decide) (by decide) u5 lk.length (fcells lk) (some ⟨wr.heap.size, 0, none⟩) 1 1 [.int .u64 nk, .slice none 0 0] rfl rfl (HO.out.alloc _).row ⟨rfl, fun _ => ⟨_, _, rfl, fun j v hj => by rw [World.cell?_alloc_mark, Nat.zero_add]; simpa using hj⟩⟩ (by simp [Value.oneCell']) (by rw [HK.out]; omega) (Below.refl _ _) (by have := HBr.out.size; simp; omega) ?_; intro v5 w5 hown5 hb5 hg5 ha5; have h5 : Hid (Below w3.heap.size w3 w5) := Lib.hid ((HBr.out.alloc HBr.out.size _).trans hb5); have ho5 : Hid (OFields w5 w3.heap.size v5 (lk ++ [⟨nk, none, 0, 0, []⟩])) := Lib.hid ((HO.out.alloc _).push ⟨nk, none, 0, 0, []⟩ (by show nk < 18446744073709551616; omega) (by simp) (World.ownsRow_nil _ _ _ _) hg5 hown5); clear hown5 hb5 hg5 ha5))
      go_roundw
      case rel => exact ⟨k + 1, lk ++ [⟨nk, none, 0, 0, []⟩], by omega, by go_num, ho5, Lib.hid (by rw [List.length_append, HK.out]; rfl), Lib.hid (by rw [HVS1.out, ← HVL.out]; simp [vals]), h5⟩
      case measure => simp [intOf]; omega
    · obtain rfl : k = 5 := by omega
      have hvl : vals lk = [(r, []), (b, []), (q, []), (c, []), (e, [])] := HVL.out
      obtain ⟨A5, c5, rfl, hrf⟩ := HO.out.read
      have HP := Lib.hid (codec_Pack superSh A5 lk.length c5 lk wr hrf)
      rw [super_pack r b q c e HBND.out.1 HBND.out.2.1 HBND.out.2.2.1 HBND.out.2.2.2.1 HBND.out.2.2.2.2 lk hvl] at HP
      have HBW := Lib.hid (bthen HBV.out HBr.out)
      have HXR := Lib.hid (HXV.out.below HBr.out)
      clear hvl hrf HNV HVS HVL HO
      go_wp2_with fail
      refine HP.out.mono ?_
      clear HP
      rintro e' w6 ⟨hb6, ⟨v6, o6, ho6, rfl, hown6⟩ | ⟨hno, -⟩⟩
      · injection ho6 with ho6
        subst ho6
        obtain ⟨A6, c6, rfl, hrb6⟩ := own_rb hown6
        rw [bodyL_length] at hrb6 ⊢
        have HR6 := Lib.hid hrb6; have HB6 := Lib.hid (bthen HBW.out hb6)
        have HX6 := Lib.hid (HXR.out.below hb6)
        have hx0 := HX6.out.cell 0 _ rfl
        clear hb6 hown6 hrb6
        go_wp2_with fail
        refine (seal_Make gen (by have := HGN.out; omega) A6 14 c6 (bodyL r b q c e) w6 HR6.out (by omega)).mono ?_
        have hmk : makeM gen (bodyL r b q c e) = some (sealL gen (bodyL r b q c e)) := by unfold makeM; rw [if_neg (by rw [bodyL_length]; have := HGN.out; omega)]
        rw [hmk]
        rintro e' w7 ⟨l7, e7, rfl, hl7, hb7, ⟨hs7, rfl⟩ | ⟨hno, -⟩⟩
        · injection hs7 with hs7
          have HL7 := Lib.hid hl7; have HS7 := Lib.hid hs7
          have HB7 := Lib.hid (balloc (bthen HB6.out hb7) (.cells (bv l7).toArray 32))
          have HX7 := Lib.hid ((HX6.out.below hb7).below (below_alloc w7 (.cells (bv l7).toArray 32)))
          have hy0 := HX7.out.cell 0 _ rfl
          have hld := run_ldSec (w := w7.alloc (.cells (bv l7).toArray 32)) (range_alloc w7 (bv l7) _ _) hl7
          have HD7 := Lib.hid (HD.out.below HB7.out)
          obtain ⟨m, hm⟩ : ∃ m : Nat, gen % 2 = m := ⟨_, rfl⟩
          have hmod : (gen : Int) % 2 = (m : Int) := by omega
          have HM := Lib.hid hm
          have hm2 : m < 2 := by omega
          have hm0 : (0 : Int) ≤ (m : Int) := Int.natCast_nonneg _
          have hwm : IntKind.i64.wrap (m : Int) = (m : Int) := by simp [IntKind.wrap, IntKind.signed, IntKind.bits]; omega
          clear hl7 hb7 hs7 hmk hx0 hm
          go_wp2_with (refine st37 rfl _ _ rfl _ _ rfl rfl l7 rfl HL7.out rfl ?_)
          refine (disk_Write_yes HD7.out (Nat.le_trans HBS.out HB7.out.size) m (by have := HLN.out; omega) l7 HL7.out (by rw [HLV.out.power]) (by have := HPL.out; omega)).mono ?_
          rintro e' w8 ⟨v8, rfl, hd8, hk8, hv8⟩
          rw [HLV.out.power] at hd8
          have HD8 := Lib.hid hd8; have HK8 := Lib.hid hk8; have HV8 := Lib.hid hv8
          have hlive8 : ({ d with pend := d.pend ++ [(m, l7)] } : Dk).live := HLV.out
          have HLV8 := Lib.hid hlive8
          clear hd8 hk8 hv8 hlive8 hld hy0
          go_wp2_with fail
          refine (disk_Flush_yes HD8.out (by rw [HLV8.out.power]) (by have := HPL.out; simp; omega)).mono ?_
          rintro e' w9 ⟨rfl, hd9, hk9⟩
          rw [HLV8.out.power] at hd9
          have HD9 := Lib.hid hd9; have HK9 := Lib.hid hk9
          clear hd9 hk9
          go_wp2_with fail
          go_ret
          refine ⟨_, rfl, HD9.out, HLV.out, rfl, applyW_length _ _, fun k => ?_, ?_⟩
          · rw [read_flushed _ k (fun x hx => (HD8.out.pin x hx).1), read_push, HM.out, HS7.out]
          · refine ((Kp.of_below (S := foot p s v) HB7.out).trans HK8.out (fun _ _ hf => hf)).trans HK9.out (fun i hi hf => ?_)
            rcases hf with hf | hf | hf
            · exact .inl hf
            · exact .inr (.inl hf)
            · rcases HV8.out with h1 | ⟨g, h1, h2⟩
              · exact .inr (.inr (h1 ▸ hf))
              · rw [h1] at hf
                injection hf with hf
                have := HB7.out.size
                omega
        · cases hno
      · cases hno
end Go.Proofs.Ytanibabfdpgbbaa
