/- The document's Read of a store's state. -/
import Derived.Test.YtanibabfdpgbbaaMg9
import Derived.Test.YtanibabfdpgbbaaMg12
import Derived.Test.YtanibabfdpgbbaaMg13
import Derived.Test.YtanibabfdpgbbaaMg3
import Derived.Deep.Cut
namespace Go.Proofs.Ytanibabfdpgbbaa
open Go.RowKit
attribute [local go_sem ↓] loadAt37

theorem head_ok {x : List UInt8} {k : Nat} (h : (headM x k).2 = true) : (headM x k).1.gen % 2 = k ∧ (headM x k).1.right := by
  unfold headM at h ⊢
  cases ho : openM x with
  | none => rw [ho] at h; cases h
  | some gb =>
    obtain ⟨gen, body⟩ := gb
    rw [ho] at h
    simp only at h ⊢
    cases hu : unpackM superSh body with
    | none => rw [hu] at h; cases h
    | some vs =>
      rw [hu] at h
      simp only at h ⊢
      by_cases hk : gen % 2 = k
      · rw [if_pos hk] at h ⊢
        exact ⟨hk, of_decide_eq_true h⟩
      · rw [if_neg hk] at h
        cases h
theorem readTo_found (rd : Nat → List UInt8) : ∀ k, (readTo rd k).2 = decide (0 < (readTo rd k).1.gen)
  | 0 => rfl
  | k + 1 => by
    have e : readTo rd (k + 1) = if (headM (rd k) k).2 = true ∧ (readTo rd k).1.gen ≤ (headM (rd k) k).1.gen then ((headM (rd k) k).1, true) else readTo rd k := rfl
    by_cases h : (headM (rd k) k).2 = true ∧ (readTo rd k).1.gen ≤ (headM (rd k) k).1.gen
    · rw [e, if_pos h]
      have h1 : 1 ≤ (headM (rd k) k).1.gen := (head_ok h.1).2.g1
      exact (decide_eq_true (show 0 < (headM (rd k) k).1.gen by omega)).symm
    · rw [e, if_neg h]
      exact readTo_found rd k
theorem readTo_mod (rd : Nat → List UInt8) : ∀ k, k ≤ 1 → (readTo rd k).1.gen = 0 ∨ (readTo rd k).1.gen % 2 = 0
  | 0, _ => .inl rfl
  | k + 1, h => by
    obtain rfl : k = 0 := by omega
    rw [readTo]
    split
    · rename_i h
      exact .inr (head_ok h.1).1
    · exact .inl rfl
/-- The step as the document has it: greater, not 'at least'. -/
theorem readTo_next (rd : Nat → List UInt8) (k : Nat) (hk : k < 2) : readTo rd (k + 1) = if (headM (rd k) k).2 = true ∧ (readTo rd k).1.gen < (headM (rd k) k).1.gen then ((headM (rd k) k).1, true) else readTo rd k := by
  rw [readTo]
  by_cases h : (headM (rd k) k).2 = true
  · have hm := readTo_mod rd k (by omega)
    obtain ⟨h1, h2⟩ := head_ok h
    have h3 := h2.g1
    have hiff : (readTo rd k).1.gen ≤ (headM (rd k) k).1.gen ↔ (readTo rd k).1.gen < (headM (rd k) k).1.gen := by
      constructor
      · intro hle
        by_cases hk0 : k = 0
        · subst hk0
          have : (readTo rd 0).1.gen = 0 := rfl
          omega
        · omega
      · intro h; omega
    simp only [h, hiff, true_and]
  · rw [if_neg (fun hh => h hh.1), if_neg (fun hh => h hh.1)]
theorem rfield_cell {w : World} {A : Option Addr} {n c : Nat} {l : List FieldD} (h : RFields w A n c l) (hn : 0 < n) : ∃ b o, A = some ⟨b, o, none⟩ ∧ ∀ k, k < n → w.cell? ⟨b, o + k * 2, none⟩ = some (.int .u64 ((fieldAt l k).num : Nat)) := by
  obtain ⟨b, o, e, hf⟩ := h.2.2.2 hn
  exact ⟨b, o, e, fun k hk => (hf k hk).1 0 _ rfl⟩
theorem wrap_i64 (n : Nat) (h : n < 4294967296) : IntKind.i64.wrap (n : Int) = (n : Int) := by simp [IntKind.wrap, IntKind.signed, IntKind.bits]; omega

def stSup (p x : Value) : Sem Unit := Instr.storeAt 24 p x
theorem storeAtSup (p x : Value) : Instr.storeAt 24 p x = stSup p x := rfl
theorem run_stSup {w : World} {g : Nat} {cs0 : List Value} (h : RowAt w g 24 cs0) (hl0 : cs0.length = 6) (cs : List Value) (h1 : ∀ u ∈ cs, u.oneCell' = true) (hl : cs.length = 6) : (stSup (.pointer (some ⟨g, 0, none⟩)) (.agg cs.toArray)).run Try.prog w = .ok () (w.setCells g 0 cs) := by
  have hth : w.there g 0 6 := by
    intro j hj
    rw [Nat.zero_add]
    exact ⟨by rw [h.cell j (cs0[j]'(by omega)) (List.getElem?_eq_getElem (by omega))]; rfl, frozen_of_row _ _ _ _ _ h⟩
  have := run_storeAt_mid (P := Try.prog) w g 0 24 cs.toArray (by simpa [hl] using hth) (Try.sizeSuper.trans (by simp [hl])) (all_oneCell_toArray h1)
  unfold stSup
  simpa using this
theorem setCells_drewW (g : Nat) : ∀ (cs : List Value) (o : Nat) (W : World), W.drew.setCells g o cs = (W.setCells g o cs).drew
  | [], _, _ => rfl
  | v :: r, o, W => by
    rw [World.setCells, World.setCells]
    exact setCells_drewW g r (o + 1) (W.setCell ⟨g, o, none⟩ v)
theorem stSup_new (w : World) (x0 x1 x2 x3 x4 x5 : Value) (h1 : ∀ u ∈ [x0, x1, x2, x3, x4, x5], u.oneCell' = true) :
    (stSup (.pointer (some ⟨w.heap.size, 0, none⟩)) (.agg #[x0, x1, x2, x3, x4, x5])).run Try.prog (w.alloc (.cells #[.int .u64 0, .int .i64 0, .int .i64 0, .int .i64 0, .int .i64 0, .int .i64 0] 24)).drew = .ok () (w.alloc (.cells #[x0, x1, x2, x3, x4, x5] 24)).drew := by
  have h := run_stSup (w := (w.alloc (.cells ([.int .u64 0, .int .i64 0, .int .i64 0, .int .i64 0, .int .i64 0, .int .i64 0] : List Value).toArray 24)).drew) ((RowAt.new w 24 [.int .u64 0, .int .i64 0, .int .i64 0, .int .i64 0, .int .i64 0, .int .i64 0]).below ((Below.refl _ _).drew)) rfl [x0, x1, x2, x3, x4, x5] h1 rfl
  rw [setCells_drewW] at h
  rcases setCells_alloc w 24 (0, 0) [x0, x1, x2, x3, x4, x5] ([.int .u64 0, .int .i64 0, .int .i64 0, .int .i64 0, .int .i64 0, .int .i64 0] : List Value).toArray 0 with e | e
  · rw [e] at h
    exact h
  · simp at e
attribute [local go_sem ↓] loadAtSup storeAtSup
set_option maxRecDepth 20000 in
set_option maxHeartbeats 6400000 in
theorem ref15_Read {w : World} {A : Option Addr} {c : Nat} {B : Option Addr} {kk : Nat} {d : Dk} (h : RDk w A c B kk d) (hpl : d.pend.length ≤ 1000) (hlen : 2 ≤ d.stable.length) :
    Calls Try.prog 17 #[.agg (rdC A c B kk d).toArray] w (ReadPost w (readTo d.read 2)) := by
  have HD := Lib.hid h; have HPL := Lib.hid hpl; have HLN := Lib.hid hlen
  have hrow0 := ((RowAt.new w 36 (rdC A c B kk d)).below (below_alloc _ (.cells ([.int .u64 0, .int .i64 0, .int .i64 0, .int .i64 0, .int .i64 0, .int .i64 0] : List Value).toArray 24))).below (below_alloc _ (.cells ([.int .u64 0, .int .i64 0, .int .i64 0, .int .i64 0, .int .i64 0, .int .i64 0] : List Value).toArray 24))
  have hz2 := (RowAt.new' (w.alloc (.cells (rdC A c B kk d).toArray 36)) 24 [.int .u64 0, .int .i64 0, .int .i64 0, .int .i64 0, .int .i64 0, .int .i64 0] (w.heap.size + 1) (by simp)).below (below_alloc _ (.cells ([.int .u64 0, .int .i64 0, .int .i64 0, .int .i64 0, .int .i64 0, .int .i64 0] : List Value).toArray 24))
  have hz4 := RowAt.new' ((w.alloc (.cells (rdC A c B kk d).toArray 36)).alloc (.cells ([.int .u64 0, .int .i64 0, .int .i64 0, .int .i64 0, .int .i64 0, .int .i64 0] : List Value).toArray 24)) 24 [.int .u64 0, .int .i64 0, .int .i64 0, .int .i64 0, .int .i64 0, .int .i64 0] (w.heap.size + 1 + 1) (by simp)
  have hbl := (below_alloc2 w (.cells (rdC A c B kk d).toArray 36) (.cells ([.int .u64 0, .int .i64 0, .int .i64 0, .int .i64 0, .int .i64 0, .int .i64 0] : List Value).toArray 24)).alloc (by simp; omega) (.cells ([.int .u64 0, .int .i64 0, .int .i64 0, .int .i64 0, .int .i64 0, .int .i64 0] : List Value).toArray 24)
  have HROW := Lib.hid hrow0; have HZ2 := Lib.hid hz2; have HZ4 := Lib.hid hz4; have HBL := Lib.hid hbl
  clear h hpl hlen hrow0 hz2 hz4 hbl
  go_enter Try.func17, Try.ntmps17
  go_wp2_with (refine stN 24 [.int .u64 0, .int .i64 0, .int .i64 0, .int .i64 0, .int .i64 0, .int .i64 0] rfl _ _ rfl _ _ rfl (by simp) rfl (by simp [Value.oneCell']) Try.sizeSuper rfl ?_)
  go_loopw [5] (fun i wr => ∃ k bg b1 b2 b3 b4 b5 fb, k ≤ 2 ∧ i = .int .i64 (k : Nat) ∧ Hid (readTo d.read k = (⟨bg, b1, b2, b3, b4, b5⟩, fb)) ∧ Hid (RowAt wr (w.heap.size + 1 + 1) 24 [.int .u64 (bg : Nat), .int .i64 b1, .int .i64 b2, .int .i64 b3, .int .i64 b4, .int .i64 b5]) ∧ Hid (RowAt wr (w.heap.size + 1) 24 [.int .u64 0, .int .i64 0, .int .i64 0, .int .i64 0, .int .i64 0, .int .i64 0]) ∧ Hid (RowAt wr w.heap.size 36 (rdC A c B kk d)) ∧ Hid (Below w.heap.size w wr)) (fun i _ => 2 - (intOf i).toNat)
  case atStart => exact ⟨0, 0, 0, 0, 0, 0, 0, false, by omega, rfl, Lib.hid rfl, HZ4, HZ2, HROW, HBL⟩
  case round =>
    clear HROW HZ2 HZ4 HBL
    obtain ⟨k, bg, b1, b2, b3, b4, b5, fb, hk, rfl, HM, HR4, HR2, HRW, HBr⟩ := hrel
    by_cases hlt : k < 2
    · have hk0 : (0 : Int) ≤ (k : Int) := Int.natCast_nonneg _
      have hk1 : (k : Int) < 2 := by omega
      have hwk : IntKind.u64.wrap (k : Int) = (k : Int) := wrap_u64 k (by omega)
      have hlx : (d.read k).length = 128 := lastW_len _ _ _ (HD.out.secL k (by have := HLN.out; omega)) (fun x hx => (HD.out.pin x hx).2)
      have HLX := Lib.hid hlx
      have hnx : readTo d.read (k + 1) = if (headM (d.read k) k).2 = true ∧ bg < (headM (d.read k) k).1.gen then ((headM (d.read k) k).1, true) else (⟨bg, b1, b2, b3, b4, b5⟩, fb) := by
        rw [readTo_next _ _ hlt, HM.out]
      have HNX := Lib.hid hnx
      have HRD := Lib.hid (ref_Read_yes (HD.out.below HBr.out) k (by have := HLN.out; omega) (by have := HPL.out; omega))
      clear hnx hlx
      generalize d.read k = x at *
      have skip : (headM x k).2 = false → readTo d.read (k + 1) = (⟨bg, b1, b2, b3, b4, b5⟩, fb) := fun e => by rw [HNX.out, if_neg (by rw [e]; simp)]
      have HSK := Lib.hid skip
      clear skip
      go_wp2_with (refine ldRD rfl _ rfl w.heap.size rfl HRW.out ?_)
      refine HRD.out.mono ?_
      clear HRD
      rintro e w2 ⟨rfl, hb2⟩
      have HB2 := Lib.hid (balloc (bthen HBr.out hb2) (.cells (bv x).toArray 32))
      have HR42 := Lib.hid ((HR4.out.below hb2).below (below_alloc w2 (.cells (bv x).toArray 32)))
      have HR22 := Lib.hid ((HR2.out.below hb2).below (below_alloc w2 (.cells (bv x).toArray 32)))
      have HRW2 := Lib.hid ((HRW.out.below hb2).below (below_alloc w2 (.cells (bv x).toArray 32)))
      have hld := run_ldSec (w := w2.alloc (.cells (bv x).toArray 32)) (range_alloc w2 (bv x) _ _) HLX.out
      clear hb2
      go_wp2_with (refine st37 rfl _ _ rfl _ _ rfl rfl x rfl HLX.out rfl ?_)
      generalize hw3 : w2.alloc (.cells (bv x).toArray 32) = w3 at *
      clear hw3
      refine (ref05_Open x HLX.out w3).mono ?_
      rintro e w4 ⟨mk, A4, m4, c4, o4, rfl, hb4, hcase⟩
      have HB4 := Lib.hid (bthen HB2.out hb4); have HR44 := Lib.hid (HR42.out.below hb4); have HR24 := Lib.hid (HR22.out.below hb4); have HRW4 := Lib.hid (HRW2.out.below hb4)
      rcases hcase with ⟨body, ho, rfl, hrb⟩ | ⟨hno, rfl, rfl, rfl, rfl, rfl⟩
      · have HO := Lib.hid ho; have HRB := Lib.hid hrb
        clear hb4 ho hrb hld
        go_wp2_with fail
        refine (ref02_Unpack superSh A4 m4 c4 body w4 HRB.out).mono ?_
        rintro e w5 ⟨hb5, hcase5⟩
        have HB5 := Lib.hid (bthen HB4.out hb5); have HR45 := Lib.hid (HR44.out.below hb5); have HR25 := Lib.hid (HR24.out.below hb5); have HRW5 := Lib.hid (HRW4.out.below hb5)
        rcases hcase5 with ⟨v5, lk, ho5, rfl, hof⟩ | ⟨ho5, rfl⟩
        · obtain ⟨A5, c5, rfl, hrf⟩ := hof.read
          have HF5 := Lib.hid hrf; have HO5 := Lib.hid ho5
          clear hb5 hof hrf ho5
          by_cases hpar : mk % 2 = k
          · have hq : ((mk : Int) % 2 != (k : Int)) = false := by rw [show (mk : Int) % 2 = (k : Int) by omega]; simp
            have HM5 : Hid (headM x k = (sdOf mk (vals lk), decide (sdOf mk (vals lk)).right)) := Lib.hid (by unfold headM; rw [HO.out]; simp only; rw [HO5.out]; simp only; rw [if_pos hpar])
            clear hpar
            have hnum := super_nums HO5.out
            have hl5 : lk.length = 5 := by have := hnum.1; simpa [vals] using this
            have hsm : ∀ i, i < 5 → (fieldAt lk i).num < 4294967296 := fun i hi => by
              have := hnum.2 ((fieldAt lk i).num, (fieldAt lk i).bytes) (by
                rw [fieldAt_get (by omega)]
                exact List.mem_map.2 ⟨_, List.getElem_mem _, rfl⟩)
              exact this
            have hsd : sdOf mk (vals lk) = ⟨mk, (fieldAt lk 0).num, (fieldAt lk 1).num, (fieldAt lk 2).num, (fieldAt lk 3).num, (fieldAt lk 4).num⟩ := by
              unfold sdOf
              rw [numAt_vals (by omega), numAt_vals (by omega), numAt_vals (by omega), numAt_vals (by omega), numAt_vals (by omega)]
            rw [hsd] at HM5
            obtain ⟨bf, of_, rfl, hcells⟩ := rfield_cell HF5.out (by omega)
            have f0 := hcells 0 (by omega)
            have f1 := hcells 1 (by omega)
            have f2 := hcells 2 (by omega)
            have f3 := hcells 3 (by omega)
            have f4 := hcells 4 (by omega)
            have w0 := wrap_i64 _ (hsm 0 (by omega))
            have w1 := wrap_i64 _ (hsm 1 (by omega))
            have w2' := wrap_i64 _ (hsm 2 (by omega))
            have w3' := wrap_i64 _ (hsm 3 (by omega))
            have w4' := wrap_i64 _ (hsm 4 (by omega))
            simp only [Nat.zero_mul, Nat.one_mul, Nat.add_zero, Nat.reduceMul] at f0 f1 f2 f3 f4
            rw [hl5]
            clear hnum hsm hsd hcells hl5
            generalize (fieldAt lk 0).num = n0 at *
            generalize (fieldAt lk 1).num = n1 at *
            generalize (fieldAt lk 2).num = n2 at *
            generalize (fieldAt lk 3).num = n3 at *
            generalize (fieldAt lk 4).num = n4 at *
            have HR46 := Lib.hid ((HR45.out.below (below_alloc w5 (.cells ([.int .u64 (mk : Nat), .int .i64 n0, .int .i64 n1, .int .i64 n2, .int .i64 n3, .int .i64 n4] : List Value).toArray 24))).below ((Below.refl _ _).drew))
            have HR26 := Lib.hid ((HR25.out.below (below_alloc w5 (.cells ([.int .u64 (mk : Nat), .int .i64 n0, .int .i64 n1, .int .i64 n2, .int .i64 n3, .int .i64 n4] : List Value).toArray 24))).below ((Below.refl _ _).drew))
            have HRW6 := Lib.hid ((HRW5.out.below (below_alloc w5 (.cells ([.int .u64 (mk : Nat), .int .i64 n0, .int .i64 n1, .int .i64 n2, .int .i64 n3, .int .i64 n4] : List Value).toArray 24))).below ((Below.refl _ _).drew))
            have HB6 := Lib.hid (bthen (balloc HB5.out (.cells ([.int .u64 (mk : Nat), .int .i64 n0, .int .i64 n1, .int .i64 n2, .int .i64 n3, .int .i64 n4] : List Value).toArray 24)) ((Below.refl _ _).drew))
            have HS6 := Lib.hid ((RowAt.new w5 24 [.int .u64 (mk : Nat), .int .i64 n0, .int .i64 n1, .int .i64 n2, .int .i64 n3, .int .i64 n4]).below ((Below.refl _ _).drew))
            have hst9 := stSup_new w5 (.int .u64 (mk : Nat)) (.int .i64 n0) (.int .i64 n1) (.int .i64 n2) (.int .i64 n3) (.int .i64 n4) (by simp [Value.oneCell'])
            go_wp2_with fail
            go_region_held3 (fun w' => w'.cell? ⟨bf, of_, none⟩ = some (.int .u64 (n0 : Nat)) ∧ w'.cell? ⟨bf, of_ + 2, none⟩ = some (.int .u64 (n1 : Nat)) ∧ w'.cell? ⟨bf, of_ + 4, none⟩ = some (.int .u64 (n2 : Nat)) ∧ w'.cell? ⟨bf, of_ + 6, none⟩ = some (.int .u64 (n3 : Nat)) ∧ w'.cell? ⟨bf, of_ + 8, none⟩ = some (.int .u64 (n4 : Nat))) (go_keep) (fail)
            clear f0 f1 f2 f3 f4 w0 w1 w2' w3' w4' hst9
            have hgne : w.heap.size + 1 + 1 ≠ w5.heap.size ∧ w.heap.size + 1 ≠ w5.heap.size ∧ w.heap.size ≠ w5.heap.size := by have := lt_of_heap HR45.out; omega
            generalize hwx : (w5.alloc (.cells ([.int .u64 (mk : Nat), .int .i64 n0, .int .i64 n1, .int .i64 n2, .int .i64 n3, .int .i64 n4] : List Value).toArray 24)).drew = wx at *
            clear hwx
            generalize hgx : w5.heap.size = gx at *
            clear hgx
            go_wp2_with (refine ldN 24 [.int .u64 (mk : Nat), .int .i64 n0, .int .i64 n1, .int .i64 n2, .int .i64 n3, .int .i64 n4] rfl _ rfl gx 0 rfl HS6.out.range Try.underlying24 rfl Try.sizeSuper ?_)
            refine (ref15_Right ⟨mk, n0, n1, n2, n3, n4⟩ wx).mono ?_
            by_cases hright : (⟨mk, n0, n1, n2, n3, n4⟩ : SD).right
            · rw [decide_eq_true hright] at HM5 ⊢
              rintro e w9 ⟨rfl, hb9⟩
              have HR49 := Lib.hid (HR46.out.below hb9); have HR29 := Lib.hid (HR26.out.below hb9); have HRW9 := Lib.hid (HRW6.out.below hb9); have HB9 := Lib.hid (bthen HB6.out hb9); have HS9 := Lib.hid (HS6.out.below hb9)
              have c13 := HS9.out.cell 0 _ rfl
              have c14 := HR49.out.cell 0 _ rfl
              clear hb9 hright
              by_cases hgt : bg < mk
              · have hd1 : decide (bg < mk) = true := decide_eq_true hgt
                have hd2 : decide ((bg : Int) < (mk : Int)) = true := decide_eq_true (by omega)
                have HN : Hid (readTo d.read (k + 1) = (⟨mk, n0, n1, n2, n3, n4⟩, true)) := Lib.hid (by rw [HNX.out, HM5.out, if_pos ⟨rfl, hgt⟩])
                clear hgt
                go_wp2_with (first
                  | (refine ldN 24 [.int .u64 (mk : Nat), .int .i64 n0, .int .i64 n1, .int .i64 n2, .int .i64 n3, .int .i64 n4] rfl _ rfl gx 0 rfl HS9.out.range Try.underlying24 rfl Try.sizeSuper ?_)
                  | (refine stN_at 24 [.int .u64 (mk : Nat), .int .i64 n0, .int .i64 n1, .int .i64 n2, .int .i64 n3, .int .i64 n4] [.int .u64 (bg : Nat), .int .i64 b1, .int .i64 b2, .int .i64 b3, .int .i64 b4, .int .i64 b5] rfl _ _ rfl (w.heap.size + 1 + 1) rfl HR49.out rfl (by simp [Value.oneCell']) Try.sizeSuper rfl ?_; intro w10 hs10 hk10; have HS10 := Lib.hid hs10; have HK10 := Lib.hid hk10; clear hs10 hk10))
                go_roundw
                case rel => exact ⟨k + 1, mk, n0, n1, n2, n3, n4, true, by omega, by go_num, HN, HS10, Lib.hid (HR29.out.kp HK10.out (by omega)), Lib.hid (HRW9.out.kp HK10.out (by omega)), Lib.hid (HB9.out.trans (kp_one HB9.out.size HK10.out (by omega)))⟩
                case measure => simp [intOf]; omega
              · have hd1 : decide (bg < mk) = false := decide_eq_false hgt
                have hd2 : decide ((bg : Int) < (mk : Int)) = false := decide_eq_false (by omega)
                have HN : Hid (readTo d.read (k + 1) = (⟨bg, b1, b2, b3, b4, b5⟩, fb)) := Lib.hid (by rw [HNX.out, HM5.out, if_neg (fun h => hgt h.2)])
                clear hgt
                go_wp2_with fail
                go_roundw
                case rel => exact ⟨k + 1, bg, b1, b2, b3, b4, b5, fb, by omega, by go_num, HN, HR49, HR29, HRW9, HB9⟩
                case measure => simp [intOf]; omega
            · rw [decide_eq_false hright] at HM5 ⊢
              rintro e w9 ⟨rfl, hb9⟩
              have HR49 := Lib.hid (HR46.out.below hb9); have HR29 := Lib.hid (HR26.out.below hb9); have HRW9 := Lib.hid (HRW6.out.below hb9); have HB9 := Lib.hid (bthen HB6.out hb9)
              have HN := Lib.hid (HSK.out (by rw [HM5.out]))
              clear hb9 hright
              go_wp2_with fail
              go_roundw
              case rel => exact ⟨k + 1, bg, b1, b2, b3, b4, b5, fb, by omega, by go_num, HN, HR49, HR29, HRW9, HB9⟩
              case measure => simp [intOf]; omega
          · have hq : ((mk : Int) % 2 != (k : Int)) = true := by rw [bne_iff_ne]; omega
            have HN := Lib.hid (HSK.out (by unfold headM; rw [HO.out]; simp only; rw [HO5.out]; simp only; rw [if_neg hpar]))
            clear hpar
            go_wp2_with fail
            go_roundw
            case rel => exact ⟨k + 1, bg, b1, b2, b3, b4, b5, fb, by omega, by go_num, HN, HR45, HR25, HRW5, HB5⟩
            case measure => simp [intOf]; omega
        · have HN := Lib.hid (HSK.out (by unfold headM; rw [HO.out]; simp only; rw [ho5]))
          clear ho5 hb5
          go_wp2_with fail
          go_roundw
          case rel => exact ⟨k + 1, bg, b1, b2, b3, b4, b5, fb, by omega, by go_num, HN, HR45, HR25, HRW5, HB5⟩
          case measure => simp [intOf]; omega
      · have HN := Lib.hid (HSK.out (by unfold headM; rw [hno]))
        clear hb4 hno hld
        go_wp2_with fail
        have hu := ref02_Unpack superSh none 0 0 [] w4 (RB.nil w4)
        rw [show unpackM superSh [] = none from by decide] at hu
        refine hu.mono ?_
        clear hu
        rintro e w5 ⟨hb5, ⟨v5, lk, ho5, -⟩ | ⟨-, rfl⟩⟩
        · cases ho5
        · have HB5 := Lib.hid (bthen HB4.out hb5); have HR45 := Lib.hid (HR44.out.below hb5); have HR25 := Lib.hid (HR24.out.below hb5); have HRW5 := Lib.hid (HRW4.out.below hb5)
          clear hb5
          go_wp2_with fail
          go_roundw
          case rel => exact ⟨k + 1, bg, b1, b2, b3, b4, b5, fb, by omega, by go_num, HN, HR45, HR25, HRW5, HB5⟩
          case measure => simp [intOf]; omega
    · obtain rfl : k = 2 := by omega
      have hfound := readTo_found d.read 2
      rw [HM.out] at hfound
      have HFD := Lib.hid hfound
      have hR4 := HR4.out.below ((Below.refl _ _).drew)
      have hR2 := HR2.out.below ((Below.refl _ _).drew)
      have x0 := hR4.cell 0 _ rfl
      have hld := run_ldSup hR4 rfl
      have hst := run_stSup hR2 rfl [.int .u64 (bg : Nat), .int .i64 b1, .int .i64 b2, .int .i64 b3, .int .i64 b4, .int .i64 b5] (by simp [Value.oneCell']) rfl
      have hfin := setCells_heap (w.heap.size + 1) 24 [.int .u64 (bg : Nat), .int .i64 b1, .int .i64 b2, .int .i64 b3, .int .i64 b4, .int .i64 b5] ([.int .u64 0, .int .i64 0, .int .i64 0, .int .i64 0, .int .i64 0, .int .i64 0] : List Value).toArray 0 wr.drew hR2 (by simp)
      have hrow : RowAt (wr.drew.setCells (w.heap.size + 1) 0 [.int .u64 (bg : Nat), .int .i64 b1, .int .i64 b2, .int .i64 b3, .int .i64 b4, .int .i64 b5]) (w.heap.size + 1) 24 [.int .u64 (bg : Nat), .int .i64 b1, .int .i64 b2, .int .i64 b3, .int .i64 b4, .int .i64 b5] := hfin.1
      have x0s := (hR4.kp hfin.2 (show ¬ (w.heap.size + 1 + 1 = w.heap.size + 1) by omega)).cell 0 _ rfl
      have hb8 := bthen HBr.out ((Below.refl _ _).drew)
      have HROW := Lib.hid hrow
      have HBF := Lib.hid (hb8.trans (kp_one hb8.size hfin.2 (by omega)))
      clear hfound hR4 hR2 hfin hrow hb8
      go_wp2_with fail
      go_region_law (fail)
      all_goals
        go_wp2_with fail
        (try simp only [Exit.inBlock, Exit.then])
        refine bodyPost_ret (res_row_tmp rfl _ _ (w.heap.size + 1) 0 [.int .u64 (bg : Nat), .int .i64 b1, .int .i64 b2, .int .i64 b3, .int .i64 b4, .int .i64 b5] _ (.bool (decide (0 < bg))) rfl rfl HROW.out.range Try.underlying24 rfl Try.sizeSuper) rfl ?_
        exact ⟨by rw [HM.out, HFD.out]; rfl, HBF.out⟩
end Go.Proofs.Ytanibabfdpgbbaa

/- Two sectors as one value: built, and asked for. -/
namespace Go.Proofs.Ytanibabfdpgbbaa
open Go.RowKit

/-- Two sectors as a value (a name that the walk leaves alone). -/
def pairV (a b : List UInt8) : Value := .agg (bv a ++ bv b).toArray
def bld2 (parts : Array (Nat × Value)) : Sem Value := Instr.build 38 parts
theorem build2 (parts : Array (Nat × Value)) : Instr.build 38 parts = bld2 parts := rfl
def idx2 (x i : Value) : Sem Value := Instr.index 38 x i
theorem index2 (x i : Value) : Instr.index 38 x i = idx2 x i := rfl
set_option maxRecDepth 20000 in
theorem run_bld2 (w : World) (a b : List UInt8) (ha : a.length = 128) (hb : b.length = 128) : (bld2 #[(0, secV a), (1, secV b)]).run Try.prog w = .ok (pairV a b) w := by
  have h1 : (bv a).length = 128 := by rw [bv_length, ha]
  have h2 : (bv b).length = 128 := by rw [bv_length, hb]
  obtain ⟨z, hzz⟩ : ∃ z : Array Value, z = (List.replicate 256 (.int .u8 0) : List Value).toArray := ⟨_, rfl⟩
  have hz : (zeroValue 38).run Try.prog w = .ok (.agg z) w := by
    have h : Try.t38.zero = some (.agg (List.replicate 256 (.int .u8 0) : List Value).toArray) := by kernel_rfl
    unfold zeroValue
    simp [go_sem, h, hzz]
  have hs : z.size = 256 := by rw [hzz]; simp
  have e1 : (bv a).zipIdx.foldl (fun cs x => cs.setIfInBounds x.2 x.1) z = (splice z.toList 0 (bv a)).toArray := by
    have e := fold_set (bv a) z 0 0
    simp only [Nat.zero_add] at e
    rcases e with e | e
    · exact e
    · omega
  have e3 : splice z.toList 0 (bv a) = bv a ++ z.toList.drop 128 := by simp [splice, h1]
  rw [e3] at e1
  have e2 : (bv b).zipIdx.foldl (fun cs x => cs.setIfInBounds (128 + x.2) x.1) (bv a ++ z.toList.drop 128).toArray = (bv a ++ bv b).toArray := by
    rcases fold_set (bv b) (bv a ++ z.toList.drop 128).toArray 128 0 with e | e
    · rw [e]
      rw [List.toList_toArray]
      unfold splice
      rw [show 128 + 0 = (bv a).length by rw [h1], List.take_left, h2, h1, List.drop_eq_nil_of_le (by simp [h1, hs])]
      simp
    · simp [h1, h2, hs] at e
  unfold bld2 secV
  simp [go_sem, h1, h2, hz, hs, e1, e2, pairV]
set_option maxRecDepth 20000 in
theorem run_idx2_0 (w : World) (a b : List UInt8) (ha : a.length = 128) (_hb : b.length = 128) : (idx2 (pairV a b) (.int .i64 0)).run Try.prog w = .ok (secV a) w := by
  have h1 : (bv a).length = 128 := by rw [bv_length, ha]
  unfold idx2 pairV secV Instr.index
  simp [go_sem, h1]
set_option maxRecDepth 20000 in
theorem run_idx2_1 (w : World) (a b : List UInt8) (ha : a.length = 128) (hb : b.length = 128) : (idx2 (pairV a b) (.int .i64 1)).run Try.prog w = .ok (secV b) w := by
  have h1 : (bv a).length = 128 := by rw [bv_length, ha]
  have h2 : (bv b).length = 128 := by rw [bv_length, hb]
  unfold idx2 pairV secV Instr.index
  simp [go_sem, h1]
  exact List.take_of_length_le (by omega)
end Go.Proofs.Ytanibabfdpgbbaa

/- The disk and the document's disk side by side. -/
namespace Go.Proofs.Ytanibabfdpgbbaa
open Go.RowKit

/-- What a function of the document leaves: the disk d' as a value, its rows as they were or in new memory. -/
def RefPost (F : Value → Value) (w : World) (A B : Option Addr) (d' : Dk) (e : Ending) (w' : World) : Prop :=
  ∃ A' c' B' k', e = .returned (F (.agg (rdC A' c' B' k' d').toArray)) ∧ RDk w' A' c' B' k' d' ∧ Below w.heap.size w w' ∧ (A' = A ∨ FrA w w' A') ∧ (B' = B ∨ FrA w w' B')
def withErr (err : Int) (x : Value) : Value := .tuple #[x, .int .i64 err]
def justIt (x : Value) : Value := x
section
variable {w : World} {d : Dk}
theorem RDk.fuel {A : Option Addr} {c : Nat} {B : Option Addr} {k : Nat} (h : RDk w A c B k d) (f : Int) (hf : -1 ≤ f ∧ f ≤ 9223372036854775807) : RDk w A c B k { d with fuel := f } :=
  ⟨h.sec, h.pen, h.nc, h.cm, h.pk, h.km, h.len, h.wid, h.pin, hf⟩
theorem pair_break (i : Int) (hi : i ≤ 9223372036854775807) (w' : World) {A : Option Addr} {c : Nat} {B : Option Addr} {k : Nat} (hr : RDk w' A c B k d) :
    Calls Try.prog 21 #[.agg (rdC A c B k d).toArray, .int .i64 i] w' (RefPost justIt w' A B { d with fuel := max i (-1) }) :=
  (ref_Break i w').mono fun _ _ ⟨he, hb⟩ => ⟨A, c, B, k, he, (hr.below hb).fuel _ (by omega), hb, .inl rfl, .inl rfl⟩
theorem pair_crash (hpl : d.pend.length ≤ 1000000) (K : Option Addr) (nk ck : Nat) (keep : List Bool) (torn cut : Int) (w' : World) {A : Option Addr} {c : Nat} {B : Option Addr} {k : Nat} (hr : RDk w' A c B k d) (hk : RBl w' K nk ck keep) :
    Calls Try.prog 24 #[.agg (rdC A c B k d).toArray, .slice K nk ck, .int .i64 torn, .int .i64 cut] w' (RefPost justIt w' A B (d.crashed keep torn cut)) :=
  (ref_Crash hr hpl K nk ck keep hk torn cut).mono fun _ _ ⟨A', c', he, h1, h2, h3⟩ => ⟨A', c', none, 0, he, h1, h2, .inr h3, .inr (FrA.none _ _)⟩
end

/-- A slice lies in blocks that are there, and are not the disk's. -/
def ApB (w : World) (p s : Nat) (v : Value) (A : Option Addr) : Prop := ∀ b o, A = some ⟨b, o, none⟩ → b < w.heap.size ∧ ¬ foot p s v b
theorem ApB.up {w w' : World} {p s : Nat} {v v' : Value} {A : Option Addr} (h : ApB w p s v A) (hs : w.heap.size ≤ w'.heap.size) (hv : ∀ g, v'.ownBlock = some g → v.ownBlock = some g ∨ w.heap.size ≤ g) : ApB w' p s v' A := fun b o e => by
  obtain ⟨h1, h2⟩ := h b o e
  refine ⟨Nat.lt_of_lt_of_le h1 hs, ?_⟩
  rintro (hf | hf | hf)
  · exact h2 (.inl hf)
  · exact h2 (.inr (.inl hf))
  · rcases hv b hf with hf | hf
    · exact h2 (.inr (.inr hf))
    · omega
theorem ApB.new {w w' : World} {base p s : Nat} {v : Value} {d : Dk} (h : DiskAt w base p s v d) {A : Option Addr} (hA : FrA w w' A) : ApB w' p s v A := fun b o e => by
  obtain ⟨h1, h2⟩ := hA b o e
  exact ⟨h2, fun hf => by have := h.foot_lt b hf; omega⟩
theorem foot_not {w : World} {base p s g : Nat} {v : Value} {d : Dk} {t : TypeId} {cs : List Value} (h : DiskAt w base p s v d) (hg : RowAt w g t cs) (h1 : 64 ≠ t) (h2 : 32 ≠ t) (h3 : 68 ≠ t) : ¬ foot p s v g := by
  rintro (rfl | rfl | e)
  · exact ne_of_types h.obj hg h1 rfl
  · exact ne_of_types h.sta hg h2 rfl
  · exact own_ne h.pen hg h3 e
/-- The disk and the document's one side by side: the same data, in blocks apart. -/
structure Two (w1 wr : World) (p s g : Nat) (v : Value) (A : Option Addr) (c : Nat) (B : Option Addr) (k : Nat) (d : Dk) : Prop where
  disk : DiskAt wr w1.heap.size p s v d
  row : RowAt wr g 36 (rdC A c B k d)
  rd : RDk wr A c B k d
  apA : ApB wr p s v A
  apB : ApB wr p s v B
  gA : ∀ b o, A = some ⟨b, o, none⟩ → b ≠ g
  gB : ∀ b o, B = some ⟨b, o, none⟩ → b ≠ g
  bl : Below w1.heap.size w1 wr
section
variable {w1 wr w' : World} {p s g : Nat} {v v' : Value} {A : Option Addr} {c : Nat} {B : Option Addr} {k : Nat} {d d' : Dk}
theorem Two.notFoot (h : Two w1 wr p s g v A c B k d) : ¬ foot p s v g := foot_not h.disk h.row (by decide) (by decide) (by decide)
theorem Two.below (h : Two w1 wr p s g v A c B k d) (hb : Below wr.heap.size wr w') : Two w1 w' p s g v A c B k d :=
  ⟨h.disk.below hb, h.row.below hb, h.rd.below hb, h.apA.up hb.size (fun _ e => .inl e), h.apB.up hb.size (fun _ e => .inl e), h.gA, h.gB, bthen h.bl hb⟩
/-- A box of its own is written. -/
theorem Two.box (h : Two w1 wr p s g v A c B k d) {q : Nat} (hk : Kp (· = q) wr w') (hq : w1.heap.size ≤ q) (hf : ¬ foot p s v q) (hg : q ≠ g) (hA : ∀ b o, A = some ⟨b, o, none⟩ → b ≠ q) (hB : ∀ b o, B = some ⟨b, o, none⟩ → b ≠ q) : Two w1 w' p s g v A c B k d :=
  ⟨h.disk.kept hk (fun i hi e => by subst e; exact hf hi), h.row.kp hk (fun e => hg e.symm), h.rd.kpF hk hA hB, h.apA.up hk.size (fun _ e => .inl e), h.apB.up hk.size (fun _ e => .inl e), h.gA, h.gB, h.bl.trans (kp_one h.bl.size hk hq)⟩
theorem Two.ltA (h : Two w1 wr p s g v A c B k d) : (∀ b o, A = some ⟨b, o, none⟩ → b < wr.heap.size) ∧ (∀ b o, B = some ⟨b, o, none⟩ → b < wr.heap.size) := ⟨fun b o e => (h.apA b o e).1, fun b o e => (h.apB b o e).1⟩
/-- What was done to the disk alone: the document's is still the elder one. -/
structure Half (w1 wr : World) (p s g : Nat) (v : Value) (A : Option Addr) (c : Nat) (B : Option Addr) (k : Nat) (d d' : Dk) : Prop where
  disk : DiskAt wr w1.heap.size p s v d'
  row : RowAt wr g 36 (rdC A c B k d)
  rd : RDk wr A c B k d
  apA : ApB wr p s v A
  apB : ApB wr p s v B
  gA : ∀ b o, A = some ⟨b, o, none⟩ → b ≠ g
  gB : ∀ b o, B = some ⟨b, o, none⟩ → b ≠ g
  bl : Below w1.heap.size w1 wr
theorem Two.acted (h : Two w1 wr p s g v A c B k d) (hd : DiskAt w' w1.heap.size p s v' d') (hk : Kp (foot p s v) wr w') (hv : ∀ q, v'.ownBlock = some q → v.ownBlock = some q ∨ wr.heap.size ≤ q) : Half w1 w' p s g v' A c B k d d' :=
  ⟨hd, h.row.kp hk h.notFoot, h.rd.kpF hk (fun b o e => (h.apA b o e).2) (fun b o e => (h.apB b o e).2), h.apA.up hk.size hv, h.apB.up hk.size hv, h.gA, h.gB, h.bl.trans (hk.below h.bl.size (fun i hi => h.disk.foot_base i hi))⟩
theorem Half.notFoot (h : Half w1 wr p s g v A c B k d d') : ¬ foot p s v g := foot_not h.disk h.row (by decide) (by decide) (by decide)
theorem Half.box (h : Half w1 wr p s g v A c B k d d') {q : Nat} (hk : Kp (· = q) wr w') (hq : w1.heap.size ≤ q) (hf : ¬ foot p s v q) (hg : q ≠ g) (hA : ∀ b o, A = some ⟨b, o, none⟩ → b ≠ q) (hB : ∀ b o, B = some ⟨b, o, none⟩ → b ≠ q) : Half w1 w' p s g v A c B k d d' :=
  ⟨h.disk.kept hk (fun i hi e => by subst e; exact hf hi), h.row.kp hk (fun e => hg e.symm), h.rd.kpF hk hA hB, h.apA.up hk.size (fun _ e => .inl e), h.apB.up hk.size (fun _ e => .inl e), h.gA, h.gB, h.bl.trans (kp_one h.bl.size hk hq)⟩
/-- The document's disk has done the same: its new value will be stored. -/
theorem Half.done (h : Half w1 wr p s g v A c B k d d') {A' : Option Addr} {c' : Nat} {B' : Option Addr} {k' : Nat} {w2 : World} (hr : RDk w' A' c' B' k' d') (hb : Below wr.heap.size wr w') (hA : A' = A ∨ FrA wr w' A') (hB : B' = B ∨ FrA wr w' B') (hk : Kp (· = g) w' w2) (hrow : RowAt w2 g 36 (rdC A' c' B' k' d')) (hg : w1.heap.size ≤ g) : Two w1 w2 p s g v A' c' B' k' d' := by
  have hd := h.disk.below hb
  have hnf : ¬ foot p s v g := h.notFoot
  have ap : ∀ {A A' : Option Addr}, ApB wr p s v A → (A' = A ∨ FrA wr w' A') → ApB w2 p s v A' := fun h0 h1 => by
    rcases h1 with rfl | h1
    · exact h0.up (Nat.le_trans hb.size hk.size) (fun _ e => .inl e)
    · exact (ApB.new h.disk h1).up hk.size (fun _ e => .inl e)
  have hbl := bthen h.bl hb
  have hlt : g < wr.heap.size := lt_of_heap h.row
  have hAg : ∀ b o, A' = some ⟨b, o, none⟩ → b ≠ g := fun b o e => by
    rcases hA with rfl | hA
    · exact h.gA b o e
    · have := (hA b o e).1
      omega
  have hBg : ∀ b o, B' = some ⟨b, o, none⟩ → b ≠ g := fun b o e => by
    rcases hB with rfl | hB
    · exact h.gB b o e
    · have := (hB b o e).1
      omega
  exact ⟨hd.kept hk (fun i hi e => by subst e; exact hnf hi), hrow, hr.kpF hk hAg hBg, ap h.apA hA, ap h.apB hB, hAg, hBg, hbl.trans (kp_one hbl.size hk hg)⟩
theorem Two.start {w2 w3 : World} {n : Int} (hd : DiskAt w2 w1.heap.size p s (.slice none 0 0) (newDk n)) (hb0 : Below w1.heap.size w1 w2) (hr3 : RDk w3 A c none 0 (newDk n)) (hb3 : Below w2.heap.size w2 w3) (hf3 : FrA w2 w3 A) :
    Two w1 (w3.alloc (.cells (rdC A c none 0 (newDk n)).toArray 36)) p s w3.heap.size (.slice none 0 0) A c none 0 (newDk n) :=
  ⟨(hd.below hb3).below (below_alloc _ _), RowAt.new w3 _ _, hr3.below (below_alloc _ _), (ApB.new hd hf3).up (by simp) (fun _ e => .inl e), (fun b o e => by cases e), (fun b o e => by have := (hf3 b o e).2; omega), (fun b o e => by cases e), balloc (hb0.trans (hb3.mono hb0.size)) _⟩
end
end Go.Proofs.Ytanibabfdpgbbaa

/- Sectors, numbers and pairs that came in. -/
namespace Go.Proofs.Ytanibabfdpgbbaa
open Go.ChangeShapes Go.WideShapes Go.ChangeAt Go.RowKit
set_option maxRecDepth 100000

/-- A number of 64 bits that came in. -/
theorem open_u64 {H : Type} {enc : TypeId × Value → H} {P : Program} {W : World} {base : Nat} {t : TypeId} {v : Value} {d : DataW H} {p : List MemPlace} (hu : P.underlying t = some (.int .u64)) (o : Value.okWide P W .any base t v) (r : DataW.Trod enc P W 0 (fun _ => true) true t v d p) : ∃ x : Nat, v = .int .u64 (x : Int) ∧ x < 18446744073709551616 := by
  obtain ⟨x, rfl, _, _, wx⟩ := open_int hu o r
  have hb : 0 ≤ x ∧ x ≤ 18446744073709551615 := by simpa [Lit.wf, IntKind.min, IntKind.max, IntKind.signed, IntKind.bits] using wx
  obtain ⟨k, rfl⟩ := Int.eq_ofNat_of_zero_le hb.1
  exact ⟨k, rfl, by omega⟩
section
variable {H : Type} {enc : TypeId × Value → H} {W : World} {base : Nat} {v : Value} {d : DataW H} {p : List MemPlace}
/-- A sector that came in. -/
theorem open_sector (o : Value.okWide Try.prog W .any base 32 v) (r : DataW.Trod enc Try.prog W 0 (fun _ => true) true 32 v d p) : ∃ l, v = secV l ∧ l.length = 128 := by
  have hct : Try.prog.cellsOf 32 = 128 := by kernel_rfl
  have hc : Try.prog.cellsOf 5 = 1 := by kernel_rfl
  obtain ⟨cs, rfl⟩ : ∃ cs, v = .agg cs := by
    simp only [Value.okWide, Try.underlying32] at o
    obtain ⟨cs, h1, _⟩ := o
    exact ⟨cs, h1⟩
  obtain ⟨fuel, hf⟩ := r
  obtain ⟨l, h1, h2⟩ := trod_bytes Try.underlying32 Try.underlying5 hc hct hf
  refine ⟨l, ?_, h2⟩
  unfold secV
  rw [← h1]
  rfl
end
end Go.Proofs.Ytanibabfdpgbbaa

/- The walk of SuperReads. -/
namespace Go.Proofs.Ytanibabfdpgbbaa
open Go.RowKit
attribute [local go_sem ↓] loadAt37 build2 index2

def ReadsI (w1 wr : World) (p s g k : Nat) : Prop := ∃ v A c B kk d, Two w1 wr p s g v A c B kk d ∧ d.live ∧ d.pend.length = k ∧ d.stable.length = 2
set_option maxRecDepth 20000 in
set_option maxHeartbeats 6400000 in
theorem superReads_main (a b : List UInt8) (ha : a.length = 128) (hb : b.length = 128) (w : World) :
    Calls Try.prog 5 #[secV a, secV b] w fun e w' => e = .returned (.bool true) ∧ Below w.heap.size w w' := by
  have HA := Lib.hid ha; have HBB := Lib.hid hb
  have hla : (bv a).length = 128 := by rw [bv_length, ha]
  have hlb : (bv b).length = 128 := by rw [bv_length, hb]
  have h2 := (SecAt.new w a ha).below (below_alloc _ (.cells (bv b).toArray 32))
  have h3 : SecAt ((w.alloc (.cells (bv a).toArray 32)).alloc (.cells (bv b).toArray 32)) (w.heap.size + 1) b := by
    have := SecAt.new (w.alloc (.cells (bv a).toArray 32)) b hb
    simpa using this
  have h0 := below_alloc2 w (.cells (bv a).toArray 32) (.cells (bv b).toArray 32)
  have H2 := Lib.hid h2; have H3 := Lib.hid h3; have H0 := Lib.hid h0
  have hbld := fun w => run_bld2 w a b ha hb
  have hix : ∀ (k : Nat) (w : World), k < 2 → (idx2 (pairV a b) (.int .i64 (k : Nat))).run Try.prog w = .ok (secV (if k = 0 then a else b)) w := fun k w hk => by
    match k, hk with
    | 0, _ => exact run_idx2_0 w a b ha hb
    | 1, _ => exact run_idx2_1 w a b ha hb
  have HIX := Lib.hid hix
  clear ha hb h2 h3 h0 hix
  unfold secV
  go_enter Try.func5, Try.ntmps5
  go_wp2_with fail
  refine (superAlive_true _).mono ?_
  rintro e w1 ⟨rfl, hb1⟩
  have H21 := Lib.hid (H2.out.below hb1); have H31 := Lib.hid (H3.out.below hb1); have HB1 := Lib.hid (bthen H0.out hb1)
  clear hb1 H2 H3 H0 hla hlb
  go_wp2_with fail
  refine (disk_New 2 w1).mono ?_
  rintro e w2 ⟨p, s, rfl, hd2, hb2⟩
  have HD2 := Lib.hid hd2; have HB2 := Lib.hid hb2
  clear hd2 hb2
  go_wp2_with fail
  refine (ref_New 2 w2).mono ?_
  rintro e w3 ⟨A, c, rfl, hr3, hb3, hf3⟩
  have htwo := Two.start HD2.out HB2.out hr3 hb3 hf3
  have HI : Hid (ReadsI w1 (w3.alloc (.cells (rdC A c none 0 (newDk 2)).toArray 36)) p s w3.heap.size 0) := Lib.hid ⟨_, _, _, _, _, _, htwo, ⟨rfl, rfl⟩, rfl, rfl⟩
  have HG : Hid (w1.heap.size ≤ w3.heap.size) := Lib.hid (Nat.le_trans HB2.out.size hb3.size)
  have HBT := Lib.hid htwo.bl
  clear hr3 hb3 hf3 htwo HD2 HB2
  go_wp2_with (first
    | (refine stN 36 (rdC A c none 0 (newDk 2)) rfl _ _ rfl _ _ rfl rfl rfl (rdC_one _ _ _ _ _) Try.sizeRD rfl ?_)
    | (refine ld37 rfl _ rfl w.heap.size 0 rfl a (H21.out.below HBT.out).range HA.out ?_)
    | (refine ld37 rfl _ rfl (w.heap.size + 1) 0 rfl b (H31.out.below HBT.out).range HBB.out ?_))
  clear hbld HBT
  generalize hw4 : w3.alloc (.cells (rdC A c none 0 (newDk 2)).toArray 36) = w4 at *
  clear hw4
  generalize hg : w3.heap.size = g at *
  clear hg
  go_loopw [20] (fun i wr => ∃ k : Nat, k ≤ 2 ∧ i = .int .i64 k ∧ Hid (ReadsI w1 wr p s g k)) (fun i _ => 2 - (intOf i).toNat)
  case atStart => exact ⟨0, by omega, rfl, HI⟩
  case round =>
    clear HI
    obtain ⟨k, hk, rfl, HR⟩ := hrel
    obtain ⟨v, A', c', B, kk, d, htw, hlv, hpn, hsl⟩ := HR.out
    by_cases hlt : k < 2
    · have hk0 : (0 : Int) ≤ (k : Int) := Int.natCast_nonneg _
      have hk1 : (k : Int) < 2 := by omega
      obtain ⟨x, hx⟩ : ∃ x, x = if k = 0 then a else b := ⟨_, rfl⟩
      have hxl : x.length = 128 := by rw [hx]; split; exact HA.out; exact HBB.out
      have hxi : ∀ w : World, (idx2 (pairV a b) (.int .i64 (k : Nat))).run Try.prog w = .ok (secV x) w := fun w => by rw [hx]; exact HIX.out k w hlt
      have HXL := Lib.hid hxl; have HLV := Lib.hid hlv; have HPN := Lib.hid hpn; have HSL := Lib.hid hsl
      have hbx := SecAt.new wr x hxl
      have htw5 := htw.below (below_alloc wr (.cells (bv x).toArray 32))
      have hnf : ¬ foot p s v wr.heap.size := fun hf => by have := htw.disk.foot_lt _ hf; omega
      have HTW := Lib.hid htw5; have HBX := Lib.hid hbx; have HNF := Lib.hid hnf
      have HWR := Lib.hid (disk_Write_yes htw5.disk htw5.bl.size k (by rw [hsl]; exact hlt) x hxl (by rw [hlv.power]) (by omega))
      have HPU := Lib.hid (fun (w' : World) (hr : RDk w' A' c' B kk d) => ref_Put_yes hr k (by rw [hsl]; exact hlt) x hxl (by rw [hlv.power]) (by omega))
      clear hx hxl htw htw5 hlv hpn hsl hbx hnf HR
      go_wp2_with (first
        | (refine st37 rfl _ _ rfl _ _ rfl rfl x rfl HXL.out rfl ?_)
        | (refine ld37 rfl _ rfl wr.heap.size 0 rfl x HBX.out.range HXL.out ?_))
      refine HWR.out.mono ?_
      clear HWR
      rintro e w6 ⟨v6, rfl, hd6, hk6, hv6⟩
      rw [HLV.out.power] at hd6
      have hhalf := HTW.out.acted hd6 hk6 (fun q hq => by
        rcases hv6 with h | ⟨g', h, h'⟩
        · exact .inl (h ▸ hq)
        · rw [h] at hq; injection hq with hq; exact .inr (hq ▸ h'))
      have HH := Lib.hid hhalf; have HBX6 := Lib.hid (HBX.out.kp hk6 HNF.out)
      clear hd6 hk6 hv6 hhalf hxi
      go_wp2_with (first
        | (refine ldRD rfl _ rfl g rfl HH.out.row ?_)
        | (refine ld37 rfl _ rfl wr.heap.size 0 rfl x HBX6.out.range HXL.out ?_))
      refine (HPU.out w6 HH.out.rd).mono ?_
      rintro e w7 ⟨B', k', rfl, hr7, hb7, hf7⟩
      rw [HLV.out.power] at hr7 ⊢
      have HR7 := Lib.hid hr7; have HB7 := Lib.hid hb7; have HF7 := Lib.hid hf7; have HRW := Lib.hid (HH.out.row.below hb7)
      clear hr7 hb7 hf7 HPU
      go_wp2_with (refine stRD rfl _ _ rfl g rfl HRW.out rfl rfl ?_; intro w8 hs8 hk8; have HT8 := Lib.hid (HH.out.done HR7.out HB7.out (.inl rfl) (.inr HF7.out) hk8 hs8 HG.out); clear hs8 hk8)
      have HI8 : Hid (ReadsI w1 w8 p s g (k + 1)) := Lib.hid ⟨_, _, _, _, _, _, HT8.out, HLV.out, by show (d.pend ++ [(k, x)]).length = k + 1; rw [List.length_append, HPN.out]; rfl, HSL.out⟩
      go_roundw
      case rel => exact ⟨k + 1, by omega, by go_num, HI8⟩
      case measure => simp [intOf]; omega
    · obtain rfl : k = 2 := by omega
      have HTW := Lib.hid htw
      have HRD := Lib.hid (super_Read htw.disk (by omega) (by omega))
      have hpl : d.pend.length ≤ 1000 := by omega
      have hl2 : 2 ≤ d.stable.length := by omega
      have HRR := Lib.hid (fun (w' : World) (hr : RDk w' A' c' B kk d) => ref15_Read hr hpl hl2)
      obtain ⟨r, hr⟩ : ∃ r, r = readTo d.read 2 := ⟨_, rfl⟩
      rw [← hr] at HRD HRR
      clear hr htw hlv hpn hsl HR hpl hl2
      obtain ⟨⟨rg, r1, r2, r3, r4, r5⟩, ok⟩ := r
      go_wp2_with fail
      refine HRD.out.mono ?_
      clear HRD
      rintro e w5 ⟨rfl, hb5⟩
      unfold SD.v
      dsimp only
      have HX5 := Lib.hid (RowAt.new w5 24 [.int .u64 (rg : Nat), .int .i64 r1, .int .i64 r2, .int .i64 r3, .int .i64 r4, .int .i64 r5])
      have HT5 := Lib.hid ((HTW.out.below hb5).below (below_alloc w5 (.cells ([.int .u64 (rg : Nat), .int .i64 r1, .int .i64 r2, .int .i64 r3, .int .i64 r4, .int .i64 r5] : List Value).toArray 24)))
      clear hb5 HTW
      go_wp2_with (first
        | (refine stN 24 [.int .u64 (rg : Nat), .int .i64 r1, .int .i64 r2, .int .i64 r3, .int .i64 r4, .int .i64 r5] rfl _ _ rfl _ _ rfl rfl rfl (by simp [Value.oneCell']) Try.sizeSuper rfl ?_)
        | (refine ldRD rfl _ rfl g rfl HT5.out.row ?_))
      refine (HRR.out _ HT5.out.rd).mono ?_
      rintro e w6 ⟨rfl, hb6⟩
      unfold SD.v
      dsimp only
      have hX6 := (HX5.out.below hb6).below (below_alloc w6 (.cells ([.int .u64 (rg : Nat), .int .i64 r1, .int .i64 r2, .int .i64 r3, .int .i64 r4, .int .i64 r5] : List Value).toArray 24))
      have a0 := hX6.cell 0 _ rfl
      have a1 := hX6.cell 1 _ rfl
      have a2 := hX6.cell 2 _ rfl
      have a3 := hX6.cell 3 _ rfl
      have a4 := hX6.cell 4 _ rfl
      have a5 := hX6.cell 5 _ rfl
      have HBZ := Lib.hid (bthen HB1.out ((HT5.out.below hb6).below (below_alloc w6 (.cells ([.int .u64 (rg : Nat), .int .i64 r1, .int .i64 r2, .int .i64 r3, .int .i64 r4, .int .i64 r5] : List Value).toArray 24))).bl)
      clear hb6 hX6 HRR HT5
      go_upto_region 13 with (refine stN 24 [.int .u64 (rg : Nat), .int .i64 r1, .int .i64 r2, .int .i64 r3, .int .i64 r4, .int .i64 r5] rfl _ _ rfl _ _ rfl rfl rfl (by simp [Value.oneCell']) Try.sizeSuper rfl ?_)
      go_wp2_with fail
      go_ret
      exact ⟨by simp, HBZ.out⟩
set_option maxRecDepth 100000 in
theorem superReads_walk {H : Type} {enc : TypeId × Value → H} {W : World} {base : Nat} {v0 v1 : Value} {d0 d1 : DataW H} {p0 p1 : List MemPlace}
    (o0 : Value.okWide Try.prog W .any base 32 v0) (r0 : DataW.Trod enc Try.prog W 0 (fun _ => true) true 32 v0 d0 p0) (_z0 : ∀ n ∈ d0.weights Try.prog 32, n ≤ reachBytes)
    (o1 : Value.okWide Try.prog W .any base 32 v1) (r1 : DataW.Trod enc Try.prog W 0 (fun _ => true) true 32 v1 d1 p1) (_z1 : ∀ n ∈ d1.weights Try.prog 32, n ≤ reachBytes) :
    Calls Try.prog 5 #[v0, v1] W fun e w' => e = .returned (.bool true) ∧ Below W.heap.size W w' := by
  obtain ⟨a, rfl, ha⟩ := open_sector o0 r0
  obtain ⟨b, rfl, hb⟩ := open_sector o1 r1
  exact superReads_main a b ha hb W
end Go.Proofs.Ytanibabfdpgbbaa
