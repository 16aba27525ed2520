/- The document's Read of a store's state. -/
import Derived.Test.YtanibabfdpgbbaaMg10
import Derived.Test.YtanibabfdpgbbaaMg13
import Derived.Test.YtanibabfdpgbbaaMg14
import Derived.Test.YtanibabfdpgbbaaMg8
namespace Go.Proofs.Ytanibabfdpgbbaa
open Go.RowKit
attribute [local go_sem ↓] loadAt37

theorem head_ok {x : List UInt8} {k : Nat} (h : (headM x k).2 = true) : (headM x k).1.gen % 2 = k ∧ (headM x k).1.right := by
  unfold headM at h ⊢
  cases ho : openM x with
  | none => rw [ho] at h; cases h
  | some gb =>
    obtain ⟨gen, body⟩ := gb
    rw [ho] at h
    simp only at h ⊢
    cases hu : unpackM superSh body with
    | none => rw [hu] at h; cases h
    | some vs =>
      rw [hu] at h
      simp only at h ⊢
      by_cases hk : gen % 2 = k
      · rw [if_pos hk] at h ⊢
        exact ⟨hk, of_decide_eq_true h⟩
      · rw [if_neg hk] at h
        cases h
theorem readTo_found (rd : Nat → List UInt8) : ∀ k, (readTo rd k).2 = decide (0 < (readTo rd k).1.gen)
  | 0 => rfl
  | k + 1 => by
    have e : readTo rd (k + 1) = if (headM (rd k) k).2 = true ∧ (readTo rd k).1.gen ≤ (headM (rd k) k).1.gen then ((headM (rd k) k).1, true) else readTo rd k := rfl
    by_cases h : (headM (rd k) k).2 = true ∧ (readTo rd k).1.gen ≤ (headM (rd k) k).1.gen
    · rw [e, if_pos h]
      have h1 : 1 ≤ (headM (rd k) k).1.gen := (head_ok h.1).2.g1
      exact (decide_eq_true (show 0 < (headM (rd k) k).1.gen by omega)).symm
    · rw [e, if_neg h]
      exact readTo_found rd k
theorem readTo_mod (rd : Nat → List UInt8) : ∀ k, k ≤ 1 → (readTo rd k).1.gen = 0 ∨ (readTo rd k).1.gen % 2 = 0
  | 0, _ => .inl rfl
  | k + 1, h => by
    obtain rfl : k = 0 := by omega
    rw [readTo]
    split
    · rename_i h
      exact .inr (head_ok h.1).1
    · exact .inl rfl
/-- The step as the document has it: greater, not 'at least'. -/
theorem readTo_next (rd : Nat → List UInt8) (k : Nat) (hk : k < 2) : readTo rd (k + 1) = if (headM (rd k) k).2 = true ∧ (readTo rd k).1.gen < (headM (rd k) k).1.gen then ((headM (rd k) k).1, true) else readTo rd k := by
  rw [readTo]
  by_cases h : (headM (rd k) k).2 = true
  · have hm := readTo_mod rd k (by omega)
    obtain ⟨h1, h2⟩ := head_ok h
    have h3 := h2.g1
    have hiff : (readTo rd k).1.gen ≤ (headM (rd k) k).1.gen ↔ (readTo rd k).1.gen < (headM (rd k) k).1.gen := by
      constructor
      · intro hle
        by_cases hk0 : k = 0
        · subst hk0
          have : (readTo rd 0).1.gen = 0 := rfl
          omega
        · omega
      · intro h; omega
    simp only [h, hiff, true_and]
  · rw [if_neg (fun hh => h hh.1), if_neg (fun hh => h hh.1)]
theorem rfield_cell {w : World} {A : Option Addr} {n c : Nat} {l : List FieldD} (h : RFields w A n c l) (hn : 0 < n) : ∃ b o, A = some ⟨b, o, none⟩ ∧ ∀ k, k < n → w.cell? ⟨b, o + k * 2, none⟩ = some (.int .u64 ((fieldAt l k).num : Nat)) := by
  obtain ⟨b, o, e, hf⟩ := h.2.2.2 hn
  exact ⟨b, o, e, fun k hk => (hf k hk).1 0 _ rfl⟩
theorem wrap_i64 (n : Nat) (h : n < 4294967296) : IntKind.i64.wrap (n : Int) = (n : Int) := by simp [IntKind.wrap, IntKind.signed, IntKind.bits]; omega

def stSup (p x : Value) : Sem Unit := Instr.storeAt 24 p x
theorem storeAtSup (p x : Value) : Instr.storeAt 24 p x = stSup p x := rfl
theorem run_stSup {w : World} {g : Nat} {cs0 : List Value} (h : RowAt w g 24 cs0) (hl0 : cs0.length = 6) (cs : List Value) (h1 : ∀ u ∈ cs, u.oneCell' = true) (hl : cs.length = 6) : (stSup (.pointer (some ⟨g, 0, none⟩)) (.agg cs.toArray)).run Try.prog w = .ok () (w.setCells g 0 cs) := by
  have hth : w.there g 0 6 := by
    intro j hj
    rw [Nat.zero_add]
    exact ⟨by rw [h.cell j (cs0[j]'(by omega)) (List.getElem?_eq_getElem (by omega))]; rfl, frozen_of_row _ _ _ _ _ h⟩
  have := run_storeAt_mid (P := Try.prog) w g 0 24 cs.toArray (by simpa [hl] using hth) (Try.sizeSuper.trans (by simp [hl])) (all_oneCell_toArray h1)
  unfold stSup
  simpa using this
theorem setCells_drewW (g : Nat) : ∀ (cs : List Value) (o : Nat) (W : World), W.drew.setCells g o cs = (W.setCells g o cs).drew
  | [], _, _ => rfl
  | v :: r, o, W => by
    rw [World.setCells, World.setCells]
    exact setCells_drewW g r (o + 1) (W.setCell ⟨g, o, none⟩ v)
theorem stSup_new (w : World) (x0 x1 x2 x3 x4 x5 : Value) (h1 : ∀ u ∈ [x0, x1, x2, x3, x4, x5], u.oneCell' = true) :
    (stSup (.pointer (some ⟨w.heap.size, 0, none⟩)) (.agg #[x0, x1, x2, x3, x4, x5])).run Try.prog (w.alloc (.cells #[.int .u64 0, .int .i64 0, .int .i64 0, .int .i64 0, .int .i64 0, .int .i64 0] 24)).drew = .ok () (w.alloc (.cells #[x0, x1, x2, x3, x4, x5] 24)).drew := by
  have h := run_stSup (w := (w.alloc (.cells ([.int .u64 0, .int .i64 0, .int .i64 0, .int .i64 0, .int .i64 0, .int .i64 0] : List Value).toArray 24)).drew) ((RowAt.new w 24 [.int .u64 0, .int .i64 0, .int .i64 0, .int .i64 0, .int .i64 0, .int .i64 0]).below ((Below.refl _ _).drew)) rfl [x0, x1, x2, x3, x4, x5] h1 rfl
  rw [setCells_drewW] at h
  rcases setCells_alloc w 24 (0, 0) [x0, x1, x2, x3, x4, x5] ([.int .u64 0, .int .i64 0, .int .i64 0, .int .i64 0, .int .i64 0, .int .i64 0] : List Value).toArray 0 with e | e
  · rw [e] at h
    exact h
  · simp at e
attribute [local go_sem ↓] loadAtSup storeAtSup
set_option maxRecDepth 20000 in
set_option maxHeartbeats 6400000 in
theorem ref15_Read {w : World} {A : Option Addr} {c : Nat} {B : Option Addr} {kk : Nat} {d : Dk} (h : RDk w A c B kk d) (hpl : d.pend.length ≤ 1000) (hlen : 2 ≤ d.stable.length) :
    Calls Try.prog 17 #[.agg (rdC A c B kk d).toArray] w (ReadPost w (readTo d.read 2)) := by
  have HD := Lib.hid h; have HPL := Lib.hid hpl; have HLN := Lib.hid hlen
  have hrow0 := ((RowAt.new w 36 (rdC A c B kk d)).below (below_alloc _ (.cells ([.int .u64 0, .int .i64 0, .int .i64 0, .int .i64 0, .int .i64 0, .int .i64 0] : List Value).toArray 24))).below (below_alloc _ (.cells ([.int .u64 0, .int .i64 0, .int .i64 0, .int .i64 0, .int .i64 0, .int .i64 0] : List Value).toArray 24))
  have hz2 := (RowAt.new' (w.alloc (.cells (rdC A c B kk d).toArray 36)) 24 [.int .u64 0, .int .i64 0, .int .i64 0, .int .i64 0, .int .i64 0, .int .i64 0] (w.heap.size + 1) (by simp)).below (below_alloc _ (.cells ([.int .u64 0, .int .i64 0, .int .i64 0, .int .i64 0, .int .i64 0, .int .i64 0] : List Value).toArray 24))
  have hz4 := RowAt.new' ((w.alloc (.cells (rdC A c B kk d).toArray 36)).alloc (.cells ([.int .u64 0, .int .i64 0, .int .i64 0, .int .i64 0, .int .i64 0, .int .i64 0] : List Value).toArray 24)) 24 [.int .u64 0, .int .i64 0, .int .i64 0, .int .i64 0, .int .i64 0, .int .i64 0] (w.heap.size + 1 + 1) (by simp)
  have hbl := (below_alloc2 w (.cells (rdC A c B kk d).toArray 36) (.cells ([.int .u64 0, .int .i64 0, .int .i64 0, .int .i64 0, .int .i64 0, .int .i64 0] : List Value).toArray 24)).alloc (by simp; omega) (.cells ([.int .u64 0, .int .i64 0, .int .i64 0, .int .i64 0, .int .i64 0, .int .i64 0] : List Value).toArray 24)
  have HROW := Lib.hid hrow0; have HZ2 := Lib.hid hz2; have HZ4 := Lib.hid hz4; have HBL := Lib.hid hbl
  clear h hpl hlen hrow0 hz2 hz4 hbl
  go_enter Try.func17, Try.ntmps17
  go_wp2_with (refine stN 24 [.int .u64 0, .int .i64 0, .int .i64 0, .int .i64 0, .int .i64 0, .int .i64 0] rfl _ _ rfl _ _ rfl (by simp) rfl (by simp [Value.oneCell']) Try.sizeSuper rfl ?_)
  go_loopw [5] (fun i wr => ∃ k bg b1 b2 b3 b4 b5 fb, k ≤ 2 ∧ i = .int .i64 (k : Nat) ∧ Hid (readTo d.read k = (⟨bg, b1, b2, b3, b4, b5⟩, fb)) ∧ Hid (RowAt wr (w.heap.size + 1 + 1) 24 [.int .u64 (bg : Nat), .int .i64 b1, .int .i64 b2, .int .i64 b3, .int .i64 b4, .int .i64 b5]) ∧ Hid (RowAt wr (w.heap.size + 1) 24 [.int .u64 0, .int .i64 0, .int .i64 0, .int .i64 0, .int .i64 0, .int .i64 0]) ∧ Hid (RowAt wr w.heap.size 36 (rdC A c B kk d)) ∧ Hid (Below w.heap.size w wr)) (fun i _ => 2 - (intOf i).toNat)
  case atStart => exact ⟨0, 0, 0, 0, 0, 0, 0, false, by omega, rfl, Lib.hid rfl, HZ4, HZ2, HROW, HBL⟩
  case round =>
    clear HROW HZ2 HZ4 HBL
    obtain ⟨k, bg, b1, b2, b3, b4, b5, fb, hk, rfl, HM, HR4, HR2, HRW, HBr⟩ := hrel
    by_cases hlt : k < 2
    · have hk0 : (0 : Int) ≤ (k : Int) := Int.natCast_nonneg _
      have hk1 : (k : Int) < 2 := by omega
      have hwk : IntKind.u64.wrap (k : Int) = (k : Int) := wrap_u64 k (by omega)
      have hlx : (d.read k).length = 128 := lastW_len _ _ _ (HD.out.secL k (by have := HLN.out; omega)) (fun x hx => (HD.out.pin x hx).2)
      have HLX := Lib.hid hlx
      have hnx : readTo d.read (k + 1) = if (headM (d.read k) k).2 = true ∧ bg < (headM (d.read k) k).1.gen then ((headM (d.read k) k).1, true) else (⟨bg, b1, b2, b3, b4, b5⟩, fb) := by
        rw [readTo_next _ _ hlt, HM.out]
      have HNX := Lib.hid hnx
      have HRD := Lib.hid (ref_Read_yes (HD.out.below HBr.out) k (by have := HLN.out; omega) (by have := HPL.out; omega))
      clear hnx hlx
      generalize d.read k = x at *
      have skip : (headM x k).2 = false → readTo d.read (k + 1) = (⟨bg, b1, b2, b3, b4, b5⟩, fb) := fun e => by rw [HNX.out, if_neg (by rw [e]; simp)]
      have HSK := Lib.hid skip
      clear skip
      go_wp2_with (refine ldRD rfl _ rfl w.heap.size rfl HRW.out ?_)
      refine HRD.out.mono ?_
      clear HRD
      rintro e w2 ⟨rfl, hb2⟩
      have HB2 := Lib.hid (balloc (bthen HBr.out hb2) (.cells (bv x).toArray 32))
      have HR42 := Lib.hid ((HR4.out.below hb2).below (below_alloc w2 (.cells (bv x).toArray 32)))
      have HR22 := Lib.hid ((HR2.out.below hb2).below (below_alloc w2 (.cells (bv x).toArray 32)))
      have HRW2 := Lib.hid ((HRW.out.below hb2).below (below_alloc w2 (.cells (bv x).toArray 32)))
      have hld := run_ldSec (w := w2.alloc (.cells (bv x).toArray 32)) (range_alloc w2 (bv x) _ _) HLX.out
      clear hb2
      go_wp2_with (refine st37 rfl _ _ rfl _ _ rfl rfl x rfl HLX.out rfl ?_)
      generalize hw3 : w2.alloc (.cells (bv x).toArray 32) = w3 at *
      clear hw3
      refine (ref05_Open x HLX.out w3).mono ?_
      rintro e w4 ⟨mk, A4, m4, c4, o4, rfl, hb4, hcase⟩
      have HB4 := Lib.hid (bthen HB2.out hb4); have HR44 := Lib.hid (HR42.out.below hb4); have HR24 := Lib.hid (HR22.out.below hb4); have HRW4 := Lib.hid (HRW2.out.below hb4)
      rcases hcase with ⟨body, ho, rfl, hrb⟩ | ⟨hno, rfl, rfl, rfl, rfl, rfl⟩
      · have HO := Lib.hid ho; have HRB := Lib.hid hrb
        clear hb4 ho hrb hld
        go_wp2_with fail
        refine (ref02_Unpack superSh A4 m4 c4 body w4 HRB.out).mono ?_
        rintro e w5 ⟨hb5, hcase5⟩
        have HB5 := Lib.hid (bthen HB4.out hb5); have HR45 := Lib.hid (HR44.out.below hb5); have HR25 := Lib.hid (HR24.out.below hb5); have HRW5 := Lib.hid (HRW4.out.below hb5)
        rcases hcase5 with ⟨v5, lk, ho5, rfl, hof⟩ | ⟨ho5, rfl⟩
        · obtain ⟨A5, c5, rfl, hrf⟩ := hof.read
          have HF5 := Lib.hid hrf; have HO5 := Lib.hid ho5
          clear hb5 hof hrf ho5
          by_cases hpar : mk % 2 = k
          · have hq : ((mk : Int) % 2 != (k : Int)) = false := by rw [show (mk : Int) % 2 = (k : Int) by omega]; simp
            have HM5 : Hid (headM x k = (sdOf mk (vals lk), decide (sdOf mk (vals lk)).right)) := Lib.hid (by unfold headM; rw [HO.out]; simp only; rw [HO5.out]; simp only; rw [if_pos hpar])
            clear hpar
            have hnum := super_nums HO5.out
            have hl5 : lk.length = 5 := by have := hnum.1; simpa [vals] using this
            have hsm : ∀ i, i < 5 → (fieldAt lk i).num < 4294967296 := fun i hi => by
              have := hnum.2 ((fieldAt lk i).num, (fieldAt lk i).bytes) (by
                rw [fieldAt_get (by omega)]
                exact List.mem_map.2 ⟨_, List.getElem_mem _, rfl⟩)
              exact this
            have hsd : sdOf mk (vals lk) = ⟨mk, (fieldAt lk 0).num, (fieldAt lk 1).num, (fieldAt lk 2).num, (fieldAt lk 3).num, (fieldAt lk 4).num⟩ := by
              unfold sdOf
              rw [numAt_vals (by omega), numAt_vals (by omega), numAt_vals (by omega), numAt_vals (by omega), numAt_vals (by omega)]
            rw [hsd] at HM5
            obtain ⟨bf, of_, rfl, hcells⟩ := rfield_cell HF5.out (by omega)
            have f0 := hcells 0 (by omega)
            have f1 := hcells 1 (by omega)
            have f2 := hcells 2 (by omega)
            have f3 := hcells 3 (by omega)
            have f4 := hcells 4 (by omega)
            have w0 := wrap_i64 _ (hsm 0 (by omega))
            have w1 := wrap_i64 _ (hsm 1 (by omega))
            have w2' := wrap_i64 _ (hsm 2 (by omega))
            have w3' := wrap_i64 _ (hsm 3 (by omega))
            have w4' := wrap_i64 _ (hsm 4 (by omega))
            simp only [Nat.zero_mul, Nat.one_mul, Nat.add_zero, Nat.reduceMul] at f0 f1 f2 f3 f4
            rw [hl5]
            clear hnum hsm hsd hcells hl5
            generalize (fieldAt lk 0).num = n0 at *
            generalize (fieldAt lk 1).num = n1 at *
            generalize (fieldAt lk 2).num = n2 at *
            generalize (fieldAt lk 3).num = n3 at *
            generalize (fieldAt lk 4).num = n4 at *
            have HR46 := Lib.hid ((HR45.out.below (below_alloc w5 (.cells ([.int .u64 (mk : Nat), .int .i64 n0, .int .i64 n1, .int .i64 n2, .int .i64 n3, .int .i64 n4] : List Value).toArray 24))).below ((Below.refl _ _).drew))
            have HR26 := Lib.hid ((HR25.out.below (below_alloc w5 (.cells ([.int .u64 (mk : Nat), .int .i64 n0, .int .i64 n1, .int .i64 n2, .int .i64 n3, .int .i64 n4] : List Value).toArray 24))).below ((Below.refl _ _).drew))
            have HRW6 := Lib.hid ((HRW5.out.below (below_alloc w5 (.cells ([.int .u64 (mk : Nat), .int .i64 n0, .int .i64 n1, .int .i64 n2, .int .i64 n3, .int .i64 n4] : List Value).toArray 24))).below ((Below.refl _ _).drew))
            have HB6 := Lib.hid (bthen (balloc HB5.out (.cells ([.int .u64 (mk : Nat), .int .i64 n0, .int .i64 n1, .int .i64 n2, .int .i64 n3, .int .i64 n4] : List Value).toArray 24)) ((Below.refl _ _).drew))
            have HS6 := Lib.hid ((RowAt.new w5 24 [.int .u64 (mk : Nat), .int .i64 n0, .int .i64 n1, .int .i64 n2, .int .i64 n3, .int .i64 n4]).below ((Below.refl _ _).drew))
            have hst9 := stSup_new w5 (.int .u64 (mk : Nat)) (.int .i64 n0) (.int .i64 n1) (.int .i64 n2) (.int .i64 n3) (.int .i64 n4) (by simp [Value.oneCell'])
            go_wp2_with fail
            go_region_held3 (fun w' => w'.cell? ⟨bf, of_, none⟩ = some (.int .u64 (n0 : Nat)) ∧ w'.cell? ⟨bf, of_ + 2, none⟩ = some (.int .u64 (n1 : Nat)) ∧ w'.cell? ⟨bf, of_ + 4, none⟩ = some (.int .u64 (n2 : Nat)) ∧ w'.cell? ⟨bf, of_ + 6, none⟩ = some (.int .u64 (n3 : Nat)) ∧ w'.cell? ⟨bf, of_ + 8, none⟩ = some (.int .u64 (n4 : Nat))) (go_keep) (fail)
            clear f0 f1 f2 f3 f4 w0 w1 w2' w3' w4' hst9
            have hgne : w.heap.size + 1 + 1 ≠ w5.heap.size ∧ w.heap.size + 1 ≠ w5.heap.size ∧ w.heap.size ≠ w5.heap.size := by have := lt_of_heap HR45.out; omega
            generalize hwx : (w5.alloc (.cells ([.int .u64 (mk : Nat), .int .i64 n0, .int .i64 n1, .int .i64 n2, .int .i64 n3, .int .i64 n4] : List Value).toArray 24)).drew = wx at *
            clear hwx
            generalize hgx : w5.heap.size = gx at *
            clear hgx
            go_wp2_with (refine ldN 24 [.int .u64 (mk : Nat), .int .i64 n0, .int .i64 n1, .int .i64 n2, .int .i64 n3, .int .i64 n4] rfl _ rfl gx 0 rfl HS6.out.range Try.underlying24 rfl Try.sizeSuper ?_)
            refine (ref15_Right ⟨mk, n0, n1, n2, n3, n4⟩ wx).mono ?_
            by_cases hright : (⟨mk, n0, n1, n2, n3, n4⟩ : SD).right
            · rw [decide_eq_true hright] at HM5 ⊢
              rintro e w9 ⟨rfl, hb9⟩
              have HR49 := Lib.hid (HR46.out.below hb9); have HR29 := Lib.hid (HR26.out.below hb9); have HRW9 := Lib.hid (HRW6.out.below hb9); have HB9 := Lib.hid (bthen HB6.out hb9); have HS9 := Lib.hid (HS6.out.below hb9)
              have c13 := HS9.out.cell 0 _ rfl
              have c14 := HR49.out.cell 0 _ rfl
              clear hb9 hright
              by_cases hgt : bg < mk
              · have hd1 : decide (bg < mk) = true := decide_eq_true hgt
                have hd2 : decide ((bg : Int) < (mk : Int)) = true := decide_eq_true (by omega)
                have HN : Hid (readTo d.read (k + 1) = (⟨mk, n0, n1, n2, n3, n4⟩, true)) := Lib.hid (by rw [HNX.out, HM5.out, if_pos ⟨rfl, hgt⟩])
                clear hgt
                go_wp2_with (first
                  | (refine ldN 24 [.int .u64 (mk : Nat), .int .i64 n0, .int .i64 n1, .int .i64 n2, .int .i64 n3, .int .i64 n4] rfl _ rfl gx 0 rfl HS9.out.range Try.underlying24 rfl Try.sizeSuper ?_)
                  | (refine stN_at 24 [.int .u64 (mk : Nat), .int .i64 n0, .int .i64 n1, .int .i64 n2, .int .i64 n3, .int .i64 n4] [.int .u64 (bg : Nat), .int .i64 b1, .int .i64 b2, .int .i64 b3, .int .i64 b4, .int .i64 b5] rfl _ _ rfl (w.heap.size + 1 + 1) rfl HR49.out rfl (by simp [Value.oneCell']) Try.sizeSuper rfl ?_; intro w10 hs10 hk10; have HS10 := Lib.hid hs10; have HK10 := Lib.hid hk10; clear hs10 hk10))
                go_roundw
                case rel => exact ⟨k + 1, mk, n0, n1, n2, n3, n4, true, by omega, by go_num, HN, HS10, Lib.hid (HR29.out.kp HK10.out (by omega)), Lib.hid (HRW9.out.kp HK10.out (by omega)), Lib.hid (HB9.out.trans (kp_one HB9.out.size HK10.out (by omega)))⟩
                case measure => simp [intOf]; omega
              · have hd1 : decide (bg < mk) = false := decide_eq_false hgt
                have hd2 : decide ((bg : Int) < (mk : Int)) = false := decide_eq_false (by omega)
                have HN : Hid (readTo d.read (k + 1) = (⟨bg, b1, b2, b3, b4, b5⟩, fb)) := Lib.hid (by rw [HNX.out, HM5.out, if_neg (fun h => hgt h.2)])
                clear hgt
                go_wp2_with fail
                go_roundw
                case rel => exact ⟨k + 1, bg, b1, b2, b3, b4, b5, fb, by omega, by go_num, HN, HR49, HR29, HRW9, HB9⟩
                case measure => simp [intOf]; omega
            · rw [decide_eq_false hright] at HM5 ⊢
              rintro e w9 ⟨rfl, hb9⟩
              have HR49 := Lib.hid (HR46.out.below hb9); have HR29 := Lib.hid (HR26.out.below hb9); have HRW9 := Lib.hid (HRW6.out.below hb9); have HB9 := Lib.hid (bthen HB6.out hb9)
              have HN := Lib.hid (HSK.out (by rw [HM5.out]))
              clear hb9 hright
              go_wp2_with fail
              go_roundw
              case rel => exact ⟨k + 1, bg, b1, b2, b3, b4, b5, fb, by omega, by go_num, HN, HR49, HR29, HRW9, HB9⟩
              case measure => simp [intOf]; omega
          · have hq : ((mk : Int) % 2 != (k : Int)) = true := by rw [bne_iff_ne]; omega
            have HN := Lib.hid (HSK.out (by unfold headM; rw [HO.out]; simp only; rw [HO5.out]; simp only; rw [if_neg hpar]))
            clear hpar
            go_wp2_with fail
            go_roundw
            case rel => exact ⟨k + 1, bg, b1, b2, b3, b4, b5, fb, by omega, by go_num, HN, HR45, HR25, HRW5, HB5⟩
            case measure => simp [intOf]; omega
        · have HN := Lib.hid (HSK.out (by unfold headM; rw [HO.out]; simp only; rw [ho5]))
          clear ho5 hb5
          go_wp2_with fail
          go_roundw
          case rel => exact ⟨k + 1, bg, b1, b2, b3, b4, b5, fb, by omega, by go_num, HN, HR45, HR25, HRW5, HB5⟩
          case measure => simp [intOf]; omega
      · have HN := Lib.hid (HSK.out (by unfold headM; rw [hno]))
        clear hb4 hno hld
        go_wp2_with fail
        have hu := ref02_Unpack superSh none 0 0 [] w4 (RB.nil w4)
        rw [show unpackM superSh [] = none from by decide] at hu
        refine hu.mono ?_
        clear hu
        rintro e w5 ⟨hb5, ⟨v5, lk, ho5, -⟩ | ⟨-, rfl⟩⟩
        · cases ho5
        · have HB5 := Lib.hid (bthen HB4.out hb5); have HR45 := Lib.hid (HR44.out.below hb5); have HR25 := Lib.hid (HR24.out.below hb5); have HRW5 := Lib.hid (HRW4.out.below hb5)
          clear hb5
          go_wp2_with fail
          go_roundw
          case rel => exact ⟨k + 1, bg, b1, b2, b3, b4, b5, fb, by omega, by go_num, HN, HR45, HR25, HRW5, HB5⟩
          case measure => simp [intOf]; omega
    · obtain rfl : k = 2 := by omega
      have hfound := readTo_found d.read 2
      rw [HM.out] at hfound
      have HFD := Lib.hid hfound
      have hR4 := HR4.out.below ((Below.refl _ _).drew)
      have hR2 := HR2.out.below ((Below.refl _ _).drew)
      have x0 := hR4.cell 0 _ rfl
      have hld := run_ldSup hR4 rfl
      have hst := run_stSup hR2 rfl [.int .u64 (bg : Nat), .int .i64 b1, .int .i64 b2, .int .i64 b3, .int .i64 b4, .int .i64 b5] (by simp [Value.oneCell']) rfl
      have hfin := setCells_heap (w.heap.size + 1) 24 [.int .u64 (bg : Nat), .int .i64 b1, .int .i64 b2, .int .i64 b3, .int .i64 b4, .int .i64 b5] ([.int .u64 0, .int .i64 0, .int .i64 0, .int .i64 0, .int .i64 0, .int .i64 0] : List Value).toArray 0 wr.drew hR2 (by simp)
      have hrow : RowAt (wr.drew.setCells (w.heap.size + 1) 0 [.int .u64 (bg : Nat), .int .i64 b1, .int .i64 b2, .int .i64 b3, .int .i64 b4, .int .i64 b5]) (w.heap.size + 1) 24 [.int .u64 (bg : Nat), .int .i64 b1, .int .i64 b2, .int .i64 b3, .int .i64 b4, .int .i64 b5] := hfin.1
      have x0s := (hR4.kp hfin.2 (show ¬ (w.heap.size + 1 + 1 = w.heap.size + 1) by omega)).cell 0 _ rfl
      have hb8 := bthen HBr.out ((Below.refl _ _).drew)
      have HROW := Lib.hid hrow
      have HBF := Lib.hid (hb8.trans (kp_one hb8.size hfin.2 (by omega)))
      clear hfound hR4 hR2 hfin hrow hb8
      go_wp2_with fail
      go_region_law (fail)
      all_goals
        go_wp2_with fail
        (try simp only [Exit.inBlock, Exit.then])
        refine bodyPost_ret (res_row_tmp rfl _ _ (w.heap.size + 1) 0 [.int .u64 (bg : Nat), .int .i64 b1, .int .i64 b2, .int .i64 b3, .int .i64 b4, .int .i64 b5] _ (.bool (decide (0 < bg))) rfl rfl HROW.out.range Try.underlying24 rfl Try.sizeSuper) rfl ?_
        exact ⟨by rw [HM.out, HFD.out]; rfl, HBF.out⟩
end Go.Proofs.Ytanibabfdpgbbaa

/- super.Write, whatever the power. -/
namespace Go.Proofs.Ytanibabfdpgbbaa
open Go.RowKit
attribute [local go_sem ↓] loadAt37

/-- A sector written and flushed: the disk behind it, and the error's number. -/
def superW (d : Dk) (m : Nat) (x : List UInt8) : Dk × Int :=
  if d.power.2 = true then
    (if ({ d.power.1 with pend := d.pend ++ [(m, x)] } : Dk).power.2 = true then (({ d.power.1 with pend := d.pend ++ [(m, x)] } : Dk).power.1.flushed, 0) else (({ d.power.1 with pend := d.pend ++ [(m, x)] } : Dk).power.1, 42))
  else (d.power.1, 42)
theorem superW_yes {d d8 : Dk} {m : Nat} {x : List UInt8} (h1 : d.power.2 = true) (e : d8 = { d.power.1 with pend := d.pend ++ [(m, x)] }) (h2 : d8.power.2 = true) : superW d m x = (d8.power.1.flushed, 0) := by
  subst e
  unfold superW
  rw [if_pos h1, if_pos h2]
theorem superW_mid {d d8 : Dk} {m : Nat} {x : List UInt8} (h1 : d.power.2 = true) (e : d8 = { d.power.1 with pend := d.pend ++ [(m, x)] }) (h2 : ¬ d8.power.2 = true) : superW d m x = (d8.power.1, 42) := by
  subst e
  unfold superW
  rw [if_pos h1, if_neg h2]
theorem superW_no {d : Dk} {m : Nat} {x : List UInt8} (h1 : ¬ d.power.2 = true) : superW d m x = (d.power.1, 42) := by
  unfold superW
  rw [if_neg h1]
theorem superW_pend {d : Dk} {m : Nat} {x : List UInt8} (hp : d.pend = []) (hd : (superW d m x).1.dead = false) : (superW d m x).1.pend = [] := by
  have hdead : ∀ d : Dk, ¬ d.power.2 = true → d.power.1.dead = true := fun d h => by
    unfold Dk.power at h ⊢
    split
    · rfl
    · rename_i hc
      rw [if_neg hc] at h
      exact absurd rfl h
  by_cases h1 : d.power.2 = true
  · by_cases h2 : ({ d.power.1 with pend := d.pend ++ [(m, x)] } : Dk).power.2 = true
    · rw [superW_yes h1 rfl h2]
      rfl
    · rw [superW_mid h1 rfl h2] at hd
      rw [hdead _ h2] at hd
      cases hd
  · rw [superW_no h1] at hd
    rw [hdead _ h1] at hd
    cases hd
theorem superW_len (d : Dk) (m : Nat) (x : List UInt8) : (superW d m x).1.stable.length = d.stable.length ∧ (superW d m x).1.pend.length ≤ d.pend.length + 1 := by
  by_cases h1 : d.power.2 = true
  · by_cases h2 : ({ d.power.1 with pend := d.pend ++ [(m, x)] } : Dk).power.2 = true
    · rw [superW_yes h1 rfl h2]
      refine ⟨?_, Nat.zero_le _⟩
      show (applyW _ _).length = _
      rw [applyW_length, power_stable]
      exact congrArg List.length (power_stable d)
    · rw [superW_mid h1 rfl h2, power_stable, power_pend]
      exact ⟨congrArg List.length (power_stable d), by simp⟩
  · rw [superW_no h1, power_stable, power_pend]
    exact ⟨rfl, by omega⟩
/-- What Write leaves, whatever the power. -/
def SWriteEx (w : World) (base p s : Nat) (v : Value) (d : Dk) (gen : Nat) (body : List UInt8) (e : Ending) (w' : World) : Prop :=
  ∃ v' : Value, e = .returned (.int .i64 (superW d (gen % 2) (sealL gen body)).2) ∧ DiskAt w' base p s v' (superW d (gen % 2) (sealL gen body)).1 ∧ Kp (foot p s v) w w' ∧ (∀ q, v'.ownBlock = some q → v.ownBlock = some q ∨ w.heap.size ≤ q)
set_option maxRecDepth 20000 in
set_option maxHeartbeats 6400000 in
theorem super_Write_ex (gen r b q c e : Nat) (hg1 : 1 ≤ gen) (hg2 : gen ≤ 281474976710655) (hr : r ≤ 1024) (hb : b ≤ 255) (hq : q ≤ 48) (hc : c ≤ 1024) (he : e ≤ 65535)
    {w : World} {base p s : Nat} {v : Value} {d : Dk} (h : DiskAt w base p s v d) (hbase : base ≤ w.heap.size) (hpn : d.pend.length ≤ 1000) (hlen : 2 ≤ d.stable.length) :
    Calls Try.prog 18 #[.pointer (some ⟨p, 0, none⟩), SD.v ⟨gen, r, b, q, c, e⟩] w (SWriteEx w base p s v d gen (bodyL r b q c e)) := by
  have HD := Lib.hid h
  have hright : (⟨gen, r, b, q, c, e⟩ : SD).right := ⟨hg1, hg2, ⟨by show (0 : Int) ≤ (r : Int); omega, by show (r : Int) ≤ 1024; omega⟩, ⟨by show (0 : Int) ≤ (c : Int); omega, by show (c : Int) ≤ 1024; omega⟩, ⟨by show (0 : Int) ≤ (b : Int); omega, by show (b : Int) ≤ 255; omega⟩, ⟨by show (0 : Int) ≤ (q : Int); omega, by show (q : Int) ≤ 48; omega⟩, ⟨by show (0 : Int) ≤ (e : Int); omega, by show (e : Int) ≤ 65535; omega⟩⟩
  have HRT := Lib.hid hright
  have HX := Lib.hid (RowAt.new w 24 (SD.cells ⟨gen, r, b, q, c, e⟩))
  have HB1 := Lib.hid (below_alloc w (.cells (SD.cells ⟨gen, r, b, q, c, e⟩).toArray 24))
  have HBND : Hid (r ≤ 1024 ∧ b ≤ 255 ∧ q ≤ 48 ∧ c ≤ 1024 ∧ e ≤ 65535) := Lib.hid ⟨hr, hb, hq, hc, he⟩
  have HGN : Hid (1 ≤ gen ∧ gen ≤ 281474976710655) := Lib.hid ⟨hg1, hg2⟩
  have HPN := Lib.hid hpn; have HLN := Lib.hid hlen; have HBS := Lib.hid hbase
  clear h hright hr hb hq hc he hg1 hg2 hpn hlen hbase
  unfold SD.cells at HX HB1
  unfold SD.v
  dsimp only at HX HB1 ⊢
  go_enter Try.func18, Try.ntmps18
  go_wp2_with (refine ldN 24 [.int .u64 gen, .int .i64 r, .int .i64 b, .int .i64 q, .int .i64 c, .int .i64 e] rfl _ rfl w.heap.size 0 rfl HX.out.range Try.underlying24 rfl Try.sizeSuper ?_)
  refine (super_Right ⟨gen, r, b, q, c, e⟩ _).mono ?_
  rw [decide_eq_true HRT.out]
  rintro e' w2 ⟨rfl, hb2⟩
  have HX2 := Lib.hid (HX.out.below hb2); have HB2 := Lib.hid (bthen HB1.out hb2)
  have hx1 := HX2.out.cell 1 _ rfl
  have hx2 := HX2.out.cell 2 _ rfl
  have hx3 := HX2.out.cell 3 _ rfl
  have hx4 := HX2.out.cell 4 _ rfl
  have hx5 := HX2.out.cell 5 _ rfl
  clear hb2
  go_wp2_with fail
  have HV := Lib.hid (RowAt.new w2 3 [.int .i64 r, .int .i64 b, .int .i64 q, .int .i64 c, .int .i64 e])
  have HBV := Lib.hid (balloc HB2.out (.cells #[.int .i64 r, .int .i64 b, .int .i64 q, .int .i64 c, .int .i64 e] 3))
  have HXV := Lib.hid (HX2.out.below (below_alloc w2 (.cells #[.int .i64 r, .int .i64 b, .int .i64 q, .int .i64 c, .int .i64 e] 3)))
  have hnv : ∀ k, k < 5 → ([.int .i64 r, .int .i64 b, .int .i64 q, .int .i64 c, .int .i64 e] : List Value)[k]? = some (.int .i64 ((atN [r, b, q, c, e] k : Nat) : Int)) ∧ atN [r, b, q, c, e] k ≤ 65535 := fun k hk => by
    have := HBND.out
    match k, hk with
    | 0, _ => exact ⟨rfl, by show r ≤ 65535; omega⟩
    | 1, _ => exact ⟨rfl, by show b ≤ 65535; omega⟩
    | 2, _ => exact ⟨rfl, by show q ≤ 65535; omega⟩
    | 3, _ => exact ⟨rfl, by show c ≤ 65535; omega⟩
    | 4, _ => exact ⟨rfl, by show e ≤ 65535; omega⟩
  have hvs : ∀ k, k < 5 → ([(r, []), (b, []), (q, []), (c, []), (e, [])] : List (Nat × List UInt8)).take (k + 1) = ([(r, []), (b, []), (q, []), (c, []), (e, [])] : List (Nat × List UInt8)).take k ++ [(atN [r, b, q, c, e] k, [])] := fun k hk => by
    match k, hk with
    | 0, _ => rfl
    | 1, _ => rfl
    | 2, _ => rfl
    | 3, _ => rfl
    | 4, _ => rfl
  have HNV := Lib.hid hnv; have HVS := Lib.hid hvs
  clear hnv hvs hx1 hx2 hx3 hx4 hx5
  generalize hw3 : w2.alloc (.cells #[.int .i64 r, .int .i64 b, .int .i64 q, .int .i64 c, .int .i64 e] 3) = w3 at *
  clear hw3
  generalize hg2 : w2.heap.size = g2 at *
  clear hg2
  go_loopw [5, 28] (fun u i wr => ∃ k lk, k ≤ 5 ∧ i = .int .i64 (k : Nat) ∧ Hid (OFields wr w3.heap.size u lk) ∧ Hid (lk.length = k) ∧ Hid (vals lk = ([(r, []), (b, []), (q, []), (c, []), (e, [])] : List (Nat × List UInt8)).take k) ∧ Hid (Below w3.heap.size w3 wr)) (fun _ i _ => 5 - (intOf i).toNat)
  case atStart => exact ⟨0, [], by omega, rfl, Lib.hid ⟨World.ownsRow_nil _ _ _ _, by simp, by simp, by simp⟩, Lib.hid rfl, Lib.hid rfl, Lib.hid (Below.refl _ _)⟩
  case round =>
    obtain ⟨k, lk, hk, rfl, HO, HK, HVL, HBr⟩ := hrel
    by_cases hlt : k < 5
    · have hk0 : (0 : Int) ≤ (k : Int) := Int.natCast_nonneg _
      have hk1 : (k : Int) < 5 := by omega
      obtain ⟨hv1, hv2⟩ := HNV.out k hlt
      have hcell := (HV.out.below HBr.out).cell k _ hv1
      have HVS1 := Lib.hid (HVS.out k hlt)
      generalize atN [r, b, q, c, e] k = nk at *
      have hn0 : (0 : Int) ≤ (nk : Int) := Int.natCast_nonneg _
      have hwr : IntKind.u64.wrap (nk : Int) = (nk : Int) := wrap_u64 nk (by omega)
      clear hv1
      go_wp2_with (at_builtin; go_must (refine wpList_append_any (w0 := wr.alloc (.cells #[.int .u64 nk, .slice none 0 0] 83)) w3.heap.size rfl _ _ 79 83 (.agg #[.int .u64 0, .slice none 0 0]) 2 32 rfl Try.underlying79 Try.info87 rfl (by decide) (by decide) u5 lk.length (fcells lk) (some ⟨wr.heap.size, 0, none⟩) 1 1 [.int .u64 nk, .slice none 0 0] rfl rfl (HO.out.alloc _).row ⟨rfl, fun _ => ⟨_, _, rfl, fun j v hj => by rw [World.cell?_alloc_mark, Nat.zero_add]; simpa using hj⟩⟩ (by simp [Value.oneCell']) (by rw [HK.out]; omega) (Below.refl _ _) (by have := HBr.out.size; simp; omega) ?_; intro v5 w5 hown5 hb5 hg5 ha5; have h5 : Hid (Below w3.heap.size w3 w5) := Lib.hid ((HBr.out.alloc HBr.out.size _).trans hb5); have ho5 : Hid (OFields w5 w3.heap.size v5 (lk ++ [⟨nk, none, 0, 0, []⟩])) := Lib.hid ((HO.out.alloc _).push ⟨nk, none, 0, 0, []⟩ (by show nk < 18446744073709551616; omega) (by simp) (World.ownsRow_nil _ _ _ _) hg5 hown5); clear hown5 hb5 hg5 ha5))
      go_roundw
      case rel => exact ⟨k + 1, lk ++ [⟨nk, none, 0, 0, []⟩], by omega, by go_num, ho5, Lib.hid (by rw [List.length_append, HK.out]; rfl), Lib.hid (by rw [HVS1.out, ← HVL.out]; simp [vals]), h5⟩
      case measure => simp [intOf]; omega
    · obtain rfl : k = 5 := by omega
      have hvl : vals lk = [(r, []), (b, []), (q, []), (c, []), (e, [])] := HVL.out
      obtain ⟨A5, c5, rfl, hrf⟩ := HO.out.read
      have HP := Lib.hid (codec_Pack superSh A5 lk.length c5 lk wr hrf)
      rw [super_pack r b q c e HBND.out.1 HBND.out.2.1 HBND.out.2.2.1 HBND.out.2.2.2.1 HBND.out.2.2.2.2 lk hvl] at HP
      have HBW := Lib.hid (bthen HBV.out HBr.out)
      have HXR := Lib.hid (HXV.out.below HBr.out)
      clear hvl hrf HNV HVS HVL HO
      go_wp2_with fail
      refine HP.out.mono ?_
      clear HP
      rintro e' w6 ⟨hb6, ⟨v6, o6, ho6, rfl, hown6⟩ | ⟨hno, -⟩⟩
      · injection ho6 with ho6
        subst ho6
        obtain ⟨A6, c6, rfl, hrb6⟩ := own_rb hown6
        rw [bodyL_length] at hrb6 ⊢
        have HR6 := Lib.hid hrb6; have HB6 := Lib.hid (bthen HBW.out hb6)
        have HX6 := Lib.hid (HXR.out.below hb6)
        have hx0 := HX6.out.cell 0 _ rfl
        clear hb6 hown6 hrb6
        go_wp2_with fail
        refine (seal_Make gen (by have := HGN.out; omega) A6 14 c6 (bodyL r b q c e) w6 HR6.out (by omega)).mono ?_
        have hmk : makeM gen (bodyL r b q c e) = some (sealL gen (bodyL r b q c e)) := by unfold makeM; rw [if_neg (by rw [bodyL_length]; have := HGN.out; omega)]
        rw [hmk]
        rintro e' w7 ⟨l7, e7, rfl, hl7, hb7, ⟨hs7, rfl⟩ | ⟨hno, -⟩⟩
        · injection hs7 with hs7
          have HL7 := Lib.hid hl7; have HS7 := Lib.hid hs7
          have HB7 := Lib.hid (balloc (bthen HB6.out hb7) (.cells (bv l7).toArray 32))
          have HX7 := Lib.hid ((HX6.out.below hb7).below (below_alloc w7 (.cells (bv l7).toArray 32)))
          have hy0 := HX7.out.cell 0 _ rfl
          have hld := run_ldSec (w := w7.alloc (.cells (bv l7).toArray 32)) (range_alloc w7 (bv l7) _ _) hl7
          have HD7 := Lib.hid (HD.out.below HB7.out)
          obtain ⟨m, hm⟩ : ∃ m : Nat, gen % 2 = m := ⟨_, rfl⟩
          have hmod : (gen : Int) % 2 = (m : Int) := by omega
          have HM := Lib.hid hm
          have hm2 : m < 2 := by omega
          have hm0 : (0 : Int) ≤ (m : Int) := Int.natCast_nonneg _
          have hwm : IntKind.i64.wrap (m : Int) = (m : Int) := by simp [IntKind.wrap, IntKind.signed, IntKind.bits]; omega
          clear hl7 hb7 hs7 hmk hx0 hm
          go_wp2_with (refine st37 rfl _ _ rfl _ _ rfl rfl l7 rfl HL7.out rfl ?_)
          by_cases hpw : d.power.2 = true
          · refine (disk_Write_yes HD7.out (Nat.le_trans HBS.out HB7.out.size) m (by have := HLN.out; omega) l7 HL7.out hpw (by have := HPN.out; omega)).mono ?_
            rintro e' w8 ⟨v8, rfl, hd8, hk8, hv8⟩
            obtain ⟨d8, hd8e⟩ : ∃ d8, d8 = ({ d.power.1 with pend := d.pend ++ [(m, l7)] } : Dk) := ⟨_, rfl⟩
            rw [← hd8e] at hd8
            have hp8 : d8.pend.length ≤ 1001 := by rw [hd8e]; show (d.pend ++ [(m, l7)]).length ≤ 1001; have := HPN.out; rw [List.length_append]; simp; omega
            have hv8' : ∀ q, v8.ownBlock = some q → v.ownBlock = some q ∨ w.heap.size ≤ q := fun q hq => by
              rcases hv8 with h1 | ⟨g, h1, h2⟩
              · exact .inl (h1 ▸ hq)
              · rw [h1] at hq
                injection hq with hq
                have := HB7.out.size
                exact .inr (by omega)
            have HV9 := Lib.hid hv8'; have HE8 := Lib.hid hd8e; have HPW := Lib.hid hpw
            have HD8 := Lib.hid hd8; have HK8 := Lib.hid hk8; have HV8 := Lib.hid hv8; have HP8 := Lib.hid hp8
            have HKP : Hid (Kp (foot p s v) w w8) := Lib.hid ((Kp.of_below (S := foot p s v) HB7.out).trans hk8 (fun _ _ hf => hf))
            clear hd8 hk8 hv8 hld hy0 hd8e hpw hp8 hv8'
            by_cases hpw2 : d8.power.2 = true
            · have HFL := Lib.hid (disk_Flush_yes HD8.out hpw2 (by have := HP8.out; omega))
              have HPW2 := Lib.hid hpw2
              clear hpw2
              go_wp2_with fail
              refine HFL.out.mono ?_
              clear HFL
              rintro e' w9 ⟨rfl, hd9, hk9⟩
              have HD9 := Lib.hid hd9; have HK9 := Lib.hid hk9
              clear hd9 hk9
              go_wp2_with fail
              go_ret
              have hW : superW d (gen % 2) (sealL gen (bodyL r b q c e)) = (d8.power.1.flushed, 0) := superW_yes HPW.out (by rw [HE8.out, HM.out, HS7.out]) HPW2.out
              refine ⟨_, (by show Ending.returned (.int .i64 0) = _; rw [hW]), by rw [hW]; exact HD9.out, HKP.out.trans HK9.out (fun i hi hf => ?_), fun q hq => by simp [Value.ownBlock] at hq⟩
              rcases hf with hf | hf | hf
              · exact .inl hf
              · exact .inr (.inl hf)
              · rcases HV8.out with h1 | ⟨g, h1, h2⟩
                · exact .inr (.inr (h1 ▸ hf))
                · rw [h1] at hf
                  injection hf with hf
                  have := HB7.out.size
                  omega
            · have HFL := Lib.hid (disk_Flush_dead HD8.out (by simpa using hpw2))
              have HPW2 := Lib.hid hpw2
              clear hpw2
              go_wp2_with fail
              refine HFL.out.mono ?_
              clear HFL
              rintro e' w9 ⟨rfl, hd9, hk9⟩
              have HD9 := Lib.hid hd9; have HK9 := Lib.hid hk9
              clear hd9 hk9
              go_wp2_with fail
              go_ret
              have hW : superW d (gen % 2) (sealL gen (bodyL r b q c e)) = (d8.power.1, 42) := superW_mid HPW.out (by rw [HE8.out, HM.out, HS7.out]) HPW2.out
              exact ⟨_, (by show Ending.returned (.int .i64 42) = _; rw [hW]), by rw [hW]; exact HD9.out, HKP.out.trans HK9.out (fun i hi hf => .inl hf), HV9.out⟩
          · have HWD := Lib.hid (disk_Write_dead HD7.out m (by have := HLN.out; omega) l7 (by simpa using hpw))
            have HPW := Lib.hid hpw
            clear hpw
            refine HWD.out.mono ?_
            clear HWD
            rintro e' w8 ⟨rfl, hd8, hk8⟩
            have HD8 := Lib.hid hd8; have HK8 := Lib.hid hk8
            clear hd8 hk8 hld hy0
            go_wp2_with fail
            go_ret
            have hW : superW d (gen % 2) (sealL gen (bodyL r b q c e)) = (d.power.1, 42) := superW_no HPW.out
            exact ⟨_, (by show Ending.returned (.int .i64 42) = _; rw [hW]), by rw [hW]; exact HD8.out, (Kp.of_below (S := foot p s v) HB7.out).trans HK8.out (fun i hi hf => .inl hf), fun q hq => .inl hq⟩
        · cases hno
      · cases hno
end Go.Proofs.Ytanibabfdpgbbaa
