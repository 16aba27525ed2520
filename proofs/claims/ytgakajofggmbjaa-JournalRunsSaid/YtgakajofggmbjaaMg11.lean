/- The codec's unpack. -/
import Derived.Test.YtgakajofggmbjaaMg3
import Derived.Test.YtgakajofggmbjaaMg10
import Derived.Test.YtgakajofggmbjaaMg5
namespace Go.Proofs.Ytgakajofggmbjaa
open Go.RowKit

/-- What unpack does with memory. -/
def UnPost (w : World) (r : Option (List (Nat × List UInt8))) (e : Ending) (w' : World) : Prop :=
  (∃ v lk, r = some (vals lk) ∧ e = .returned v ∧ OFields w' w.heap.size v lk ∧ Below w.heap.size w w') ∨ (r = none ∧ e = .panicked gaveUp ∧ Below w.heap.size w w')
/-- The reader: its cell, in a block of its own. -/
structure Reads (w0 w : World) (A : Option Addr) (n c : Nat) (xs : List UInt8) : Prop where
  cell : w.cell? ⟨w0.heap.size, 0, none⟩ = some (.slice A n c)
  fz : w.frozen? ⟨w0.heap.size, 0, none⟩ = false
  rb : RB w0 A n c xs
  below : Below w0.heap.size w0 w
  size : w0.heap.size + 1 ≤ w.heap.size
section
variable {w0 w w' : World} {A : Option Addr} {n c : Nat} {xs : List UInt8}
theorem Reads.alloc (h : Reads w0 w A n c xs) (o : Obj) : Reads w0 (w.alloc o) A n c xs :=
  ⟨(World.cell?_alloc_past _ _ _ h.size).trans h.cell, by rw [World.frozen?_of_block (a := ⟨w0.heap.size, 0, none⟩) (Go.heap_alloc_old w o (by have := h.size; show w0.heap.size < w.heap.size; omega))]; exact h.fz, h.rb, h.below.alloc h.below.size o, by simp; have := h.size; omega⟩
theorem Reads.on (h : Reads w0 w A n c xs) (hb : Below (w0.heap.size + 1) w w') : Reads w0 w' A n c xs :=
  ⟨(World.cell?_of_block (hb.block _ (by simp))).trans h.cell, by rw [World.frozen?_of_block (hb.block _ (by simp))]; exact h.fz, h.rb, h.below.trans (hb.mono (by omega)), Nat.le_trans h.size hb.size⟩
theorem Reads.took (h : Reads w0 w A n c xs) (k : Nat) (hk : k ≤ n) : Reads w0 (w.setCell ⟨w0.heap.size, 0, none⟩ (restV A n c k)) (cutA A c k) (n - k) (c - k) (xs.drop k) :=
  ⟨World.cell?_setCell_same _ _ _ h.cell, by rw [World.frozen?_setCell]; exact h.fz, h.rb.rest k hk, h.below.setCell (Nat.le_refl _) _, by simp [World.setCell]; exact h.size⟩
theorem Reads.tookRB (h : Reads w0 w A n c xs) (k : Nat) : RB (w.setCell ⟨w0.heap.size, 0, none⟩ (restV A n c k)) A n c xs := h.rb.below (h.below.setCell (Nat.le_refl _) _)
end
set_option maxRecDepth 20000 in
set_option maxHeartbeats 3200000 in
theorem codec_unpack_main (sh : List UInt8) (A : Option Addr) (n c : Nat) (bs : List UInt8) (w : World) (hr : RB w A n c bs) (hs : sh.length ≤ 200) :
    Calls Try.prog 63 #[.string (strOf sh), .slice A n c] w (UnPost w (unpackM sh bs)) := by
  have HR := Lib.hid hr
  generalize hm : sh.length = m at *
  have hsz : (strOf sh).size = m := by simp [strOf, hm, ByteArray.size]
  have hd : decide ((200 : Int) < (m : Int)) = false := decide_eq_false (by omega)
  have HM := Lib.hid hm
  clear hr hm
  go_enter Try.func63, Try.ntmps63
  go_wp2_with fail
  refine (fail_no _).mono ?_
  rintro e w' ⟨rfl, rfl⟩
  go_wp2_with fail
  have h0 : Reads w (w.alloc (.cells #[.slice A n c] 129)) A n c bs :=
    ⟨by simp [go_sem], by simp [go_sem], HR.out, below_alloc _ _, by simp⟩
  have H0 := Lib.hid h0
  clear h0
  go_loopw [6, 19] (fun u i wr => ∃ k p lk A' n' c', k ≤ m ∧ i = .int .i64 (k : Nat) ∧ Hid (unTo sh bs k = some (vals lk, p)) ∧ Hid (OFields wr (w.heap.size + 1) u lk) ∧ Hid (lk.length = k) ∧ Hid (Reads w wr A' n' c' (bs.drop p)) ∧ Hid (p ≤ bs.length)) (fun _ i _ => m - (intOf i).toNat)
  case atStart => exact ⟨0, 0, [], A, n, c, by omega, rfl, Lib.hid rfl, Lib.hid ⟨World.ownsRow_nil _ _ _ _, by simp, by simp, by simp⟩, Lib.hid rfl, H0, Lib.hid (Nat.zero_le _)⟩
  case round =>
    obtain ⟨k, p, lk, A', n', c', hk, rfl, HP, HO, HK, HRD, HPB⟩ := hrel
    by_cases hlt : k < m
    · have hk0 : (0 : Int) ≤ (k : Int) := Int.natCast_nonneg _
      have hk1 : (k : Int) < (m : Int) := by omega
      have hst := unTo_step HP.out
      have hg := strOf_get sh k
      have HNO : Hid (unTo sh bs (k + 1) = none → unpackM sh bs = none) := Lib.hid fun h => unpackM_none h (by rw [HM.out]; omega)
      have hbl : (bs.drop p).length = n' := HRD.out.rb.1
      generalize hys : bs.drop p = ys at *
      generalize at8 sh k = ch at hst hg
      have hcl := HRD.out.cell
      rcases letterW_cases ch with hlw | ⟨hlw, rfl⟩ | ⟨wd, hlw, hcw⟩
      · have HST : Hid (unTo sh bs (k + 1) = none) := Lib.hid (by rw [hst, decF, hlw]; rfl)
        have HW := Lib.hid (width_none ch hlw)
        clear hst hlw
        go_wp2_with fail
        refine (HW.out _).mono ?_
        rintro e w' ⟨rfl, rfl⟩
        exact ⟨rfl, .inr ⟨HNO.out HST.out, rfl, HRD.out.below⟩⟩
      · by_cases h2 : n' < 2
        · have HST : Hid (unTo sh bs (k + 1) = none) := Lib.hid (by rw [hst, decF, hlw]; simp only []; rw [if_pos (by rw [hbl]; exact h2)]; rfl)
          clear hst hlw
          go_wp2_with fail
          refine (width_b _).mono ?_
          rintro e w' ⟨rfl, rfl⟩
          go_wp2_with fail
          refine (num_unfit w.heap.size A' n' c' 2 wr hcl h2).mono ?_
          rintro e w' ⟨rfl, rfl⟩
          exact ⟨rfl, .inr ⟨HNO.out HST.out, rfl, HRD.out.below⟩⟩
        · have HNF := Lib.hid (num_fit w.heap.size A' n' c' 2 ys wr hcl HRD.out.fz (by omega) (by omega) (HRD.out.tookRB 2))
          have HT := Lib.hid (HRD.out.took 2 (by omega))
          have hsm := numOf_lt ys 2
          have HO2 := Lib.hid (HO.out.set ⟨w.heap.size, 0, none⟩ (restV A' n' c' 2) (by simp))
          by_cases h1024 : 1024 < numOf (ys.take 2)
          · have HST : Hid (unTo sh bs (k + 1) = none) := Lib.hid (by rw [hst, decF, hlw]; simp only []; rw [if_neg (by rw [hbl]; exact h2), if_pos h1024]; rfl)
            generalize numOf (ys.take 2) = v at *
            have hv0 : (0 : Int) ≤ (v : Int) := Int.natCast_nonneg _
            have hv1 : (v : Int) < 65536 := by omega
            have hd1 : decide ((1024 : Int) < (v : Int)) = true := decide_eq_true (by omega)
            clear hst hlw
            go_wp2_with fail
            refine (width_b _).mono ?_
            rintro e w' ⟨rfl, rfl⟩
            go_wp2_with fail
            refine HNF.out.mono ?_
            rintro e w' ⟨rfl, rfl⟩
            go_wp2_with fail
            refine (fail_yes _).mono ?_
            rintro e w' ⟨rfl, rfl⟩
            exact ⟨rfl, .inr ⟨HNO.out HST.out, rfl, HT.out.below⟩⟩
          · have hdec : decF 98 ys = if ys.length - 2 < numOf (ys.take 2) then none else some ((0, (ys.drop 2).take (numOf (ys.take 2))), 2 + numOf (ys.take 2)) := by
              rw [decF, hlw]; simp only []; rw [if_neg (by rw [hbl]; exact h2), if_neg h1024]
            generalize numOf (ys.take 2) = v at *
            have hv0 : (0 : Int) ≤ (v : Int) := Int.natCast_nonneg _
            have hv1 : (v : Int) ≤ 1024 := by omega
            have hd1 : decide ((1024 : Int) < (v : Int)) = false := decide_eq_false (by omega)
            have hwrap : IntKind.i64.wrap (v : Int) = (v : Int) := by simp [IntKind.wrap, IntKind.signed, IntKind.bits]; omega
            by_cases hfit : n' - 2 < v
            · have HST : Hid (unTo sh bs (k + 1) = none) := Lib.hid (by rw [hst, hdec, if_pos (by rw [hbl]; exact hfit)]; rfl)
              clear hst hlw hdec
              go_wp2_with fail
              refine (width_b _).mono ?_
              rintro e w' ⟨rfl, rfl⟩
              go_wp2_with fail
              refine HNF.out.mono ?_
              rintro e w' ⟨rfl, rfl⟩
              generalize wr.setCell ⟨w.heap.size, 0, none⟩ (restV A' n' c' 2) = w2 at *
              clear HNF
              go_wp2_with fail
              refine (fail_no _).mono ?_
              rintro e w' ⟨rfl, rfl⟩
              go_wp2_with fail
              refine (take_unfit w.heap.size (cutA A' c' 2) (n' - 2) (c' - 2) v _ (HT.out.alloc _).cell hfit).mono ?_
              rintro e w' ⟨rfl, rfl⟩
              exact ⟨rfl, .inr ⟨HNO.out HST.out, rfl, (HT.out.alloc _).below⟩⟩
            · have HST : Hid (unTo sh bs (k + 1) = some (vals lk ++ [(0, (ys.drop 2).take v)], p + (2 + v))) := Lib.hid (by rw [hst, hdec, if_neg (by rw [hbl]; exact hfit)]; rfl)
              clear hst hlw hdec
              go_wp2_with fail
              refine (width_b _).mono ?_
              rintro e w' ⟨rfl, rfl⟩
              go_wp2_with fail
              refine HNF.out.mono ?_
              rintro e w' ⟨rfl, rfl⟩
              generalize wr.setCell ⟨w.heap.size, 0, none⟩ (restV A' n' c' 2) = w2 at *
              clear HNF
              go_wp2_with fail
              refine (fail_no _).mono ?_
              rintro e w' ⟨rfl, rfl⟩
              go_wp2_with fail
              have ha := HT.out.alloc (.cells #[] 5)
              refine (take_fit w.heap.size (cutA A' c' 2) (n' - 2) (c' - 2) v _ ha.cell ha.fz (by omega) ha.rb.2.1 ha.rb.2.2.1).mono ?_
              rintro e w' ⟨rfl, rfl⟩
              have h3 := Lib.hid (ha.took v (by omega))
              have he3 := Lib.hid (own_set (own_empty w2 (w.heap.size + 1) 5 1 HT.out.size) ⟨w.heap.size, 0, none⟩ (restV (cutA A' c' 2) (n' - 2) (c' - 2) v) (fun e => by
                have := HT.out.size
                simp [Value.ownBlock] at e
                omega))
              have ho3 := Lib.hid ((HO2.out.alloc (.cells #[] 5)).set ⟨w.heap.size, 0, none⟩ (restV (cutA A' c' 2) (n' - 2) (c' - 2) v) (by simp))
              have hz3 : Hid (w2.heap.size < ((w2.alloc (.cells #[] 5)).setCell ⟨w.heap.size, 0, none⟩ (restV (cutA A' c' 2) (n' - 2) (c' - 2) v)).heap.size) := Lib.hid (by simp [World.setCell])
              have hrf := Lib.hid (ha.rb.first v (by omega))
              generalize (w2.alloc (.cells #[] 5)).setCell ⟨w.heap.size, 0, none⟩ (restV (cutA A' c' 2) (n' - 2) (c' - 2) v) = w3 at *
              have hlen3 : Hid (((ys.drop 2).take v).length = v) := Lib.hid hrf.out.1
              generalize hzs : (ys.drop 2).take v = zs at *
              clear ha hwrap
              go_wp2_with (at_builtin; first
                | (refine wpList_append_any (w0 := w3) (w.heap.size + 1) rfl _ _ 37 5 (.int .u8 0) 1 1 rfl Try.underlying37 Try.infoU8' rfl (by decide) (by decide) (.slice (some ⟨w2.heap.size, 0, none⟩) 0 0) 0 [] (cutA A' c' 2) v (c' - 2) (bv zs) rfl rfl he3.out ((hrf.out.below h3.out.below).rd) (bv_one _) (by omega) (Below.refl _ _) h3.out.size ?_
                   intro v4 w4 hown4 hb4 hg4 ha4
                   rw [Nat.zero_add, List.nil_append] at hown4
                   obtain ⟨A1, c1, rfl, -⟩ := own_rb hown4
                   have h4 := Lib.hid (h3.out.on hb4)
                   have ho4 := Lib.hid (HO2.out.kept ho3.out hg4 (Nat.le_refl _))
                   have HO4 := Lib.hid hown4
                   clear hown4 hb4 hg4 ha4)
                | (refine wpList_append_any (w0 := w4.alloc (.cells #[.int .u64 0, .slice A1 v c1] 78)) (w.heap.size + 1) rfl _ _ 90 78 (.agg #[.int .u64 0, .slice none 0 0]) 2 32 rfl Try.underlying90 Try.info87 rfl (by decide) (by decide) u6 lk.length (fcells lk) (some ⟨w4.heap.size, 0, none⟩) 1 1 [.int .u64 0, .slice A1 v c1] rfl rfl (ho4.out.alloc _).row ⟨rfl, fun _ => ⟨_, _, rfl, fun j v hj => by rw [World.cell?_alloc_mark, Nat.zero_add]; simpa using hj⟩⟩ (by simp [Value.oneCell']) (by rw [HK.out]; omega) (Below.refl _ _) (h4.out.alloc _).size ?_
                   intro v5 w5 hown5 hb5 hg5 ha5
                   have h5 := Lib.hid ((h4.out.alloc _).on hb5)
                   have ho5 : Hid (OFields w5 (w.heap.size + 1) v5 (lk ++ [⟨0, A1, v, c1, zs⟩])) := Lib.hid ((ho4.out.alloc _).push ⟨0, A1, v, c1, zs⟩ (by simp) (by simp; omega) (HO4.out.alloc _) hg5 hown5)
                   clear hown5 hb5 hg5 ha5))
              go_roundw
              case rel => exact ⟨k + 1, p + (2 + v), lk ++ [⟨0, A1, v, c1, zs⟩], _, _, _, by omega, by go_num, Lib.hid (by rw [HST.out]; simp [vals]), ho5, Lib.hid (by rw [List.length_append, HK.out]; rfl), by
                have := h5.out
                rw [← hys, List.drop_drop, List.drop_drop] at this
                exact Lib.hid this, Lib.hid (by
                have h1 := hbl
                rw [← hys, List.length_drop] at h1
                omega)⟩
              case measure => simp [intOf]; omega
      · have HW := Lib.hid (width_digit ch (wd + 1) hcw)
        have hw8 : wd + 1 ≤ 8 := by omega
        have hw0 : (0 : Int) < ((wd + 1 : Nat) : Int) := by omega
        by_cases h2 : n' < wd + 1
        · have HST : Hid (unTo sh bs (k + 1) = none) := Lib.hid (by rw [hst, decF, hlw]; simp only []; rw [if_pos (by rw [hbl]; exact h2)]; rfl)
          clear hst hlw hcw
          go_wp2_with fail
          refine (HW.out _).mono ?_
          rintro e w' ⟨rfl, rfl⟩
          generalize hwi : wd + 1 = wi at *
          clear HW
          go_wp2_with fail
          refine (num_unfit w.heap.size A' n' c' wi wr hcl h2).mono ?_
          rintro e w' ⟨rfl, rfl⟩
          exact ⟨rfl, .inr ⟨HNO.out HST.out, rfl, HRD.out.below⟩⟩
        · have HST : Hid (unTo sh bs (k + 1) = some (vals lk ++ [(numOf (ys.take (wd + 1)), [])], p + (wd + 1))) := Lib.hid (by rw [hst, decF, hlw]; simp only []; rw [if_neg (by rw [hbl]; exact h2)]; rfl)
          clear hst hlw hcw
          go_wp2_with fail
          refine (HW.out _).mono ?_
          rintro e w' ⟨rfl, rfl⟩
          generalize hwi : wd + 1 = wi at *
          have HNF := Lib.hid (num_fit w.heap.size A' n' c' wi ys wr hcl HRD.out.fz (by omega) (by omega) (HRD.out.tookRB wi))
          have h4 := Lib.hid (HRD.out.took wi (by omega))
          have hsm := numOf_small ys wi (by omega)
          have ho4 := Lib.hid (HO.out.set ⟨w.heap.size, 0, none⟩ (restV A' n' c' wi) (by simp))
          clear HW
          go_wp2_with fail
          refine HNF.out.mono ?_
          rintro e w' ⟨rfl, rfl⟩
          generalize wr.setCell ⟨w.heap.size, 0, none⟩ (restV A' n' c' wi) = w4 at *
          generalize hv : numOf (ys.take wi) = v at *
          clear HNF
          go_wp2_with (at_builtin; go_must (refine wpList_append_any (w0 := w4.alloc (.cells #[.int .u64 v, .slice none 0 0] 78)) (w.heap.size + 1) rfl _ _ 90 78 (.agg #[.int .u64 0, .slice none 0 0]) 2 32 rfl Try.underlying90 Try.info87 rfl (by decide) (by decide) u6 lk.length (fcells lk) (some ⟨w4.heap.size, 0, none⟩) 1 1 [.int .u64 v, .slice none 0 0] rfl rfl (ho4.out.alloc _).row ⟨rfl, fun _ => ⟨_, _, rfl, fun j v hj => by rw [World.cell?_alloc_mark, Nat.zero_add]; simpa using hj⟩⟩ (by simp [Value.oneCell']) (by rw [HK.out]; omega) (Below.refl _ _) (h4.out.alloc _).size ?_; intro v5 w5 hown5 hb5 hg5 ha5; have h5 := Lib.hid ((h4.out.alloc _).on hb5); have ho5 : Hid (OFields w5 (w.heap.size + 1) v5 (lk ++ [⟨v, none, 0, 0, []⟩])) := Lib.hid ((ho4.out.alloc _).push ⟨v, none, 0, 0, []⟩ hsm (by simp) (World.ownsRow_nil _ _ _ _) hg5 hown5); clear hown5 hb5 hg5 ha5))
          go_roundw
          case rel => exact ⟨k + 1, p + wi, lk ++ [⟨v, none, 0, 0, []⟩], _, _, _, by omega, by go_num, Lib.hid (by rw [HST.out]; simp [vals]), ho5, Lib.hid (by rw [List.length_append, HK.out]; rfl), by
            have := h5.out
            rw [← hys, List.drop_drop] at this
            exact Lib.hid this, Lib.hid (by
            have h1 := hbl
            rw [← hys, List.length_drop] at h1
            omega)⟩
          case measure => simp [intOf]; omega
    · obtain rfl : k = m := by omega
      have hcl := HRD.out.cell
      have hbl : (bs.drop p).length = n' := HRD.out.rb.1
      have hun : unpackM sh bs = if p = bs.length then some (vals lk) else none := unpackM_done (by rw [HM.out]; exact HP.out) (by rw [HM.out]; exact hs)
      rw [List.length_drop] at hbl
      by_cases h0 : 0 < n'
      · have HN : Hid (unpackM sh bs = none) := Lib.hid (by rw [hun, if_neg (by omega)])
        have hd0 : (0 : Int) < (n' : Int) := by omega
        clear hun hbl
        go_wp2_with fail
        refine (fail_yes _).mono ?_
        rintro e w' ⟨rfl, rfl⟩
        exact ⟨rfl, .inr ⟨HN.out, rfl, HRD.out.below⟩⟩
      · obtain rfl : n' = 0 := by omega
        have HN : Hid (unpackM sh bs = some (vals lk)) := Lib.hid (by rw [hun, if_pos (by have := HPB.out; omega)])
        clear hun hbl
        go_wp2_with fail
        refine (fail_no _).mono ?_
        rintro e w' ⟨rfl, rfl⟩
        go_wp2_with fail
        go_ret
        exact .inl ⟨u6, lk, HN.out, rfl, HO.out.mono (by omega), HRD.out.below⟩
set_option maxRecDepth 20000 in
theorem codec_unpack (sh : List UInt8) (A : Option Addr) (n c : Nat) (bs : List UInt8) (w : World) (hr : RB w A n c bs) :
    Calls Try.prog 63 #[.string (strOf sh), .slice A n c] w (UnPost w (unpackM sh bs)) := by
  by_cases hs : sh.length ≤ 200
  · exact codec_unpack_main sh A n c bs w hr hs
  · rw [unpackM_long (by omega)]
    have hsz : (strOf sh).size = sh.length := by simp [strOf, ByteArray.size]
    generalize sh.length = m at *
    have hd : decide ((200 : Int) < (m : Int)) = true := decide_eq_true (by omega)
    go_enter Try.func63, Try.ntmps63
    go_wp2_with fail
    refine (fail_yes _).mono ?_
    rintro e w' ⟨rfl, rfl⟩
    exact ⟨rfl, .inr ⟨rfl, rfl, Below.refl _ _⟩⟩
end Go.Proofs.Ytgakajofggmbjaa

/- The codec's Unpack: unpack, with giving up turned into an error. -/
namespace Go.Proofs.Ytgakajofggmbjaa
open Go.RowKit

/-- What Unpack answers and leaves (the reference's as well). -/
def UnpackedPost (w : World) (r : Option (List (Nat × List UInt8))) (e : Ending) (w' : World) : Prop :=
  Below w.heap.size w w' ∧ ((∃ v lk, r = some (vals lk) ∧ e = .returned (.tuple #[v, .int .i64 0]) ∧ OFields w' w.heap.size v lk) ∨ (r = none ∧ e = .returned (.tuple #[.slice none 0 0, .int .i64 21])))

set_option maxRecDepth 20000 in
set_option maxHeartbeats 1600000 in
theorem codec_Unpack_of (s : ByteArray) (A : Option Addr) (n c : Nat) (r : Option (List (Nat × List UInt8))) (w : World)
    (h : Calls Try.prog 63 #[.string s, .slice A n c] (w.alloc (.cells #[.int .i64 0] 41)) (UnPost (w.alloc (.cells #[.int .i64 0] 41)) r)) :
    Calls Try.prog 57 #[.string s, .slice A n c] w (UnpackedPost w r) := by
  have hmf : ∀ (fn : Fn) (first cap : Array Value) (w : World), (Instr.makeFunc fn first cap).run Try.prog w = .ok (.func fn first cap) w := fun _ _ _ _ => rfl
  have HP := Lib.hid h
  clear h
  go_enter_defers Try.func57, Try.ntmps57
  go_wp2_with fail
  refine HP.out.mono ?_
  rintro e w1 (⟨v, o, rfl, rfl, hown, hb⟩ | ⟨rfl, rfl, hb⟩)
  · have hw1 : w1.heap[w.heap.size]? = some (.cells #[.int .i64 0] 41 (0, 0)) := (hb.block _ (by simp)).trans (heap_alloc_new w _)
    have c5 : w1.cell? ⟨w.heap.size, 0, none⟩ = some (.int .i64 0) := by rw [cell_of_row w1 w.heap.size 0 _ _ _ hw1]; rfl
    have f5 : w1.frozen? ⟨w.heap.size, 0, none⟩ = false := frozen_of_row w1 w.heap.size 0 _ _ hw1
    have hbf : Below w.heap.size w (w1.setCell ⟨w.heap.size, 0, none⟩ (.int .i64 0)) := ((below_alloc w _).trans (hb.mono (by simp))).setCell (Nat.le_refl _) _
    have c6 : (w1.setCell ⟨w.heap.size, 0, none⟩ (.int .i64 0)).cell? ⟨w.heap.size, 0, none⟩ = some (.int .i64 0) := by
      rw [cell_of_row _ w.heap.size 0 _ _ _ (heap_setCell_same w1 w.heap.size 0 _ _ _ hw1)]
      rfl
    have hrow : OFields (w1.setCell ⟨w.heap.size, 0, none⟩ (.int .i64 0)) w.heap.size v o :=
      (hown.set ⟨w.heap.size, 0, none⟩ _ (by simp)).mono (by simp)
    have HBF := Lib.hid hbf; have HO := Lib.hid hrow; have HC6 := Lib.hid c6
    clear hbf hown hb hw1 hrow c6
    go_wp2_with fail
    refine leaves_cons (f := 48) (args := #[.pointer (some ⟨w.heap.size, 0, none⟩)]) (by simp) (by simp [go_sem]) ?_
    refine (caught_idle ⟨w.heap.size, 0, none⟩ _).mono ?_
    rintro e u' w'' ⟨rfl, rfl, rfl⟩
    simp [Leaves, settle, results, Try.results57, go_sem, HC6.out]
    exact ⟨HBF.out, .inl ⟨v, o, rfl, rfl, HO.out⟩⟩
  · have hw1 : w1.heap[w.heap.size]? = some (.cells #[.int .i64 0] 41 (0, 0)) := (hb.block _ (by simp)).trans (heap_alloc_new w _)
    have c5 : w1.cell? ⟨w.heap.size, 0, none⟩ = some (.int .i64 0) := by rw [cell_of_row w1 w.heap.size 0 _ _ _ hw1]; rfl
    have f5 : w1.frozen? ⟨w.heap.size, 0, none⟩ = false := frozen_of_row w1 w.heap.size 0 _ _ hw1
    have c6 : (w1.setCell ⟨w.heap.size, 0, none⟩ (.int .i64 21)).cell? ⟨w.heap.size, 0, none⟩ = some (.int .i64 21) := by
      rw [cell_of_row _ w.heap.size 0 _ _ _ (heap_setCell_same w1 w.heap.size 0 _ _ _ hw1)]
      rfl
    have hbf : Below w.heap.size w (w1.setCell ⟨w.heap.size, 0, none⟩ (.int .i64 21)) := ((below_alloc w _).trans (hb.mono (by simp))).setCell (Nat.le_refl _) _
    refine leaves_cons (f := 48) (args := #[.pointer (some ⟨w.heap.size, 0, none⟩)]) (by simp) (by simp [go_sem]) ?_
    refine (caught_up ⟨w.heap.size, 0, none⟩ 0 _ c5 f5).mono ?_
    rintro e u' w'' ⟨rfl, rfl, rfl⟩
    simp [Leaves, settle, results, Try.results57, go_sem, c6]
    exact ⟨hbf, .inr ⟨rfl, rfl⟩⟩

/-- Unpack. -/
theorem codec_Unpack (sh : List UInt8) (A : Option Addr) (n c : Nat) (bs : List UInt8) (w : World) (hr : RB w A n c bs) :
    Calls Try.prog 57 #[.string (strOf sh), .slice A n c] w (UnpackedPost w (unpackM sh bs)) :=
  codec_Unpack_of _ A n c _ w (codec_unpack sh A n c bs _ (hr.below (below_alloc w _)))
end Go.Proofs.Ytgakajofggmbjaa

/- The seal's put and get. -/
namespace Go.Proofs.Ytgakajofggmbjaa
open Go.RowKit

/-- The letter of a number of so many bytes. -/
def letterOf (wd : Nat) : UInt8 := if wd = 2 then 50 else if wd = 4 then 52 else 56
theorem letterW_of {wd : Nat} (h : wd = 2 ∨ wd = 4 ∨ wd = 8) : letterW (letterOf wd) = some wd := by
  rcases h with rfl | rfl | rfl <;> decide
theorem pack_one {wd n : Nat} (h : wd = 2 ∨ wd = 4 ∨ wd = 8) (hn : n < 256 ^ wd) (f : FieldD) (hf : f.num = n) : packM [letterOf wd] [f] = some (be n wd) := by
  have hw := letterW_of h
  obtain ⟨k, rfl⟩ : ∃ k, wd = k + 1 := ⟨wd - 1, by omega⟩
  refine (packM_iff _ _ _).2 ⟨by show 1 ≤ 200; omega, rfl, ?_⟩
  show packL [letterOf (k + 1)] [(f.num, f.bytes)] = _
  simp only [packL, encV, hw, hf]
  rw [if_pos hn]
  simp
theorem unpack_one {wd : Nat} (h : wd = 2 ∨ wd = 4 ∨ wd = 8) (xs : List UInt8) (hx : xs.length = wd) : unpackM [letterOf wd] xs = some [(numOf xs, [])] := by
  have hw := letterW_of h
  obtain ⟨k, rfl⟩ : ∃ k, wd = k + 1 := ⟨wd - 1, by omega⟩
  refine (unpackM_iff _ _ _).2 ⟨by show 1 ≤ 200; omega, ?_⟩
  simp only [unL, decF, hw]
  rw [if_neg (by omega), List.take_of_length_le (by omega)]
  simp only
  rw [List.drop_of_length_le (by omega)]
section
variable {ops : Array Oper} {rest : List Oper} {o : Oper} {a : Act} {w : World} {Q : Exit → Act → World → Prop}
/-- copy(s[off:], b). -/
theorem wpList_copy_sec (hgd : o.guard = none) (d s : Operand) (ho : o.op = .call { callee := .builtin .copy, args := #[d, s], argTypes := #[37, 37] })
    (g off dLen dCap : Nat) (A : Option Addr) (n c : Nat) (hd : a.eval d = .slice (some ⟨g, off, none⟩) dLen dCap) (hs : a.eval s = .slice A n c) (l : List UInt8) (hg : SecAt w g l) (xs : List UInt8) (hr : RB w A n c xs) (hn : n ≤ dLen) (hoff : off + n ≤ 128)
    (h : ∀ w', SecAt w' g (splice l off xs) → Kp (· = g) w w' → wpList Try.prog ops Q rest (a.put o.dst (goInt n)) w') : wpList Try.prog ops Q (o :: rest) a w := by
  have hsz : (Try.prog.info? 5).map (·.size) = some 1 := by kernel_rfl
  have hxl := hr.1
  rcases Nat.eq_zero_or_pos n with h0 | h0
  · subst h0
    obtain rfl := List.eq_nil_of_length_eq_zero hxl
    refine wpList_copy_nothing hgd d s _ _ ho 5 Try.underlying37 hsz _ _ dLen dCap 0 c hd hs (by simp) ?_
    exact h w (by simpa [splice] using hg) (Kp.refl _ _)
  · obtain ⟨b, o', rfl, hc⟩ := hr.2.2.2 h0
    refine wpList_copy_own hgd d s _ _ ho 5 Try.underlying37 hsz g off dLen dCap ⟨b, o', none⟩ n c hd hs (bv l).toArray _ hg.1 (bv xs) (by rw [bv_length, hxl]; exact (Nat.min_eq_left hn).symm) ?_ (by rw [bv_length, hxl]; simp [bv_length, hg.2]; exact hoff) (bv_one _) ?_
    · intro j v hj
      have hlt : j < xs.length := by have := (List.getElem?_eq_some_iff.1 hj).1; rwa [bv_length] at this
      rw [bv_get xs j hlt] at hj
      cases hj
      rw [add_none]
      exact hc j (by omega)
    · rw [bv_length, hxl]
      refine h _ ⟨?_, ?_⟩ ⟨rfl, rfl, rfl, by simp [World.setRow], fun k hk hne => setRow_other w g k _ hne⟩
      · have := setRow_heap w g _ ((bv l).take off ++ (bv xs ++ (bv l).drop (off + n))).toArray _ _ hg.1
        rw [show splice l off xs = l.take off ++ (xs ++ l.drop (off + n)) by rw [← hxl]; simp [splice]]
        simpa [bv] using this
      · have h2 := hg.2
        simp [splice, hxl, h2]
        omega
end
set_option maxRecDepth 20000 in
set_option maxHeartbeats 3200000 in
/-- put: a number's bytes at a place. -/
theorem seal_put (wd : Nat) (hwd : wd = 2 ∨ wd = 4 ∨ wd = 8) (n : Nat) (hn : n < 256 ^ wd) (g : Nat) (l : List UInt8) (p : Nat) (hp : p + wd ≤ 128) (w : World) (hg : SecAt w g l) :
    Calls Try.prog 51 #[.pointer (some ⟨g, 0, none⟩), .int .i64 p, .string (strOf [letterOf wd]), .int .u64 n] w fun e w' => e = .returned (.tuple #[]) ∧ SecAt w' g (splice l p (be n wd)) ∧ Kp (· = g) w w' := by
  have hn64 : n < 18446744073709551616 := by
    have h2 : (256 : Nat) ^ wd ≤ 256 ^ 8 := Nat.pow_le_pow_right (by decide) (by omega)
    omega
  have HG := Lib.hid hg
  have hp0 : (0 : Int) ≤ (p : Int) := Int.natCast_nonneg _
  have hp1 : (p : Int) ≤ 128 := by omega
  have h1 := rfields_new (w := w) [⟨n, none, 0, 0, []⟩] 78 w.heap.size rfl #[.int .u64 n, .slice none 0 0] rfl (by show 1 ≤ _; omega) (by
    intro f hf
    simp only [List.mem_cons, List.not_mem_nil, or_false] at hf
    subst hf
    exact ⟨hn64, RB.nil _, Nat.zero_le _⟩)
  have hpk := codec_Pack [letterOf wd] _ _ _ _ _ h1
  rw [pack_one hwd hn _ rfl] at hpk
  have HPK := Lib.hid hpk
  have HP := Lib.hid hp
  have HWD := Lib.hid hwd
  clear hg h1 hpk hwd hn hn64
  generalize hsh : letterOf wd = sh at *
  clear hsh
  go_enter Try.func51, Try.ntmps51
  go_wp2_with fail
  refine HPK.out.mono ?_
  clear HPK
  rintro e w2 ⟨hb2, ⟨v, o, ho, rfl, hown⟩ | ⟨hno, -⟩⟩
  · injection ho with ho
    subst ho
    obtain ⟨A1, c1, rfl, hrb⟩ := own_rb hown
    rw [be_length] at hrb ⊢
    have hb2' : Below w.heap.size w w2 := (below_alloc w _).trans (hb2.mono (by simp))
    have HG2 := Lib.hid (HG.out.below hb2')
    have HB2 := Lib.hid hb2'
    have HRB := Lib.hid hrb
    clear hb2 hown hrb hb2'
    by_cases hp128 : 128 = p
    · exfalso; have := HP.out; have := HWD.out; omega
    · go_wp2_with (refine wpList_copy_sec rfl _ _ rfl g p (128 - p) (128 - p) A1 wd c1 rfl rfl l HG2.out (be n wd) HRB.out (by have := HP.out; omega) HP.out ?_; intro w3 hg3 hk3; have HG3 := Lib.hid hg3; have HK3 := Lib.hid hk3; clear hg3 hk3)
      go_end0
      exact ⟨rfl, HG3.out, (Kp.of_below HB2.out).trans HK3.out (fun i _ e => e)⟩
  · cases hno
theorem vals_one {lk : List FieldD} {a : V} (h : vals lk = [a]) : lk.length = 1 ∧ (fieldAt lk 0).num = a.1 := by
  match lk, h with
  | [x], h =>
    simp only [vals, List.map_cons, List.map_nil, List.cons.injEq, and_true] at h
    exact ⟨rfl, by rw [← h]; rfl⟩
  | [], h => simp [vals] at h
  | _ :: _ :: _, h => simp [vals] at h
set_option maxRecDepth 20000 in
set_option maxHeartbeats 1600000 in
/-- get: the number of bytes. -/
theorem seal_get (wd : Nat) (hwd : wd = 2 ∨ wd = 4 ∨ wd = 8) (A : Option Addr) (c : Nat) (xs : List UInt8) (w : World) (hr : RB w A wd c xs) :
    Calls Try.prog 62 #[.slice A wd c, .string (strOf [letterOf wd])] w fun e w' => e = .returned (.int .u64 (numOf xs)) ∧ Below w.heap.size w w' := by
  have hu := codec_Unpack [letterOf wd] A wd c xs w hr
  rw [unpack_one hwd xs hr.1] at hu
  have HU := Lib.hid hu
  clear hu hr
  generalize letterOf wd = sh at *
  go_enter Try.func62, Try.ntmps62
  go_wp2_with fail
  refine HU.out.mono ?_
  clear HU
  rintro e w2 ⟨hb2, ⟨v, lk, hlk, rfl, hof⟩ | ⟨hno, -⟩⟩
  · injection hlk with hlk
    obtain ⟨A2, c2, rfl, hrf⟩ := hof.read
    obtain ⟨hl1, hn1⟩ := vals_one hlk.symm
    rw [hl1] at hrf ⊢
    obtain ⟨b, o', rfl, hfs⟩ := hrf.2.2.2 (by omega)
    have hcell : w2.cell? ⟨b, o', none⟩ = some (.int .u64 (numOf xs)) := by
      have := (hfs 0 (by omega)).1 0 _ rfl
      rw [hn1] at this
      exact this
    have HB := Lib.hid hb2
    have h01 : (0 : Int) < 1 := by decide
    clear hrf hfs hof hlk hb2 hl1 hn1
    go_wp2_with fail
    go_ret
    exact ⟨rfl, HB.out⟩
  · cases hno
set_option maxHeartbeats 1600000 in
/-- slices.Clone of bytes. -/
theorem clone_bytes (b o n c : Nat) (xs : List UInt8) (w : World) (hr : RB w (some ⟨b, o, none⟩) n c xs) (hn : n ≤ 140737488355328) :
    Calls Try.prog 40 #[.slice (some ⟨b, o, none⟩) n c] w fun e w' => ∃ A1 c1, e = .returned (.slice A1 n c1) ∧ RB w' A1 n c1 xs ∧ Below w.heap.size w w' := by
  have HR := Lib.hid hr
  have hnil := fun W => Lib.run_eql_slice_nil (P := Try.prog) W 37 5 (some ⟨b, o, none⟩) n c 0 0 Try.underlying37
  clear hr
  go_enter Try.func40, Try.ntmps40
  go_wp2_with (at_builtin; refine wpList_copy_bytes (W := w) rfl _ _ 37 5 rfl Try.underlying37 Try.infoU8' (some ⟨b, o, none⟩) n c xs w.heap.size rfl rfl rfl HR.out hn ?_; intro A1 c1 w1 hown1 hrb1 hb1; have HB1 := Lib.hid hb1; have HR1 := Lib.hid hrb1; clear hown1 hrb1 hb1)
  go_ret
  exact ⟨A1, c1, rfl, HR1.out, HB1.out⟩
end Go.Proofs.Ytgakajofggmbjaa

/- The seal's Make. -/
namespace Go.Proofs.Ytgakajofggmbjaa
open Go.RowKit

/-- What Make answers, in one form (the reference's as well). -/
def MadePost (w : World) (r : Option (List UInt8)) (e : Ending) (w' : World) : Prop :=
  ∃ l ev, e = .returned (.tuple #[secV l, .int .i64 ev]) ∧ l.length = 128 ∧ Below w.heap.size w w' ∧ ((r = some l ∧ ev = 0) ∨ (r = none ∧ l = zsec ∧ ev = 51))
theorem retS_tmp {fn : Func} {p q : Tmp} (h : fn.results = #[.cell p 55, .tmp q]) (tmps : Array Value) (w : World) (l : List UInt8) (u : Value) (g : Nat) (hp : tmps.getD p undef = .pointer (some ⟨g, 0, none⟩)) (hq : tmps.getD q undef = u) (hg : SecAt w g l) :
    (results fn tmps).run Try.prog w = .ok (.tuple #[secV l, u]) w :=
  res_row_tmp h tmps w g 0 (bv l) _ u hp hq hg.range Try.underlying55 rfl (Try.size37.trans (by simp [bv_length, hg.2]))
theorem two_step {w a b : World} {g0 g1 : Nat} {z : List UInt8} (hb : Below w.heap.size w a) (h0 : SecAt a g0 z) (hk : Kp (· = g1) a b) (hg0 : g0 ≠ g1) (hg1 : w.heap.size ≤ g1) : Below w.heap.size w b ∧ SecAt b g0 z :=
  ⟨hb.trans (hk.below hb.size (fun _ e => e ▸ hg1)), h0.kp hk hg0⟩
theorem splice_length (l : List UInt8) (o : Nat) (xs : List UInt8) (hl : l.length = 128) (h : o + xs.length ≤ 128) : (splice l o xs).length = 128 := by
  simp [splice, hl]
  omega
set_option maxRecDepth 20000 in
set_option maxHeartbeats 3200000 in
theorem seal_Make (mark : Nat) (hmk : mark < 18446744073709551616) (A : Option Addr) (n c : Nat) (body : List UInt8) (w : World) (hr : RB w A n c body) (hn : n ≤ 140737488351232) :
    Calls Try.prog 31 #[.int .u64 mark, .slice A n c] w (MadePost w (makeM mark body)) := by
  have hlen : body.length = n := hr.1
  have HR := Lib.hid hr
  have HLEN := Lib.hid hlen
  have hg0 : SecAt ((w.alloc (.cells Try.zeroCells55 55)).alloc (.cells Try.zeroCells55 55)) w.heap.size zsec := by
    rw [Try.zero37]
    exact (SecAt.new w zsec zsec_length).below (below_alloc _ _)
  have hg1 : SecAt ((w.alloc (.cells Try.zeroCells55 55)).alloc (.cells Try.zeroCells55 55)) (w.heap.size + 1) zsec := by
    have := SecAt.new (w.alloc (.cells Try.zeroCells55 55)) zsec zsec_length
    rw [Try.zero37]
    simpa [Try.zero37] using this
  have hb1 : Below w.heap.size w ((w.alloc (.cells Try.zeroCells55 55)).alloc (.cells Try.zeroCells55 55)) := (below_alloc w _).alloc (by simp) _
  have HG0 := Lib.hid hg0; have HG1 := Lib.hid hg1; have HB1 := Lib.hid hb1
  clear hr hlen hg0 hg1 hb1
  by_cases hbad : mark = 0 ∨ 106 < n
  · have HM : Hid (makeM mark body = none) := Lib.hid (by unfold makeM; rw [if_pos (by rw [HLEN.out]; exact hbad)])
    have key : ∀ P : Prop, ((((mark : Int) == 0) = true → P) ∧ ((((mark : Int) == 0) = false ∧ decide ((106 : Int) < (n : Int)) = true) → P)) → P := fun P ⟨h1, h2⟩ => by
      by_cases h0 : mark = 0
      · exact h1 (by subst h0; rfl)
      · exact h2 ⟨by rw [beq_eq_false_iff_ne]; omega, decide_eq_true (by omega)⟩
    clear hbad
    refine key _ ⟨fun h1 => ?_, fun ⟨h1, h2⟩ => ?_⟩
    all_goals
      clear key
      go_enter Try.func31, Try.ntmps31
      go_wp2_with (first | (refine ld37 rfl _ rfl (w.heap.size + 1) 0 rfl zsec HG1.out.range zsec_length ?_) | (refine st37_at rfl _ _ rfl w.heap.size zsec rfl HG0.out zsec rfl zsec_length ?_; intro w2 hg2 hk2; have HG2 := Lib.hid hg2; have HB2 := Lib.hid (HB1.out.trans (hk2.below HB1.out.size (fun _ e => by rw [e]; exact Nat.le_refl _))); clear hg2 hk2))
      (try simp only [Exit.inBlock, Exit.then])
      refine bodyPost_ret (retS_tmp rfl _ _ zsec _ w.heap.size rfl rfl HG2.out) rfl ?_
      exact ⟨zsec, 51, rfl, zsec_length, HB2.out, .inr ⟨HM.out, rfl, rfl⟩⟩
  · have HM : Hid (makeM mark body = some (sealL mark body)) := Lib.hid (by unfold makeM; rw [if_neg (by rw [HLEN.out]; exact hbad)])
    have hn106 : n ≤ 106 := by omega
    have h1 : ((mark : Int) == 0) = false := by rw [beq_eq_false_iff_ne]; omega
    have h2 : decide ((106 : Int) < (n : Int)) = false := decide_eq_false (by omega)
    have hn0 : (0 : Int) ≤ (n : Int) := Int.natCast_nonneg _
    have hwr : IntKind.u64.wrap (n : Int) = (n : Int) := by simp [IntKind.wrap, IntKind.signed, IntKind.bits]; omega
    have HP := Lib.hid (put_pre mark body (by rw [HLEN.out]; exact hn106))
    have HS := Lib.hid (put_sum mark body (by rw [HLEN.out]; exact hn106))
    rw [HLEN.out] at HP
    have HMK : Hid (mark < 256 ^ 8) := Lib.hid (by omega)
    have HN : Hid (n < 256 ^ 2 ∧ n ≤ 106) := Lib.hid ⟨by omega, hn106⟩
    clear hbad hn106 hmk
    go_enter Try.func31, Try.ntmps31
    go_wp2_with fail
    refine (seal_put 8 (.inr (.inr rfl)) mark HMK.out (w.heap.size + 1) zsec 0 (by omega) _ HG1.out).mono ?_
    rintro e w2 ⟨rfl, hg2, hk2⟩
    obtain ⟨hb2, hz2⟩ := two_step HB1.out HG0.out hk2 (by omega) (by omega)
    have HG2 := Lib.hid hg2; have HB2 := Lib.hid hb2; have HZ2 := Lib.hid hz2
    clear hg2 hk2 hb2 hz2
    go_wp2_with fail
    refine (seal_put 2 (.inl rfl) n HN.out.1 (w.heap.size + 1) _ 8 (by omega) _ HG2.out).mono ?_
    rintro e w3 ⟨rfl, hg3, hk3⟩
    obtain ⟨hb3, hz3⟩ := two_step HB2.out HZ2.out hk3 (by omega) (by omega)
    have HG3 := Lib.hid hg3; have HB3 := Lib.hid hb3; have HZ3 := Lib.hid hz3
    clear hg3 hk3 hb3 hz3
    go_wp2_with (refine wpList_copy_sec rfl _ _ rfl (w.heap.size + 1) 10 118 118 A n c rfl rfl _ HG3.out body (HR.out.below HB3.out) (by have := HN.out.2; omega) (by have := HN.out.2; omega) ?_; intro w4 hg4 hk4; obtain ⟨hb4, hz4⟩ := two_step HB3.out HZ3.out hk4 (by omega) (by omega); rw [HP.out] at hg4; have HG4 := Lib.hid hg4; have HB4 := Lib.hid hb4; have HZ4 := Lib.hid hz4; clear hg4 hk4 hb4 hz4)
    have hrb := HG4.out.rb 0 116 128 (by omega) (by omega) (by omega)
    rw [List.drop_zero, take_pre mark body _ (by rw [HLEN.out]; exact HN.out.2)] at hrb
    refine (crc_Sum _ _ _ [preL mark body] _ (rrb_one hrb _)).mono ?_
    rintro e w5 ⟨rfl, rfl⟩
    rw [sums_one]
    have hsl := sumL_lt mark body
    have HSL : Hid (sumL mark body < 256 ^ 4) := Lib.hid (by omega)
    rw [show (crcAdd 0#32 (preL mark body)).toNat = sumL mark body from rfl]
    generalize hsm : sumL mark body = sm at *
    have hs0 : (0 : Int) ≤ (sm : Int) := Int.natCast_nonneg _
    have hs1 : (sm : Int) < 4294967296 := by omega
    clear hrb hsl
    go_wp2_with fail
    refine (seal_put 4 (.inr (.inl rfl)) sm HSL.out (w.heap.size + 1) _ 116 (by omega) _ (HG4.out.below (below_alloc _ _))).mono ?_
    rintro e w6 ⟨rfl, hg6, hk6⟩
    obtain ⟨hb6, hz6⟩ := two_step (HB4.out.alloc HB4.out.size _) (HZ4.out.below (below_alloc _ _)) hk6 (by omega) (by omega)
    have HG6 := Lib.hid hg6; have HB6 := Lib.hid hb6; have HZ6 := Lib.hid hz6
    clear hg6 hk6 hb6 hz6
    go_wp2_with fail
    refine (seal_put 8 (.inr (.inr rfl)) mark HMK.out (w.heap.size + 1) _ 120 (by omega) _ HG6.out).mono ?_
    rintro e w7 ⟨rfl, hg7, hk7⟩
    obtain ⟨hb7, hz7⟩ := two_step HB6.out HZ6.out hk7 (by omega) (by omega)
    rw [HS.out] at hg7
    have HG7 := Lib.hid hg7; have HB7 := Lib.hid hb7; have HZ7 := Lib.hid hz7
    clear hg7 hk7 hb7 hz7
    go_wp2_with (first | (refine ld37 rfl _ rfl (w.heap.size + 1) 0 rfl (sealL mark body) HG7.out.range HG7.out.2 ?_) | (refine st37_at rfl _ _ rfl w.heap.size zsec rfl HZ7.out (sealL mark body) rfl HG7.out.2 ?_; intro w8 hg8 hk8; have HG8 := Lib.hid hg8; have HB8 := Lib.hid (HB7.out.trans (hk8.below HB7.out.size (fun _ e => by rw [e]; exact Nat.le_refl _))); clear hg8 hk8))
    (try simp only [Exit.inBlock, Exit.then])
    refine bodyPost_ret (retS_tmp rfl _ _ (sealL mark body) _ w.heap.size rfl rfl HG8.out) rfl ?_
    exact ⟨sealL mark body, 0, rfl, HG8.out.2, HB8.out, .inl ⟨HM.out, rfl⟩⟩
end Go.Proofs.Ytgakajofggmbjaa

/- The journal's calls of Sum and Pack for a record's head. -/
namespace Go.Proofs.Ytgakajofggmbjaa
open Go.RowKit

theorem crc_Sum1 (A : Option Addr) (n c : Nat) (b : List UInt8) (w : World) (hr : RB w A n c b) :
    Calls Try.prog 30 #[.slice (some ⟨w.heap.size, 0, none⟩) 1 1] (w.alloc (.cells #[.slice A n c] 37)) fun e w' => e = .returned (.int .u32 (((crcAdd 0#32 b).toNat : Nat) : Int)) ∧ w.alloc (.cells #[.slice A n c] 37) = w' :=
  crc_Sum _ 1 1 [b] _ (rrb_one hr _)
theorem hdBody_length (b : List UInt8) : (hdBody b).length = 6 := by simp [hdBody, be_length]
theorem pack24 (b : List UInt8) (h : b.length ≤ 384) : packM [50, 52] [⟨b.length, none, 0, 0, []⟩, ⟨(crcAdd 0#32 b).toNat, none, 0, 0, []⟩] = some (hdBody b) := by
  refine (packM_iff _ _ _).2 ⟨by decide, rfl, ?_⟩
  have e1 : letterW 50 = some 2 := rfl
  have e2 : letterW 52 = some 4 := rfl
  have hc : (crcAdd 0#32 b).toNat < 4294967296 := (crcAdd 0#32 b).isLt
  simp only [vals, List.map_cons, List.map_nil, packL, encV, e1, e2]
  rw [if_pos (show b.length < 256 ^ (1 + 1) by simp; omega), if_pos (show (crcAdd 0#32 b).toNat < 256 ^ (3 + 1) by simpa using hc)]
  simp [hdBody]
theorem head_Pack (b : List UInt8) (n : Nat) (hn : b.length = n) (h : n ≤ 384) (w : World) (g : Nat) (hg : g = w.heap.size) :
    Calls Try.prog 29 #[.string (strOf [50, 52]), .slice (some ⟨g, 0, none⟩) 2 2] (w.alloc (.cells #[.int .u64 (n : Int), .slice none 0 0, .int .u64 (((crcAdd 0#32 b).toNat : Nat) : Int), .slice none 0 0] 78)) fun e w' =>
      ∃ A1 c1, e = .returned (.tuple #[.slice A1 6 c1, .int .i64 0]) ∧ RB w' A1 6 c1 (hdBody b) ∧ Below w.heap.size w w' := by
  subst hn hg
  have hc : (crcAdd 0#32 b).toNat < 4294967296 := (crcAdd 0#32 b).isLt
  have hf := rfields_new (w := w) [⟨b.length, none, 0, 0, []⟩, ⟨(crcAdd 0#32 b).toNat, none, 0, 0, []⟩] 78 w.heap.size rfl #[.int .u64 (b.length : Int), .slice none 0 0, .int .u64 (((crcAdd 0#32 b).toNat : Nat) : Int), .slice none 0 0] rfl (by show 2 ≤ _; omega) (by
    intro f hf
    simp only [List.mem_cons, List.not_mem_nil, or_false] at hf
    rcases hf with rfl | rfl
    · exact ⟨by show b.length < _; omega, RB.nil _, Nat.zero_le _⟩
    · exact ⟨by show (crcAdd 0#32 b).toNat < _; omega, RB.nil _, Nat.zero_le _⟩)
  have hp := codec_Pack [50, 52] _ _ _ _ _ hf
  rw [pack24 b h] at hp
  refine hp.mono ?_
  rintro e w3 ⟨hb3, ⟨v, o3, ho, rfl, hown3⟩ | ⟨hno, -⟩⟩
  · injection ho with ho
    subst ho
    obtain ⟨A3, c3, rfl, hrb3⟩ := own_rb hown3
    rw [hdBody_length] at hrb3 ⊢
    exact ⟨A3, c3, rfl, hrb3, bthen (below_alloc w _) hb3⟩
  · cases hno
theorem mark_seal (mark : Nat) (hmk : mark < 18446744073709551616) (h0 : mark ≠ 0) (A : Option Addr) (n c : Nat) (body : List UInt8) (w : World) (hr : RB w A n c body) (hn : n ≤ 106) :
    Calls Try.prog 31 #[.int .u64 mark, .slice A n c] w fun e w' => e = .returned (.tuple #[.agg (bv (sealL mark body)).toArray, .int .i64 0]) ∧ Below w.heap.size w w' := by
  refine (seal_Make mark hmk A n c body w hr (by omega)).mono ?_
  rintro e w' ⟨l, ev, rfl, hl, hb, ⟨h1, rfl⟩ | ⟨h1, -⟩⟩
  · have h2 : makeM mark body = some (sealL mark body) := by unfold makeM; rw [if_neg (by have := hr.1; omega)]
    rw [h2] at h1
    injection h1 with h1
    subst h1
    exact ⟨rfl, hb⟩
  · have h2 : makeM mark body = some (sealL mark body) := by unfold makeM; rw [if_neg (by have := hr.1; omega)]
    rw [h2] at h1
    cases h1
/-- A sector is stored over one of a block of its own. -/
theorem sec_over {w5 W' : World} {g : Nat} {l z : List UInt8} (hb : Below w5.heap.size w5 W') (hg : w5.heap.size ≤ g) (hz : SecAt W' g z) (hl : l.length = 128) :
    (stSec (.pointer (some ⟨g, 0, none⟩)) (.agg (bv l).toArray)).run Try.prog W' = .ok () (W'.setCells g 0 (bv l)) ∧ SecAt (W'.setCells g 0 (bv l)) g l ∧ Below w5.heap.size w5 (W'.setCells g 0 (bv l)) := by
  obtain ⟨h1, h2⟩ := setCells_heap g 55 (bv l) (bv z).toArray 0 W' hz.1 (by simp [bv_length, hz.2, hl])
  refine ⟨run_stSec (fun j hj => ?_) hl, ⟨?_, hl⟩, hb.trans (h2.below hb.size (fun _ e => e ▸ hg))⟩
  · have hc := hz.cell j hj
    rw [Nat.zero_add]
    exact ⟨by rw [hc]; rfl, frozen_of_row W' g j _ _ hz.1⟩
  · rw [h1, List.toList_toArray, bv_splice]
    congr 3
    have hd : z.drop 128 = [] := List.drop_eq_nil_of_le (by rw [hz.2]; exact Nat.le_refl _)
    simp [splice, hl, hd]
end Go.Proofs.Ytgakajofggmbjaa
