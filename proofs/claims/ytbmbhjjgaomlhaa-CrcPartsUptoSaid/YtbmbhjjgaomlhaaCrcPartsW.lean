/- The walk of CrcParts: however bytes are cut, their sum is the same (where the argument's bulk is bounded: what the law joins fits into one slice). -/
import Derived.Test.YtbmbhjjgaomlhaaCrcNamesW
import Derived.Test.YtbmbhjjgaomlhaaOpen
import Derived.Test.YtbmbhjjgaomlhaaRows
namespace Go.Proofs.Ytbmbhjjgaomlhaa
open Go.RowKit

theorem crcFold_append (s : BitVec 32) (a b : List UInt8) : crcFold s (a ++ b) = crcFold (crcFold s a) b := by simp [crcFold, List.foldl_append]
theorem crcAdd_append (s : BitVec 32) (a b : List UInt8) : crcAdd (crcAdd s a) b = crcAdd s (a ++ b) := by
  unfold crcAdd
  rw [BitVec.not_not, crcFold_append]
theorem crcSums_flatten (xss : List (List UInt8)) : crcSums xss = crcAdd 0#32 xss.flatten := by
  have h : ∀ (xss : List (List UInt8)) (s : BitVec 32) (a : List UInt8), xss.foldl crcAdd (crcAdd s a) = crcAdd s (a ++ xss.flatten) := by
    intro xss
    induction xss with
    | nil => intro s a; simp
    | cons x xss ih =>
      intro s a
      rw [List.foldl_cons, crcAdd_append, ih]
      simp
  have h0 := h xss 0#32 []
  have e : crcAdd 0#32 [] = 0#32 := by decide
  rw [e, List.nil_append] at h0
  exact h0
theorem flatten_take (xss : List (List UInt8)) (k : Nat) (h : k < xss.length) : (xss.take (k + 1)).flatten = (xss.take k).flatten ++ atL xss k := by
  rw [List.take_succ_eq_append_getElem h, List.flatten_append, atL, List.getD_eq_getElem?_getD, List.getElem?_eq_getElem h]; simp
theorem flatten_le (xss : List (List UInt8)) (k : Nat) : (xss.take k).flatten.length ≤ xss.flatten.length := by
  conv => rhs; rw [← List.take_append_drop k xss]
  rw [List.flatten_append, List.length_append]
  omega

set_option maxHeartbeats 800000 in
theorem crcParts_true (A : Option Addr) (n c : Nat) (xss : List (List UInt8)) (w : World) (hx : RRB w A n c xss) (hs : xss.flatten.length ≤ 1048576) :
    Calls Try.prog 5 #[.slice A n c] w fun e w' => e = .returned (.bool true) ∧ Below w.heap.size w w' := by
  have HX := Lib.hid hx; clear hx
  have hcn := HX.out.2.2.1
  have hnc := HX.out.2.1
  go_enter Try.func5, Try.ntmps5
  go_wp2_with fail
  go_loopw [3, 9] (fun v i wr => ∃ k : Nat, k ≤ n ∧ i = .int .i64 k ∧ wr.ownsRow w.heap.size 5 1 v (xss.take k).flatten.length (bv (xss.take k).flatten) ∧ Below w.heap.size w wr) (fun _ i _ => n - (intOf i).toNat)
  case atStart => exact ⟨0, by omega, rfl, own_empty w _ _ _ (Nat.le_refl _), below_alloc _ _⟩
  case round =>
    obtain ⟨k, hk, rfl, hown, hbr⟩ := hrel
    by_cases hlt : k < n
    · obtain ⟨h1, _, _, h4⟩ := HX.out.below hbr
      obtain ⟨b, o, rfl, h5⟩ := h4 (by omega)
      obtain ⟨A', n', c', hcell, hrb⟩ := h5 k hlt
      have HF := Lib.hid (flatten_take xss k (by omega))
      have HL := flatten_le xss (k + 1)
      have HR := Lib.hid hrb
      have HO := Lib.hid hown
      have HB := Lib.hid hbr
      clear h4 h5 h1 hrb hown hbr
      go_wp2_with (at_builtin; go_must (refine wpList_append_any (w0 := w) w.heap.size rfl _ _ 24 5 (.int .u8 0) 1 1 rfl Try.underlying24 (by kernel_rfl) rfl (by decide) (by decide) u3 _ _ A' n' c' _ rfl rfl HO.out HR.out.rd (bv_one _) (by rw [HF.out, List.length_append, HR.out.1] at HL; omega) HB.out HB.out.size ?_; intro v1 w1 hown1 hb1 _ _))
      go_roundw
      case rel => exact ⟨k + 1, by omega, by go_num, by rw [HF.out, bv_append, List.length_append, HR.out.1]; exact hown1, hb1⟩
      case measure => simp [intOf]; omega
    · obtain rfl : k = n := by omega
      rw [List.take_of_length_le (by rw [HX.out.1]; omega)] at hown
      obtain ⟨A1, c1, rfl, hrb⟩ := own_rb hown
      have hsum := crcSums_flatten xss
      have hsum1 : crcSums [xss.flatten] = crcAdd 0#32 xss.flatten := rfl
      have HX1 := Lib.hid (HX.out.below hbr)
      have HR := Lib.hid hrb
      generalize xss.flatten = ys at *
      clear hown hrb HX
      go_wp2_with fail
      refine (crcNames_walk _).mono ?_
      rintro e w1 ⟨rfl, hb1⟩
      have HS := Lib.hid hsum; have HS1 := Lib.hid hsum1
      clear hsum hsum1
      go_wp2_with fail
      refine (crc_Sum _ _ _ xss _ (HX1.out.below hb1)).mono ?_
      rintro e w2 ⟨rfl, rfl⟩
      rw [HS.out]
      have HR1 := Lib.hid (HR.out.below hb1)
      have HR2 := Lib.hid (rrb_one HR1.out 24)
      go_wp2_with fail
      refine (crc_Sum _ _ _ _ _ HR2.out).mono ?_
      rintro e w3 ⟨rfl, rfl⟩
      rw [HS1.out]
      have HR3 := Lib.hid (rrb_one' (HR1.out.alloc (.cells #[.slice A1 ys.length c1] 24)) 24 (w1.heap.size + 1) (by simp))
      have HR4 := Lib.hid ((HR1.out.alloc (.cells #[.slice A1 ys.length c1] 24)).alloc (.cells #[.slice A1 ys.length c1] 24))
      go_wp2_with fail
      refine (crc_Sum _ _ _ _ _ HR3.out).mono ?_
      rintro e w4 ⟨rfl, rfl⟩
      rw [HS1.out]
      go_wp2_with fail
      refine (crc_Add 0#32 _ _ _ ys _ HR4.out).mono ?_
      rintro e w5 ⟨rfl, rfl⟩
      go_wp2_with fail
      go_ret
      exact ⟨rfl, balloc (balloc (bthen hbr hb1) _) _⟩

theorem bulk_rows {H : Type} (n : Nat) (D : Nat → DataW H) (xss : List (List UInt8)) (hl : xss.length = n) (h : ∀ k, k < n → (D k = .nil ∧ (atL xss k).length = 0) ∨ ∃ es sp', D k = .slice es sp' ∧ es.length = (atL xss k).length) :
    xss.flatten.length ≤ Rows.uptoBulkAll ((List.range n).map D) := by
  have len_le : ∀ l : List (DataW H), l.length ≤ Rows.uptoBulkAll l := by
    intro l
    induction l with
    | nil => simp [Rows.uptoBulkAll]
    | cons x r ih =>
      have : 1 ≤ Rows.uptoBulk x := by
        cases x with
        | lit l => cases l <;> simp [Rows.uptoBulk]
        | nil => simp [Rows.uptoBulk]
        | ptr d => simp [Rows.uptoBulk]
        | slice elems spare => simp [Rows.uptoBulk]
        | agg parts => simp [Rows.uptoBulk]
        | iface t d => simp [Rows.uptoBulk]
        | map entries => simp [Rows.uptoBulk]
        | held h => simp [Rows.uptoBulk]
      simp only [Rows.uptoBulkAll, List.length_cons]
      omega
  have app : ∀ l r : List (DataW H), Rows.uptoBulkAll (l ++ r) = Rows.uptoBulkAll l + Rows.uptoBulkAll r := by
    intro l r
    induction l with
    | nil => simp [Rows.uptoBulkAll]
    | cons x l ih => simp only [List.cons_append, Rows.uptoBulkAll, ih]; omega
  have step : ∀ k, k ≤ n → (xss.take k).flatten.length ≤ Rows.uptoBulkAll ((List.range k).map D) := by
    intro k
    induction k with
    | zero => intro _; simp
    | succ k ih =>
      intro hk
      rw [flatten_take xss k (by omega), List.length_append, List.range_succ, List.map_append, app]
      have hd : (atL xss k).length ≤ Rows.uptoBulkAll ([k].map D) := by
        simp only [List.map_cons, List.map_nil, Rows.uptoBulkAll]
        rcases h k (by omega) with ⟨_, h0⟩ | ⟨es, sp, h1, h2⟩
        · omega
        · rw [h1, ← h2]
          have := len_le es
          simp only [Rows.uptoBulk]
          omega
      have := ih (by omega)
      omega
  have := step n (Nat.le_refl _)
  rwa [List.take_of_length_le (by omega)] at this

set_option maxRecDepth 100000 in
theorem crcParts_walk {H : Type} {enc : TypeId × Value → H} {W : World} {base : Nat} {v0 : Value} {d0 : DataW H} {p0 : List MemPlace}
    (o0 : Value.okWide Try.prog W .any base 28 v0) (r0 : DataW.Trod enc Try.prog W 0 (fun _ => true) true 28 v0 d0 p0) (z0 : ∀ n ∈ d0.weights Try.prog 28, n ≤ reachBytes) (hk : Rows.uptoBulkAll [d0] ≤ 1048576) :
    Calls Try.prog 5 #[v0] W fun e w' => e = .returned (.bool true) ∧ Below W.heap.size W w' := by
  obtain ⟨A, n, c, xss, rfl, hx, _, _, hd⟩ := open_rows Try.underlying28 Try.underlying24 Try.underlying5 (by kernel_rfl) (by kernel_rfl) (by kernel_rfl) (by kernel_rfl) o0 r0 z0
  refine crcParts_true A n c xss W hx ?_
  rcases hd with ⟨_, rfl⟩ | ⟨D, sp, rfl, h⟩
  · have := List.eq_nil_of_length_eq_zero hx.1
    subst this
    simp
  · have := bulk_rows n D xss hx.1 h
    simp only [Rows.uptoBulkAll, Rows.uptoBulk] at hk
    omega
end Go.Proofs.Ytbmbhjjgaomlhaa
