/- The reference's Copy: fields in memory of their own. -/
import Derived.Test.YtccofdmnljbegaaFields2
import Derived.Test.YtccofdmnljbegaaStep
import Derived.Test.YtccofdmnljbegaaCell2
namespace Go.Proofs.Ytccofdmnljbegaa
open Go.RowKit

/-- What Copy leaves. -/
def CopyPost (w : World) (l : List FieldD) (e : Ending) (w' : World) : Prop := ∃ v l', e = .returned v ∧ OFields w' w.heap.size v l' ∧ vals l' = vals l ∧ Below w.heap.size w w'
theorem vals_take (l : List FieldD) (k : Nat) (h : k < l.length) : vals (l.take (k + 1)) = vals (l.take k) ++ [((fieldAt l k).num, (fieldAt l k).bytes)] := by
  unfold vals
  rw [List.take_succ_eq_append_getElem h, List.map_append, fieldAt_get h]
  rfl
theorem Try.info87 : (Try.prog.info? 40).map (fun i => (i.zero, i.size, i.bytes)) = some (some (.agg #[.int .u64 0, .slice none 0 0]), 2, 32) := by kernel_rfl

/-- The world in which a field's copy is made. -/
theorem copy_bytes {w wr w4 : World} {u x y : Value} {lk : List FieldD} (HO : OFields wr w.heap.size u lk) (HB : Below w.heap.size w wr)
    (hg4 : (((wr.alloc (.cells #[x, y] 40)).alloc (.cells #[] 5)).drew).grownBy w4 (some (wr.heap.size + 1))) :
    w4.cell? ⟨wr.heap.size, 0, none⟩ = some x ∧ w4.cell? ⟨wr.heap.size, 1, none⟩ = some y ∧ Below w.heap.size w w4 ∧ OFields w4 w.heap.size u lk := by
  have hs := HB.size
  have hs2 : ((wr.alloc (.cells #[x, y] 40)).alloc (.cells #[] 5)).drew.heap.size = wr.heap.size + 2 := by simp
  refine ⟨?_, ?_, ?_, ?_⟩
  · exact (hg4.cell_far _ (by rw [hs2]; simp) (by simp)).trans (by simp [go_sem])
  · exact (hg4.cell_far _ (by rw [hs2]; simp) (by simp)).trans (by simp [go_sem])
  · exact Below.grown (((HB.alloc hs _).alloc (by simp; omega) _).drew) hg4 (by rw [hs2]; omega) (fun b' hb' => by
      injection hb' with hb'
      omega)
  · have h2 := ((HO.alloc (.cells #[x, y] 40)).alloc (.cells #[] 5)).drew
    refine ⟨h2.row.kept hg4 (.inr fun e => ?_), h2.num, fun f hf => (h2.bytes f hf).kept hg4 (.inr fun e => ?_), h2.len⟩
    · have := (HO.row.lt _ e).2
      omega
    · have := ((HO.bytes f hf).lt _ e).2
      omega

set_option maxRecDepth 20000 in
set_option maxHeartbeats 3200000 in
theorem ref02_Copy (A : Option Addr) (n c : Nat) (l : List FieldD) (w : World) (hl : RFields w A n c l) (hn : n * 32 ≤ 140737488351232) :
    Calls Try.prog 12 #[.slice A n c] w (CopyPost w l) := by
  have HL := Lib.hid hl
  clear hl
  go_enter Try.func12, Try.ntmps12
  go_wp2_with fail
  go_loopw [3, 9] (fun u i wr => ∃ k lk, k ≤ n ∧ i = .int .i64 (k : Nat) ∧ Hid (OFields wr w.heap.size u lk) ∧ Hid (vals lk = vals (l.take k)) ∧ Hid (lk.length = k) ∧ Hid (Below w.heap.size w wr)) (fun _ i _ => n - (intOf i).toNat)
  case atStart => exact ⟨0, [], by omega, rfl, Lib.hid ⟨own_empty w _ _ _ (Nat.le_refl _), by simp, by simp, by simp⟩, Lib.hid rfl, Lib.hid rfl, Lib.hid (below_alloc _ _)⟩
  case round =>
    obtain ⟨k, lk, hk, rfl, HO, HV, HK, HB⟩ := hrel
    by_cases hlt : k < n
    · have hk0 : (0 : Int) ≤ (k : Int) := Int.natCast_nonneg _
      have hk1 : (k : Int) < (n : Int) := by omega
      have hokw : FieldOk w (fieldAt l k) := by
        obtain ⟨_, _, _, h⟩ := HL.out.2.2.2 (by omega)
        exact (h k hlt).2
      have hvt := vals_take l k (by rw [HL.out.1]; exact hlt)
      obtain ⟨b, o', rfl, hfs⟩ := (HL.out.below HB.out).2.2.2 (by omega)
      obtain ⟨hrg, -⟩ := hfs k hlt
      generalize fieldAt l k = f at *
      obtain ⟨num, fA, fn, fc, fb⟩ := f
      have HRG := Lib.hid hrg
      have HOW := Lib.hid hokw
      have HVT := Lib.hid hvt
      clear hrg hfs hokw hvt
      have HOA := Lib.hid (HO.out.alloc (.cells #[.int .u64 (num : Int), .slice fA fn fc] 40))
      have HBA := Lib.hid (HB.out.alloc HB.out.size (.cells #[.int .u64 (num : Int), .slice fA fn fc] 40))
      go_wp2_with (first | (refine ld2 40 rfl _ rfl b (o' + k * 2) rfl (.int .u64 num) (.slice fA fn fc) HRG.out Try.underlying40 rfl Try.size87 ?_) | (refine st2 40 rfl _ _ rfl _ _ rfl rfl (.int .u64 num) (.slice fA fn fc) rfl rfl rfl Try.size87 rfl ?_))
      go_region_held3 (fun w' => w'.cell? ⟨wr.heap.size, 0, none⟩ = some (.int .u64 num) ∧ w'.cell? ⟨wr.heap.size, 1, none⟩ = some (.slice fA fn fc)) (first | go_keep | (constructor <;> assumption))
        (first
          | (refine step_append_any (by rfl) _ _ 22 5 (.int .u8 0) 1 1 (by rfl) Try.underlying22 Try.infoU8' rfl (by decide) (by decide) w.heap.size (.slice (some ⟨wr.heap.size + 1, 0, none⟩) 0 0) 0 [] fA fn fc (bv fb) (by rfl) (by rfl) (by simpa using (own_empty (wr.alloc (.cells #[.int .u64 (num : Int), .slice fA fn fc] 40)) w.heap.size 5 1 HBA.out.size).drew) ((HOW.out.rb.below ((HBA.out.alloc HBA.out.size _).drew)).rd) (bv_one _) (by have h : fn ≤ 140737488351232 := HOW.out.len; omega) (by have := HBA.out.size; simp at this; simp; omega) ?_
             intro v1 w4 hown4 hg4 ha4
             rw [Nat.zero_add, List.nil_append] at hown4
             obtain ⟨A1, c1, rfl, -⟩ := own_rb hown4
             obtain ⟨hT0, hT1, hb4, hof4⟩ := copy_bytes HO.out HB.out hg4
             have hlt3 := World.block_lt_of_cell? w4 _ hT0
             have HT0 := Lib.hid hT0; have HT1 := Lib.hid hT1; have HLT := Lib.hid hlt3
             clear hlt3
             have HO4 := Lib.hid hown4; have HB4 := Lib.hid hb4; have HOF := Lib.hid hof4
             clear hown4 hg4 ha4 hb4 hof4)
          | (refine step_append_any (by rfl) _ _ 26 40 (.agg #[.int .u64 0, .slice none 0 0]) 2 32 (by rfl) Try.underlying26 Try.info87 rfl (by decide) (by decide) w.heap.size u3 lk.length (fcells lk) (some ⟨w4.heap.size, 0, none⟩) 1 1 [.int .u64 (num : Int), .slice A1 fn c1] (by rfl) (by rfl) (HOF.out.alloc _).row ⟨rfl, fun _ => ⟨_, _, rfl, fun j v hj => by rw [World.cell?_alloc_mark, Nat.zero_add]; simpa using hj⟩⟩ (by simp [Value.oneCell']) (by rw [HK.out]; omega) (by have := HB4.out.size; simp; omega) ?_
             intro v2 w5 hown5 hg5 ha5
             have hne : u3.ownBlock ≠ some wr.heap.size := fun e => by
               have := (HO.out.row.lt _ e).2
               omega
             have hlt4 : wr.heap.size < (w4.alloc (.cells #[.int .u64 (num : Int), .slice A1 fn c1] 40)).heap.size := by
               have := HLT.out
               simp at this ⊢
               omega
             have hS0 : w5.cell? ⟨wr.heap.size, 0, none⟩ = some (.int .u64 num) := (hg5.cell_far _ hlt4 (Ne.symm hne)).trans (by rw [World.cell?_alloc_past _ _ _ HLT.out]; exact HT0.out)
             have hS1 : w5.cell? ⟨wr.heap.size, 1, none⟩ = some (.slice fA fn fc) := (hg5.cell_far _ hlt4 (Ne.symm hne)).trans (by rw [World.cell?_alloc_past _ _ _ HLT.out]; exact HT1.out)
             clear hne hlt4
             have H5 := Lib.hid hown5; have HG5 := Lib.hid hg5
             clear hown5 hg5 ha5))
      have hpush : OFields w5 w.heap.size v2 (lk ++ [⟨num, A1, fn, c1, fb⟩]) := (HOF.out.alloc _).push ⟨num, A1, fn, c1, fb⟩ HOW.out.num HOW.out.len (HO4.out.alloc _) HG5.out H5.out
      have hb5 : Below w.heap.size w w5 := Below.grown (HB4.out.alloc HB4.out.size _) HG5.out (by have := HB4.out.size; simp; omega) (fun b' hb' => (HO.out.row.lt b' hb').1)
      have hv5 : vals (lk ++ [⟨num, A1, fn, c1, fb⟩]) = vals (l.take (k + 1)) := by
        rw [HVT.out, ← HV.out]
        simp [vals]
      have HP5 := Lib.hid hpush; have HB5 := Lib.hid hb5; have HV5 := Lib.hid hv5
      clear hpush hb5 hv5
      go_wp2
      go_roundw
      case rel => exact ⟨k + 1, _, by omega, by go_num, HP5, HV5, Lib.hid (by rw [List.length_append, HK.out]; rfl), HB5⟩
      case measure => simp [intOf]; omega
    · obtain rfl : k = n := by omega
      have hfin : vals lk = vals l := by
        rw [HV.out, List.take_of_length_le (by rw [HL.out.1]; exact Nat.le_refl _)]
      have HF := Lib.hid hfin
      clear hfin
      go_wp2_with fail
      go_ret
      exact ⟨_, lk, rfl, HO.out, HF.out, HB.out⟩
end Go.Proofs.Ytccofdmnljbegaa
