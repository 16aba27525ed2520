/- x[lo:hi] of a slice of bytes, as a step of a walk: where it begins is left as it is called. -/
import Derived.Test.YtccofdmnljbegaaOwn
import Derived.Test.YtccofdmnljbegaaCodecW1
import Derived.Laws.Slices
namespace Go.Proofs.Ytccofdmnljbegaa
open Go.RowKit

section
variable {ops : Array Oper} {rest : List Oper} {o : Oper} {a : Act} {w : World} {Q : Exit → Act → World → Prop}
set_option maxRecDepth 20000 in
theorem run_cut (A : Option Addr) (n c l k : Nat) (hc : l + k ≤ c) (w : World) :
    (Instr.sliceAt 22 (.slice A n c) (some (.int .i64 (l : Int))) (some (.int .i64 ((l : Int) + (k : Int)))) none).run Try.prog w = .ok (.slice (cutA A c l) k (c - l)) w := by
  have ht : Try.prog.underlying 22 = some (.slice (Try.prog.elem 22)) := by kernel_rfl
  have he : Try.prog.elem 22 = 5 := by kernel_rfl
  obtain ⟨i0, hi0, hz0, hz1, hz2⟩ := info_parts Try.infoU8'
  rw [run_sliceAt_slice w _ _ _ _ _ ht, run_slice_lh w _ _ _ _ ht .i64 .i64 l ((l : Int) + (k : Int)) (by omega) (by omega) (by omega), he]
  have e2 : ((l : Int) + (k : Int)).toNat = l + k := by omega
  simp [sizeOf, typeInfo, hi0, hz1, e2, sliced, cutA, Result.andThen, Nat.mul_one]
theorem wpList_cut (hgd : o.guard = none) (x lo hi : Operand) (ho : o.op = .slice 22 x (some lo) (some hi) none) (A : Option Addr) (n c l k : Nat) (hx : a.eval x = .slice A n c) (hlo : a.eval lo = .int .i64 (l : Int)) (H : Int) (hhi : a.eval hi = .int .i64 H) (hH : H = (l : Int) + (k : Int)) (hc : l + k ≤ c)
    (h : wpList Try.prog ops Q rest (a.put o.dst (.slice (cutA A c l) k (c - l))) w) : wpList Try.prog ops Q (o :: rest) a w := by
  subst hH
  refine wpList_plain hgd fun K hK => ?_
  unfold Oper.wp execOp
  simp only [ho, Option.map_some, Option.map_none, hx, hlo, hhi]
  simp only [Sem.run_bind, run_cut A n c l k hc w, Result.andThen_ok, Sem.run_pure]
  exact hK _ _ h
end
end Go.Proofs.Ytccofdmnljbegaa
