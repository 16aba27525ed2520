/- The end of the journal's Add: the count is written. -/
import Derived.Test.YtgakajofggmbjaaMg12
namespace Go.Proofs.Ytgakajofggmbjaa
open Go.RowKit

theorem kp_putObj {W : World} {D : Nat} (o' : Obj) : Kp (· = D) W (W.putObj D o') := Kp.of_grown (grownBy_putObj' W D o') (fun k e => by injection e with e; exact e.symm)
theorem AddI.done {w W : World} {base p s j : Nat} {v : Value} {first : Int} {gen count : Nat} {A : Option Addr} {n c : Nat} {b : List UInt8} {nx err : Int} {d' : Dk} {D : Nat} (h : AddI w base p s j v first gen count A n c b nx err d' W) (hj : j < w.heap.size) (hD : w.heap.size + 5 ≤ D) (hK : W.heap[D]? = some (.deferred (some []))) (cnt : Nat) (err' : Int) :
    (∃ v', DiskAt (((W.setCell ⟨j, 3, none⟩ (.int .i64 (cnt : Int))).setCell ⟨w.heap.size + 1, 0, none⟩ (.int .i64 err')).putObj D (.deferred none)) base p s v' d' ∧ ∀ g, v'.ownBlock = some g → v.ownBlock = some g ∨ w.heap.size ≤ g) ∧
    JAt (((W.setCell ⟨j, 3, none⟩ (.int .i64 (cnt : Int))).setCell ⟨w.heap.size + 1, 0, none⟩ (.int .i64 err')).putObj D (.deferred none)) j p first gen cnt ∧
    Kp (fun k => foot p s v k ∨ k = j) w (((W.setCell ⟨j, 3, none⟩ (.int .i64 (cnt : Int))).setCell ⟨w.heap.size + 1, 0, none⟩ (.int .i64 err')).putObj D (.deferred none)) ∧
    (((W.setCell ⟨j, 3, none⟩ (.int .i64 (cnt : Int))).setCell ⟨w.heap.size + 1, 0, none⟩ (.int .i64 err')).putObj D (.deferred none)).cell? ⟨w.heap.size + 1, 0, none⟩ = some (.int .i64 err') ∧
    ((W.setCell ⟨j, 3, none⟩ (.int .i64 (cnt : Int))).setCell ⟨w.heap.size + 1, 0, none⟩ (.int .i64 err')).heap[D]? = some (.deferred (some [])) := by
  obtain ⟨v', hd, ho⟩ := h.dk
  have hfj := h.jr.not_foot hd
  have hfe := foot_not hd h.eb (by decide) (by decide) (by decide)
  have hfD : ¬ foot p s v' D := fun hf => by
    rcases hf with rfl | rfl | hf
    · rw [hd.obj] at hK; cases hK
    · rw [hd.sta] at hK; cases hK
    · rcases hd.pen.2 with ⟨rfl, _⟩ | ⟨g, cap, cur, rfl, _, hgb, _⟩
      · cases hf
      · obtain rfl : g = D := by simpa [Value.ownBlock] using hf
        rw [hgb] at hK; cases hK
  have k1 : Kp (fun k => k = j) W (W.setCell ⟨j, 3, none⟩ (.int .i64 (cnt : Int))) := (Kp.refl _ W).setCell _ _ (fun _ => rfl)
  have j1 := h.jr.set3 cnt
  have e1 := h.eb.kp k1 (by omega)
  have hK1 : (W.setCell ⟨j, 3, none⟩ (.int .i64 (cnt : Int))).heap[D]? = some (.deferred (some [])) := (KeepsOthers.setCell _ _ _).same D _ hK rfl
  have d1 := hd.kept k1 (fun k hf e => hfj (e ▸ hf))
  have s1 : W.heap.size ≤ (W.setCell ⟨j, 3, none⟩ (.int .i64 (cnt : Int))).heap.size := k1.size
  have p1 : Kp (fun k => foot p s v k ∨ k = j) w (W.setCell ⟨j, 3, none⟩ (.int .i64 (cnt : Int))) := (h.kp.imp (fun _ _ hf => Or.inl hf)).trans k1 (fun i _ e => Or.inr e)
  generalize W.setCell ⟨j, 3, none⟩ (.int .i64 (cnt : Int)) = W1 at *
  have k2 : Kp (fun k => k = w.heap.size + 1) W1 (W1.setCell ⟨w.heap.size + 1, 0, none⟩ (.int .i64 err')) := (Kp.refl _ W1).setCell _ _ (fun _ => rfl)
  have j2 := RowAt.kp j1 k2 (by omega)
  have e2 : RowAt (W1.setCell ⟨w.heap.size + 1, 0, none⟩ (.int .i64 err')) (w.heap.size + 1) 41 [.int .i64 err'] := heap_setCell_same W1 (w.heap.size + 1) 0 _ _ _ e1
  have hK2 : (W1.setCell ⟨w.heap.size + 1, 0, none⟩ (.int .i64 err')).heap[D]? = some (.deferred (some [])) := (KeepsOthers.setCell _ _ _).same D _ hK1 rfl
  have d2 := d1.kept k2 (fun k hf e => hfe (e ▸ hf))
  have p2 : Kp (fun k => foot p s v k ∨ k = j) w (W1.setCell ⟨w.heap.size + 1, 0, none⟩ (.int .i64 err')) := p1.trans k2 (fun i hi e => by omega)
  generalize W1.setCell ⟨w.heap.size + 1, 0, none⟩ (.int .i64 err') = W2 at *
  have k3 : Kp (fun k => k = D) W2 (W2.putObj D (.deferred none)) := kp_putObj _
  exact ⟨⟨v', d2.kept k3 (fun k hf e => hfD (e ▸ hf)), fun g hg => (ho g hg).imp id (fun h => by omega)⟩, RowAt.kp j2 k3 (by omega), p2.trans k3 (fun i hi e => by omega), (e2.kp k3 (by omega)).cell 0 _ rfl, hK2⟩
end Go.Proofs.Ytgakajofggmbjaa
