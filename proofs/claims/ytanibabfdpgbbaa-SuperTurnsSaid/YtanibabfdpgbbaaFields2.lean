/- Rows of fields of one's own; no program in sight but for the types' numbers. -/
import Derived.Test.YtanibabfdpgbbaaField
import Derived.Test.YtanibabfdpgbbaaKept
import Derived.Test.YtanibabfdpgbbaaCodecW4
namespace Go.Proofs.Ytanibabfdpgbbaa
open Go.RowKit

/-- What a field says, wherever its bytes lie. -/
def vals (l : List FieldD) : List (Nat × List UInt8) := l.map fun f => (f.num, f.bytes)
/-- The cells of fields in a row. -/
def fcells (l : List FieldD) : List Value := l.flatMap fieldCells
theorem fcells_length (l : List FieldD) : (fcells l).length = l.length * 2 := by
  induction l with
  | nil => rfl
  | cons x l ih =>
    simp only [fcells, List.flatMap_cons, List.length_append, List.length_cons, fieldCells, List.length_nil] at ih ⊢
    omega
theorem fieldAt_get {l : List FieldD} {k : Nat} (h : k < l.length) : fieldAt l k = l[k] := by
  rw [fieldAt, List.getD_eq_getElem?_getD, List.getElem?_eq_getElem h]; rfl
theorem fcells_get (l : List FieldD) (k : Nat) (h : k < l.length) (j : Nat) (u : Value) (hj : (fieldCells (fieldAt l k))[j]? = some u) : (fcells l)[k * 2 + j]? = some u := by
  have e : fcells l = fcells (l.take k) ++ (fieldCells (fieldAt l k) ++ fcells (l.drop (k + 1))) := by
    have e0 : l = l.take k ++ fieldAt l k :: l.drop (k + 1) := by
      rw [fieldAt_get h, List.getElem_cons_drop, List.take_append_drop]
    conv => lhs; rw [e0]
    simp [fcells]
  have hl : (fcells (l.take k)).length = k * 2 := by rw [fcells_length, List.length_take]; congr 1; omega
  rw [e, List.getElem?_append_right (by omega), hl, Nat.add_sub_cancel_left, List.getElem?_append_left (List.getElem?_eq_some_iff.1 hj).1]
  exact hj
/-- Fields in rows of one's own: the row of fields, and each field's bytes. -/
structure OFields (w : World) (base : Nat) (v : Value) (l : List FieldD) : Prop where
  row : w.ownsRow base 83 2 v l.length (fcells l)
  num : ∀ f ∈ l, f.num < 18446744073709551616
  bytes : ∀ f ∈ l, w.ownsRow base 5 1 (.slice f.A f.n f.c) f.n (bv f.bytes)
  len : ∀ f ∈ l, f.n ≤ 140737488351232
/-- They are read as fields. -/
theorem OFields.read {w : World} {base : Nat} {v : Value} {l : List FieldD} (h : OFields w base v l) : ∃ A c, v = .slice A l.length c ∧ RFields w A l.length c l := by
  have ok : ∀ f ∈ l, FieldOk w f := fun f hf => by
    refine ⟨h.num f hf, ?_, h.len f hf⟩
    obtain ⟨A, c, e, hr⟩ := own_rb (h.bytes f hf)
    injection e with e1 _ e3
    subst e1 e3
    exact hr
  rcases h.row.2 with ⟨rfl, h0⟩ | ⟨g, cap, cur, rfl, _, hg, hnc, hcm, _⟩
  · rw [h0]
    exact ⟨none, 0, rfl, h0, Nat.le_refl _, by omega, fun hp => absurd hp (by omega)⟩
  · refine ⟨_, cap, rfl, rfl, hnc, by simpa [maxLen] using hcm, fun _ => ⟨g, 0, rfl, fun k hk => ⟨fun j u hj => ?_, ok _ (by rw [fieldAt_get hk]; exact List.getElem_mem _)⟩⟩⟩
    have := h.row.cells (g := g) rfl (k * 2 + j) u (fcells_get l k hk j u hj)
    rw [add_none] at this
    rw [Nat.zero_add]
    simpa using this

theorem own_apart {w : World} {base base' n n' size size' : Nat} {e e' : TypeId} {v v' : Value} {xs xs' : List Value} (h : w.ownsRow base e size v n xs) (h' : w.ownsRow base' e' size' v' n' xs') (ht : e ≠ e') (g : Nat) (hg : v.ownBlock = some g) : v'.ownBlock ≠ some g := by
  intro hg'
  rcases h.2 with ⟨rfl, _⟩ | ⟨a, cap, cur, rfl, _, ha, _⟩
  · simp [Value.ownBlock] at hg
  · rcases h'.2 with ⟨rfl, _⟩ | ⟨a', cap', cur', rfl, _, ha', _⟩
    · simp [Value.ownBlock] at hg'
    · have e1 : a = g := by simpa [Value.ownBlock] using hg
      have e2 : a' = g := by simpa [Value.ownBlock] using hg'
      subst e1
      subst e2
      rw [ha] at ha'
      injection ha' with ha'
      injection ha' with _ h2
      exact ht h2
section
variable {w w' : World} {base : Nat} {v : Value} {l : List FieldD}
theorem OFields.alloc (h : OFields w base v l) (o : Obj) : OFields (w.alloc o) base v l := ⟨h.row.alloc o, h.num, fun f hf => (h.bytes f hf).alloc o, h.len⟩
theorem OFields.drew (h : OFields w base v l) : OFields w.drew base v l := ⟨h.row.drew, h.num, fun f hf => (h.bytes f hf).drew, h.len⟩
/-- A new block grows: the fields stay. -/
theorem OFields.beside (h : OFields w base v l) {o : Obj} (hg : (w.alloc o).grownBy w' (some w.heap.size)) : OFields w' base v l :=
  ⟨(h.row.alloc o).kept hg (.inr fun e => by have := (h.row.lt _ e).2; omega), h.num, fun f hf => ((h.bytes f hf).alloc o).kept hg (.inr fun e => by have := ((h.bytes f hf).lt _ e).2; omega), h.len⟩
/-- One field more. -/
theorem OFields.push (h : OFields w base v l) (f : FieldD) (hn : f.num < 18446744073709551616) (hl : f.n ≤ 140737488351232) (hb : w.ownsRow base 5 1 (.slice f.A f.n f.c) f.n (bv f.bytes)) {v' : Value} (hg : w.grownBy w' v.ownBlock)
    (hr : w'.ownsRow base 83 2 v' (l.length + 1) (fcells l ++ fieldCells f)) : OFields w' base v' (l ++ [f]) := by
  have keep : ∀ f' : FieldD, w.ownsRow base 5 1 (.slice f'.A f'.n f'.c) f'.n (bv f'.bytes) → w'.ownsRow base 5 1 (.slice f'.A f'.n f'.c) f'.n (bv f'.bytes) := fun f' hf' =>
    hf'.kept hg (by
      cases hv : v.ownBlock with
      | none =>
        cases hv' : (Value.slice f'.A f'.n f'.c).ownBlock with
        | none => exact .inl rfl
        | some g => exact .inr (fun e => by cases e)
      | some g => exact .inr (own_apart h.row hf' (by decide) g hv))
  refine ⟨?_, fun f' hf' => ?_, fun f' hf' => ?_, fun f' hf' => ?_⟩
  · rw [List.length_append, List.length_singleton]
    have e : fcells (l ++ [f]) = fcells l ++ fieldCells f := by simp [fcells]
    rw [e]
    exact hr
  · rcases List.mem_append.1 hf' with hf' | hf'
    · exact h.num _ hf'
    · rw [List.mem_singleton.1 hf']; exact hn
  · rcases List.mem_append.1 hf' with hf' | hf'
    · exact keep _ (h.bytes _ hf')
    · rw [List.mem_singleton.1 hf']; exact keep _ hb
  · rcases List.mem_append.1 hf' with hf' | hf'
    · exact h.len _ hf'
    · rw [List.mem_singleton.1 hf']; exact hl
end
theorem vals_take (l : List FieldD) (k : Nat) (h : k < l.length) : vals (l.take (k + 1)) = vals (l.take k) ++ [((fieldAt l k).num, (fieldAt l k).bytes)] := by
  unfold vals
  rw [List.take_succ_eq_append_getElem h, List.map_append, fieldAt_get h]
  rfl
theorem Try.info87 : (Try.prog.info? 83).map (fun i => (i.zero, i.size, i.bytes)) = some (some (.agg #[.int .u64 0, .slice none 0 0]), 2, 32) := by kernel_rfl
end Go.Proofs.Ytanibabfdpgbbaa
