/- The rounds of SuperTurns, as a plain law on disks. -/
import Derived.Test.YtanibabfdpgbbaaSuperT
import Derived.Test.YtanibabfdpgbbaaSuperW7
namespace Go.Proofs.Ytanibabfdpgbbaa
open Go.RowKit

theorem secAt_setT (l : List (List UInt8)) (m k : Nat) (x : List UInt8) (hm : m < l.length) : secAt (l.set m x) k = if m = k then x else secAt l k := by
  unfold secAt
  rw [List.getD_eq_getElem?_getD, List.getD_eq_getElem?_getD, List.getElem?_set]
  by_cases h : m = k
  · subst h
    rw [if_pos rfl, if_pos rfl, if_pos hm]
    rfl
  · rw [if_neg h, if_neg h]
/-- Where the rounds stand: now counts; what is in the other sector counts less, or nothing. -/
structure TI (d : Dk) (now : SD) : Prop where
  pend : d.pend = []
  len : d.stable.length = 2
  wid : ∀ k, k < 2 → (secAt d.stable k).length = 128
  right : now.right
  head : headM (secAt d.stable (now.gen % 2)) (now.gen % 2) = (now, true)
  side : Side (secAt d.stable ((now.gen + 1) % 2)) (now.gen + 1)
theorem TI.read_at {d : Dk} {now : SD} (h : TI d now) (k : Nat) : d.read k = secAt d.stable k := by
  unfold Dk.read
  rw [h.pend]
  rfl
theorem TI.same {d d' : Dk} {now : SD} (h : TI d now) (hp : d'.pend = []) (hs : d'.stable = d.stable) : TI d' now := by
  refine ⟨hp, ?_, ?_, h.right, ?_, ?_⟩ <;> rw [hs]
  · exact h.len
  · exact h.wid
  · exact h.head
  · exact h.side
theorem TI.counts {d : Dk} {now : SD} (h : TI d now) : readTo d.read 2 = (now, true) := by
  refine read_one d.read now (now.gen % 2) (Nat.mod_lt _ (by omega)) h.right.g1 (by rw [h.read_at]; exact h.head) (fun m hm hne hok => ?_)
  rw [h.read_at] at hok ⊢
  have hmm : m = (now.gen + 1) % 2 := by omega
  subst hmm
  have := h.side.less (by have := h.right.g2; omega) hok
  omega
/-- The next one is written whole. -/
theorem TI.next {d : Dk} {now : SD} (h : TI d now) (r b q c e : Nat) (hg : now.gen + 1 ≤ 281474976710655) (hr : r ≤ 1024) (hb : b ≤ 255) (hq : q ≤ 48) (hc : c ≤ 1024) (he : e ≤ 65535) (d' : Dk) (hp : d'.pend = [])
    (hs : d'.stable = d.stable.set ((now.gen + 1) % 2) (sealL (now.gen + 1) (bodyL r b q c e))) : TI d' ⟨now.gen + 1, r, b, q, c, e⟩ := by
  have hm : (now.gen + 1) % 2 < d.stable.length := by rw [h.len]; exact Nat.mod_lt _ (by omega)
  have hl : (sealL (now.gen + 1) (bodyL r b q c e)).length = 128 := sealL_length (by rw [bodyL_length]; omega)
  have hright : (⟨now.gen + 1, r, b, q, c, e⟩ : SD).right := ⟨by show 1 ≤ now.gen + 1; omega, hg, ⟨by show (0 : Int) ≤ (r : Int); omega, by show (r : Int) ≤ 1024; omega⟩, ⟨by show (0 : Int) ≤ (c : Int); omega, by show (c : Int) ≤ 1024; omega⟩, ⟨by show (0 : Int) ≤ (b : Int); omega, by show (b : Int) ≤ 255; omega⟩, ⟨by show (0 : Int) ≤ (q : Int); omega, by show (q : Int) ≤ 48; omega⟩, ⟨by show (0 : Int) ≤ (e : Int); omega, by show (e : Int) ≤ 65535; omega⟩⟩
  refine ⟨hp, by rw [hs, List.length_set]; exact h.len, fun k hk => ?_, hright, ?_, ?_⟩
  · rw [hs, secAt_setT _ _ _ _ hm]
    split
    · exact hl
    · exact h.wid k hk
  · show headM (secAt d'.stable ((now.gen + 1) % 2)) ((now.gen + 1) % 2) = _
    rw [hs, secAt_setT _ _ _ _ hm, if_pos rfl]
    exact head_sealed (now.gen + 1) r b q c e (by omega) hg hr hb hq hc he _ rfl
  · show Side (secAt d'.stable ((now.gen + 1 + 1) % 2)) (now.gen + 1 + 1)
    have e2 : (now.gen + 1 + 1) % 2 = now.gen % 2 := by omega
    rw [hs, secAt_setT _ _ _ _ hm, if_neg (by omega), e2]
    refine ⟨h.wid _ (Nat.mod_lt _ (by omega)), .inl ⟨now.gen, by omega, ?_⟩⟩
    have hok : (headM (secAt d.stable (now.gen % 2)) (now.gen % 2)).2 = true := by rw [h.head]
    obtain ⟨body, ho⟩ := head_open hok
    rw [h.head] at ho
    exact (open_ends ho).2.1
/-- A round: what Write left, behind the crash. -/
theorem TI.round {d d' : Dk} {now : SD} {ev : Int} (h : TI d now) (r b q c e : Nat) (hg : now.gen + 1 ≤ 281474976710655) (hr : r ≤ 1024) (hb : b ≤ 255) (hq : q ≤ 48) (hc : c ≤ 1024) (he : e ≤ 65535)
    (hw : (ev = 42 ∧ d'.pend = [] ∧ d'.stable = d.stable) ∨ (ev = 42 ∧ d'.pend = [((now.gen + 1) % 2, sealL (now.gen + 1) (bodyL r b q c e))] ∧ d'.stable = d.stable) ∨ (ev = 0 ∧ d'.pend = [] ∧ d'.stable = d.stable.set ((now.gen + 1) % 2) (sealL (now.gen + 1) (bodyL r b q c e))))
    (keep : List Bool) (cut : Int) : (ev = 42 ∧ TI (d'.crashed keep 0 cut) now) ∨ TI (d'.crashed keep 0 cut) ⟨now.gen + 1, r, b, q, c, e⟩ := by
  have hm : (now.gen + 1) % 2 < d.stable.length := by rw [h.len]; exact Nat.mod_lt _ (by omega)
  rcases hw with ⟨h1, h2, h3⟩ | ⟨h1, h2, h3⟩ | ⟨h1, h2, h3⟩
  · refine .inl ⟨h1, h.same rfl ?_⟩
    show crashTo keep 0 _ d'.stable d'.pend d'.pend.length = _
    rw [h2, h3]
    rfl
  · have hcr : (d'.crashed keep 0 cut).stable = d.stable.set ((now.gen + 1) % 2) ((sealL (now.gen + 1) (bodyL r b q c e)).take (max 0 (min cut 128)).toNat ++ (secAt d.stable ((now.gen + 1) % 2)).drop (max 0 (min cut 128)).toNat) := by
      show crashTo keep 0 _ d'.stable d'.pend d'.pend.length = _
      rw [h2, h3]
      rfl
    rcases h.side.torn (bodyL r b q c e) (by rw [bodyL_length]; omega) (max 0 (min cut 128)).toNat (by omega) with ht | ht
    · rw [ht] at hcr
      exact .inr (h.next r b q c e hg hr hb hq hc he _ rfl hcr)
    · refine .inl ⟨h1, rfl, by rw [hcr, List.length_set]; exact h.len, fun k hk => ?_, h.right, ?_, ?_⟩
      · rw [hcr, secAt_setT _ _ _ _ hm]
        split
        · exact ht.len
        · exact h.wid k hk
      · rw [hcr, secAt_setT _ _ _ _ hm, if_neg (by omega)]
        exact h.head
      · rw [hcr, secAt_setT _ _ _ _ hm, if_pos rfl]
        exact ht
  · refine .inr (h.next r b q c e hg hr hb hq hc he _ rfl ?_)
    show crashTo keep 0 _ d'.stable d'.pend d'.pend.length = _
    rw [h2, h3]
    rfl
theorem TI.round_g {d d' : Dk} {now : SD} {ev : Int} {g : Nat} (h : TI d now) (hgg : now.gen + 1 = g) (r b q c e : Nat) (hg : g ≤ 281474976710655) (hr : r ≤ 1024) (hb : b ≤ 255) (hq : q ≤ 48) (hc : c ≤ 1024) (he : e ≤ 65535)
    (hw : (ev = 42 ∧ d'.pend = [] ∧ d'.stable = d.stable) ∨ (ev = 42 ∧ d'.pend = [(g % 2, sealL g (bodyL r b q c e))] ∧ d'.stable = d.stable) ∨ (ev = 0 ∧ d'.pend = [] ∧ d'.stable = d.stable.set (g % 2) (sealL g (bodyL r b q c e))))
    (keep : List Bool) (cut : Int) : (ev = 42 ∧ TI (d'.crashed keep 0 cut) now) ∨ TI (d'.crashed keep 0 cut) ⟨g, r, b, q, c, e⟩ := by
  subst hgg
  exact h.round r b q c e hg hr hb hq hc he hw keep cut
/-- The first one. -/
theorem TI.first {d : Dk} (hp : d.pend = []) (hl : d.stable.length = 2) (hr : ∀ k, d.read k = if 5 % 2 = k then sealL 5 (bodyL 9 0 0 0 0) else (newDk 2).read k) : TI d ⟨5, 9, 0, 0, 0, 0⟩ := by
  have ra : ∀ k, secAt d.stable k = d.read k := fun k => by
    unfold Dk.read
    rw [hp]
    rfl
  have e1 : secAt d.stable 1 = sealL 5 (bodyL 9 0 0 0 0) := by rw [ra, hr, if_pos (by omega)]
  have e0 : secAt d.stable 0 = zsec := by rw [ra, hr, if_neg (by omega)]; rfl
  have hsl : (sealL 5 (bodyL 9 0 0 0 0)).length = 128 := sealL_length (by rw [bodyL_length]; omega)
  refine ⟨hp, hl, fun k hk => ?_, ⟨by show 1 ≤ 5; omega, by show 5 ≤ 281474976710655; omega, by show (0 : Int) ≤ 9 ∧ (9 : Int) ≤ 1024; omega, by show (0 : Int) ≤ 0 ∧ (0 : Int) ≤ 1024; omega, by show (0 : Int) ≤ 0 ∧ (0 : Int) ≤ 255; omega, by show (0 : Int) ≤ 0 ∧ (0 : Int) ≤ 48; omega, by show (0 : Int) ≤ 0 ∧ (0 : Int) ≤ 65535; omega⟩, ?_, ?_⟩
  · match k, hk with
    | 0, _ => rw [e0, zsec_length]
    | 1, _ => rw [e1, hsl]
  · show headM (secAt d.stable 1) 1 = _
    rw [e1]
    exact head_sealed 5 9 0 0 0 0 (by omega) (by omega) (by omega) (by omega) (by omega) (by omega) (by omega) 1 rfl
  · show Side (secAt d.stable 0) 6
    rw [e0]
    exact ⟨zsec_length, .inl ⟨0, by omega, by rfl⟩⟩
end Go.Proofs.Ytanibabfdpgbbaa
