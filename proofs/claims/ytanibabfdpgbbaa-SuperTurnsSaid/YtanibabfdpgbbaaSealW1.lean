/- The seal's put and get. -/
import Derived.Test.YtanibabfdpgbbaaSect
import Derived.Test.YtanibabfdpgbbaaCodecR3
import Derived.Test.YtanibabfdpgbbaaCodecM
namespace Go.Proofs.Ytanibabfdpgbbaa
open Go.RowKit

/-- The letter of a number of so many bytes. -/
def letterOf (wd : Nat) : UInt8 := if wd = 2 then 50 else if wd = 4 then 52 else 56
theorem letterW_of {wd : Nat} (h : wd = 2 ∨ wd = 4 ∨ wd = 8) : letterW (letterOf wd) = some wd := by
  rcases h with rfl | rfl | rfl <;> decide
theorem pack_one {wd n : Nat} (h : wd = 2 ∨ wd = 4 ∨ wd = 8) (hn : n < 256 ^ wd) (f : FieldD) (hf : f.num = n) : packM [letterOf wd] [f] = some (be n wd) := by
  have hw := letterW_of h
  obtain ⟨k, rfl⟩ : ∃ k, wd = k + 1 := ⟨wd - 1, by omega⟩
  refine (packM_iff _ _ _).2 ⟨by show 1 ≤ 200; omega, rfl, ?_⟩
  show packL [letterOf (k + 1)] [(f.num, f.bytes)] = _
  simp only [packL, encV, hw, hf]
  rw [if_pos hn]
  simp
theorem unpack_one {wd : Nat} (h : wd = 2 ∨ wd = 4 ∨ wd = 8) (xs : List UInt8) (hx : xs.length = wd) : unpackM [letterOf wd] xs = some [(numOf xs, [])] := by
  have hw := letterW_of h
  obtain ⟨k, rfl⟩ : ∃ k, wd = k + 1 := ⟨wd - 1, by omega⟩
  refine (unpackM_iff _ _ _).2 ⟨by show 1 ≤ 200; omega, ?_⟩
  simp only [unL, decF, hw]
  rw [if_neg (by omega), List.take_of_length_le (by omega)]
  simp only
  rw [List.drop_of_length_le (by omega)]
section
variable {ops : Array Oper} {rest : List Oper} {o : Oper} {a : Act} {w : World} {Q : Exit → Act → World → Prop}
/-- copy(s[off:], b). -/
theorem wpList_copy_sec (hgd : o.guard = none) (d s : Operand) (ho : o.op = .call { callee := .builtin .copy, args := #[d, s], argTypes := #[76, 76] })
    (g off dLen dCap : Nat) (A : Option Addr) (n c : Nat) (hd : a.eval d = .slice (some ⟨g, off, none⟩) dLen dCap) (hs : a.eval s = .slice A n c) (l : List UInt8) (hg : SecAt w g l) (xs : List UInt8) (hr : RB w A n c xs) (hn : n ≤ dLen) (hoff : off + n ≤ 128)
    (h : ∀ w', SecAt w' g (splice l off xs) → Kp (· = g) w w' → wpList Try.prog ops Q rest (a.put o.dst (goInt n)) w') : wpList Try.prog ops Q (o :: rest) a w := by
  have hsz : (Try.prog.info? 5).map (·.size) = some 1 := by kernel_rfl
  have hxl := hr.1
  rcases Nat.eq_zero_or_pos n with h0 | h0
  · subst h0
    obtain rfl := List.eq_nil_of_length_eq_zero hxl
    refine wpList_copy_nothing hgd d s _ _ ho 5 Try.underlying76 hsz _ _ dLen dCap 0 c hd hs (by simp) ?_
    exact h w (by simpa [splice] using hg) (Kp.refl _ _)
  · obtain ⟨b, o', rfl, hc⟩ := hr.2.2.2 h0
    refine wpList_copy_own hgd d s _ _ ho 5 Try.underlying76 hsz g off dLen dCap ⟨b, o', none⟩ n c hd hs (bv l).toArray _ hg.1 (bv xs) (by rw [bv_length, hxl]; exact (Nat.min_eq_left hn).symm) ?_ (by rw [bv_length, hxl]; simp [bv_length, hg.2]; exact hoff) (bv_one _) ?_
    · intro j v hj
      have hlt : j < xs.length := by have := (List.getElem?_eq_some_iff.1 hj).1; rwa [bv_length] at this
      rw [bv_get xs j hlt] at hj
      cases hj
      rw [add_none]
      exact hc j (by omega)
    · rw [bv_length, hxl]
      refine h _ ⟨?_, ?_⟩ ⟨rfl, rfl, rfl, by simp [World.setRow], fun k hk hne => setRow_other w g k _ hne⟩
      · have := setRow_heap w g _ ((bv l).take off ++ (bv xs ++ (bv l).drop (off + n))).toArray _ _ hg.1
        rw [show splice l off xs = l.take off ++ (xs ++ l.drop (off + n)) by rw [← hxl]; simp [splice]]
        simpa [bv] using this
      · have h2 := hg.2
        simp [splice, hxl, h2]
        omega
end
set_option maxRecDepth 20000 in
set_option maxHeartbeats 3200000 in
/-- put: a number's bytes at a place. -/
theorem seal_put (wd : Nat) (hwd : wd = 2 ∨ wd = 4 ∨ wd = 8) (n : Nat) (hn : n < 256 ^ wd) (g : Nat) (l : List UInt8) (p : Nat) (hp : p + wd ≤ 128) (w : World) (hg : SecAt w g l) :
    Calls Try.prog 51 #[.pointer (some ⟨g, 0, none⟩), .int .i64 p, .string (strOf [letterOf wd]), .int .u64 n] w fun e w' => e = .returned (.tuple #[]) ∧ SecAt w' g (splice l p (be n wd)) ∧ Kp (· = g) w w' := by
  have hn64 : n < 18446744073709551616 := by
    have h2 : (256 : Nat) ^ wd ≤ 256 ^ 8 := Nat.pow_le_pow_right (by decide) (by omega)
    omega
  have HG := Lib.hid hg
  have hp0 : (0 : Int) ≤ (p : Int) := Int.natCast_nonneg _
  have hp1 : (p : Int) ≤ 128 := by omega
  have h1 := rfields_new (w := w) [⟨n, none, 0, 0, []⟩] 83 w.heap.size rfl #[.int .u64 n, .slice none 0 0] rfl (by show 1 ≤ _; omega) (by
    intro f hf
    simp only [List.mem_cons, List.not_mem_nil, or_false] at hf
    subst hf
    exact ⟨hn64, RB.nil _, Nat.zero_le _⟩)
  have hpk := codec_Pack [letterOf wd] _ _ _ _ _ h1
  rw [pack_one hwd hn _ rfl] at hpk
  have HPK := Lib.hid hpk
  have HP := Lib.hid hp
  have HWD := Lib.hid hwd
  clear hg h1 hpk hwd hn hn64
  generalize hsh : letterOf wd = sh at *
  clear hsh
  go_enter Try.func51, Try.ntmps51
  go_wp2_with fail
  refine HPK.out.mono ?_
  clear HPK
  rintro e w2 ⟨hb2, ⟨v, o, ho, rfl, hown⟩ | ⟨hno, -⟩⟩
  · injection ho with ho
    subst ho
    obtain ⟨A1, c1, rfl, hrb⟩ := own_rb hown
    rw [be_length] at hrb ⊢
    have hb2' : Below w.heap.size w w2 := (below_alloc w _).trans (hb2.mono (by simp))
    have HG2 := Lib.hid (HG.out.below hb2')
    have HB2 := Lib.hid hb2'
    have HRB := Lib.hid hrb
    clear hb2 hown hrb hb2'
    by_cases hp128 : 128 = p
    · exfalso; have := HP.out; have := HWD.out; omega
    · go_wp2_with (refine wpList_copy_sec rfl _ _ rfl g p (128 - p) (128 - p) A1 wd c1 rfl rfl l HG2.out (be n wd) HRB.out (by have := HP.out; omega) HP.out ?_; intro w3 hg3 hk3; have HG3 := Lib.hid hg3; have HK3 := Lib.hid hk3; clear hg3 hk3)
      go_end0
      exact ⟨rfl, HG3.out, (Kp.of_below HB2.out).trans HK3.out (fun i _ e => e)⟩
  · cases hno
theorem vals_one {lk : List FieldD} {a : V} (h : vals lk = [a]) : lk.length = 1 ∧ (fieldAt lk 0).num = a.1 := by
  match lk, h with
  | [x], h =>
    simp only [vals, List.map_cons, List.map_nil, List.cons.injEq, and_true] at h
    exact ⟨rfl, by rw [← h]; rfl⟩
  | [], h => simp [vals] at h
  | _ :: _ :: _, h => simp [vals] at h
set_option maxRecDepth 20000 in
set_option maxHeartbeats 1600000 in
/-- get: the number of bytes. -/
theorem seal_get (wd : Nat) (hwd : wd = 2 ∨ wd = 4 ∨ wd = 8) (A : Option Addr) (c : Nat) (xs : List UInt8) (w : World) (hr : RB w A wd c xs) :
    Calls Try.prog 54 #[.slice A wd c, .string (strOf [letterOf wd])] w fun e w' => e = .returned (.int .u64 (numOf xs)) ∧ Below w.heap.size w w' := by
  have hu := codec_Unpack [letterOf wd] A wd c xs w hr
  rw [unpack_one hwd xs hr.1] at hu
  have HU := Lib.hid hu
  clear hu hr
  generalize letterOf wd = sh at *
  go_enter Try.func54, Try.ntmps54
  go_wp2_with fail
  refine HU.out.mono ?_
  clear HU
  rintro e w2 ⟨hb2, ⟨v, lk, hlk, rfl, hof⟩ | ⟨hno, -⟩⟩
  · injection hlk with hlk
    obtain ⟨A2, c2, rfl, hrf⟩ := hof.read
    obtain ⟨hl1, hn1⟩ := vals_one hlk.symm
    rw [hl1] at hrf ⊢
    obtain ⟨b, o', rfl, hfs⟩ := hrf.2.2.2 (by omega)
    have hcell : w2.cell? ⟨b, o', none⟩ = some (.int .u64 (numOf xs)) := by
      have := (hfs 0 (by omega)).1 0 _ rfl
      rw [hn1] at this
      exact this
    have HB := Lib.hid hb2
    have h01 : (0 : Int) < 1 := by decide
    clear hrf hfs hof hlk hb2 hl1 hn1
    go_wp2_with fail
    go_ret
    exact ⟨rfl, HB.out⟩
  · cases hno
set_option maxHeartbeats 1600000 in
/-- slices.Clone of bytes. -/
theorem clone_bytes (b o n c : Nat) (xs : List UInt8) (w : World) (hr : RB w (some ⟨b, o, none⟩) n c xs) (hn : n ≤ 140737488355328) :
    Calls Try.prog 55 #[.slice (some ⟨b, o, none⟩) n c] w fun e w' => ∃ A1 c1, e = .returned (.slice A1 n c1) ∧ RB w' A1 n c1 xs ∧ Below w.heap.size w w' := by
  have HR := Lib.hid hr
  have hnil := fun W => Lib.run_eql_slice_nil (P := Try.prog) W 76 5 (some ⟨b, o, none⟩) n c 0 0 Try.underlying76
  clear hr
  go_enter Try.func55, Try.ntmps55
  go_wp2_with (at_builtin; refine wpList_copy_bytes (W := w) rfl _ _ 76 5 rfl Try.underlying76 Try.infoU8' (some ⟨b, o, none⟩) n c xs w.heap.size rfl rfl rfl HR.out hn ?_; intro A1 c1 w1 hown1 hrb1 hb1; have HB1 := Lib.hid hb1; have HR1 := Lib.hid hrb1; clear hown1 hrb1 hb1)
  go_ret
  exact ⟨A1, c1, rfl, HR1.out, HB1.out⟩
end Go.Proofs.Ytanibabfdpgbbaa
