/-
  The walks of FlushNumber (program and reference) and of its law.
-/
import Derived.Test.YtdaoiclpkedkoaaSubn
import Derived.Test.YtdaoiclpkedkoaaRoot
namespace Go.Proofs.Ytdaoiclpkedkoaa
open Go Go.RowKit Ieee

def flush (x : Nat) : Nat := if flat x then x / 2147483648 * 2147483648 else x
theorem ret_f32 {a b : Nat} (h : a = b) : Ending.returned (.float .f32 a) = Ending.returned (.float .f32 b) := by rw [h]
theorem and_sign (x : Nat) (hx : x < 4294967296) : x &&& 2147483648 = x / 2147483648 * 2147483648 := by
  have h1 : (x &&& 2147483648) >>> 31 = x / 2147483648 := by
    rw [Nat.shiftRight_and_distrib, Nat.shiftRight_eq_div_pow]
    show x / 2 ^ 31 &&& 2 ^ 1 - 1 = _
    rw [Nat.and_two_pow_sub_one_eq_mod]
    omega
  have h2 : (x &&& 2147483648) % 2 ^ 31 = 0 := by
    rw [Nat.and_mod_two_pow]
    show x % 2 ^ 31 &&& 0 = 0
    exact Nat.and_zero _
  rw [Nat.shiftRight_eq_div_pow] at h1
  have := Nat.div_add_mod (x &&& 2147483648) (2 ^ 31)
  rw [h1, h2] at this
  omega
theorem and_sign64 (x : Nat) (hx : x < 18446744073709551616) : x &&& 9223372036854775808 = x / 9223372036854775808 * 9223372036854775808 := by
  have h1 : (x &&& 9223372036854775808) >>> 63 = x / 9223372036854775808 := by
    rw [Nat.shiftRight_and_distrib, Nat.shiftRight_eq_div_pow]
    show x / 2 ^ 63 &&& 2 ^ 1 - 1 = _
    rw [Nat.and_two_pow_sub_one_eq_mod]
    omega
  have h2 : (x &&& 9223372036854775808) % 2 ^ 63 = 0 := by
    rw [Nat.and_mod_two_pow]
    show x % 2 ^ 63 &&& 0 = 0
    exact Nat.and_zero _
  rw [Nat.shiftRight_eq_div_pow] at h1
  have := Nat.div_add_mod (x &&& 9223372036854775808) (2 ^ 63)
  rw [h1, h2] at this
  omega
theorem and_sign_i64 (x : Nat) (hx : x < 4294967296) : bits BinOp.and IntKind.i64 (x : Int) 2147483648 = ((x / 2147483648 * 2147483648 : Nat) : Int) := by
  rw [show (2147483648 : Int) = ((2147483648 : Nat) : Int) from rfl, and_i64 x _ (by omega) (by decide), and_sign x hx]

theorem flat_true {x : Nat} (h : flat x = true) : isN .f32 x = false := by
  cases hn : isN .f32 x
  · rfl
  · rw [flat_nan hn] at h; cases h

theorem spec_l01Flush (x : Nat) (wx : (Lit.float .f32 x).wf = true) (w : World) : Calls Try.prog 46 #[.float .f32 x] w (GivesF .f32 w (flush x)) := by
  have hx := wf32 wx
  cases hf : flat x
  · have hf' : (bits BinOp.and IntKind.i64 (bits32 x) 2139095040 == 0) = false := hf
    have e : flush x = x := by unfold flush; rw [hf]; rfl
    rw [e]
    clear hf e
    go_enter Try.func46, Try.ntmps46
    go_wp2_with (go_at_call 34; refine (spec_l01Bits _ wx _).mono ?_; rintro e w' ⟨rfl, n, rfl⟩)
    go_ret
    exact ⟨_, _, rfl, rfl, FEq.refl _ _⟩
  · have hf' : (bits BinOp.and IntKind.i64 (bits32 x) 2139095040 == 0) = true := hf
    have e : flush x = x / 2147483648 * 2147483648 := by unfold flush; rw [hf]; rfl
    have hb := bits32_num (flat_true hf)
    have ha := and_sign_i64 x hx
    rw [← hb] at ha
    have h32 := From32
    have hq : ((x / 2147483648 * 2147483648 : Nat) : Int) < 4294967296 := by omega
    have hq0 : (0 : Int) ≤ ((x / 2147483648 * 2147483648 : Nat) : Int) := by omega
    rw [e]
    clear hf e hb
    generalize x / 2147483648 * 2147483648 = y at ha hq hq0 ⊢
    go_enter Try.func46, Try.ntmps46
    go_wp2_with (first | (go_at_call 34; refine (spec_l01Bits _ wx _).mono ?_; rintro e w' ⟨rfl, n, rfl⟩) | (go_at_call 38; go_in))
    go_ret
    exact ⟨_, _, rfl, rfl, Or.inl (by simp)⟩

def cps (y : Nat) : Nat := (bits BinOp.or IntKind.u64 (bits BinOp.andNot IntKind.u64 0 9223372036854775808) (bits BinOp.and IntKind.u64 (y : Int) 9223372036854775808)).toNat
theorem copysign_any (y : Nat) (w : World) : Calls Try.prog 47 #[.float .f64 0, .float .f64 y] w (GivesX .f64 w (cps y)) := by
  have h1 := Bits64
  have h2 := From64
  go_enter Try.func47, Try.ntmps47
  go_wp2
  go_ret
  exact ⟨rfl, rfl⟩
theorem k5 : bits BinOp.andNot IntKind.u64 0 9223372036854775808 = 0 := by kernel_rfl
theorem cps_eq (y : Nat) (hy : y < 18446744073709551616) : cps y = y / 9223372036854775808 * 9223372036854775808 := by
  have e := u64_and_nat y 9223372036854775808 hy (by decide)
  have e' : bits BinOp.and IntKind.u64 (y : Int) 9223372036854775808 = ((y / 9223372036854775808 * 9223372036854775808 : Nat) : Int) := by
    rw [← and_sign64 y hy]; exact e
  unfold cps
  rw [k5, e']
  have h := u64_or_nat 0 (y / 9223372036854775808 * 9223372036854775808) (by decide) (by omega)
  rw [show ((0 : Nat) : Int) = 0 from rfl] at h
  rw [h, Nat.zero_or]
  exact Int.toNat_natCast _
theorem word_sign (f : Format) (s : Bool) (r : Nat) (h : r < f.signWeight) : f.word s r / f.signWeight = s.toNat := by
  unfold Format.word
  cases s
  · exact Nat.div_eq_of_lt h
  · simp only [if_true]
    rw [Nat.add_div_left _ (by omega), Nat.div_eq_of_lt h]
    rfl
theorem encode_sign (s : Bool) (m : Nat) (e : Int) : FloatKind.f64.encode (.number s m e) / 9223372036854775808 = s.toNat := by
  show Ieee.double.nearest s m e / Ieee.double.signWeight = _
  have hs := inf_lt_sign Ieee.double
  by_cases hm : m = 0
  · subst hm
    unfold Format.nearest
    rw [if_pos rfl]
    exact word_sign _ _ _ (by decide)
  · rw [nearest_eq _ _ hm]
    exact word_sign _ _ _ (by omega)
theorem decode_sign {x : Nat} (hx : x < 4294967296) {s : Bool} {m : Nat} {e : Int} (h : FloatKind.f32.decode x = .number s m e) : x / 2147483648 = s.toNat := by
  unfold FloatKind.decode Format.read at h
  have hs : FloatKind.f32.format.signWeight = 2147483648 := rfl
  rw [hs] at h
  have key : ∀ t : Bool, (x / 2147483648 % 2 == 1) = t → x / 2147483648 = t.toNat := by
    intro t ht
    have h1 : x / 2147483648 < 2 := by omega
    have : x / 2147483648 = 0 ∨ x / 2147483648 = 1 := by omega
    rcases this with h2 | h2 <;> rw [h2] at ht <;> subst ht <;> rw [h2] <;> rfl
  apply key
  dsimp only at h
  split at h
  · cases h; rfl
  · split at h
    · cases h; rfl
    · split at h <;> cases h
theorem nar_num {y : Nat} {s : Bool} {m : Nat} {e : Int} (h : FloatKind.f64.decode y = .number s m e) (ho : ovf y = false) (w : World) : narV y w = FloatKind.f32.encode (.number s m e) := by
  unfold narV
  rw [h, ho]
  simp only [Bool.false_eq_true, if_false]
theorem d0 : FloatKind.f64.decode 0 = .number false 0 (-1074) := by decide
theorem d1 : FloatKind.f64.decode 9223372036854775808 = .number true 0 (-1074) := by decide
theorem ov0 : ovf 0 = false := by decide
theorem ov1 : ovf 9223372036854775808 = false := by decide
theorem en0 : FloatKind.f32.encode (.number false 0 (-1074)) = 0 := by decide
theorem en1 : FloatKind.f32.encode (.number true 0 (-1074)) = 2147483648 := by decide
theorem nar_zero (w : World) : narV 0 w = 0 := by rw [nar_num d0 ov0, en0]
theorem nar_mzero (w : World) : narV 9223372036854775808 w = 2147483648 := by rw [nar_num d1 ov1, en1]
theorem flush_zero {x : Nat} (hx : x < 4294967296) (hn : isN .f32 x = false) (hf : flat x = true) (w w' : World) : FEq .f32 (narV (cps (widV x w)) w') (x / 2147483648 * 2147483648) := by
  cases hd : FloatKind.f32.decode x with
  | nan s t => unfold isN at hn; rw [hd] at hn; cases hn
  | infinity s =>
    exfalso
    rw [flat_num hx hn] at hf
    unfold FloatKind.decode Format.read at hd
    dsimp only at hd
    split at hd
    · cases hd
    · split at hd
      · cases hd
      · split at hd
        · rename_i _ _ h3
          have h3' : x % 2147483648 = 2139095040 := h3
          simp only [decide_eq_true_eq] at hf
          omega
        · cases hd
  | number s m e =>
    have e1 : widV x w = FloatKind.f64.encode (.number s m e) := by unfold widV; rw [hd]
    have e2 : cps (widV x w) = s.toNat * 9223372036854775808 := by rw [e1, cps_eq _ (encode64_lt _), encode_sign]
    have e3 : x / 2147483648 * 2147483648 = s.toNat * 2147483648 := by rw [decode_sign hx hd]
    rw [e2, e3]
    left
    cases s
    · simpa using nar_zero w'
    · simpa using nar_mzero w'

theorem nz_false {x : Nat} (hx : x < 4294967296) (h : nz x = false) : isN .f32 x = false ∧ flat x = true ∧ x / 2147483648 * 2147483648 = x := by
  unfold nz at h
  have h0 : fin .f32 0 = true := by decide
  have hv0 : val .f32 0 = 0 := by
    have : FloatKind.f32.decode 0 = .number false 0 (-149) := by decide
    rw [val_of this, mv_zero]; rfl
  cases hd : FloatKind.f32.decode x with
  | nan s t =>
    have hn : isN .f32 x = true := by unfold isN; rw [hd]; rfl
    rw [order_nan_left 0 hn] at h
    cases h
  | infinity s =>
    have hd' : FloatKind.f32.format.read x = .infinity s := hd
    unfold Format.order at h
    rw [hd'] at h
    cases s <;> cases h
  | number s m e =>
    have hn : isN .f32 x = false := by unfold isN; rw [hd]; rfl
    rw [order_num (fin_of hd) h0, hv0, val_of hd] at h
    have hm : m = 0 := by
      apply Classical.byContradiction
      intro hm
      have := mv_pos hm e
      have h1 : sv s (mv m e) ≠ 0 := by unfold sv; cases s <;> simp <;> grind
      rw [if_neg h1] at h
      split at h <;> cases h
    subst hm
    unfold FloatKind.decode Format.read at hd
    have hb : FloatKind.f32.format.binade = 8388608 := rfl
    have hs : FloatKind.f32.format.signWeight = 2147483648 := rfl
    rw [hb, hs] at hd
    dsimp only at hd
    split at hd
    · injection hd with _ h2 _
      refine ⟨hn, ?_, by omega⟩
      rw [flat_num hx hn]
      have : x / 8388608 % 256 = 0 := by omega
      simp [this]
    · split at hd
      · injection hd with _ h2 _
        omega
      · split at hd <;> cases hd

theorem impl_FlushNumber (x : Nat) (wx : (Lit.float .f32 x).wf = true) (w : World) : Calls Try.prog 31 #[.float .f32 x] w (GivesF .f32 w (flush x)) := by
  have hx := wf32 wx
  cases hs : isSub x
  · have e : flush x = x := by
      unfold isSub at hs
      cases hz : nz x
      · obtain ⟨_, h2, h3⟩ := nz_false hx hz
        unfold flush
        rw [h2, h3]; rfl
      · rw [hz] at hs
        unfold flush
        rw [show flat x = false from hs]; rfl
    rw [e]
    have hi := fun w => spec_IsSubnormal x wx w
    have hi2 := fun w => impl_IsSubnormal x wx w
    rw [hs] at hi2
    have HI := Lib.hid hi2
    clear hs e hi hi2 hx
    go_enter Try.func31, Try.ntmps31
    go_wp2_with fail
    refine (HI.out _).mono ?_; rintro e w' ⟨rfl, n, rfl⟩
    go_wp2_with fail
    go_ret
    exact ⟨_, _, rfl, rfl, FEq.refl _ _⟩
  · have hfl : flat x = true := by unfold isSub at hs; cases hz : nz x <;> rw [hz] at hs <;> first | cases hs | exact hs
    have e : flush x = x / 2147483648 * 2147483648 := by unfold flush; rw [hfl]; rfl
    rw [e]
    have hi2 := fun w => impl_IsSubnormal x wx w
    rw [hs] at hi2
    have HI := Lib.hid hi2
    have HF := Lib.hid (flush_zero hx (flat_true hfl) hfl)
    clear hs e hi2 hx hfl
    go_enter Try.func31, Try.ntmps31
    go_wp2_with fail
    refine (HI.out _).mono ?_; rintro e w' ⟨rfl, n, rfl⟩
    go_wp2_with fail
    refine (copysign_any _ _).mono ?_; rintro e w' ⟨rfl, rfl⟩
    go_wp2_with fail
    go_ret
    exact ⟨_, _, rfl, rfl, HF.out _ _⟩
theorem spec_FlushNumber (x : Nat) (wx : (Lit.float .f32 x).wf = true) (w : World) : Calls Try.prog 30 #[.float .f32 x] w (GivesF .f32 w (flush x)) := by
  go_enter Try.func30, Try.ntmps30
  go_wp2_with fail
  refine (spec_l01Flush _ wx _).mono ?_; rintro e w' ⟨r, n, rfl, rfl, hr⟩
  have HR := Lib.hid hr
  clear hr
  go_wp2_with fail
  go_ret
  exact ⟨_, _, rfl, rfl, HR.out⟩
theorem walk_FnExactFlushNumber (x : Nat) (wx : (Lit.float .f32 x).wf = true) (w : World) : Calls Try.prog 12 #[.float .f32 x] w fun e w' => e = .returned (.bool true) ∧ Grown w w' := by
  go_enter Try.func12, Try.ntmps12
  go_wp2_with fail
  refine (spec_FlushNumber _ wx _).mono ?_; rintro e w' ⟨r1, n1, rfl, rfl, hr1⟩
  have H1 := Lib.hid hr1
  clear hr1
  go_wp2_with fail
  refine (impl_FlushNumber _ wx _).mono ?_; rintro e w' ⟨r2, n2, rfl, rfl, hr2⟩
  have H2 := Lib.hid hr2
  clear hr2
  go_wp2_with fail
  refine (same_ok _ _ ((widV_same _ H2.out).trans (widV_same _ H1.out).symm) _).mono ?_; rintro e w' ⟨rfl, n3, rfl⟩
  go_wp2_with fail
  go_ret
  exact ⟨rfl, grown_drewN _ _⟩
end Go.Proofs.Ytdaoiclpkedkoaa
