/-
  The walks of IsSubnormal and FlushNumber (program and reference) and of their laws.
-/
import Derived.Test.YtdaoiclpkedkoaaChecked
import Derived.Test.YtdaoiclpkedkoaaSame
import Derived.Test.YtdaoiclpkedkoaaArith
import Derived.Test.YtdaoiclpkedkoaaBits
import Derived.Laws.Externs
namespace Go.Proofs.Ytdaoiclpkedkoaa
open Go Go.RowKit Ieee

theorem Bits64 (b : Nat) (w : World) : (callFunc 50 #[.float .f64 b]).run Try.prog w = .ok (.value (.int .u64 b)) w := by
  rw [run_callFunc_extern Try.func50 (by kernel_rfl) (by kernel_rfl) (by kernel_rfl) (e := Extern.MathFloatBits.float64bits) (by kernel_rfl)]
  rfl
theorem From64 (n : Int) (w : World) : (callFunc 49 #[.int .u64 n]).run Try.prog w = .ok (.value (.float .f64 n.toNat)) w := by
  rw [run_callFunc_extern Try.func49 (by kernel_rfl) (by kernel_rfl) (by kernel_rfl) (e := Extern.MathFloatBits.float64frombits) (by kernel_rfl)]
  rfl
theorem From32 (n : Int) (w : World) : (callFunc 40 #[.int .u32 n]).run Try.prog w = .ok (.value (.float .f32 n.toNat)) w := by
  rw [run_callFunc_extern Try.func40 (by kernel_rfl) (by kernel_rfl) (by kernel_rfl) (e := Extern.MathFloatBits.float32frombits) (by kernel_rfl)]
  rfl

-- math.Ldexp(1, -126)
theorem k1 : bits BinOp.andNot IntKind.u64 4607182418800017408 9223372036854775808 = 4607182418800017408 := by kernel_rfl
theorem k2 : bits BinOp.and IntKind.i64 1023 2047 = 1023 := by kernel_rfl
theorem k3 : bits BinOp.andNot IntKind.u64 4607182418800017408 9218868437227405312 = 0 := by kernel_rfl
theorem k4 : bits BinOp.or IntKind.u64 0 4039728865751334912 = 4039728865751334912 := by kernel_rfl
theorem o1 : FloatKind.f64.format.order 4607182418800017408 0 = some .gt := by kernel_rfl
theorem o2 : FloatKind.f64.format.order 4607182418800017408 9218868437227405311 = some .lt := by kernel_rfl
theorem o3 : FloatKind.f64.format.order 4607182418800017408 4607182418800017408 = some .eq := by kernel_rfl
theorem o4 : FloatKind.f64.format.order 4607182418800017408 4503599627370496 = some .gt := by kernel_rfl
theorem o5 : pa .mul .f64 4607182418800017408 4039728865751334912 = 4039728865751334912 := by kernel_rfl
theorem ldexp_c (w : World) : Calls Try.prog 45 #[.float .f64 4607182418800017408, .int .i64 (-126)] w (GivesF .f64 w 4039728865751334912) := by
  have h1 := Bits64
  have h2 := From64
  have a1 := k1
  have a2 := k2
  have a3 := k3
  have a4 := k4
  have b1 := o1
  have b2 := o2
  have b3 := o3
  have b4 := o4
  go_enter Try.func45, Try.ntmps45
  go_wp2
  go_ret
  refine ⟨_, _, rfl, rfl, ?_⟩
  have h := ar_same .mul w (FEq.refl .f64 4607182418800017408) (FEq.refl .f64 4039728865751334912)
  rw [o5] at h
  exact h

/-- the number without its sign. -/
def abs64 (x : Nat) : Nat := (bits .andNot .u64 (x : Int) 9223372036854775808).toNat
def GivesX (k : FloatKind) (w : World) (v : Nat) (e : Ending) (w' : World) : Prop := e = .returned (.float k v) ∧ w' = w
theorem abs_any (x : Nat) (w : World) : Calls Try.prog 44 #[.float .f64 x] w (GivesX .f64 w (abs64 x)) := by
  have h1 := Bits64
  have h2 := From64
  go_enter Try.func44, Try.ntmps44
  go_wp2
  go_ret
  exact ⟨rfl, rfl⟩
theorem abs64_eq (x : Nat) (hx : x < 18446744073709551616) : abs64 x = x % 9223372036854775808 := by
  have e := u64_andNot_nat x 9223372036854775808 hx (by decide)
  have e2 : (bits .andNot .u64 (x : Int) 9223372036854775808).toNat = x &&& (18446744073709551615 - 9223372036854775808) := by
    rw [show (9223372036854775808 : Int) = ((9223372036854775808 : Nat) : Int) from rfl, e]
    exact Int.toNat_natCast _
  unfold abs64
  rw [e2]
  exact Nat.and_two_pow_sub_one_eq_mod x 63
theorem decode_abs (x : Nat) (hx : x < 18446744073709551616) : FloatKind.f64.decode (abs64 x) = match FloatKind.f64.decode x with
    | .number _ m e => .number false m e
    | .infinity _ => .infinity false
    | .nan _ t => .nan false t := by
  rw [abs64_eq x hx]
  unfold FloatKind.decode Format.read
  have e1 : x % 9223372036854775808 % FloatKind.f64.format.signWeight = x % FloatKind.f64.format.signWeight := Nat.mod_mod x 9223372036854775808
  have e2 : (x % 9223372036854775808 / FloatKind.f64.format.signWeight % 2 == 1) = false := by
    have : x % 9223372036854775808 / 9223372036854775808 = 0 := Nat.div_eq_of_lt (Nat.mod_lt _ (by decide))
    have e3 : x % 9223372036854775808 / FloatKind.f64.format.signWeight = 0 := this
    rw [e3]
    rfl
  rw [e1, e2]
  dsimp only
  split
  · rfl
  · split
    · rfl
    · split <;> rfl
theorem isN_abs (x : Nat) (hx : x < 18446744073709551616) : isN .f64 (abs64 x) = isN .f64 x := by
  unfold isN
  rw [decode_abs x hx]
  cases FloatKind.f64.decode x <;> rfl
theorem abs_same {x x' : Nat} (hx : x < 18446744073709551616) (hx' : x' < 18446744073709551616) (h : FEq .f64 x x') : FEq .f64 (abs64 x) (abs64 x') := by
  rcases h with rfl | ⟨h1, h2⟩
  · exact FEq.refl _ _
  · exact Or.inr ⟨by rw [isN_abs x hx, h1], by rw [isN_abs x' hx', h2]⟩
theorem encode64_lt (d : Datum) : FloatKind.f64.encode d < 18446744073709551616 := Ieee.Format.write_lt Ieee.double d
theorem widV_lt (x : Nat) (w : World) : widV x w < 18446744073709551616 := by
  unfold widV
  cases FloatKind.f32.decode x with
  | nan s t =>
    show ask (.nanConv .f64 x) w < _
    unfold ask Question.cut
    dsimp only
    have h1 := Nat.mod_lt (w.tape w.drawn (.nanConv .f64 x)) (show 0 < 2 by decide)
    have h2 := Nat.mod_lt (w.tape w.drawn (.nanConv .f64 x) / 2) (show 0 < 2 ^ 52 - 1 by decide)
    omega
  | infinity s => exact encode64_lt _
  | number s m e => exact encode64_lt _
theorem wid_lt (x : Nat) : wid x < 18446744073709551616 := by
  unfold wid
  cases FloatKind.f32.decode x with
  | nan s t => show qn .f64 < _; decide
  | infinity s => exact encode64_lt _
  | number s m e => exact encode64_lt _

/-- subnormal, or a zero: as the program asks it. -/
def small (x : Nat) : Bool := FloatKind.f64.format.order (abs64 (wid x)) 4039728865751334912 == some .lt
/-- not equal to zero. -/
def nz (x : Nat) : Bool := FloatKind.f32.format.order x 0 != some .eq

theorem and_exp (x : Nat) : (x &&& 2139095040 = 0) ↔ x / 8388608 % 256 = 0 := by
  have h1 : (x &&& 2139095040) >>> 23 = x / 8388608 % 256 := by
    rw [Nat.shiftRight_and_distrib, Nat.shiftRight_eq_div_pow]
    exact Nat.and_two_pow_sub_one_eq_mod _ 8
  have h2 : (x &&& 2139095040) % 2 ^ 23 = 0 := by
    rw [Nat.and_mod_two_pow]
    show x % 2 ^ 23 &&& 0 = 0
    exact Nat.and_zero _
  rw [Nat.shiftRight_eq_div_pow] at h1
  constructor
  · intro h; rw [← h1, h]
  · intro h
    rw [h] at h1
    have := Nat.div_add_mod (x &&& 2139095040) (2 ^ 23)
    rw [h1, h2] at this
    exact this.symm
theorem ofInt_i64 (a : Nat) (ha : a < 18446744073709551616) : (BitVec.ofInt 64 (a : Int)).toNat = a := by
  rw [BitVec.ofInt_natCast, BitVec.toNat_ofNat]; exact Nat.mod_eq_of_lt (by omega)
theorem and_i64 (a b : Nat) (ha : a < 9223372036854775808) (hb : b < 9223372036854775808) : bits .and .i64 (a : Int) (b : Int) = ((a &&& b : Nat) : Int) := by
  have hx : a &&& b < 2 ^ 63 := Nat.and_lt_two_pow _ (by omega)
  show IntKind.i64.wrap ((BitVec.ofInt 64 (a : Int) &&& BitVec.ofInt 64 (b : Int)).toNat : Int) = _
  rw [BitVec.toNat_and, ofInt_i64 a (by omega), ofInt_i64 b (by omega), IntKind.wrap_i64]
  omega

theorem wf32 {x : Nat} (h : (Lit.float .f32 x).wf = true) : x < 4294967296 := of_decide_eq_true h
/-- the exponent's bits are all nought: as the reference asks it. -/
def flat (x : Nat) : Bool := bits BinOp.and IntKind.i64 (bits32 x) 2139095040 == 0
theorem flat_num {x : Nat} (hx : x < 4294967296) (h : isN .f32 x = false) : flat x = decide (x / 8388608 % 256 = 0) := by
  unfold flat
  rw [bits32_num h, show (2139095040 : Int) = ((2139095040 : Nat) : Int) from rfl, and_i64 x _ (by omega) (by decide)]
  rw [Bool.eq_iff_iff]
  simp only [beq_iff_eq, decide_eq_true_eq]
  rw [← and_exp]
  omega
theorem flat_nan {x : Nat} (h : isN .f32 x = true) : flat x = false := by
  unfold flat
  rw [bits32_nan h]
  rfl
theorem val_abs {x : Nat} (hx : x < 18446744073709551616) {s : Bool} {m : Nat} {e : Int} (h : FloatKind.f64.decode x = .number s m e) : fin .f64 (abs64 x) = true ∧ val .f64 (abs64 x) = mv m e := by
  have hd := decode_abs x hx
  rw [h] at hd
  dsimp only at hd
  exact ⟨fin_of hd, val_of hd⟩
theorem small_flat (x : Nat) (hx : x < 4294967296) : small x = flat x := by
  cases hd : FloatKind.f32.decode x with
  | nan s t =>
    have hn : isN .f32 x = true := by unfold isN; rw [hd]; rfl
    have e : wid x = qn .f64 := by unfold wid; rw [hd]
    rw [flat_nan hn]
    unfold small
    rw [e]
    rfl
  | infinity s =>
    have hn : isN .f32 x = false := by unfold isN; rw [hd]; rfl
    have e : wid x = FloatKind.f64.encode (.infinity s) := by unfold wid; rw [hd]
    rw [flat_num hx hn]
    have hq : x / 8388608 % 256 = 255 := by
      unfold FloatKind.decode Format.read at hd
      dsimp only at hd
      split at hd
      · cases hd
      · split at hd
        · cases hd
        · split at hd
          · rename_i _ _ h3
            have h3' : x % 2147483648 = 2139095040 := h3
            omega
          · cases hd
    rw [hq]
    unfold small
    rw [e]
    cases s <;> rfl
  | number s m e =>
    have hn : isN .f32 x = false := by unfold isN; rw [hd]; rfl
    rw [flat_num hx hn]
    obtain ⟨h1, h2⟩ := wid_num (fin_of hd)
    obtain ⟨s', m', e', hd', hv', _⟩ := fin_form h1
    obtain ⟨a1, a2⟩ := val_abs (wid_lt x) hd'
    have hmv : mv m' e' = mv m e := by
      rw [hv', val_of hd] at h2
      have p1 := mv_nonneg m' e'
      have p2 := mv_nonneg m e
      unfold sv at h2
      cases s <;> cases s' <;> simp only [Bool.false_eq_true, if_false, if_true] at h2 <;> grind
    have hc : fin .f64 4039728865751334912 = true := by decide
    have hcv : val .f64 4039728865751334912 = p2 (-126) := by
      have : FloatKind.f64.decode 4039728865751334912 = .number false 4503599627370496 (-178) := by decide
      rw [val_of this]
      show mv (1 * 2 ^ 52) (-178) = _
      rw [mv_shift]
      simp [mv]
    unfold small
    rw [order_num a1 hc, a2, hcv, hmv]
    -- the number's rung
    unfold FloatKind.decode Format.read at hd
    dsimp only at hd
    have hb : FloatKind.f32.format.binade = 8388608 := rfl
    have hs : FloatKind.f32.format.signWeight = 2147483648 := rfl
    have hL : FloatKind.f32.format.leastPlace = -149 := rfl
    rw [hb, hs, hL] at hd
    have h126 : p2 (-126) = mv 8388608 (-149) := by
      show _ = mv (1 * 2 ^ 23) (-149)
      rw [mv_shift]
      simp [mv]
    split at hd
    · rename_i hlt
      cases hd
      have h3 : mv (x % 2147483648) (-149) < p2 (-126) := by rw [h126]; exact mv_lt hlt
      rw [if_pos h3]
      have h4 : x / 8388608 % 256 = 0 := by omega
      simp [h4]
    · rename_i hge
      split at hd
      · cases hd
        have h3 : p2 (-126) ≤ mv (8388608 + x % 2147483648 % 8388608) (-149 + ((x % 2147483648 / 8388608 - 1 : Nat) : Int)) := by
          rw [h126, ← mv_shift]
          apply mv_le
          have := Nat.one_le_two_pow (n := x % 2147483648 / 8388608 - 1)
          have h5 : (8388608 + x % 2147483648 % 8388608) * 1 ≤ (8388608 + x % 2147483648 % 8388608) * 2 ^ (x % 2147483648 / 8388608 - 1) := Nat.mul_le_mul_left _ this
          omega
        rw [if_neg (Rat.not_lt.2 h3)]
        have h4 : x / 8388608 % 256 ≠ 0 := by omega
        simp only [h4, decide_false]
        split <;> rfl
      · split at hd <;> cases hd

def isSub (x : Nat) : Bool := nz x && flat x
theorem spec_IsSubnormal (x : Nat) (wx : (Lit.float .f32 x).wf = true) (w : World) : Calls Try.prog 28 #[.float .f32 x] w (GivesB w (isSub x)) := by
  cases hz : nz x
  · have hz' : (FloatKind.f32.format.order x 0 != some .eq) = false := hz
    have e : isSub x = false := by unfold isSub; rw [hz]; rfl
    rw [e]
    clear hz e
    go_enter Try.func28, Try.ntmps28
    go_wp2
    go_ret
    exact ⟨rfl, 0, rfl⟩
  · have hz' : (FloatKind.f32.format.order x 0 != some .eq) = true := hz
    have e : isSub x = flat x := by unfold isSub; rw [hz]; rfl
    rw [e]
    clear hz e
    go_enter Try.func28, Try.ntmps28
    go_wp2_with (go_at_call 34; refine (spec_l01Bits _ wx _).mono ?_; rintro e w' ⟨rfl, n, rfl⟩)
    go_ret
    exact ⟨rfl, _, rfl⟩
theorem impl_IsSubnormal (x : Nat) (wx : (Lit.float .f32 x).wf = true) (w : World) : Calls Try.prog 29 #[.float .f32 x] w (GivesB w (isSub x)) := by
  have hsf := small_flat x (wf32 wx)
  cases hz : nz x
  · have hz' : (FloatKind.f32.format.order x 0 != some .eq) = false := hz
    have e : isSub x = false := by unfold isSub; rw [hz]; rfl
    rw [e]
    clear hz e hsf
    go_enter Try.func29, Try.ntmps29
    go_wp2
    go_ret
    exact ⟨rfl, 0, rfl⟩
  · have hz' : (FloatKind.f32.format.order x 0 != some .eq) = true := hz
    have e : isSub x = small x := by unfold isSub; rw [hz, hsf]; rfl
    rw [e]
    clear hz e hsf
    go_enter Try.func29, Try.ntmps29
    go_wp2_with (first | (go_at_call 44; refine (abs_any _ _).mono ?_; rintro e w' ⟨rfl, rfl⟩) | (go_at_call 45; refine (ldexp_c _).mono ?_; rintro e w' ⟨r, n, rfl, rfl, hr⟩; have HR := Lib.hid hr; clear hr))
    go_ret
    refine ⟨ret_bool ?_, _, rfl⟩
    unfold small
    rw [order_same (abs_same (widV_lt _ _) (wid_lt _) (widV_same _ (FEq.refl _ _))) HR.out]
theorem walk_FnExactIsSubnormal (x : Nat) (wx : (Lit.float .f32 x).wf = true) (w : World) : Calls Try.prog 11 #[.float .f32 x] w fun e w' => e = .returned (.bool true) ∧ Grown w w' := by
  go_enter Try.func11, Try.ntmps11
  go_wp2_with (first | (go_at_call 28; refine (spec_IsSubnormal _ wx _).mono ?_; rintro e w' ⟨rfl, n, rfl⟩) | (go_at_call 29; refine (impl_IsSubnormal _ wx _).mono ?_; rintro e w' ⟨rfl, n, rfl⟩))
  go_ret
  exact ⟨rfl, grown_drewN _ _⟩
end Go.Proofs.Ytdaoiclpkedkoaa
