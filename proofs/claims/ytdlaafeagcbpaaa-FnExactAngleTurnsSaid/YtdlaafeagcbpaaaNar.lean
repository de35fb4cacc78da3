/-
  Narrowing and widening of numbers that are finite, and of those that are none; the absolute value; math.NaN.
-/
import Derived.Test.YtdlaafeagcbpaaaChecked
import Derived.Test.YtdlaafeagcbpaaaSame
import Derived.Test.YtdlaafeagcbpaaaArith
import Derived.Laws.Externs
namespace Go.Proofs.Ytdlaafeagcbpaaa
open Go Go.RowKit Ieee

theorem Bits64 (b : Nat) (w : World) : (callFunc 53 #[.float .f64 b]).run Try.prog w = .ok (.value (.int .u64 b)) w := by
  rw [run_callFunc_extern Try.func53 (by kernel_rfl) (by kernel_rfl) (by kernel_rfl) (e := Extern.MathFloatBits.float64bits) (by kernel_rfl)]
  rfl
theorem From64 (n : Int) (w : World) : (callFunc 45 #[.int .u64 n]).run Try.prog w = .ok (.value (.float .f64 n.toNat)) w := by
  rw [run_callFunc_extern Try.func45 (by kernel_rfl) (by kernel_rfl) (by kernel_rfl) (e := Extern.MathFloatBits.float64frombits) (by kernel_rfl)]
  rfl
def nan64 : Nat := 9221120237041090561
theorem Nan64 : isN .f64 nan64 = true := by decide
theorem nan_any (w : World) : Calls Try.prog 28 #[] w fun e w' => e = .returned (.float .f64 nan64) ∧ w' = w := by
  have h2 := From64
  go_enter Try.func28, Try.ntmps28
  go_wp2
  go_ret
  exact ⟨rfl, rfl⟩

/-- the number without its sign. -/
def abs64 (x : Nat) : Nat := (bits .andNot .u64 (x : Int) 9223372036854775808).toNat
theorem abs_any (x : Nat) (w : World) : Calls Try.prog 38 #[.float .f64 x] w fun e w' => e = .returned (.float .f64 (abs64 x)) ∧ w' = w := by
  have h1 := Bits64
  have h2 := From64
  go_enter Try.func38, Try.ntmps38
  go_wp2
  go_ret
  exact ⟨rfl, rfl⟩
theorem abs64_eq (x : Nat) (hx : x < 18446744073709551616) : abs64 x = x % 9223372036854775808 := by
  have e := u64_andNot_nat x 9223372036854775808 hx (by decide)
  have e2 : (bits .andNot .u64 (x : Int) 9223372036854775808).toNat = x &&& (18446744073709551615 - 9223372036854775808) := by
    rw [show (9223372036854775808 : Int) = ((9223372036854775808 : Nat) : Int) from rfl, e]
    exact Int.toNat_natCast _
  unfold abs64
  rw [e2]
  exact Nat.and_two_pow_sub_one_eq_mod x 63
theorem decode_abs (x : Nat) (hx : x < 18446744073709551616) : FloatKind.f64.decode (abs64 x) = match FloatKind.f64.decode x with
    | .number _ m e => .number false m e
    | .infinity _ => .infinity false
    | .nan _ t => .nan false t := by
  rw [abs64_eq x hx]
  unfold FloatKind.decode Format.read
  have e1 : x % 9223372036854775808 % FloatKind.f64.format.signWeight = x % FloatKind.f64.format.signWeight := Nat.mod_mod x 9223372036854775808
  have e2 : (x % 9223372036854775808 / FloatKind.f64.format.signWeight % 2 == 1) = false := by
    have : x % 9223372036854775808 / 9223372036854775808 = 0 := Nat.div_eq_of_lt (Nat.mod_lt _ (by decide))
    have e3 : x % 9223372036854775808 / FloatKind.f64.format.signWeight = 0 := this
    rw [e3]
    rfl
  rw [e1, e2]
  dsimp only
  split
  · rfl
  · split
    · rfl
    · split <;> rfl
theorem encode64_lt (d : Datum) : FloatKind.f64.encode d < 18446744073709551616 := Ieee.Format.write_lt Ieee.double d
theorem wid_lt (x : Nat) : wid x < 18446744073709551616 := by
  unfold wid
  cases FloatKind.f32.decode x with
  | nan s t => show qn .f64 < _; decide
  | infinity s => exact encode64_lt _
  | number s m e => exact encode64_lt _
theorem val_abs {x : Nat} (hx : x < 18446744073709551616) {s : Bool} {m : Nat} {e : Int} (h : FloatKind.f64.decode x = .number s m e) : fin .f64 (abs64 x) = true ∧ val .f64 (abs64 x) = mv m e := by
  have hd := decode_abs x hx
  rw [h] at hd
  dsimp only at hd
  exact ⟨fin_of hd, val_of hd⟩

theorem widV_fin {x : Nat} (h : fin .f32 x = true) : (∀ w, widV x w = wid x) ∧ widN x = 0 := by
  obtain ⟨s, m, e, hd, _⟩ := fin_form h
  unfold widV widN wid
  rw [hd]
  exact ⟨fun _ => rfl, rfl⟩
theorem fin_enc_inf (s : Bool) : fin .f64 (FloatKind.f64.encode (.infinity s)) = false := by cases s <;> decide
theorem nofin_of_nan {k : FloatKind} {x : Nat} (h : isN k x = true) : fin k x = false := by
  obtain ⟨s, t, h⟩ := nan_read h
  have h' : k.decode x = .nan s t := h
  unfold fin
  rw [h']
theorem widV_nofin {x : Nat} (h : fin .f32 x = false) (w : World) : fin .f64 (widV x w) = false := by
  unfold fin at h
  cases hd : FloatKind.f32.decode x with
  | number s m e => rw [hd] at h; cases h
  | infinity s =>
    unfold widV
    rw [hd]
    exact fin_enc_inf s
  | nan s t =>
    have e : widV x w = ask (.nanConv .f64 x) w := by unfold widV; rw [hd]
    rw [e]
    exact nofin_of_nan (nan_askConv _ _ _)
theorem wid_nofin {x : Nat} (h : fin .f32 x = false) : fin .f64 (wid x) = false := by
  unfold fin at h
  cases hd : FloatKind.f32.decode x with
  | number s m e => rw [hd] at h; cases h
  | infinity s =>
    unfold wid
    rw [hd]
    exact fin_enc_inf s
  | nan s t =>
    have e : wid x = qn .f64 := by unfold wid; rw [hd]
    rw [e]
    decide

theorem ovf_qn : ovf (qn .f64) = false := by decide
theorem nar_qn : nar (qn .f64) = qn .f32 := by decide
theorem nar_num {y : Nat} {s : Bool} {m : Nat} {e : Int} (h : FloatKind.f64.decode y = .number s m e) (ho : ovf y = false) (w : World) : narV y w = FloatKind.f32.encode (.number s m e) := by
  unfold narV
  rw [h, ho]
  simp only [Bool.false_eq_true, if_false]
theorem d0 : FloatKind.f64.decode 0 = .number false 0 (-1074) := by decide
theorem ov0 : ovf 0 = false := by decide
theorem en0 : FloatKind.f32.encode (.number false 0 (-1074)) = 0 := by decide
theorem nar_zero (w : World) : narV 0 w = 0 := by rw [nar_num d0 ov0, en0]

/-- a number not too great for float32. -/
theorem ovf_fin {x : Nat} (h : fin .f64 x = true) (h1 : -p2 127 ≤ val .f64 x) (h2 : val .f64 x ≤ p2 127) : ovf x = false := by
  obtain ⟨s, m, e, hd, hv, _⟩ := fin_form h
  rw [hv] at h1 h2
  have hr := encode_rnd .f32 s m e (p2 127) (rep_p2 .f32 127 (by decide)) (sv_le (mv_nonneg _ _) h1 h2) (by
    rw [top32]
    have h4 : p2 128 = p2 127 * 2 := by rw [← p2_one, ← p2_add]; rfl
    have h5 := p2_pos 127
    grind)
  unfold ovf
  rw [hd]
  have hf := hr.1
  unfold fin at hf
  revert hf
  dsimp only
  generalize FloatKind.f32.decode (FloatKind.f32.encode (.number s m e)) = d
  cases d <;> intro hf <;> first | rfl | cases hf

/-- the program's own word for it. -/
theorem fin32_eq (x : Nat) : (FloatKind.f32.format.order (pa .sub .f32 x x) 0 == some .eq) = fin .f32 x := by
  cases hd : FloatKind.f32.decode x with
  | number s m e =>
    have hx := fin_of hd
    obtain ⟨d, hs, hR⟩ := sub_rnd hx hx 1 (rep_p2 .f32 0 (by decide)) (by grind) (by grind) (by
      rw [top32]
      have h3 : p2 1 ≤ p2 128 := p2_le (by decide)
      rw [p2_one] at h3
      grind)
    have hz : val .f32 x - val .f32 x = 0 := by grind
    rw [hz] at hR
    have hv := hR.exact (rep_zero _)
    have h0 : fin .f32 0 = true := by decide
    have hv0 : val .f32 0 = 0 := by
      have : FloatKind.f32.decode 0 = .number false 0 (-149) := by decide
      rw [val_of this, mv_zero]; rfl
    have e : pa .sub .f32 x x = d := by unfold pa; rw [hs]; rfl
    rw [e, order_num hR.1 h0, hv, hv0, hx]
    rfl
  | infinity s =>
    have hr : FloatKind.f32.format.read x = .infinity s := hd
    have hx : fin .f32 x = false := by unfold fin; rw [hd]
    have e : pa .sub .f32 x x = qn .f32 := by
      unfold pa
      simp only [floatBits, Format.sub, hr]
      cases s <;> rfl
    rw [e, hx]
    decide
  | nan s t =>
    have hr : FloatKind.f32.format.read x = .nan s t := hd
    have hx : fin .f32 x = false := by unfold fin; rw [hd]
    have e : pa .sub .f32 x x = qn .f32 := by
      unfold pa
      simp only [floatBits, Format.sub, hr]
      rfl
    rw [e, hx]
    decide
end Go.Proofs.Ytdlaafeagcbpaaa
