/-
  The walks of the sine (program and reference).
-/
import Derived.Test.YtdlaafeagcbpaaaChecked
import Derived.Test.YtdlaafeagcbpaaaSine
import Derived.Test.YtdlaafeagcbpaaaSame
import Derived.Laws.Externs
namespace Go.Proofs.Ytdlaafeagcbpaaa
open Go Go.RowKit Ieee

def GivesX (k : FloatKind) (w : World) (v : Nat) (e : Ending) (w' : World) : Prop := e = .returned (.float k v) ∧ w' = w
theorem ret_f64 {a b : Nat} (h : a = b) : Ending.returned (.float .f64 a) = Ending.returned (.float .f64 b) := by rw [h]

@[go_sem] theorem unary_neg_float (k : FloatKind) (b : Nat) : Op.unary .neg (.float k b) = pure (.float k (Op.negFloat k b)) := rfl

/-- 'int64(y)' of a number in range. -/
theorem conv_int {P : Program} (w : World) (src dst : TypeId) (b : Nat) (n : Int) (hs : (P.underlying src).isSome = true) (hd : P.underlying dst = some (.int .i64)) (h : floatToIntVal .f64 b .i64 = some n) :
    (convert src dst (.float .f64 b)).run P w = .ok (.int .i64 n) w := run_convert_float_int w src dst .f64 .i64 b n hs hd h

set_option maxHeartbeats 400000 in
theorem impl_part {y : Nat} {n : Int} {f0 f1 : Nat} (h : PartOk y n f0 f1) (w : World) : Calls Try.prog 32 #[.float .f64 y] w (GivesX .f64 w f1) := by
  have hc : ∀ w, (convert 25 2 (.float .f64 y)).run Try.prog w = .ok (.int .i64 n) w := fun w => conv_int w _ _ y n (by rw [Try.underlying25]; rfl) Try.underlying2 h.conv
  obtain ⟨hs1, hs2, _⟩ := ar_some h.sub
  rcases h.up with ⟨hb, hu⟩ | ⟨hb, rfl⟩
  · obtain ⟨hu1, hu2, _⟩ := ar_some hu
    clear h hu
    go_enter Try.func32, Try.ntmps32
    go_wp2
    go_ret
    exact ⟨rfl, rfl⟩
  · clear h
    go_enter Try.func32, Try.ntmps32
    go_wp2
    go_ret
    exact ⟨rfl, rfl⟩

/-- what the sine comes to. -/
def sineOf (t : Bool) (r : Nat) : Nat := if t then Op.negFloat .f64 r else r

theorem steps0 {f3 z u r : Nat} (h : EndOk f3 z u r) : ∃ a b, StepOk u (polyQ u 1) (polyQ u 0) 6 a b := h.steps 0 (by decide)
theorem steps1 {f3 z u r : Nat} (h : EndOk f3 z u r) : ∃ a b, StepOk u (polyQ u 2) (polyQ u 1) 20 a b := h.steps 1 (by decide)
theorem steps2 {f3 z u r : Nat} (h : EndOk f3 z u r) : ∃ a b, StepOk u (polyQ u 3) (polyQ u 2) 42 a b := h.steps 2 (by decide)
theorem steps3 {f3 z u r : Nat} (h : EndOk f3 z u r) : ∃ a b, StepOk u (polyQ u 4) (polyQ u 3) 72 a b := h.steps 3 (by decide)
theorem steps4 {f3 z u r : Nat} (h : EndOk f3 z u r) : ∃ a b, StepOk u (polyQ u 5) (polyQ u 4) 110 a b := h.steps 4 (by decide)
theorem steps5 {f3 z u r : Nat} (h : EndOk f3 z u r) : ∃ a b, StepOk u (polyQ u 6) (polyQ u 5) 156 a b := h.steps 5 (by decide)
theorem steps6 {f3 z u r : Nat} (h : EndOk f3 z u r) : ∃ a b, StepOk u (polyQ u 7) (polyQ u 6) 210 a b := h.steps 6 (by decide)
theorem steps7 {f3 z u r : Nat} (h : EndOk f3 z u r) : ∃ a b, StepOk u (polyQ u 8) (polyQ u 7) 272 a b := h.steps 7 (by decide)

theorem self_sub {y : Nat} (hy : fin .f64 y = true) : ∃ d, floatBits .sub .f64 y y = some d ∧ (FloatKind.f64.format.order d 0 != some .eq) = false := by
  obtain ⟨d, hd, hR⟩ := sub_rnd hy hy 1 rep_one (by grind) (by grind) one_top
  refine ⟨d, hd, ?_⟩
  have hz : val .f64 y - val .f64 y = 0 := by grind
  rw [hz] at hR
  have hv := hR.exact (rep_zero _)
  have := eql_fin hR.1 fin_c0
  rw [hv, val_c0] at this
  show (!(FloatKind.f64.format.order d 0 == some .eq)) = false
  rw [this]
  rfl
theorem fin_big : fin .f64 4841369599423283200 = true := by decide
theorem val_big : val .f64 4841369599423283200 = p2 52 := by
  have h : FloatKind.f64.decode 4841369599423283200 = .number false (2 ^ 52) 0 := by decide
  rw [val_of h]
  show mv (2 ^ 52) 0 = _
  rw [mv_p2]; rfl
theorem fin_mbig : fin .f64 14064741636278059008 = true := by decide
theorem val_mbig : val .f64 14064741636278059008 = -p2 52 := by
  have h : FloatKind.f64.decode 14064741636278059008 = .number true (2 ^ 52) 0 := by decide
  rw [val_of h]
  show -mv (2 ^ 52) 0 = _
  rw [mv_p2]; rfl
theorem big_pos {y : Nat} (hy : fin .f64 y = true) (h : val .f64 y < p2 52) : (FloatKind.f64.format.order y 4841369599423283200 == some .gt || FloatKind.f64.format.order y 4841369599423283200 == some .eq) = false := by
  rw [geq_num hy fin_big, val_big]
  have : ¬ p2 52 ≤ val .f64 y := by grind
  simpa using this
theorem big_neg {y : Nat} (hy : fin .f64 y = true) (h : -p2 52 < val .f64 y) : (FloatKind.f64.format.order y 14064741636278059008 == some .lt || FloatKind.f64.format.order y 14064741636278059008 == some .eq) = false := by
  rw [leq_num hy fin_mbig, val_mbig]
  have : ¬ val .f64 y ≤ -p2 52 := by grind
  simpa using this

set_option maxHeartbeats 2000000 in
theorem impl_sine {y : Nat} {n : Int} {f0 f1 f2 f3 z u r : Nat} {t : Bool} (hP : PartOk y n f0 f1) (hF : FoldOk f1 f2 f3 t) (hE : EndOk f3 z u r) (w : World) :
    Calls Try.prog 30 #[.float .f64 y] w (GivesX .f64 w (sineOf t r)) := by
  have HP := Lib.hid hP
  clear hP
  have hhalf := hF.half
  have HE := Lib.hid hE
  obtain ⟨m1, m2, _⟩ := ar_some hE.mul
  obtain ⟨m3, m4, _⟩ := ar_some hE.sq
  obtain ⟨m5, m6, _⟩ := ar_some hE.last
  clear hE
  have hdn := hF.down
  have hqt := hF.quart
  clear hF
  rcases hdn with hdown | hdown
  · rcases hqt with hquart | hquart
    · obtain ⟨rfl, hd⟩ := hdown
      obtain ⟨e1, e2, _⟩ := ar_some hd
      clear hd
      obtain ⟨hq, hd⟩ := hquart
      obtain ⟨e3, e4, _⟩ := ar_some hd
      clear hd
      go_enter Try.func30, Try.ntmps30
      go_wp2_with (go_at_call 32; refine (impl_part HP.out _).mono ?_; rintro e w' ⟨rfl, rfl⟩)
      go_loop [6, 8] (fun p k => ∃ j : Nat, j ≤ 8 ∧ k = .int .i64 j ∧ p = .float .f64 (polyQ u j)) (fun _ k => (intOf k).toNat)
      case atStart => exact ⟨8, by decide, rfl, rfl⟩
      case round =>
        obtain ⟨j, hj, rfl, rfl⟩ := hrel
        have hj9 : j = 0 ∨ j = 1 ∨ j = 2 ∨ j = 3 ∨ j = 4 ∨ j = 5 ∨ j = 6 ∨ j = 7 ∨ j = 8 := by omega
        clear hj
        rcases hj9 with rfl | rfl | rfl | rfl | rfl | rfl | rfl | rfl | rfl
        · clear HE
          go_wp2
          go_ret
          exact ⟨rfl, rfl⟩
        · obtain ⟨a, b, hS⟩ := steps0 HE.out
          obtain ⟨q1, q2, _⟩ := ar_some hS.mul
          obtain ⟨q3, q4, _⟩ := ar_some hS.quo
          obtain ⟨q5, q6, _⟩ := ar_some hS.sub
          clear hS
          go_wp2
          go_round
          case rel => exact ⟨0, by decide, rfl, rfl⟩
          case measure => simp [intOf]
        · obtain ⟨a, b, hS⟩ := steps1 HE.out
          obtain ⟨q1, q2, _⟩ := ar_some hS.mul
          obtain ⟨q3, q4, _⟩ := ar_some hS.quo
          obtain ⟨q5, q6, _⟩ := ar_some hS.sub
          clear hS
          go_wp2
          go_round
          case rel => exact ⟨1, by decide, rfl, rfl⟩
          case measure => simp [intOf]
        · obtain ⟨a, b, hS⟩ := steps2 HE.out
          obtain ⟨q1, q2, _⟩ := ar_some hS.mul
          obtain ⟨q3, q4, _⟩ := ar_some hS.quo
          obtain ⟨q5, q6, _⟩ := ar_some hS.sub
          clear hS
          go_wp2
          go_round
          case rel => exact ⟨2, by decide, rfl, rfl⟩
          case measure => simp [intOf]
        · obtain ⟨a, b, hS⟩ := steps3 HE.out
          obtain ⟨q1, q2, _⟩ := ar_some hS.mul
          obtain ⟨q3, q4, _⟩ := ar_some hS.quo
          obtain ⟨q5, q6, _⟩ := ar_some hS.sub
          clear hS
          go_wp2
          go_round
          case rel => exact ⟨3, by decide, rfl, rfl⟩
          case measure => simp [intOf]
        · obtain ⟨a, b, hS⟩ := steps4 HE.out
          obtain ⟨q1, q2, _⟩ := ar_some hS.mul
          obtain ⟨q3, q4, _⟩ := ar_some hS.quo
          obtain ⟨q5, q6, _⟩ := ar_some hS.sub
          clear hS
          go_wp2
          go_round
          case rel => exact ⟨4, by decide, rfl, rfl⟩
          case measure => simp [intOf]
        · obtain ⟨a, b, hS⟩ := steps5 HE.out
          obtain ⟨q1, q2, _⟩ := ar_some hS.mul
          obtain ⟨q3, q4, _⟩ := ar_some hS.quo
          obtain ⟨q5, q6, _⟩ := ar_some hS.sub
          clear hS
          go_wp2
          go_round
          case rel => exact ⟨5, by decide, rfl, rfl⟩
          case measure => simp [intOf]
        · obtain ⟨a, b, hS⟩ := steps6 HE.out
          obtain ⟨q1, q2, _⟩ := ar_some hS.mul
          obtain ⟨q3, q4, _⟩ := ar_some hS.quo
          obtain ⟨q5, q6, _⟩ := ar_some hS.sub
          clear hS
          go_wp2
          go_round
          case rel => exact ⟨6, by decide, rfl, rfl⟩
          case measure => simp [intOf]
        · obtain ⟨a, b, hS⟩ := steps7 HE.out
          obtain ⟨q1, q2, _⟩ := ar_some hS.mul
          obtain ⟨q3, q4, _⟩ := ar_some hS.quo
          obtain ⟨q5, q6, _⟩ := ar_some hS.sub
          clear hS
          go_wp2
          go_round
          case rel => exact ⟨7, by decide, rfl, rfl⟩
          case measure => simp [intOf]
    · obtain ⟨rfl, hd⟩ := hdown
      obtain ⟨e1, e2, _⟩ := ar_some hd
      clear hd
      obtain ⟨hq, rfl⟩ := hquart
      go_enter Try.func30, Try.ntmps30
      go_wp2_with (go_at_call 32; refine (impl_part HP.out _).mono ?_; rintro e w' ⟨rfl, rfl⟩)
      go_loop [6, 8] (fun p k => ∃ j : Nat, j ≤ 8 ∧ k = .int .i64 j ∧ p = .float .f64 (polyQ u j)) (fun _ k => (intOf k).toNat)
      case atStart => exact ⟨8, by decide, rfl, rfl⟩
      case round =>
        obtain ⟨j, hj, rfl, rfl⟩ := hrel
        have hj9 : j = 0 ∨ j = 1 ∨ j = 2 ∨ j = 3 ∨ j = 4 ∨ j = 5 ∨ j = 6 ∨ j = 7 ∨ j = 8 := by omega
        clear hj
        rcases hj9 with rfl | rfl | rfl | rfl | rfl | rfl | rfl | rfl | rfl
        · clear HE
          go_wp2
          go_ret
          exact ⟨rfl, rfl⟩
        · obtain ⟨a, b, hS⟩ := steps0 HE.out
          obtain ⟨q1, q2, _⟩ := ar_some hS.mul
          obtain ⟨q3, q4, _⟩ := ar_some hS.quo
          obtain ⟨q5, q6, _⟩ := ar_some hS.sub
          clear hS
          go_wp2
          go_round
          case rel => exact ⟨0, by decide, rfl, rfl⟩
          case measure => simp [intOf]
        · obtain ⟨a, b, hS⟩ := steps1 HE.out
          obtain ⟨q1, q2, _⟩ := ar_some hS.mul
          obtain ⟨q3, q4, _⟩ := ar_some hS.quo
          obtain ⟨q5, q6, _⟩ := ar_some hS.sub
          clear hS
          go_wp2
          go_round
          case rel => exact ⟨1, by decide, rfl, rfl⟩
          case measure => simp [intOf]
        · obtain ⟨a, b, hS⟩ := steps2 HE.out
          obtain ⟨q1, q2, _⟩ := ar_some hS.mul
          obtain ⟨q3, q4, _⟩ := ar_some hS.quo
          obtain ⟨q5, q6, _⟩ := ar_some hS.sub
          clear hS
          go_wp2
          go_round
          case rel => exact ⟨2, by decide, rfl, rfl⟩
          case measure => simp [intOf]
        · obtain ⟨a, b, hS⟩ := steps3 HE.out
          obtain ⟨q1, q2, _⟩ := ar_some hS.mul
          obtain ⟨q3, q4, _⟩ := ar_some hS.quo
          obtain ⟨q5, q6, _⟩ := ar_some hS.sub
          clear hS
          go_wp2
          go_round
          case rel => exact ⟨3, by decide, rfl, rfl⟩
          case measure => simp [intOf]
        · obtain ⟨a, b, hS⟩ := steps4 HE.out
          obtain ⟨q1, q2, _⟩ := ar_some hS.mul
          obtain ⟨q3, q4, _⟩ := ar_some hS.quo
          obtain ⟨q5, q6, _⟩ := ar_some hS.sub
          clear hS
          go_wp2
          go_round
          case rel => exact ⟨4, by decide, rfl, rfl⟩
          case measure => simp [intOf]
        · obtain ⟨a, b, hS⟩ := steps5 HE.out
          obtain ⟨q1, q2, _⟩ := ar_some hS.mul
          obtain ⟨q3, q4, _⟩ := ar_some hS.quo
          obtain ⟨q5, q6, _⟩ := ar_some hS.sub
          clear hS
          go_wp2
          go_round
          case rel => exact ⟨5, by decide, rfl, rfl⟩
          case measure => simp [intOf]
        · obtain ⟨a, b, hS⟩ := steps6 HE.out
          obtain ⟨q1, q2, _⟩ := ar_some hS.mul
          obtain ⟨q3, q4, _⟩ := ar_some hS.quo
          obtain ⟨q5, q6, _⟩ := ar_some hS.sub
          clear hS
          go_wp2
          go_round
          case rel => exact ⟨6, by decide, rfl, rfl⟩
          case measure => simp [intOf]
        · obtain ⟨a, b, hS⟩ := steps7 HE.out
          obtain ⟨q1, q2, _⟩ := ar_some hS.mul
          obtain ⟨q3, q4, _⟩ := ar_some hS.quo
          obtain ⟨q5, q6, _⟩ := ar_some hS.sub
          clear hS
          go_wp2
          go_round
          case rel => exact ⟨7, by decide, rfl, rfl⟩
          case measure => simp [intOf]
  · rcases hqt with hquart | hquart
    · obtain ⟨rfl, rfl⟩ := hdown
      obtain ⟨hq, hd⟩ := hquart
      obtain ⟨e3, e4, _⟩ := ar_some hd
      clear hd
      go_enter Try.func30, Try.ntmps30
      go_wp2_with (go_at_call 32; refine (impl_part HP.out _).mono ?_; rintro e w' ⟨rfl, rfl⟩)
      go_loop [6, 8] (fun p k => ∃ j : Nat, j ≤ 8 ∧ k = .int .i64 j ∧ p = .float .f64 (polyQ u j)) (fun _ k => (intOf k).toNat)
      case atStart => exact ⟨8, by decide, rfl, rfl⟩
      case round =>
        obtain ⟨j, hj, rfl, rfl⟩ := hrel
        have hj9 : j = 0 ∨ j = 1 ∨ j = 2 ∨ j = 3 ∨ j = 4 ∨ j = 5 ∨ j = 6 ∨ j = 7 ∨ j = 8 := by omega
        clear hj
        rcases hj9 with rfl | rfl | rfl | rfl | rfl | rfl | rfl | rfl | rfl
        · clear HE
          go_wp2
          go_ret
          exact ⟨rfl, rfl⟩
        · obtain ⟨a, b, hS⟩ := steps0 HE.out
          obtain ⟨q1, q2, _⟩ := ar_some hS.mul
          obtain ⟨q3, q4, _⟩ := ar_some hS.quo
          obtain ⟨q5, q6, _⟩ := ar_some hS.sub
          clear hS
          go_wp2
          go_round
          case rel => exact ⟨0, by decide, rfl, rfl⟩
          case measure => simp [intOf]
        · obtain ⟨a, b, hS⟩ := steps1 HE.out
          obtain ⟨q1, q2, _⟩ := ar_some hS.mul
          obtain ⟨q3, q4, _⟩ := ar_some hS.quo
          obtain ⟨q5, q6, _⟩ := ar_some hS.sub
          clear hS
          go_wp2
          go_round
          case rel => exact ⟨1, by decide, rfl, rfl⟩
          case measure => simp [intOf]
        · obtain ⟨a, b, hS⟩ := steps2 HE.out
          obtain ⟨q1, q2, _⟩ := ar_some hS.mul
          obtain ⟨q3, q4, _⟩ := ar_some hS.quo
          obtain ⟨q5, q6, _⟩ := ar_some hS.sub
          clear hS
          go_wp2
          go_round
          case rel => exact ⟨2, by decide, rfl, rfl⟩
          case measure => simp [intOf]
        · obtain ⟨a, b, hS⟩ := steps3 HE.out
          obtain ⟨q1, q2, _⟩ := ar_some hS.mul
          obtain ⟨q3, q4, _⟩ := ar_some hS.quo
          obtain ⟨q5, q6, _⟩ := ar_some hS.sub
          clear hS
          go_wp2
          go_round
          case rel => exact ⟨3, by decide, rfl, rfl⟩
          case measure => simp [intOf]
        · obtain ⟨a, b, hS⟩ := steps4 HE.out
          obtain ⟨q1, q2, _⟩ := ar_some hS.mul
          obtain ⟨q3, q4, _⟩ := ar_some hS.quo
          obtain ⟨q5, q6, _⟩ := ar_some hS.sub
          clear hS
          go_wp2
          go_round
          case rel => exact ⟨4, by decide, rfl, rfl⟩
          case measure => simp [intOf]
        · obtain ⟨a, b, hS⟩ := steps5 HE.out
          obtain ⟨q1, q2, _⟩ := ar_some hS.mul
          obtain ⟨q3, q4, _⟩ := ar_some hS.quo
          obtain ⟨q5, q6, _⟩ := ar_some hS.sub
          clear hS
          go_wp2
          go_round
          case rel => exact ⟨5, by decide, rfl, rfl⟩
          case measure => simp [intOf]
        · obtain ⟨a, b, hS⟩ := steps6 HE.out
          obtain ⟨q1, q2, _⟩ := ar_some hS.mul
          obtain ⟨q3, q4, _⟩ := ar_some hS.quo
          obtain ⟨q5, q6, _⟩ := ar_some hS.sub
          clear hS
          go_wp2
          go_round
          case rel => exact ⟨6, by decide, rfl, rfl⟩
          case measure => simp [intOf]
        · obtain ⟨a, b, hS⟩ := steps7 HE.out
          obtain ⟨q1, q2, _⟩ := ar_some hS.mul
          obtain ⟨q3, q4, _⟩ := ar_some hS.quo
          obtain ⟨q5, q6, _⟩ := ar_some hS.sub
          clear hS
          go_wp2
          go_round
          case rel => exact ⟨7, by decide, rfl, rfl⟩
          case measure => simp [intOf]
    · obtain ⟨rfl, rfl⟩ := hdown
      obtain ⟨hq, rfl⟩ := hquart
      go_enter Try.func30, Try.ntmps30
      go_wp2_with (go_at_call 32; refine (impl_part HP.out _).mono ?_; rintro e w' ⟨rfl, rfl⟩)
      go_loop [6, 8] (fun p k => ∃ j : Nat, j ≤ 8 ∧ k = .int .i64 j ∧ p = .float .f64 (polyQ u j)) (fun _ k => (intOf k).toNat)
      case atStart => exact ⟨8, by decide, rfl, rfl⟩
      case round =>
        obtain ⟨j, hj, rfl, rfl⟩ := hrel
        have hj9 : j = 0 ∨ j = 1 ∨ j = 2 ∨ j = 3 ∨ j = 4 ∨ j = 5 ∨ j = 6 ∨ j = 7 ∨ j = 8 := by omega
        clear hj
        rcases hj9 with rfl | rfl | rfl | rfl | rfl | rfl | rfl | rfl | rfl
        · clear HE
          go_wp2
          go_ret
          exact ⟨rfl, rfl⟩
        · obtain ⟨a, b, hS⟩ := steps0 HE.out
          obtain ⟨q1, q2, _⟩ := ar_some hS.mul
          obtain ⟨q3, q4, _⟩ := ar_some hS.quo
          obtain ⟨q5, q6, _⟩ := ar_some hS.sub
          clear hS
          go_wp2
          go_round
          case rel => exact ⟨0, by decide, rfl, rfl⟩
          case measure => simp [intOf]
        · obtain ⟨a, b, hS⟩ := steps1 HE.out
          obtain ⟨q1, q2, _⟩ := ar_some hS.mul
          obtain ⟨q3, q4, _⟩ := ar_some hS.quo
          obtain ⟨q5, q6, _⟩ := ar_some hS.sub
          clear hS
          go_wp2
          go_round
          case rel => exact ⟨1, by decide, rfl, rfl⟩
          case measure => simp [intOf]
        · obtain ⟨a, b, hS⟩ := steps2 HE.out
          obtain ⟨q1, q2, _⟩ := ar_some hS.mul
          obtain ⟨q3, q4, _⟩ := ar_some hS.quo
          obtain ⟨q5, q6, _⟩ := ar_some hS.sub
          clear hS
          go_wp2
          go_round
          case rel => exact ⟨2, by decide, rfl, rfl⟩
          case measure => simp [intOf]
        · obtain ⟨a, b, hS⟩ := steps3 HE.out
          obtain ⟨q1, q2, _⟩ := ar_some hS.mul
          obtain ⟨q3, q4, _⟩ := ar_some hS.quo
          obtain ⟨q5, q6, _⟩ := ar_some hS.sub
          clear hS
          go_wp2
          go_round
          case rel => exact ⟨3, by decide, rfl, rfl⟩
          case measure => simp [intOf]
        · obtain ⟨a, b, hS⟩ := steps4 HE.out
          obtain ⟨q1, q2, _⟩ := ar_some hS.mul
          obtain ⟨q3, q4, _⟩ := ar_some hS.quo
          obtain ⟨q5, q6, _⟩ := ar_some hS.sub
          clear hS
          go_wp2
          go_round
          case rel => exact ⟨4, by decide, rfl, rfl⟩
          case measure => simp [intOf]
        · obtain ⟨a, b, hS⟩ := steps5 HE.out
          obtain ⟨q1, q2, _⟩ := ar_some hS.mul
          obtain ⟨q3, q4, _⟩ := ar_some hS.quo
          obtain ⟨q5, q6, _⟩ := ar_some hS.sub
          clear hS
          go_wp2
          go_round
          case rel => exact ⟨5, by decide, rfl, rfl⟩
          case measure => simp [intOf]
        · obtain ⟨a, b, hS⟩ := steps6 HE.out
          obtain ⟨q1, q2, _⟩ := ar_some hS.mul
          obtain ⟨q3, q4, _⟩ := ar_some hS.quo
          obtain ⟨q5, q6, _⟩ := ar_some hS.sub
          clear hS
          go_wp2
          go_round
          case rel => exact ⟨6, by decide, rfl, rfl⟩
          case measure => simp [intOf]
        · obtain ⟨a, b, hS⟩ := steps7 HE.out
          obtain ⟨q1, q2, _⟩ := ar_some hS.mul
          obtain ⟨q3, q4, _⟩ := ar_some hS.quo
          obtain ⟨q5, q6, _⟩ := ar_some hS.sub
          clear hS
          go_wp2
          go_round
          case rel => exact ⟨7, by decide, rfl, rfl⟩
          case measure => simp [intOf]

set_option maxHeartbeats 2000000 in
theorem spec_SineWide {y : Nat} {n : Int} {f0 f1 f2 f3 z u r : Nat} {t : Bool} (hy : fin .f64 y = true) (hy1 : val .f64 y < p2 52) (hy2 : -p2 52 < val .f64 y) (hP : PartOk y n f0 f1) (hF : FoldOk f1 f2 f3 t) (hE : EndOk f3 z u r) (w : World) :
    Calls Try.prog 44 #[.float .f64 y] w (GivesX .f64 w (sineOf t r)) := by
  obtain ⟨d0, hd0, hd1⟩ := self_sub hy
  obtain ⟨s1, s2, _⟩ := ar_some hd0
  have g1 := big_pos hy hy1
  have g2 := big_neg hy hy2
  have hc : ∀ w, (convert 25 2 (.float .f64 y)).run Try.prog w = .ok (.int .i64 n) w := fun w => conv_int w _ _ y n (by rw [Try.underlying25]; rfl) Try.underlying2 hP.conv
  obtain ⟨hs1, hs2, _⟩ := ar_some hP.sub
  clear hd0 hy hy1 hy2
  have hhalf := hF.half
  have HE := Lib.hid hE
  obtain ⟨m1, m2, _⟩ := ar_some hE.mul
  obtain ⟨m3, m4, _⟩ := ar_some hE.sq
  obtain ⟨m5, m6, _⟩ := ar_some hE.last
  clear hE
  have hdn := hF.down
  have hqt := hF.quart
  clear hF
  have hpt := hP.up
  clear hP
  rcases hpt with hup | hup
  · rcases hdn with hdown | hdown
    · rcases hqt with hquart | hquart
      · obtain ⟨hb, hu⟩ := hup
        obtain ⟨hu1, hu2, _⟩ := ar_some hu
        clear hu
        obtain ⟨rfl, hd⟩ := hdown
        obtain ⟨e1, e2, _⟩ := ar_some hd
        clear hd
        obtain ⟨hq, hd⟩ := hquart
        obtain ⟨e3, e4, _⟩ := ar_some hd
        clear hd
        go_enter Try.func44, Try.ntmps44
        go_wp2
        go_loop [7, 8] (fun p k => ∃ j : Nat, j ≤ 8 ∧ k = .int .i64 j ∧ p = .float .f64 (polyQ u j)) (fun _ k => (intOf k).toNat)
        case atStart => exact ⟨8, by decide, rfl, rfl⟩
        case round =>
          obtain ⟨j, hj, rfl, rfl⟩ := hrel
          have hj9 : j = 0 ∨ j = 1 ∨ j = 2 ∨ j = 3 ∨ j = 4 ∨ j = 5 ∨ j = 6 ∨ j = 7 ∨ j = 8 := by omega
          clear hj
          rcases hj9 with rfl | rfl | rfl | rfl | rfl | rfl | rfl | rfl | rfl
          · clear HE
            go_wp2
            go_ret
            exact ⟨rfl, rfl⟩
          · obtain ⟨a, b, hS⟩ := steps0 HE.out
            obtain ⟨q1, q2, _⟩ := ar_some hS.mul
            obtain ⟨q3, q4, _⟩ := ar_some hS.quo
            obtain ⟨q5, q6, _⟩ := ar_some hS.sub
            clear hS
            go_wp2
            go_round
            case rel => exact ⟨0, by decide, rfl, rfl⟩
            case measure => simp [intOf]
          · obtain ⟨a, b, hS⟩ := steps1 HE.out
            obtain ⟨q1, q2, _⟩ := ar_some hS.mul
            obtain ⟨q3, q4, _⟩ := ar_some hS.quo
            obtain ⟨q5, q6, _⟩ := ar_some hS.sub
            clear hS
            go_wp2
            go_round
            case rel => exact ⟨1, by decide, rfl, rfl⟩
            case measure => simp [intOf]
          · obtain ⟨a, b, hS⟩ := steps2 HE.out
            obtain ⟨q1, q2, _⟩ := ar_some hS.mul
            obtain ⟨q3, q4, _⟩ := ar_some hS.quo
            obtain ⟨q5, q6, _⟩ := ar_some hS.sub
            clear hS
            go_wp2
            go_round
            case rel => exact ⟨2, by decide, rfl, rfl⟩
            case measure => simp [intOf]
          · obtain ⟨a, b, hS⟩ := steps3 HE.out
            obtain ⟨q1, q2, _⟩ := ar_some hS.mul
            obtain ⟨q3, q4, _⟩ := ar_some hS.quo
            obtain ⟨q5, q6, _⟩ := ar_some hS.sub
            clear hS
            go_wp2
            go_round
            case rel => exact ⟨3, by decide, rfl, rfl⟩
            case measure => simp [intOf]
          · obtain ⟨a, b, hS⟩ := steps4 HE.out
            obtain ⟨q1, q2, _⟩ := ar_some hS.mul
            obtain ⟨q3, q4, _⟩ := ar_some hS.quo
            obtain ⟨q5, q6, _⟩ := ar_some hS.sub
            clear hS
            go_wp2
            go_round
            case rel => exact ⟨4, by decide, rfl, rfl⟩
            case measure => simp [intOf]
          · obtain ⟨a, b, hS⟩ := steps5 HE.out
            obtain ⟨q1, q2, _⟩ := ar_some hS.mul
            obtain ⟨q3, q4, _⟩ := ar_some hS.quo
            obtain ⟨q5, q6, _⟩ := ar_some hS.sub
            clear hS
            go_wp2
            go_round
            case rel => exact ⟨5, by decide, rfl, rfl⟩
            case measure => simp [intOf]
          · obtain ⟨a, b, hS⟩ := steps6 HE.out
            obtain ⟨q1, q2, _⟩ := ar_some hS.mul
            obtain ⟨q3, q4, _⟩ := ar_some hS.quo
            obtain ⟨q5, q6, _⟩ := ar_some hS.sub
            clear hS
            go_wp2
            go_round
            case rel => exact ⟨6, by decide, rfl, rfl⟩
            case measure => simp [intOf]
          · obtain ⟨a, b, hS⟩ := steps7 HE.out
            obtain ⟨q1, q2, _⟩ := ar_some hS.mul
            obtain ⟨q3, q4, _⟩ := ar_some hS.quo
            obtain ⟨q5, q6, _⟩ := ar_some hS.sub
            clear hS
            go_wp2
            go_round
            case rel => exact ⟨7, by decide, rfl, rfl⟩
            case measure => simp [intOf]
      · obtain ⟨hb, hu⟩ := hup
        obtain ⟨hu1, hu2, _⟩ := ar_some hu
        clear hu
        obtain ⟨rfl, hd⟩ := hdown
        obtain ⟨e1, e2, _⟩ := ar_some hd
        clear hd
        obtain ⟨hq, rfl⟩ := hquart
        go_enter Try.func44, Try.ntmps44
        go_wp2
        go_loop [7, 8] (fun p k => ∃ j : Nat, j ≤ 8 ∧ k = .int .i64 j ∧ p = .float .f64 (polyQ u j)) (fun _ k => (intOf k).toNat)
        case atStart => exact ⟨8, by decide, rfl, rfl⟩
        case round =>
          obtain ⟨j, hj, rfl, rfl⟩ := hrel
          have hj9 : j = 0 ∨ j = 1 ∨ j = 2 ∨ j = 3 ∨ j = 4 ∨ j = 5 ∨ j = 6 ∨ j = 7 ∨ j = 8 := by omega
          clear hj
          rcases hj9 with rfl | rfl | rfl | rfl | rfl | rfl | rfl | rfl | rfl
          · clear HE
            go_wp2
            go_ret
            exact ⟨rfl, rfl⟩
          · obtain ⟨a, b, hS⟩ := steps0 HE.out
            obtain ⟨q1, q2, _⟩ := ar_some hS.mul
            obtain ⟨q3, q4, _⟩ := ar_some hS.quo
            obtain ⟨q5, q6, _⟩ := ar_some hS.sub
            clear hS
            go_wp2
            go_round
            case rel => exact ⟨0, by decide, rfl, rfl⟩
            case measure => simp [intOf]
          · obtain ⟨a, b, hS⟩ := steps1 HE.out
            obtain ⟨q1, q2, _⟩ := ar_some hS.mul
            obtain ⟨q3, q4, _⟩ := ar_some hS.quo
            obtain ⟨q5, q6, _⟩ := ar_some hS.sub
            clear hS
            go_wp2
            go_round
            case rel => exact ⟨1, by decide, rfl, rfl⟩
            case measure => simp [intOf]
          · obtain ⟨a, b, hS⟩ := steps2 HE.out
            obtain ⟨q1, q2, _⟩ := ar_some hS.mul
            obtain ⟨q3, q4, _⟩ := ar_some hS.quo
            obtain ⟨q5, q6, _⟩ := ar_some hS.sub
            clear hS
            go_wp2
            go_round
            case rel => exact ⟨2, by decide, rfl, rfl⟩
            case measure => simp [intOf]
          · obtain ⟨a, b, hS⟩ := steps3 HE.out
            obtain ⟨q1, q2, _⟩ := ar_some hS.mul
            obtain ⟨q3, q4, _⟩ := ar_some hS.quo
            obtain ⟨q5, q6, _⟩ := ar_some hS.sub
            clear hS
            go_wp2
            go_round
            case rel => exact ⟨3, by decide, rfl, rfl⟩
            case measure => simp [intOf]
          · obtain ⟨a, b, hS⟩ := steps4 HE.out
            obtain ⟨q1, q2, _⟩ := ar_some hS.mul
            obtain ⟨q3, q4, _⟩ := ar_some hS.quo
            obtain ⟨q5, q6, _⟩ := ar_some hS.sub
            clear hS
            go_wp2
            go_round
            case rel => exact ⟨4, by decide, rfl, rfl⟩
            case measure => simp [intOf]
          · obtain ⟨a, b, hS⟩ := steps5 HE.out
            obtain ⟨q1, q2, _⟩ := ar_some hS.mul
            obtain ⟨q3, q4, _⟩ := ar_some hS.quo
            obtain ⟨q5, q6, _⟩ := ar_some hS.sub
            clear hS
            go_wp2
            go_round
            case rel => exact ⟨5, by decide, rfl, rfl⟩
            case measure => simp [intOf]
          · obtain ⟨a, b, hS⟩ := steps6 HE.out
            obtain ⟨q1, q2, _⟩ := ar_some hS.mul
            obtain ⟨q3, q4, _⟩ := ar_some hS.quo
            obtain ⟨q5, q6, _⟩ := ar_some hS.sub
            clear hS
            go_wp2
            go_round
            case rel => exact ⟨6, by decide, rfl, rfl⟩
            case measure => simp [intOf]
          · obtain ⟨a, b, hS⟩ := steps7 HE.out
            obtain ⟨q1, q2, _⟩ := ar_some hS.mul
            obtain ⟨q3, q4, _⟩ := ar_some hS.quo
            obtain ⟨q5, q6, _⟩ := ar_some hS.sub
            clear hS
            go_wp2
            go_round
            case rel => exact ⟨7, by decide, rfl, rfl⟩
            case measure => simp [intOf]
    · rcases hqt with hquart | hquart
      · obtain ⟨hb, hu⟩ := hup
        obtain ⟨hu1, hu2, _⟩ := ar_some hu
        clear hu
        obtain ⟨rfl, rfl⟩ := hdown
        obtain ⟨hq, hd⟩ := hquart
        obtain ⟨e3, e4, _⟩ := ar_some hd
        clear hd
        go_enter Try.func44, Try.ntmps44
        go_wp2
        go_loop [7, 8] (fun p k => ∃ j : Nat, j ≤ 8 ∧ k = .int .i64 j ∧ p = .float .f64 (polyQ u j)) (fun _ k => (intOf k).toNat)
        case atStart => exact ⟨8, by decide, rfl, rfl⟩
        case round =>
          obtain ⟨j, hj, rfl, rfl⟩ := hrel
          have hj9 : j = 0 ∨ j = 1 ∨ j = 2 ∨ j = 3 ∨ j = 4 ∨ j = 5 ∨ j = 6 ∨ j = 7 ∨ j = 8 := by omega
          clear hj
          rcases hj9 with rfl | rfl | rfl | rfl | rfl | rfl | rfl | rfl | rfl
          · clear HE
            go_wp2
            go_ret
            exact ⟨rfl, rfl⟩
          · obtain ⟨a, b, hS⟩ := steps0 HE.out
            obtain ⟨q1, q2, _⟩ := ar_some hS.mul
            obtain ⟨q3, q4, _⟩ := ar_some hS.quo
            obtain ⟨q5, q6, _⟩ := ar_some hS.sub
            clear hS
            go_wp2
            go_round
            case rel => exact ⟨0, by decide, rfl, rfl⟩
            case measure => simp [intOf]
          · obtain ⟨a, b, hS⟩ := steps1 HE.out
            obtain ⟨q1, q2, _⟩ := ar_some hS.mul
            obtain ⟨q3, q4, _⟩ := ar_some hS.quo
            obtain ⟨q5, q6, _⟩ := ar_some hS.sub
            clear hS
            go_wp2
            go_round
            case rel => exact ⟨1, by decide, rfl, rfl⟩
            case measure => simp [intOf]
          · obtain ⟨a, b, hS⟩ := steps2 HE.out
            obtain ⟨q1, q2, _⟩ := ar_some hS.mul
            obtain ⟨q3, q4, _⟩ := ar_some hS.quo
            obtain ⟨q5, q6, _⟩ := ar_some hS.sub
            clear hS
            go_wp2
            go_round
            case rel => exact ⟨2, by decide, rfl, rfl⟩
            case measure => simp [intOf]
          · obtain ⟨a, b, hS⟩ := steps3 HE.out
            obtain ⟨q1, q2, _⟩ := ar_some hS.mul
            obtain ⟨q3, q4, _⟩ := ar_some hS.quo
            obtain ⟨q5, q6, _⟩ := ar_some hS.sub
            clear hS
            go_wp2
            go_round
            case rel => exact ⟨3, by decide, rfl, rfl⟩
            case measure => simp [intOf]
          · obtain ⟨a, b, hS⟩ := steps4 HE.out
            obtain ⟨q1, q2, _⟩ := ar_some hS.mul
            obtain ⟨q3, q4, _⟩ := ar_some hS.quo
            obtain ⟨q5, q6, _⟩ := ar_some hS.sub
            clear hS
            go_wp2
            go_round
            case rel => exact ⟨4, by decide, rfl, rfl⟩
            case measure => simp [intOf]
          · obtain ⟨a, b, hS⟩ := steps5 HE.out
            obtain ⟨q1, q2, _⟩ := ar_some hS.mul
            obtain ⟨q3, q4, _⟩ := ar_some hS.quo
            obtain ⟨q5, q6, _⟩ := ar_some hS.sub
            clear hS
            go_wp2
            go_round
            case rel => exact ⟨5, by decide, rfl, rfl⟩
            case measure => simp [intOf]
          · obtain ⟨a, b, hS⟩ := steps6 HE.out
            obtain ⟨q1, q2, _⟩ := ar_some hS.mul
            obtain ⟨q3, q4, _⟩ := ar_some hS.quo
            obtain ⟨q5, q6, _⟩ := ar_some hS.sub
            clear hS
            go_wp2
            go_round
            case rel => exact ⟨6, by decide, rfl, rfl⟩
            case measure => simp [intOf]
          · obtain ⟨a, b, hS⟩ := steps7 HE.out
            obtain ⟨q1, q2, _⟩ := ar_some hS.mul
            obtain ⟨q3, q4, _⟩ := ar_some hS.quo
            obtain ⟨q5, q6, _⟩ := ar_some hS.sub
            clear hS
            go_wp2
            go_round
            case rel => exact ⟨7, by decide, rfl, rfl⟩
            case measure => simp [intOf]
      · obtain ⟨hb, hu⟩ := hup
        obtain ⟨hu1, hu2, _⟩ := ar_some hu
        clear hu
        obtain ⟨rfl, rfl⟩ := hdown
        obtain ⟨hq, rfl⟩ := hquart
        go_enter Try.func44, Try.ntmps44
        go_wp2
        go_loop [7, 8] (fun p k => ∃ j : Nat, j ≤ 8 ∧ k = .int .i64 j ∧ p = .float .f64 (polyQ u j)) (fun _ k => (intOf k).toNat)
        case atStart => exact ⟨8, by decide, rfl, rfl⟩
        case round =>
          obtain ⟨j, hj, rfl, rfl⟩ := hrel
          have hj9 : j = 0 ∨ j = 1 ∨ j = 2 ∨ j = 3 ∨ j = 4 ∨ j = 5 ∨ j = 6 ∨ j = 7 ∨ j = 8 := by omega
          clear hj
          rcases hj9 with rfl | rfl | rfl | rfl | rfl | rfl | rfl | rfl | rfl
          · clear HE
            go_wp2
            go_ret
            exact ⟨rfl, rfl⟩
          · obtain ⟨a, b, hS⟩ := steps0 HE.out
            obtain ⟨q1, q2, _⟩ := ar_some hS.mul
            obtain ⟨q3, q4, _⟩ := ar_some hS.quo
            obtain ⟨q5, q6, _⟩ := ar_some hS.sub
            clear hS
            go_wp2
            go_round
            case rel => exact ⟨0, by decide, rfl, rfl⟩
            case measure => simp [intOf]
          · obtain ⟨a, b, hS⟩ := steps1 HE.out
            obtain ⟨q1, q2, _⟩ := ar_some hS.mul
            obtain ⟨q3, q4, _⟩ := ar_some hS.quo
            obtain ⟨q5, q6, _⟩ := ar_some hS.sub
            clear hS
            go_wp2
            go_round
            case rel => exact ⟨1, by decide, rfl, rfl⟩
            case measure => simp [intOf]
          · obtain ⟨a, b, hS⟩ := steps2 HE.out
            obtain ⟨q1, q2, _⟩ := ar_some hS.mul
            obtain ⟨q3, q4, _⟩ := ar_some hS.quo
            obtain ⟨q5, q6, _⟩ := ar_some hS.sub
            clear hS
            go_wp2
            go_round
            case rel => exact ⟨2, by decide, rfl, rfl⟩
            case measure => simp [intOf]
          · obtain ⟨a, b, hS⟩ := steps3 HE.out
            obtain ⟨q1, q2, _⟩ := ar_some hS.mul
            obtain ⟨q3, q4, _⟩ := ar_some hS.quo
            obtain ⟨q5, q6, _⟩ := ar_some hS.sub
            clear hS
            go_wp2
            go_round
            case rel => exact ⟨3, by decide, rfl, rfl⟩
            case measure => simp [intOf]
          · obtain ⟨a, b, hS⟩ := steps4 HE.out
            obtain ⟨q1, q2, _⟩ := ar_some hS.mul
            obtain ⟨q3, q4, _⟩ := ar_some hS.quo
            obtain ⟨q5, q6, _⟩ := ar_some hS.sub
            clear hS
            go_wp2
            go_round
            case rel => exact ⟨4, by decide, rfl, rfl⟩
            case measure => simp [intOf]
          · obtain ⟨a, b, hS⟩ := steps5 HE.out
            obtain ⟨q1, q2, _⟩ := ar_some hS.mul
            obtain ⟨q3, q4, _⟩ := ar_some hS.quo
            obtain ⟨q5, q6, _⟩ := ar_some hS.sub
            clear hS
            go_wp2
            go_round
            case rel => exact ⟨5, by decide, rfl, rfl⟩
            case measure => simp [intOf]
          · obtain ⟨a, b, hS⟩ := steps6 HE.out
            obtain ⟨q1, q2, _⟩ := ar_some hS.mul
            obtain ⟨q3, q4, _⟩ := ar_some hS.quo
            obtain ⟨q5, q6, _⟩ := ar_some hS.sub
            clear hS
            go_wp2
            go_round
            case rel => exact ⟨6, by decide, rfl, rfl⟩
            case measure => simp [intOf]
          · obtain ⟨a, b, hS⟩ := steps7 HE.out
            obtain ⟨q1, q2, _⟩ := ar_some hS.mul
            obtain ⟨q3, q4, _⟩ := ar_some hS.quo
            obtain ⟨q5, q6, _⟩ := ar_some hS.sub
            clear hS
            go_wp2
            go_round
            case rel => exact ⟨7, by decide, rfl, rfl⟩
            case measure => simp [intOf]
  · rcases hdn with hdown | hdown
    · rcases hqt with hquart | hquart
      · obtain ⟨hb, rfl⟩ := hup
        obtain ⟨rfl, hd⟩ := hdown
        obtain ⟨e1, e2, _⟩ := ar_some hd
        clear hd
        obtain ⟨hq, hd⟩ := hquart
        obtain ⟨e3, e4, _⟩ := ar_some hd
        clear hd
        go_enter Try.func44, Try.ntmps44
        go_wp2
        go_loop [7, 8] (fun p k => ∃ j : Nat, j ≤ 8 ∧ k = .int .i64 j ∧ p = .float .f64 (polyQ u j)) (fun _ k => (intOf k).toNat)
        case atStart => exact ⟨8, by decide, rfl, rfl⟩
        case round =>
          obtain ⟨j, hj, rfl, rfl⟩ := hrel
          have hj9 : j = 0 ∨ j = 1 ∨ j = 2 ∨ j = 3 ∨ j = 4 ∨ j = 5 ∨ j = 6 ∨ j = 7 ∨ j = 8 := by omega
          clear hj
          rcases hj9 with rfl | rfl | rfl | rfl | rfl | rfl | rfl | rfl | rfl
          · clear HE
            go_wp2
            go_ret
            exact ⟨rfl, rfl⟩
          · obtain ⟨a, b, hS⟩ := steps0 HE.out
            obtain ⟨q1, q2, _⟩ := ar_some hS.mul
            obtain ⟨q3, q4, _⟩ := ar_some hS.quo
            obtain ⟨q5, q6, _⟩ := ar_some hS.sub
            clear hS
            go_wp2
            go_round
            case rel => exact ⟨0, by decide, rfl, rfl⟩
            case measure => simp [intOf]
          · obtain ⟨a, b, hS⟩ := steps1 HE.out
            obtain ⟨q1, q2, _⟩ := ar_some hS.mul
            obtain ⟨q3, q4, _⟩ := ar_some hS.quo
            obtain ⟨q5, q6, _⟩ := ar_some hS.sub
            clear hS
            go_wp2
            go_round
            case rel => exact ⟨1, by decide, rfl, rfl⟩
            case measure => simp [intOf]
          · obtain ⟨a, b, hS⟩ := steps2 HE.out
            obtain ⟨q1, q2, _⟩ := ar_some hS.mul
            obtain ⟨q3, q4, _⟩ := ar_some hS.quo
            obtain ⟨q5, q6, _⟩ := ar_some hS.sub
            clear hS
            go_wp2
            go_round
            case rel => exact ⟨2, by decide, rfl, rfl⟩
            case measure => simp [intOf]
          · obtain ⟨a, b, hS⟩ := steps3 HE.out
            obtain ⟨q1, q2, _⟩ := ar_some hS.mul
            obtain ⟨q3, q4, _⟩ := ar_some hS.quo
            obtain ⟨q5, q6, _⟩ := ar_some hS.sub
            clear hS
            go_wp2
            go_round
            case rel => exact ⟨3, by decide, rfl, rfl⟩
            case measure => simp [intOf]
          · obtain ⟨a, b, hS⟩ := steps4 HE.out
            obtain ⟨q1, q2, _⟩ := ar_some hS.mul
            obtain ⟨q3, q4, _⟩ := ar_some hS.quo
            obtain ⟨q5, q6, _⟩ := ar_some hS.sub
            clear hS
            go_wp2
            go_round
            case rel => exact ⟨4, by decide, rfl, rfl⟩
            case measure => simp [intOf]
          · obtain ⟨a, b, hS⟩ := steps5 HE.out
            obtain ⟨q1, q2, _⟩ := ar_some hS.mul
            obtain ⟨q3, q4, _⟩ := ar_some hS.quo
            obtain ⟨q5, q6, _⟩ := ar_some hS.sub
            clear hS
            go_wp2
            go_round
            case rel => exact ⟨5, by decide, rfl, rfl⟩
            case measure => simp [intOf]
          · obtain ⟨a, b, hS⟩ := steps6 HE.out
            obtain ⟨q1, q2, _⟩ := ar_some hS.mul
            obtain ⟨q3, q4, _⟩ := ar_some hS.quo
            obtain ⟨q5, q6, _⟩ := ar_some hS.sub
            clear hS
            go_wp2
            go_round
            case rel => exact ⟨6, by decide, rfl, rfl⟩
            case measure => simp [intOf]
          · obtain ⟨a, b, hS⟩ := steps7 HE.out
            obtain ⟨q1, q2, _⟩ := ar_some hS.mul
            obtain ⟨q3, q4, _⟩ := ar_some hS.quo
            obtain ⟨q5, q6, _⟩ := ar_some hS.sub
            clear hS
            go_wp2
            go_round
            case rel => exact ⟨7, by decide, rfl, rfl⟩
            case measure => simp [intOf]
      · obtain ⟨hb, rfl⟩ := hup
        obtain ⟨rfl, hd⟩ := hdown
        obtain ⟨e1, e2, _⟩ := ar_some hd
        clear hd
        obtain ⟨hq, rfl⟩ := hquart
        go_enter Try.func44, Try.ntmps44
        go_wp2
        go_loop [7, 8] (fun p k => ∃ j : Nat, j ≤ 8 ∧ k = .int .i64 j ∧ p = .float .f64 (polyQ u j)) (fun _ k => (intOf k).toNat)
        case atStart => exact ⟨8, by decide, rfl, rfl⟩
        case round =>
          obtain ⟨j, hj, rfl, rfl⟩ := hrel
          have hj9 : j = 0 ∨ j = 1 ∨ j = 2 ∨ j = 3 ∨ j = 4 ∨ j = 5 ∨ j = 6 ∨ j = 7 ∨ j = 8 := by omega
          clear hj
          rcases hj9 with rfl | rfl | rfl | rfl | rfl | rfl | rfl | rfl | rfl
          · clear HE
            go_wp2
            go_ret
            exact ⟨rfl, rfl⟩
          · obtain ⟨a, b, hS⟩ := steps0 HE.out
            obtain ⟨q1, q2, _⟩ := ar_some hS.mul
            obtain ⟨q3, q4, _⟩ := ar_some hS.quo
            obtain ⟨q5, q6, _⟩ := ar_some hS.sub
            clear hS
            go_wp2
            go_round
            case rel => exact ⟨0, by decide, rfl, rfl⟩
            case measure => simp [intOf]
          · obtain ⟨a, b, hS⟩ := steps1 HE.out
            obtain ⟨q1, q2, _⟩ := ar_some hS.mul
            obtain ⟨q3, q4, _⟩ := ar_some hS.quo
            obtain ⟨q5, q6, _⟩ := ar_some hS.sub
            clear hS
            go_wp2
            go_round
            case rel => exact ⟨1, by decide, rfl, rfl⟩
            case measure => simp [intOf]
          · obtain ⟨a, b, hS⟩ := steps2 HE.out
            obtain ⟨q1, q2, _⟩ := ar_some hS.mul
            obtain ⟨q3, q4, _⟩ := ar_some hS.quo
            obtain ⟨q5, q6, _⟩ := ar_some hS.sub
            clear hS
            go_wp2
            go_round
            case rel => exact ⟨2, by decide, rfl, rfl⟩
            case measure => simp [intOf]
          · obtain ⟨a, b, hS⟩ := steps3 HE.out
            obtain ⟨q1, q2, _⟩ := ar_some hS.mul
            obtain ⟨q3, q4, _⟩ := ar_some hS.quo
            obtain ⟨q5, q6, _⟩ := ar_some hS.sub
            clear hS
            go_wp2
            go_round
            case rel => exact ⟨3, by decide, rfl, rfl⟩
            case measure => simp [intOf]
          · obtain ⟨a, b, hS⟩ := steps4 HE.out
            obtain ⟨q1, q2, _⟩ := ar_some hS.mul
            obtain ⟨q3, q4, _⟩ := ar_some hS.quo
            obtain ⟨q5, q6, _⟩ := ar_some hS.sub
            clear hS
            go_wp2
            go_round
            case rel => exact ⟨4, by decide, rfl, rfl⟩
            case measure => simp [intOf]
          · obtain ⟨a, b, hS⟩ := steps5 HE.out
            obtain ⟨q1, q2, _⟩ := ar_some hS.mul
            obtain ⟨q3, q4, _⟩ := ar_some hS.quo
            obtain ⟨q5, q6, _⟩ := ar_some hS.sub
            clear hS
            go_wp2
            go_round
            case rel => exact ⟨5, by decide, rfl, rfl⟩
            case measure => simp [intOf]
          · obtain ⟨a, b, hS⟩ := steps6 HE.out
            obtain ⟨q1, q2, _⟩ := ar_some hS.mul
            obtain ⟨q3, q4, _⟩ := ar_some hS.quo
            obtain ⟨q5, q6, _⟩ := ar_some hS.sub
            clear hS
            go_wp2
            go_round
            case rel => exact ⟨6, by decide, rfl, rfl⟩
            case measure => simp [intOf]
          · obtain ⟨a, b, hS⟩ := steps7 HE.out
            obtain ⟨q1, q2, _⟩ := ar_some hS.mul
            obtain ⟨q3, q4, _⟩ := ar_some hS.quo
            obtain ⟨q5, q6, _⟩ := ar_some hS.sub
            clear hS
            go_wp2
            go_round
            case rel => exact ⟨7, by decide, rfl, rfl⟩
            case measure => simp [intOf]
    · rcases hqt with hquart | hquart
      · obtain ⟨hb, rfl⟩ := hup
        obtain ⟨rfl, rfl⟩ := hdown
        obtain ⟨hq, hd⟩ := hquart
        obtain ⟨e3, e4, _⟩ := ar_some hd
        clear hd
        go_enter Try.func44, Try.ntmps44
        go_wp2
        go_loop [7, 8] (fun p k => ∃ j : Nat, j ≤ 8 ∧ k = .int .i64 j ∧ p = .float .f64 (polyQ u j)) (fun _ k => (intOf k).toNat)
        case atStart => exact ⟨8, by decide, rfl, rfl⟩
        case round =>
          obtain ⟨j, hj, rfl, rfl⟩ := hrel
          have hj9 : j = 0 ∨ j = 1 ∨ j = 2 ∨ j = 3 ∨ j = 4 ∨ j = 5 ∨ j = 6 ∨ j = 7 ∨ j = 8 := by omega
          clear hj
          rcases hj9 with rfl | rfl | rfl | rfl | rfl | rfl | rfl | rfl | rfl
          · clear HE
            go_wp2
            go_ret
            exact ⟨rfl, rfl⟩
          · obtain ⟨a, b, hS⟩ := steps0 HE.out
            obtain ⟨q1, q2, _⟩ := ar_some hS.mul
            obtain ⟨q3, q4, _⟩ := ar_some hS.quo
            obtain ⟨q5, q6, _⟩ := ar_some hS.sub
            clear hS
            go_wp2
            go_round
            case rel => exact ⟨0, by decide, rfl, rfl⟩
            case measure => simp [intOf]
          · obtain ⟨a, b, hS⟩ := steps1 HE.out
            obtain ⟨q1, q2, _⟩ := ar_some hS.mul
            obtain ⟨q3, q4, _⟩ := ar_some hS.quo
            obtain ⟨q5, q6, _⟩ := ar_some hS.sub
            clear hS
            go_wp2
            go_round
            case rel => exact ⟨1, by decide, rfl, rfl⟩
            case measure => simp [intOf]
          · obtain ⟨a, b, hS⟩ := steps2 HE.out
            obtain ⟨q1, q2, _⟩ := ar_some hS.mul
            obtain ⟨q3, q4, _⟩ := ar_some hS.quo
            obtain ⟨q5, q6, _⟩ := ar_some hS.sub
            clear hS
            go_wp2
            go_round
            case rel => exact ⟨2, by decide, rfl, rfl⟩
            case measure => simp [intOf]
          · obtain ⟨a, b, hS⟩ := steps3 HE.out
            obtain ⟨q1, q2, _⟩ := ar_some hS.mul
            obtain ⟨q3, q4, _⟩ := ar_some hS.quo
            obtain ⟨q5, q6, _⟩ := ar_some hS.sub
            clear hS
            go_wp2
            go_round
            case rel => exact ⟨3, by decide, rfl, rfl⟩
            case measure => simp [intOf]
          · obtain ⟨a, b, hS⟩ := steps4 HE.out
            obtain ⟨q1, q2, _⟩ := ar_some hS.mul
            obtain ⟨q3, q4, _⟩ := ar_some hS.quo
            obtain ⟨q5, q6, _⟩ := ar_some hS.sub
            clear hS
            go_wp2
            go_round
            case rel => exact ⟨4, by decide, rfl, rfl⟩
            case measure => simp [intOf]
          · obtain ⟨a, b, hS⟩ := steps5 HE.out
            obtain ⟨q1, q2, _⟩ := ar_some hS.mul
            obtain ⟨q3, q4, _⟩ := ar_some hS.quo
            obtain ⟨q5, q6, _⟩ := ar_some hS.sub
            clear hS
            go_wp2
            go_round
            case rel => exact ⟨5, by decide, rfl, rfl⟩
            case measure => simp [intOf]
          · obtain ⟨a, b, hS⟩ := steps6 HE.out
            obtain ⟨q1, q2, _⟩ := ar_some hS.mul
            obtain ⟨q3, q4, _⟩ := ar_some hS.quo
            obtain ⟨q5, q6, _⟩ := ar_some hS.sub
            clear hS
            go_wp2
            go_round
            case rel => exact ⟨6, by decide, rfl, rfl⟩
            case measure => simp [intOf]
          · obtain ⟨a, b, hS⟩ := steps7 HE.out
            obtain ⟨q1, q2, _⟩ := ar_some hS.mul
            obtain ⟨q3, q4, _⟩ := ar_some hS.quo
            obtain ⟨q5, q6, _⟩ := ar_some hS.sub
            clear hS
            go_wp2
            go_round
            case rel => exact ⟨7, by decide, rfl, rfl⟩
            case measure => simp [intOf]
      · obtain ⟨hb, rfl⟩ := hup
        obtain ⟨rfl, rfl⟩ := hdown
        obtain ⟨hq, rfl⟩ := hquart
        go_enter Try.func44, Try.ntmps44
        go_wp2
        go_loop [7, 8] (fun p k => ∃ j : Nat, j ≤ 8 ∧ k = .int .i64 j ∧ p = .float .f64 (polyQ u j)) (fun _ k => (intOf k).toNat)
        case atStart => exact ⟨8, by decide, rfl, rfl⟩
        case round =>
          obtain ⟨j, hj, rfl, rfl⟩ := hrel
          have hj9 : j = 0 ∨ j = 1 ∨ j = 2 ∨ j = 3 ∨ j = 4 ∨ j = 5 ∨ j = 6 ∨ j = 7 ∨ j = 8 := by omega
          clear hj
          rcases hj9 with rfl | rfl | rfl | rfl | rfl | rfl | rfl | rfl | rfl
          · clear HE
            go_wp2
            go_ret
            exact ⟨rfl, rfl⟩
          · obtain ⟨a, b, hS⟩ := steps0 HE.out
            obtain ⟨q1, q2, _⟩ := ar_some hS.mul
            obtain ⟨q3, q4, _⟩ := ar_some hS.quo
            obtain ⟨q5, q6, _⟩ := ar_some hS.sub
            clear hS
            go_wp2
            go_round
            case rel => exact ⟨0, by decide, rfl, rfl⟩
            case measure => simp [intOf]
          · obtain ⟨a, b, hS⟩ := steps1 HE.out
            obtain ⟨q1, q2, _⟩ := ar_some hS.mul
            obtain ⟨q3, q4, _⟩ := ar_some hS.quo
            obtain ⟨q5, q6, _⟩ := ar_some hS.sub
            clear hS
            go_wp2
            go_round
            case rel => exact ⟨1, by decide, rfl, rfl⟩
            case measure => simp [intOf]
          · obtain ⟨a, b, hS⟩ := steps2 HE.out
            obtain ⟨q1, q2, _⟩ := ar_some hS.mul
            obtain ⟨q3, q4, _⟩ := ar_some hS.quo
            obtain ⟨q5, q6, _⟩ := ar_some hS.sub
            clear hS
            go_wp2
            go_round
            case rel => exact ⟨2, by decide, rfl, rfl⟩
            case measure => simp [intOf]
          · obtain ⟨a, b, hS⟩ := steps3 HE.out
            obtain ⟨q1, q2, _⟩ := ar_some hS.mul
            obtain ⟨q3, q4, _⟩ := ar_some hS.quo
            obtain ⟨q5, q6, _⟩ := ar_some hS.sub
            clear hS
            go_wp2
            go_round
            case rel => exact ⟨3, by decide, rfl, rfl⟩
            case measure => simp [intOf]
          · obtain ⟨a, b, hS⟩ := steps4 HE.out
            obtain ⟨q1, q2, _⟩ := ar_some hS.mul
            obtain ⟨q3, q4, _⟩ := ar_some hS.quo
            obtain ⟨q5, q6, _⟩ := ar_some hS.sub
            clear hS
            go_wp2
            go_round
            case rel => exact ⟨4, by decide, rfl, rfl⟩
            case measure => simp [intOf]
          · obtain ⟨a, b, hS⟩ := steps5 HE.out
            obtain ⟨q1, q2, _⟩ := ar_some hS.mul
            obtain ⟨q3, q4, _⟩ := ar_some hS.quo
            obtain ⟨q5, q6, _⟩ := ar_some hS.sub
            clear hS
            go_wp2
            go_round
            case rel => exact ⟨5, by decide, rfl, rfl⟩
            case measure => simp [intOf]
          · obtain ⟨a, b, hS⟩ := steps6 HE.out
            obtain ⟨q1, q2, _⟩ := ar_some hS.mul
            obtain ⟨q3, q4, _⟩ := ar_some hS.quo
            obtain ⟨q5, q6, _⟩ := ar_some hS.sub
            clear hS
            go_wp2
            go_round
            case rel => exact ⟨6, by decide, rfl, rfl⟩
            case measure => simp [intOf]
          · obtain ⟨a, b, hS⟩ := steps7 HE.out
            obtain ⟨q1, q2, _⟩ := ar_some hS.mul
            obtain ⟨q3, q4, _⟩ := ar_some hS.quo
            obtain ⟨q5, q6, _⟩ := ar_some hS.sub
            clear hS
            go_wp2
            go_round
            case rel => exact ⟨7, by decide, rfl, rfl⟩
            case measure => simp [intOf]
end Go.Proofs.Ytdlaafeagcbpaaa
