/-
  The walks of AngleTurns (program and reference) and of its law.
-/
import Derived.Test.YtdlaafeagcbpaaaSineT
import Derived.Test.YtdlaafeagcbpaaaAng
import Derived.Test.YtdlaafeagcbpaaaAre
namespace Go.Proofs.Ytdlaafeagcbpaaa
open Go Go.RowKit Ieee

/-- the square root as the model gives it. -/
def sqV (x : Nat) (w : World) : Nat :=
  match FloatKind.f64.format.sqrt x with
  | some r => r
  | none => ask (.nanBits .f64 x x) w
def sqN (x : Nat) : Nat :=
  match FloatKind.f64.format.sqrt x with
  | some _ => 0
  | none => 1
theorem sqV_some {x r : Nat} (h : FloatKind.f64.format.sqrt x = some r) : (∀ w, sqV x w = r) ∧ sqN x = 0 := by
  unfold sqV sqN
  rw [h]
  exact ⟨fun _ => rfl, rfl⟩
theorem Sqrt64 (x : Nat) (w : World) : (callFunc 54 #[.float .f64 x]).run Try.prog w = .ok (.value (.float .f64 (sqV x w))) (w.drewN (sqN x)) := by
  rw [run_callFunc_extern Try.func54 (by kernel_rfl) (by kernel_rfl) (by kernel_rfl) (e := Extern.MathSqrt.sqrt) (by kernel_rfl)]
  have key : ∀ o : Option Nat, Result.andThen ((match o with | some r => pure (.float .f64 r) | none => do pure (.float .f64 (← choose (.nanBits .f64 x x))) : Sem Value).run Try.prog w) (fun (v : Value) (w' : World) => (Result.ok (Next.value v) w' : Result Next))
      = Result.ok (Next.value (.float .f64 (match o with | some r => r | none => ask (.nanBits .f64 x x) w))) (w.drewN (match o with | some _ => 0 | none => 1)) := by
    intro o
    cases o <;> simp [ask, Question.forced, World.drew_is_drewN, World.drewN_zero]
  exact key (FloatKind.f64.format.sqrt x)

section
variable {P : Program} (w : World)
theorem run_min (ts : Array TypeId) (t : TypeId) (x y r : Nat) (h : (FloatKind.f64.format.order x y = some .lt ∧ r = x) ∨ (FloatKind.f64.format.order x y = some .gt ∧ r = y) ∨ (x = y ∧ FloatKind.f64.format.order x y = some .eq ∧ r = x)) :
    (Builtin.min_ ts t #[.float .f64 x, .float .f64 y]).run P w = .ok (.float .f64 r) w := by
  rcases h with ⟨h, rfl⟩ | ⟨h, rfl⟩ | ⟨rfl, h, rfl⟩ <;> simp [Builtin.min_, Builtin.min2, h]
theorem run_max (ts : Array TypeId) (t : TypeId) (x y r : Nat) (h : (FloatKind.f64.format.order x y = some .lt ∧ r = y) ∨ (FloatKind.f64.format.order x y = some .gt ∧ r = x) ∨ (x = y ∧ FloatKind.f64.format.order x y = some .eq ∧ r = x)) :
    (Builtin.max_ ts t #[.float .f64 x, .float .f64 y]).run P w = .ok (.float .f64 r) w := by
  rcases h with ⟨h, rfl⟩ | ⟨h, rfl⟩ | ⟨rfl, h, rfl⟩ <;> simp [Builtin.max_, Builtin.max2, h]
end

theorem areFinite_two0 (x y : Nat) (t : TypeId) (w : World) :
    Calls Try.prog 37 #[.slice (some ⟨w.heap.size, 0, none⟩) 2 2] (w.alloc (.cells #[.float .f32 x, .float .f32 y] t)) (GivesB (w.alloc (.cells #[.float .f32 x, .float .f32 y] t)) (fin .f32 x && fin .f32 y)) := areFinite_two x y t 0 w
theorem grown_new (w : World) (x y : Value) (t : TypeId) (n : Nat) : Grown w ((w.alloc (.cells #[x, y] t)).drewN n) := (Grown.refl w).alloc _ _
/-- a number is handed back, the same as v; there are at most new blocks. -/
def GivesG (k : FloatKind) (w : World) (v : Nat) (e : Ending) (w' : World) : Prop := ∃ r, e = .returned (.float k r) ∧ Grown w w' ∧ FEq k r v
def angOf (t : Bool) (r : Nat) : Nat := if t then Op.negFloat .f64 r else r

theorem arcs0 {t u c d a0 : Nat} (h : AngOk t u c d a0) : ∃ a b, ArcOk u (arcP u 0) (arcP u 1) 15 a b := h.steps 0 (by decide)
theorem arcs1 {t u c d a0 : Nat} (h : AngOk t u c d a0) : ∃ a b, ArcOk u (arcP u 1) (arcP u 2) 13 a b := h.steps 1 (by decide)
theorem arcs2 {t u c d a0 : Nat} (h : AngOk t u c d a0) : ∃ a b, ArcOk u (arcP u 2) (arcP u 3) 11 a b := h.steps 2 (by decide)
theorem arcs3 {t u c d a0 : Nat} (h : AngOk t u c d a0) : ∃ a b, ArcOk u (arcP u 3) (arcP u 4) 9 a b := h.steps 3 (by decide)
theorem arcs4 {t u c d a0 : Nat} (h : AngOk t u c d a0) : ∃ a b, ArcOk u (arcP u 4) (arcP u 5) 7 a b := h.steps 4 (by decide)
theorem arcs5 {t u c d a0 : Nat} (h : AngOk t u c d a0) : ∃ a b, ArcOk u (arcP u 5) (arcP u 6) 5 a b := h.steps 5 (by decide)
theorem arcs6 {t u c d a0 : Nat} (h : AngOk t u c d a0) : ∃ a b, ArcOk u (arcP u 6) (arcP u 7) 3 a b := h.steps 6 (by decide)
theorem arcs7 {t u c d a0 : Nat} (h : AngOk t u c d a0) : ∃ a b, ArcOk u (arcP u 7) (arcP u 8) 1 a b := h.steps 7 (by decide)
set_option maxHeartbeats 4000000 in
theorem spec_AngleWide {y x A B : Nat} {t0 t1 t2 t3 a0 b0 c0' d0' a1' b1' c1' d1' a2' b2' c2' d2' u c d r0 r1 r2 : Nat} {over left below : Bool} (h0 : IterOk t0 t1 a0 b0 c0' d0') (h1 : IterOk t1 t2 a1' b1' c1' d1') (h2 : IterOk t2 t3 a2' b2' c2' d2') (hA : AngOk t3 u c d r0) (hO : OctOk r0 over left r1 r2) (hy : fin .f64 y = true) (hx : fin .f64 x = true) (hzero : (FloatKind.f64.format.order x 0 == some .eq && FloatKind.f64.format.order y 0 == some .eq) = false)
    (hab : abs64 y = A) (hbb : abs64 x = B) (hov : (FloatKind.f64.format.order A B == some .gt) = over) (ht : (over = true ∧ floatBits .quo .f64 B A = some t0) ∨ (over = false ∧ floatBits .quo .f64 A B = some t0))
    (hleft : (FloatKind.f64.format.order x 0 == some .lt) = left) (hbelow : (FloatKind.f64.format.order y 0 == some .lt) = below) (w : World) :
    Calls Try.prog 50 #[.float .f64 y, .float .f64 x] w (GivesX .f64 w (angOf below r2)) := by
  obtain ⟨d1, hd1, e1⟩ := self_sub hy
  obtain ⟨s1, s2, _⟩ := ar_some hd1
  obtain ⟨d2, hd2, e2⟩ := self_sub hx
  obtain ⟨s3, s4, _⟩ := ar_some hd2
  have hz0 : ∀ w : World, w.drewN 0 = w := fun _ => rfl
  clear hd1 hd2 hy hx
  have HI0 := Lib.hid h0
  have HI1 := Lib.hid h1
  have HI2 := Lib.hid h2
  have HA := Lib.hid hA
  have HO := Lib.hid hO
  have hsq := Sqrt64
  clear h0 h1 h2 hA hO
  by_cases hxz : (FloatKind.f64.format.order x 0 == some .eq) = true
  · have hyz : (FloatKind.f64.format.order y 0 == some .eq) = false := by rw [hxz] at hzero; exact hzero
    clear hzero
    rcases ht with ⟨rfl, ht⟩ | ⟨rfl, ht⟩
    · obtain ⟨p1, p2', _⟩ := ar_some ht
      clear ht
      go_enter Try.func50, Try.ntmps50
      go_wp2_with (go_at_call 38; refine (abs_any _ _).mono ?_; rintro e w' ⟨rfl, rfl⟩)
      try clear hxz hyz p1 p2' s1 s2 s3 s4 e1 e2 hab hbb hov
      go_loop [8, 9] (fun t k => (k = .int .i64 0 ∧ t = .float .f64 t0) ∨ (k = .int .i64 1 ∧ t = .float .f64 t1) ∨ (k = .int .i64 2 ∧ t = .float .f64 t2) ∨ (k = .int .i64 3 ∧ t = .float .f64 t3)) (fun _ k => (3 - intOf k).toNat)
      case atStart => exact Or.inl ⟨rfl, rfl⟩
      case round =>
        rcases hrel with ⟨rfl, rfl⟩ | ⟨rfl, rfl⟩ | ⟨rfl, rfl⟩ | ⟨rfl, rfl⟩
        · obtain ⟨q1, q2, _⟩ := ar_some HI0.out.sq
          obtain ⟨q3, q4, _⟩ := ar_some HI0.out.one
          obtain ⟨q5, q6⟩ := sqV_some HI0.out.root
          obtain ⟨q7, q8, _⟩ := ar_some HI0.out.two
          obtain ⟨q9, q10, _⟩ := ar_some HI0.out.quo
          go_wp2
          go_round
          case rel => exact Or.inr (Or.inl ⟨rfl, rfl⟩)
          case measure => simp [intOf]
        · obtain ⟨q1, q2, _⟩ := ar_some HI1.out.sq
          obtain ⟨q3, q4, _⟩ := ar_some HI1.out.one
          obtain ⟨q5, q6⟩ := sqV_some HI1.out.root
          obtain ⟨q7, q8, _⟩ := ar_some HI1.out.two
          obtain ⟨q9, q10, _⟩ := ar_some HI1.out.quo
          go_wp2
          go_round
          case rel => exact Or.inr (Or.inr (Or.inl ⟨rfl, rfl⟩))
          case measure => simp [intOf]
        · obtain ⟨q1, q2, _⟩ := ar_some HI2.out.sq
          obtain ⟨q3, q4, _⟩ := ar_some HI2.out.one
          obtain ⟨q5, q6⟩ := sqV_some HI2.out.root
          obtain ⟨q7, q8, _⟩ := ar_some HI2.out.two
          obtain ⟨q9, q10, _⟩ := ar_some HI2.out.quo
          go_wp2
          go_round
          case rel => exact Or.inr (Or.inr (Or.inr (⟨rfl, rfl⟩)))
          case measure => simp [intOf]
        · clear HI0 HI1 HI2
          obtain ⟨m1, m2, _⟩ := ar_some HA.out.sq
          go_wp2_with fail
          clear m1 m2
          go_loop [11, 12] (fun q k => (k = .int .i64 (15) ∧ q = .float .f64 (arcP u 0)) ∨ (k = .int .i64 (13) ∧ q = .float .f64 (arcP u 1)) ∨ (k = .int .i64 (11) ∧ q = .float .f64 (arcP u 2)) ∨ (k = .int .i64 (9) ∧ q = .float .f64 (arcP u 3)) ∨ (k = .int .i64 (7) ∧ q = .float .f64 (arcP u 4)) ∨ (k = .int .i64 (5) ∧ q = .float .f64 (arcP u 5)) ∨ (k = .int .i64 (3) ∧ q = .float .f64 (arcP u 6)) ∨ (k = .int .i64 (1) ∧ q = .float .f64 (arcP u 7)) ∨ (k = .int .i64 (-1) ∧ q = .float .f64 (arcP u 8))) (fun _ k => (intOf k + 1).toNat)
          case atStart => exact Or.inl ⟨rfl, rfl⟩
          case round =>
            rcases hrel with ⟨rfl, rfl⟩ | ⟨rfl, rfl⟩ | ⟨rfl, rfl⟩ | ⟨rfl, rfl⟩ | ⟨rfl, rfl⟩ | ⟨rfl, rfl⟩ | ⟨rfl, rfl⟩ | ⟨rfl, rfl⟩ | ⟨rfl, rfl⟩
            · obtain ⟨a, b, hS⟩ := arcs0 HA.out
              obtain ⟨q1, q2, _⟩ := ar_some hS.quo
              obtain ⟨q3, q4, _⟩ := ar_some hS.mul
              obtain ⟨q5, q6, _⟩ := ar_some hS.sub
              clear hS
              go_wp2
              go_round
              case rel => exact Or.inr (Or.inl ⟨rfl, rfl⟩)
              case measure => simp [intOf]
            · obtain ⟨a, b, hS⟩ := arcs1 HA.out
              obtain ⟨q1, q2, _⟩ := ar_some hS.quo
              obtain ⟨q3, q4, _⟩ := ar_some hS.mul
              obtain ⟨q5, q6, _⟩ := ar_some hS.sub
              clear hS
              go_wp2
              go_round
              case rel => exact Or.inr (Or.inr (Or.inl ⟨rfl, rfl⟩))
              case measure => simp [intOf]
            · obtain ⟨a, b, hS⟩ := arcs2 HA.out
              obtain ⟨q1, q2, _⟩ := ar_some hS.quo
              obtain ⟨q3, q4, _⟩ := ar_some hS.mul
              obtain ⟨q5, q6, _⟩ := ar_some hS.sub
              clear hS
              go_wp2
              go_round
              case rel => exact Or.inr (Or.inr (Or.inr (Or.inl ⟨rfl, rfl⟩)))
              case measure => simp [intOf]
            · obtain ⟨a, b, hS⟩ := arcs3 HA.out
              obtain ⟨q1, q2, _⟩ := ar_some hS.quo
              obtain ⟨q3, q4, _⟩ := ar_some hS.mul
              obtain ⟨q5, q6, _⟩ := ar_some hS.sub
              clear hS
              go_wp2
              go_round
              case rel => exact Or.inr (Or.inr (Or.inr (Or.inr (Or.inl ⟨rfl, rfl⟩))))
              case measure => simp [intOf]
            · obtain ⟨a, b, hS⟩ := arcs4 HA.out
              obtain ⟨q1, q2, _⟩ := ar_some hS.quo
              obtain ⟨q3, q4, _⟩ := ar_some hS.mul
              obtain ⟨q5, q6, _⟩ := ar_some hS.sub
              clear hS
              go_wp2
              go_round
              case rel => exact Or.inr (Or.inr (Or.inr (Or.inr (Or.inr (Or.inl ⟨rfl, rfl⟩)))))
              case measure => simp [intOf]
            · obtain ⟨a, b, hS⟩ := arcs5 HA.out
              obtain ⟨q1, q2, _⟩ := ar_some hS.quo
              obtain ⟨q3, q4, _⟩ := ar_some hS.mul
              obtain ⟨q5, q6, _⟩ := ar_some hS.sub
              clear hS
              go_wp2
              go_round
              case rel => exact Or.inr (Or.inr (Or.inr (Or.inr (Or.inr (Or.inr (Or.inl ⟨rfl, rfl⟩))))))
              case measure => simp [intOf]
            · obtain ⟨a, b, hS⟩ := arcs6 HA.out
              obtain ⟨q1, q2, _⟩ := ar_some hS.quo
              obtain ⟨q3, q4, _⟩ := ar_some hS.mul
              obtain ⟨q5, q6, _⟩ := ar_some hS.sub
              clear hS
              go_wp2
              go_round
              case rel => exact Or.inr (Or.inr (Or.inr (Or.inr (Or.inr (Or.inr (Or.inr (Or.inl ⟨rfl, rfl⟩)))))))
              case measure => simp [intOf]
            · obtain ⟨a, b, hS⟩ := arcs7 HA.out
              obtain ⟨q1, q2, _⟩ := ar_some hS.quo
              obtain ⟨q3, q4, _⟩ := ar_some hS.mul
              obtain ⟨q5, q6, _⟩ := ar_some hS.sub
              clear hS
              go_wp2
              go_round
              case rel => exact Or.inr (Or.inr (Or.inr (Or.inr (Or.inr (Or.inr (Or.inr (Or.inr (⟨rfl, rfl⟩))))))))
              case measure => simp [intOf]
            · obtain ⟨m3, m4, _⟩ := ar_some HA.out.mul
              obtain ⟨m5, m6, _⟩ := ar_some HA.out.eight
              obtain ⟨m7, m8, _⟩ := ar_some HA.out.quo
              have hz : floatBits .sub .f64 cQuart r0 = some r1 := by rcases HO.out.quarter with ⟨_, h⟩ | ⟨h, _⟩ <;> first | exact h | cases h
              obtain ⟨z1, z2, _⟩ := ar_some hz
              clear hz
              rcases HO.out.half with ⟨rfl, hy⟩ | ⟨rfl, rfl⟩
              · obtain ⟨y1, y2, _⟩ := ar_some hy
                clear hy
                cases below
                · go_wp2
                  go_ret
                  exact ⟨rfl, rfl⟩
                · go_wp2
                  go_ret
                  exact ⟨rfl, rfl⟩
              · cases below
                · go_wp2
                  go_ret
                  exact ⟨rfl, rfl⟩
                · go_wp2
                  go_ret
                  exact ⟨rfl, rfl⟩
    · obtain ⟨p1, p2', _⟩ := ar_some ht
      clear ht
      go_enter Try.func50, Try.ntmps50
      go_wp2_with (go_at_call 38; refine (abs_any _ _).mono ?_; rintro e w' ⟨rfl, rfl⟩)
      try clear hxz hyz p1 p2' s1 s2 s3 s4 e1 e2 hab hbb hov
      go_loop [8, 9] (fun t k => (k = .int .i64 0 ∧ t = .float .f64 t0) ∨ (k = .int .i64 1 ∧ t = .float .f64 t1) ∨ (k = .int .i64 2 ∧ t = .float .f64 t2) ∨ (k = .int .i64 3 ∧ t = .float .f64 t3)) (fun _ k => (3 - intOf k).toNat)
      case atStart => exact Or.inl ⟨rfl, rfl⟩
      case round =>
        rcases hrel with ⟨rfl, rfl⟩ | ⟨rfl, rfl⟩ | ⟨rfl, rfl⟩ | ⟨rfl, rfl⟩
        · obtain ⟨q1, q2, _⟩ := ar_some HI0.out.sq
          obtain ⟨q3, q4, _⟩ := ar_some HI0.out.one
          obtain ⟨q5, q6⟩ := sqV_some HI0.out.root
          obtain ⟨q7, q8, _⟩ := ar_some HI0.out.two
          obtain ⟨q9, q10, _⟩ := ar_some HI0.out.quo
          go_wp2
          go_round
          case rel => exact Or.inr (Or.inl ⟨rfl, rfl⟩)
          case measure => simp [intOf]
        · obtain ⟨q1, q2, _⟩ := ar_some HI1.out.sq
          obtain ⟨q3, q4, _⟩ := ar_some HI1.out.one
          obtain ⟨q5, q6⟩ := sqV_some HI1.out.root
          obtain ⟨q7, q8, _⟩ := ar_some HI1.out.two
          obtain ⟨q9, q10, _⟩ := ar_some HI1.out.quo
          go_wp2
          go_round
          case rel => exact Or.inr (Or.inr (Or.inl ⟨rfl, rfl⟩))
          case measure => simp [intOf]
        · obtain ⟨q1, q2, _⟩ := ar_some HI2.out.sq
          obtain ⟨q3, q4, _⟩ := ar_some HI2.out.one
          obtain ⟨q5, q6⟩ := sqV_some HI2.out.root
          obtain ⟨q7, q8, _⟩ := ar_some HI2.out.two
          obtain ⟨q9, q10, _⟩ := ar_some HI2.out.quo
          go_wp2
          go_round
          case rel => exact Or.inr (Or.inr (Or.inr (⟨rfl, rfl⟩)))
          case measure => simp [intOf]
        · clear HI0 HI1 HI2
          obtain ⟨m1, m2, _⟩ := ar_some HA.out.sq
          go_wp2_with fail
          clear m1 m2
          go_loop [11, 12] (fun q k => (k = .int .i64 (15) ∧ q = .float .f64 (arcP u 0)) ∨ (k = .int .i64 (13) ∧ q = .float .f64 (arcP u 1)) ∨ (k = .int .i64 (11) ∧ q = .float .f64 (arcP u 2)) ∨ (k = .int .i64 (9) ∧ q = .float .f64 (arcP u 3)) ∨ (k = .int .i64 (7) ∧ q = .float .f64 (arcP u 4)) ∨ (k = .int .i64 (5) ∧ q = .float .f64 (arcP u 5)) ∨ (k = .int .i64 (3) ∧ q = .float .f64 (arcP u 6)) ∨ (k = .int .i64 (1) ∧ q = .float .f64 (arcP u 7)) ∨ (k = .int .i64 (-1) ∧ q = .float .f64 (arcP u 8))) (fun _ k => (intOf k + 1).toNat)
          case atStart => exact Or.inl ⟨rfl, rfl⟩
          case round =>
            rcases hrel with ⟨rfl, rfl⟩ | ⟨rfl, rfl⟩ | ⟨rfl, rfl⟩ | ⟨rfl, rfl⟩ | ⟨rfl, rfl⟩ | ⟨rfl, rfl⟩ | ⟨rfl, rfl⟩ | ⟨rfl, rfl⟩ | ⟨rfl, rfl⟩
            · obtain ⟨a, b, hS⟩ := arcs0 HA.out
              obtain ⟨q1, q2, _⟩ := ar_some hS.quo
              obtain ⟨q3, q4, _⟩ := ar_some hS.mul
              obtain ⟨q5, q6, _⟩ := ar_some hS.sub
              clear hS
              go_wp2
              go_round
              case rel => exact Or.inr (Or.inl ⟨rfl, rfl⟩)
              case measure => simp [intOf]
            · obtain ⟨a, b, hS⟩ := arcs1 HA.out
              obtain ⟨q1, q2, _⟩ := ar_some hS.quo
              obtain ⟨q3, q4, _⟩ := ar_some hS.mul
              obtain ⟨q5, q6, _⟩ := ar_some hS.sub
              clear hS
              go_wp2
              go_round
              case rel => exact Or.inr (Or.inr (Or.inl ⟨rfl, rfl⟩))
              case measure => simp [intOf]
            · obtain ⟨a, b, hS⟩ := arcs2 HA.out
              obtain ⟨q1, q2, _⟩ := ar_some hS.quo
              obtain ⟨q3, q4, _⟩ := ar_some hS.mul
              obtain ⟨q5, q6, _⟩ := ar_some hS.sub
              clear hS
              go_wp2
              go_round
              case rel => exact Or.inr (Or.inr (Or.inr (Or.inl ⟨rfl, rfl⟩)))
              case measure => simp [intOf]
            · obtain ⟨a, b, hS⟩ := arcs3 HA.out
              obtain ⟨q1, q2, _⟩ := ar_some hS.quo
              obtain ⟨q3, q4, _⟩ := ar_some hS.mul
              obtain ⟨q5, q6, _⟩ := ar_some hS.sub
              clear hS
              go_wp2
              go_round
              case rel => exact Or.inr (Or.inr (Or.inr (Or.inr (Or.inl ⟨rfl, rfl⟩))))
              case measure => simp [intOf]
            · obtain ⟨a, b, hS⟩ := arcs4 HA.out
              obtain ⟨q1, q2, _⟩ := ar_some hS.quo
              obtain ⟨q3, q4, _⟩ := ar_some hS.mul
              obtain ⟨q5, q6, _⟩ := ar_some hS.sub
              clear hS
              go_wp2
              go_round
              case rel => exact Or.inr (Or.inr (Or.inr (Or.inr (Or.inr (Or.inl ⟨rfl, rfl⟩)))))
              case measure => simp [intOf]
            · obtain ⟨a, b, hS⟩ := arcs5 HA.out
              obtain ⟨q1, q2, _⟩ := ar_some hS.quo
              obtain ⟨q3, q4, _⟩ := ar_some hS.mul
              obtain ⟨q5, q6, _⟩ := ar_some hS.sub
              clear hS
              go_wp2
              go_round
              case rel => exact Or.inr (Or.inr (Or.inr (Or.inr (Or.inr (Or.inr (Or.inl ⟨rfl, rfl⟩))))))
              case measure => simp [intOf]
            · obtain ⟨a, b, hS⟩ := arcs6 HA.out
              obtain ⟨q1, q2, _⟩ := ar_some hS.quo
              obtain ⟨q3, q4, _⟩ := ar_some hS.mul
              obtain ⟨q5, q6, _⟩ := ar_some hS.sub
              clear hS
              go_wp2
              go_round
              case rel => exact Or.inr (Or.inr (Or.inr (Or.inr (Or.inr (Or.inr (Or.inr (Or.inl ⟨rfl, rfl⟩)))))))
              case measure => simp [intOf]
            · obtain ⟨a, b, hS⟩ := arcs7 HA.out
              obtain ⟨q1, q2, _⟩ := ar_some hS.quo
              obtain ⟨q3, q4, _⟩ := ar_some hS.mul
              obtain ⟨q5, q6, _⟩ := ar_some hS.sub
              clear hS
              go_wp2
              go_round
              case rel => exact Or.inr (Or.inr (Or.inr (Or.inr (Or.inr (Or.inr (Or.inr (Or.inr (⟨rfl, rfl⟩))))))))
              case measure => simp [intOf]
            · obtain ⟨m3, m4, _⟩ := ar_some HA.out.mul
              obtain ⟨m5, m6, _⟩ := ar_some HA.out.eight
              obtain ⟨m7, m8, _⟩ := ar_some HA.out.quo
              have hz : r1 = r0 := by rcases HO.out.quarter with ⟨h, _⟩ | ⟨_, h⟩ <;> first | exact h | cases h
              subst hz
              rcases HO.out.half with ⟨rfl, hy⟩ | ⟨rfl, rfl⟩
              · obtain ⟨y1, y2, _⟩ := ar_some hy
                clear hy
                cases below
                · go_wp2
                  go_ret
                  exact ⟨rfl, rfl⟩
                · go_wp2
                  go_ret
                  exact ⟨rfl, rfl⟩
              · cases below
                · go_wp2
                  go_ret
                  exact ⟨rfl, rfl⟩
                · go_wp2
                  go_ret
                  exact ⟨rfl, rfl⟩
  · have hxz' : (FloatKind.f64.format.order x 0 == some .eq) = false := by simpa using hxz
    clear hxz hzero
    rcases ht with ⟨rfl, ht⟩ | ⟨rfl, ht⟩
    · obtain ⟨p1, p2', _⟩ := ar_some ht
      clear ht
      go_enter Try.func50, Try.ntmps50
      go_wp2_with (go_at_call 38; refine (abs_any _ _).mono ?_; rintro e w' ⟨rfl, rfl⟩)
      try clear hxz' p1 p2' s1 s2 s3 s4 e1 e2 hab hbb hov
      go_loop [8, 9] (fun t k => (k = .int .i64 0 ∧ t = .float .f64 t0) ∨ (k = .int .i64 1 ∧ t = .float .f64 t1) ∨ (k = .int .i64 2 ∧ t = .float .f64 t2) ∨ (k = .int .i64 3 ∧ t = .float .f64 t3)) (fun _ k => (3 - intOf k).toNat)
      case atStart => exact Or.inl ⟨rfl, rfl⟩
      case round =>
        rcases hrel with ⟨rfl, rfl⟩ | ⟨rfl, rfl⟩ | ⟨rfl, rfl⟩ | ⟨rfl, rfl⟩
        · obtain ⟨q1, q2, _⟩ := ar_some HI0.out.sq
          obtain ⟨q3, q4, _⟩ := ar_some HI0.out.one
          obtain ⟨q5, q6⟩ := sqV_some HI0.out.root
          obtain ⟨q7, q8, _⟩ := ar_some HI0.out.two
          obtain ⟨q9, q10, _⟩ := ar_some HI0.out.quo
          go_wp2
          go_round
          case rel => exact Or.inr (Or.inl ⟨rfl, rfl⟩)
          case measure => simp [intOf]
        · obtain ⟨q1, q2, _⟩ := ar_some HI1.out.sq
          obtain ⟨q3, q4, _⟩ := ar_some HI1.out.one
          obtain ⟨q5, q6⟩ := sqV_some HI1.out.root
          obtain ⟨q7, q8, _⟩ := ar_some HI1.out.two
          obtain ⟨q9, q10, _⟩ := ar_some HI1.out.quo
          go_wp2
          go_round
          case rel => exact Or.inr (Or.inr (Or.inl ⟨rfl, rfl⟩))
          case measure => simp [intOf]
        · obtain ⟨q1, q2, _⟩ := ar_some HI2.out.sq
          obtain ⟨q3, q4, _⟩ := ar_some HI2.out.one
          obtain ⟨q5, q6⟩ := sqV_some HI2.out.root
          obtain ⟨q7, q8, _⟩ := ar_some HI2.out.two
          obtain ⟨q9, q10, _⟩ := ar_some HI2.out.quo
          go_wp2
          go_round
          case rel => exact Or.inr (Or.inr (Or.inr (⟨rfl, rfl⟩)))
          case measure => simp [intOf]
        · clear HI0 HI1 HI2
          obtain ⟨m1, m2, _⟩ := ar_some HA.out.sq
          go_wp2_with fail
          clear m1 m2
          go_loop [11, 12] (fun q k => (k = .int .i64 (15) ∧ q = .float .f64 (arcP u 0)) ∨ (k = .int .i64 (13) ∧ q = .float .f64 (arcP u 1)) ∨ (k = .int .i64 (11) ∧ q = .float .f64 (arcP u 2)) ∨ (k = .int .i64 (9) ∧ q = .float .f64 (arcP u 3)) ∨ (k = .int .i64 (7) ∧ q = .float .f64 (arcP u 4)) ∨ (k = .int .i64 (5) ∧ q = .float .f64 (arcP u 5)) ∨ (k = .int .i64 (3) ∧ q = .float .f64 (arcP u 6)) ∨ (k = .int .i64 (1) ∧ q = .float .f64 (arcP u 7)) ∨ (k = .int .i64 (-1) ∧ q = .float .f64 (arcP u 8))) (fun _ k => (intOf k + 1).toNat)
          case atStart => exact Or.inl ⟨rfl, rfl⟩
          case round =>
            rcases hrel with ⟨rfl, rfl⟩ | ⟨rfl, rfl⟩ | ⟨rfl, rfl⟩ | ⟨rfl, rfl⟩ | ⟨rfl, rfl⟩ | ⟨rfl, rfl⟩ | ⟨rfl, rfl⟩ | ⟨rfl, rfl⟩ | ⟨rfl, rfl⟩
            · obtain ⟨a, b, hS⟩ := arcs0 HA.out
              obtain ⟨q1, q2, _⟩ := ar_some hS.quo
              obtain ⟨q3, q4, _⟩ := ar_some hS.mul
              obtain ⟨q5, q6, _⟩ := ar_some hS.sub
              clear hS
              go_wp2
              go_round
              case rel => exact Or.inr (Or.inl ⟨rfl, rfl⟩)
              case measure => simp [intOf]
            · obtain ⟨a, b, hS⟩ := arcs1 HA.out
              obtain ⟨q1, q2, _⟩ := ar_some hS.quo
              obtain ⟨q3, q4, _⟩ := ar_some hS.mul
              obtain ⟨q5, q6, _⟩ := ar_some hS.sub
              clear hS
              go_wp2
              go_round
              case rel => exact Or.inr (Or.inr (Or.inl ⟨rfl, rfl⟩))
              case measure => simp [intOf]
            · obtain ⟨a, b, hS⟩ := arcs2 HA.out
              obtain ⟨q1, q2, _⟩ := ar_some hS.quo
              obtain ⟨q3, q4, _⟩ := ar_some hS.mul
              obtain ⟨q5, q6, _⟩ := ar_some hS.sub
              clear hS
              go_wp2
              go_round
              case rel => exact Or.inr (Or.inr (Or.inr (Or.inl ⟨rfl, rfl⟩)))
              case measure => simp [intOf]
            · obtain ⟨a, b, hS⟩ := arcs3 HA.out
              obtain ⟨q1, q2, _⟩ := ar_some hS.quo
              obtain ⟨q3, q4, _⟩ := ar_some hS.mul
              obtain ⟨q5, q6, _⟩ := ar_some hS.sub
              clear hS
              go_wp2
              go_round
              case rel => exact Or.inr (Or.inr (Or.inr (Or.inr (Or.inl ⟨rfl, rfl⟩))))
              case measure => simp [intOf]
            · obtain ⟨a, b, hS⟩ := arcs4 HA.out
              obtain ⟨q1, q2, _⟩ := ar_some hS.quo
              obtain ⟨q3, q4, _⟩ := ar_some hS.mul
              obtain ⟨q5, q6, _⟩ := ar_some hS.sub
              clear hS
              go_wp2
              go_round
              case rel => exact Or.inr (Or.inr (Or.inr (Or.inr (Or.inr (Or.inl ⟨rfl, rfl⟩)))))
              case measure => simp [intOf]
            · obtain ⟨a, b, hS⟩ := arcs5 HA.out
              obtain ⟨q1, q2, _⟩ := ar_some hS.quo
              obtain ⟨q3, q4, _⟩ := ar_some hS.mul
              obtain ⟨q5, q6, _⟩ := ar_some hS.sub
              clear hS
              go_wp2
              go_round
              case rel => exact Or.inr (Or.inr (Or.inr (Or.inr (Or.inr (Or.inr (Or.inl ⟨rfl, rfl⟩))))))
              case measure => simp [intOf]
            · obtain ⟨a, b, hS⟩ := arcs6 HA.out
              obtain ⟨q1, q2, _⟩ := ar_some hS.quo
              obtain ⟨q3, q4, _⟩ := ar_some hS.mul
              obtain ⟨q5, q6, _⟩ := ar_some hS.sub
              clear hS
              go_wp2
              go_round
              case rel => exact Or.inr (Or.inr (Or.inr (Or.inr (Or.inr (Or.inr (Or.inr (Or.inl ⟨rfl, rfl⟩)))))))
              case measure => simp [intOf]
            · obtain ⟨a, b, hS⟩ := arcs7 HA.out
              obtain ⟨q1, q2, _⟩ := ar_some hS.quo
              obtain ⟨q3, q4, _⟩ := ar_some hS.mul
              obtain ⟨q5, q6, _⟩ := ar_some hS.sub
              clear hS
              go_wp2
              go_round
              case rel => exact Or.inr (Or.inr (Or.inr (Or.inr (Or.inr (Or.inr (Or.inr (Or.inr (⟨rfl, rfl⟩))))))))
              case measure => simp [intOf]
            · obtain ⟨m3, m4, _⟩ := ar_some HA.out.mul
              obtain ⟨m5, m6, _⟩ := ar_some HA.out.eight
              obtain ⟨m7, m8, _⟩ := ar_some HA.out.quo
              have hz : floatBits .sub .f64 cQuart r0 = some r1 := by rcases HO.out.quarter with ⟨_, h⟩ | ⟨h, _⟩ <;> first | exact h | cases h
              obtain ⟨z1, z2, _⟩ := ar_some hz
              clear hz
              rcases HO.out.half with ⟨rfl, hy⟩ | ⟨rfl, rfl⟩
              · obtain ⟨y1, y2, _⟩ := ar_some hy
                clear hy
                cases below
                · go_wp2
                  go_ret
                  exact ⟨rfl, rfl⟩
                · go_wp2
                  go_ret
                  exact ⟨rfl, rfl⟩
              · cases below
                · go_wp2
                  go_ret
                  exact ⟨rfl, rfl⟩
                · go_wp2
                  go_ret
                  exact ⟨rfl, rfl⟩
    · obtain ⟨p1, p2', _⟩ := ar_some ht
      clear ht
      go_enter Try.func50, Try.ntmps50
      go_wp2_with (go_at_call 38; refine (abs_any _ _).mono ?_; rintro e w' ⟨rfl, rfl⟩)
      try clear hxz' p1 p2' s1 s2 s3 s4 e1 e2 hab hbb hov
      go_loop [8, 9] (fun t k => (k = .int .i64 0 ∧ t = .float .f64 t0) ∨ (k = .int .i64 1 ∧ t = .float .f64 t1) ∨ (k = .int .i64 2 ∧ t = .float .f64 t2) ∨ (k = .int .i64 3 ∧ t = .float .f64 t3)) (fun _ k => (3 - intOf k).toNat)
      case atStart => exact Or.inl ⟨rfl, rfl⟩
      case round =>
        rcases hrel with ⟨rfl, rfl⟩ | ⟨rfl, rfl⟩ | ⟨rfl, rfl⟩ | ⟨rfl, rfl⟩
        · obtain ⟨q1, q2, _⟩ := ar_some HI0.out.sq
          obtain ⟨q3, q4, _⟩ := ar_some HI0.out.one
          obtain ⟨q5, q6⟩ := sqV_some HI0.out.root
          obtain ⟨q7, q8, _⟩ := ar_some HI0.out.two
          obtain ⟨q9, q10, _⟩ := ar_some HI0.out.quo
          go_wp2
          go_round
          case rel => exact Or.inr (Or.inl ⟨rfl, rfl⟩)
          case measure => simp [intOf]
        · obtain ⟨q1, q2, _⟩ := ar_some HI1.out.sq
          obtain ⟨q3, q4, _⟩ := ar_some HI1.out.one
          obtain ⟨q5, q6⟩ := sqV_some HI1.out.root
          obtain ⟨q7, q8, _⟩ := ar_some HI1.out.two
          obtain ⟨q9, q10, _⟩ := ar_some HI1.out.quo
          go_wp2
          go_round
          case rel => exact Or.inr (Or.inr (Or.inl ⟨rfl, rfl⟩))
          case measure => simp [intOf]
        · obtain ⟨q1, q2, _⟩ := ar_some HI2.out.sq
          obtain ⟨q3, q4, _⟩ := ar_some HI2.out.one
          obtain ⟨q5, q6⟩ := sqV_some HI2.out.root
          obtain ⟨q7, q8, _⟩ := ar_some HI2.out.two
          obtain ⟨q9, q10, _⟩ := ar_some HI2.out.quo
          go_wp2
          go_round
          case rel => exact Or.inr (Or.inr (Or.inr (⟨rfl, rfl⟩)))
          case measure => simp [intOf]
        · clear HI0 HI1 HI2
          obtain ⟨m1, m2, _⟩ := ar_some HA.out.sq
          go_wp2_with fail
          clear m1 m2
          go_loop [11, 12] (fun q k => (k = .int .i64 (15) ∧ q = .float .f64 (arcP u 0)) ∨ (k = .int .i64 (13) ∧ q = .float .f64 (arcP u 1)) ∨ (k = .int .i64 (11) ∧ q = .float .f64 (arcP u 2)) ∨ (k = .int .i64 (9) ∧ q = .float .f64 (arcP u 3)) ∨ (k = .int .i64 (7) ∧ q = .float .f64 (arcP u 4)) ∨ (k = .int .i64 (5) ∧ q = .float .f64 (arcP u 5)) ∨ (k = .int .i64 (3) ∧ q = .float .f64 (arcP u 6)) ∨ (k = .int .i64 (1) ∧ q = .float .f64 (arcP u 7)) ∨ (k = .int .i64 (-1) ∧ q = .float .f64 (arcP u 8))) (fun _ k => (intOf k + 1).toNat)
          case atStart => exact Or.inl ⟨rfl, rfl⟩
          case round =>
            rcases hrel with ⟨rfl, rfl⟩ | ⟨rfl, rfl⟩ | ⟨rfl, rfl⟩ | ⟨rfl, rfl⟩ | ⟨rfl, rfl⟩ | ⟨rfl, rfl⟩ | ⟨rfl, rfl⟩ | ⟨rfl, rfl⟩ | ⟨rfl, rfl⟩
            · obtain ⟨a, b, hS⟩ := arcs0 HA.out
              obtain ⟨q1, q2, _⟩ := ar_some hS.quo
              obtain ⟨q3, q4, _⟩ := ar_some hS.mul
              obtain ⟨q5, q6, _⟩ := ar_some hS.sub
              clear hS
              go_wp2
              go_round
              case rel => exact Or.inr (Or.inl ⟨rfl, rfl⟩)
              case measure => simp [intOf]
            · obtain ⟨a, b, hS⟩ := arcs1 HA.out
              obtain ⟨q1, q2, _⟩ := ar_some hS.quo
              obtain ⟨q3, q4, _⟩ := ar_some hS.mul
              obtain ⟨q5, q6, _⟩ := ar_some hS.sub
              clear hS
              go_wp2
              go_round
              case rel => exact Or.inr (Or.inr (Or.inl ⟨rfl, rfl⟩))
              case measure => simp [intOf]
            · obtain ⟨a, b, hS⟩ := arcs2 HA.out
              obtain ⟨q1, q2, _⟩ := ar_some hS.quo
              obtain ⟨q3, q4, _⟩ := ar_some hS.mul
              obtain ⟨q5, q6, _⟩ := ar_some hS.sub
              clear hS
              go_wp2
              go_round
              case rel => exact Or.inr (Or.inr (Or.inr (Or.inl ⟨rfl, rfl⟩)))
              case measure => simp [intOf]
            · obtain ⟨a, b, hS⟩ := arcs3 HA.out
              obtain ⟨q1, q2, _⟩ := ar_some hS.quo
              obtain ⟨q3, q4, _⟩ := ar_some hS.mul
              obtain ⟨q5, q6, _⟩ := ar_some hS.sub
              clear hS
              go_wp2
              go_round
              case rel => exact Or.inr (Or.inr (Or.inr (Or.inr (Or.inl ⟨rfl, rfl⟩))))
              case measure => simp [intOf]
            · obtain ⟨a, b, hS⟩ := arcs4 HA.out
              obtain ⟨q1, q2, _⟩ := ar_some hS.quo
              obtain ⟨q3, q4, _⟩ := ar_some hS.mul
              obtain ⟨q5, q6, _⟩ := ar_some hS.sub
              clear hS
              go_wp2
              go_round
              case rel => exact Or.inr (Or.inr (Or.inr (Or.inr (Or.inr (Or.inl ⟨rfl, rfl⟩)))))
              case measure => simp [intOf]
            · obtain ⟨a, b, hS⟩ := arcs5 HA.out
              obtain ⟨q1, q2, _⟩ := ar_some hS.quo
              obtain ⟨q3, q4, _⟩ := ar_some hS.mul
              obtain ⟨q5, q6, _⟩ := ar_some hS.sub
              clear hS
              go_wp2
              go_round
              case rel => exact Or.inr (Or.inr (Or.inr (Or.inr (Or.inr (Or.inr (Or.inl ⟨rfl, rfl⟩))))))
              case measure => simp [intOf]
            · obtain ⟨a, b, hS⟩ := arcs6 HA.out
              obtain ⟨q1, q2, _⟩ := ar_some hS.quo
              obtain ⟨q3, q4, _⟩ := ar_some hS.mul
              obtain ⟨q5, q6, _⟩ := ar_some hS.sub
              clear hS
              go_wp2
              go_round
              case rel => exact Or.inr (Or.inr (Or.inr (Or.inr (Or.inr (Or.inr (Or.inr (Or.inl ⟨rfl, rfl⟩)))))))
              case measure => simp [intOf]
            · obtain ⟨a, b, hS⟩ := arcs7 HA.out
              obtain ⟨q1, q2, _⟩ := ar_some hS.quo
              obtain ⟨q3, q4, _⟩ := ar_some hS.mul
              obtain ⟨q5, q6, _⟩ := ar_some hS.sub
              clear hS
              go_wp2
              go_round
              case rel => exact Or.inr (Or.inr (Or.inr (Or.inr (Or.inr (Or.inr (Or.inr (Or.inr (⟨rfl, rfl⟩))))))))
              case measure => simp [intOf]
            · obtain ⟨m3, m4, _⟩ := ar_some HA.out.mul
              obtain ⟨m5, m6, _⟩ := ar_some HA.out.eight
              obtain ⟨m7, m8, _⟩ := ar_some HA.out.quo
              have hz : r1 = r0 := by rcases HO.out.quarter with ⟨h, _⟩ | ⟨_, h⟩ <;> first | exact h | cases h
              subst hz
              rcases HO.out.half with ⟨rfl, hy⟩ | ⟨rfl, rfl⟩
              · obtain ⟨y1, y2, _⟩ := ar_some hy
                clear hy
                cases below
                · go_wp2
                  go_ret
                  exact ⟨rfl, rfl⟩
                · go_wp2
                  go_ret
                  exact ⟨rfl, rfl⟩
              · cases below
                · go_wp2
                  go_ret
                  exact ⟨rfl, rfl⟩
                · go_wp2
                  go_ret
                  exact ⟨rfl, rfl⟩
set_option maxHeartbeats 4000000 in
theorem impl_Angle {y x Y X A B mn mx t0 t1 t2 t3 a0 b0 c0' d0' a1' b1' c1' d1' a2' b2' c2' d2' u c d r0 r1 r2 : Nat} {over left below : Bool} (h0 : IterOk t0 t1 a0 b0 c0' d0') (h1 : IterOk t1 t2 a1' b1' c1' d1') (h2 : IterOk t2 t3 a2' b2' c2' d2') (hA : AngOk t3 u c d r0) (hO : OctOk r0 over left r1 r2) (hfy : fin .f32 y = true) (hfx : fin .f32 x = true) (hwy : ∀ w, widV y w = Y) (hny : widN y = 0) (hwx : ∀ w, widV x w = X) (hnx : widN x = 0)
    (hzero : (FloatKind.f32.format.order x 0 == some .eq && FloatKind.f32.format.order y 0 == some .eq) = false)
    (hab : abs64 Y = A) (hbb : abs64 X = B) (hov : (FloatKind.f64.format.order A B == some .gt) = over)
    (hmn : ∀ ts t w, (Builtin.min_ ts t #[.float .f64 A, .float .f64 B]).run Try.prog w = .ok (.float .f64 mn) w) (hmx : ∀ ts t w, (Builtin.max_ ts t #[.float .f64 A, .float .f64 B]).run Try.prog w = .ok (.float .f64 mx) w) (ht : floatBits .quo .f64 mn mx = some t0)
    (hleft : (FloatKind.f32.format.order x 0 == some .lt) = left) (hbelow : (FloatKind.f32.format.order y 0 == some .lt) = below) (hovf : ovf (angOf below r2) = false) (w : World) :
    Calls Try.prog 17 #[.float .f32 y, .float .f32 x] w (GivesG .f32 w (nar (angOf below r2))) := by
  obtain ⟨p1, p2', _⟩ := ar_some ht
  have hare := fun t w => areFinite_two0 x y t w
  rw [hfx, hfy] at hare
  have HR := Lib.hid hare
  have HV := Lib.hid hovf
  have hz0 : ∀ w : World, w.drewN 0 = w := fun _ => rfl
  clear ht hfx hfy hare hovf
  have HI0 := Lib.hid h0
  have HI1 := Lib.hid h1
  have HI2 := Lib.hid h2
  have HA := Lib.hid hA
  have HO := Lib.hid hO
  have hsq := Sqrt64
  clear h0 h1 h2 hA hO
  by_cases hxz : (FloatKind.f32.format.order x 0 == some .eq) = true
  · have hyz : (FloatKind.f32.format.order y 0 == some .eq) = false := by rw [hxz] at hzero; exact hzero
    clear hzero
    cases over
    · go_enter Try.func17, Try.ntmps17
      go_wp2_with (first | (go_at_call 37; refine (HR.out _ _).mono ?_; rintro e w' ⟨rfl, n0, rfl⟩) | (go_at_call 38; refine (abs_any _ _).mono ?_; rintro e w' ⟨rfl, rfl⟩))
      try clear hxz hyz p1 p2' hab hbb hmn hmx hwy hny hwx hnx
      go_loop [7, 40] (fun t k => (k = .int .i64 0 ∧ t = .float .f64 t0) ∨ (k = .int .i64 1 ∧ t = .float .f64 t1) ∨ (k = .int .i64 2 ∧ t = .float .f64 t2) ∨ (k = .int .i64 3 ∧ t = .float .f64 t3)) (fun _ k => (3 - intOf k).toNat)
      case atStart => exact Or.inl ⟨rfl, rfl⟩
      case round =>
        rcases hrel with ⟨rfl, rfl⟩ | ⟨rfl, rfl⟩ | ⟨rfl, rfl⟩ | ⟨rfl, rfl⟩
        · obtain ⟨q1, q2, _⟩ := ar_some HI0.out.sq
          obtain ⟨q3, q4, _⟩ := ar_some HI0.out.one
          obtain ⟨q5, q6⟩ := sqV_some HI0.out.root
          obtain ⟨q7, q8, _⟩ := ar_some HI0.out.two
          obtain ⟨q9, q10, _⟩ := ar_some HI0.out.quo
          go_wp2
          go_round
          case rel => exact Or.inr (Or.inl ⟨rfl, rfl⟩)
          case measure => simp [intOf]
        · obtain ⟨q1, q2, _⟩ := ar_some HI1.out.sq
          obtain ⟨q3, q4, _⟩ := ar_some HI1.out.one
          obtain ⟨q5, q6⟩ := sqV_some HI1.out.root
          obtain ⟨q7, q8, _⟩ := ar_some HI1.out.two
          obtain ⟨q9, q10, _⟩ := ar_some HI1.out.quo
          go_wp2
          go_round
          case rel => exact Or.inr (Or.inr (Or.inl ⟨rfl, rfl⟩))
          case measure => simp [intOf]
        · obtain ⟨q1, q2, _⟩ := ar_some HI2.out.sq
          obtain ⟨q3, q4, _⟩ := ar_some HI2.out.one
          obtain ⟨q5, q6⟩ := sqV_some HI2.out.root
          obtain ⟨q7, q8, _⟩ := ar_some HI2.out.two
          obtain ⟨q9, q10, _⟩ := ar_some HI2.out.quo
          go_wp2
          go_round
          case rel => exact Or.inr (Or.inr (Or.inr (⟨rfl, rfl⟩)))
          case measure => simp [intOf]
        · clear HI0 HI1 HI2
          obtain ⟨m1, m2, _⟩ := ar_some HA.out.sq
          go_wp2_with fail
          clear m1 m2
          go_loop [9, 10] (fun q k => (k = .int .i64 (15) ∧ q = .float .f64 (arcP u 0)) ∨ (k = .int .i64 (13) ∧ q = .float .f64 (arcP u 1)) ∨ (k = .int .i64 (11) ∧ q = .float .f64 (arcP u 2)) ∨ (k = .int .i64 (9) ∧ q = .float .f64 (arcP u 3)) ∨ (k = .int .i64 (7) ∧ q = .float .f64 (arcP u 4)) ∨ (k = .int .i64 (5) ∧ q = .float .f64 (arcP u 5)) ∨ (k = .int .i64 (3) ∧ q = .float .f64 (arcP u 6)) ∨ (k = .int .i64 (1) ∧ q = .float .f64 (arcP u 7)) ∨ (k = .int .i64 (-1) ∧ q = .float .f64 (arcP u 8))) (fun _ k => (intOf k + 1).toNat)
          case atStart => exact Or.inl ⟨rfl, rfl⟩
          case round =>
            rcases hrel with ⟨rfl, rfl⟩ | ⟨rfl, rfl⟩ | ⟨rfl, rfl⟩ | ⟨rfl, rfl⟩ | ⟨rfl, rfl⟩ | ⟨rfl, rfl⟩ | ⟨rfl, rfl⟩ | ⟨rfl, rfl⟩ | ⟨rfl, rfl⟩
            · obtain ⟨a, b, hS⟩ := arcs0 HA.out
              obtain ⟨q1, q2, _⟩ := ar_some hS.quo
              obtain ⟨q3, q4, _⟩ := ar_some hS.mul
              obtain ⟨q5, q6, _⟩ := ar_some hS.sub
              clear hS
              go_wp2
              go_round
              case rel => exact Or.inr (Or.inl ⟨rfl, rfl⟩)
              case measure => simp [intOf]
            · obtain ⟨a, b, hS⟩ := arcs1 HA.out
              obtain ⟨q1, q2, _⟩ := ar_some hS.quo
              obtain ⟨q3, q4, _⟩ := ar_some hS.mul
              obtain ⟨q5, q6, _⟩ := ar_some hS.sub
              clear hS
              go_wp2
              go_round
              case rel => exact Or.inr (Or.inr (Or.inl ⟨rfl, rfl⟩))
              case measure => simp [intOf]
            · obtain ⟨a, b, hS⟩ := arcs2 HA.out
              obtain ⟨q1, q2, _⟩ := ar_some hS.quo
              obtain ⟨q3, q4, _⟩ := ar_some hS.mul
              obtain ⟨q5, q6, _⟩ := ar_some hS.sub
              clear hS
              go_wp2
              go_round
              case rel => exact Or.inr (Or.inr (Or.inr (Or.inl ⟨rfl, rfl⟩)))
              case measure => simp [intOf]
            · obtain ⟨a, b, hS⟩ := arcs3 HA.out
              obtain ⟨q1, q2, _⟩ := ar_some hS.quo
              obtain ⟨q3, q4, _⟩ := ar_some hS.mul
              obtain ⟨q5, q6, _⟩ := ar_some hS.sub
              clear hS
              go_wp2
              go_round
              case rel => exact Or.inr (Or.inr (Or.inr (Or.inr (Or.inl ⟨rfl, rfl⟩))))
              case measure => simp [intOf]
            · obtain ⟨a, b, hS⟩ := arcs4 HA.out
              obtain ⟨q1, q2, _⟩ := ar_some hS.quo
              obtain ⟨q3, q4, _⟩ := ar_some hS.mul
              obtain ⟨q5, q6, _⟩ := ar_some hS.sub
              clear hS
              go_wp2
              go_round
              case rel => exact Or.inr (Or.inr (Or.inr (Or.inr (Or.inr (Or.inl ⟨rfl, rfl⟩)))))
              case measure => simp [intOf]
            · obtain ⟨a, b, hS⟩ := arcs5 HA.out
              obtain ⟨q1, q2, _⟩ := ar_some hS.quo
              obtain ⟨q3, q4, _⟩ := ar_some hS.mul
              obtain ⟨q5, q6, _⟩ := ar_some hS.sub
              clear hS
              go_wp2
              go_round
              case rel => exact Or.inr (Or.inr (Or.inr (Or.inr (Or.inr (Or.inr (Or.inl ⟨rfl, rfl⟩))))))
              case measure => simp [intOf]
            · obtain ⟨a, b, hS⟩ := arcs6 HA.out
              obtain ⟨q1, q2, _⟩ := ar_some hS.quo
              obtain ⟨q3, q4, _⟩ := ar_some hS.mul
              obtain ⟨q5, q6, _⟩ := ar_some hS.sub
              clear hS
              go_wp2
              go_round
              case rel => exact Or.inr (Or.inr (Or.inr (Or.inr (Or.inr (Or.inr (Or.inr (Or.inl ⟨rfl, rfl⟩)))))))
              case measure => simp [intOf]
            · obtain ⟨a, b, hS⟩ := arcs7 HA.out
              obtain ⟨q1, q2, _⟩ := ar_some hS.quo
              obtain ⟨q3, q4, _⟩ := ar_some hS.mul
              obtain ⟨q5, q6, _⟩ := ar_some hS.sub
              clear hS
              go_wp2
              go_round
              case rel => exact Or.inr (Or.inr (Or.inr (Or.inr (Or.inr (Or.inr (Or.inr (Or.inr (⟨rfl, rfl⟩))))))))
              case measure => simp [intOf]
            · obtain ⟨m3, m4, _⟩ := ar_some HA.out.mul
              obtain ⟨m5, m6, _⟩ := ar_some HA.out.eight
              obtain ⟨m7, m8, _⟩ := ar_some HA.out.quo
              have hz : r1 = r0 := by rcases HO.out.quarter with ⟨h, _⟩ | ⟨_, h⟩ <;> first | exact h | cases h
              subst hz
              rcases HO.out.half with ⟨rfl, hy⟩ | ⟨rfl, rfl⟩
              · obtain ⟨y1, y2, _⟩ := ar_some hy
                clear hy
                cases below
                · go_wp2
                  go_ret
                  exact ⟨_, rfl, grown_new _ _ _ _ _, narV_same _ (FEq.refl _ _) HV.out⟩
                · go_wp2
                  go_ret
                  exact ⟨_, rfl, grown_new _ _ _ _ _, narV_same _ (FEq.refl _ _) HV.out⟩
              · cases below
                · go_wp2
                  go_ret
                  exact ⟨_, rfl, grown_new _ _ _ _ _, narV_same _ (FEq.refl _ _) HV.out⟩
                · go_wp2
                  go_ret
                  exact ⟨_, rfl, grown_new _ _ _ _ _, narV_same _ (FEq.refl _ _) HV.out⟩
    · go_enter Try.func17, Try.ntmps17
      go_wp2_with (first | (go_at_call 37; refine (HR.out _ _).mono ?_; rintro e w' ⟨rfl, n0, rfl⟩) | (go_at_call 38; refine (abs_any _ _).mono ?_; rintro e w' ⟨rfl, rfl⟩))
      try clear hxz hyz p1 p2' hab hbb hmn hmx hwy hny hwx hnx
      go_loop [7, 40] (fun t k => (k = .int .i64 0 ∧ t = .float .f64 t0) ∨ (k = .int .i64 1 ∧ t = .float .f64 t1) ∨ (k = .int .i64 2 ∧ t = .float .f64 t2) ∨ (k = .int .i64 3 ∧ t = .float .f64 t3)) (fun _ k => (3 - intOf k).toNat)
      case atStart => exact Or.inl ⟨rfl, rfl⟩
      case round =>
        rcases hrel with ⟨rfl, rfl⟩ | ⟨rfl, rfl⟩ | ⟨rfl, rfl⟩ | ⟨rfl, rfl⟩
        · obtain ⟨q1, q2, _⟩ := ar_some HI0.out.sq
          obtain ⟨q3, q4, _⟩ := ar_some HI0.out.one
          obtain ⟨q5, q6⟩ := sqV_some HI0.out.root
          obtain ⟨q7, q8, _⟩ := ar_some HI0.out.two
          obtain ⟨q9, q10, _⟩ := ar_some HI0.out.quo
          go_wp2
          go_round
          case rel => exact Or.inr (Or.inl ⟨rfl, rfl⟩)
          case measure => simp [intOf]
        · obtain ⟨q1, q2, _⟩ := ar_some HI1.out.sq
          obtain ⟨q3, q4, _⟩ := ar_some HI1.out.one
          obtain ⟨q5, q6⟩ := sqV_some HI1.out.root
          obtain ⟨q7, q8, _⟩ := ar_some HI1.out.two
          obtain ⟨q9, q10, _⟩ := ar_some HI1.out.quo
          go_wp2
          go_round
          case rel => exact Or.inr (Or.inr (Or.inl ⟨rfl, rfl⟩))
          case measure => simp [intOf]
        · obtain ⟨q1, q2, _⟩ := ar_some HI2.out.sq
          obtain ⟨q3, q4, _⟩ := ar_some HI2.out.one
          obtain ⟨q5, q6⟩ := sqV_some HI2.out.root
          obtain ⟨q7, q8, _⟩ := ar_some HI2.out.two
          obtain ⟨q9, q10, _⟩ := ar_some HI2.out.quo
          go_wp2
          go_round
          case rel => exact Or.inr (Or.inr (Or.inr (⟨rfl, rfl⟩)))
          case measure => simp [intOf]
        · clear HI0 HI1 HI2
          obtain ⟨m1, m2, _⟩ := ar_some HA.out.sq
          go_wp2_with fail
          clear m1 m2
          go_loop [9, 10] (fun q k => (k = .int .i64 (15) ∧ q = .float .f64 (arcP u 0)) ∨ (k = .int .i64 (13) ∧ q = .float .f64 (arcP u 1)) ∨ (k = .int .i64 (11) ∧ q = .float .f64 (arcP u 2)) ∨ (k = .int .i64 (9) ∧ q = .float .f64 (arcP u 3)) ∨ (k = .int .i64 (7) ∧ q = .float .f64 (arcP u 4)) ∨ (k = .int .i64 (5) ∧ q = .float .f64 (arcP u 5)) ∨ (k = .int .i64 (3) ∧ q = .float .f64 (arcP u 6)) ∨ (k = .int .i64 (1) ∧ q = .float .f64 (arcP u 7)) ∨ (k = .int .i64 (-1) ∧ q = .float .f64 (arcP u 8))) (fun _ k => (intOf k + 1).toNat)
          case atStart => exact Or.inl ⟨rfl, rfl⟩
          case round =>
            rcases hrel with ⟨rfl, rfl⟩ | ⟨rfl, rfl⟩ | ⟨rfl, rfl⟩ | ⟨rfl, rfl⟩ | ⟨rfl, rfl⟩ | ⟨rfl, rfl⟩ | ⟨rfl, rfl⟩ | ⟨rfl, rfl⟩ | ⟨rfl, rfl⟩
            · obtain ⟨a, b, hS⟩ := arcs0 HA.out
              obtain ⟨q1, q2, _⟩ := ar_some hS.quo
              obtain ⟨q3, q4, _⟩ := ar_some hS.mul
              obtain ⟨q5, q6, _⟩ := ar_some hS.sub
              clear hS
              go_wp2
              go_round
              case rel => exact Or.inr (Or.inl ⟨rfl, rfl⟩)
              case measure => simp [intOf]
            · obtain ⟨a, b, hS⟩ := arcs1 HA.out
              obtain ⟨q1, q2, _⟩ := ar_some hS.quo
              obtain ⟨q3, q4, _⟩ := ar_some hS.mul
              obtain ⟨q5, q6, _⟩ := ar_some hS.sub
              clear hS
              go_wp2
              go_round
              case rel => exact Or.inr (Or.inr (Or.inl ⟨rfl, rfl⟩))
              case measure => simp [intOf]
            · obtain ⟨a, b, hS⟩ := arcs2 HA.out
              obtain ⟨q1, q2, _⟩ := ar_some hS.quo
              obtain ⟨q3, q4, _⟩ := ar_some hS.mul
              obtain ⟨q5, q6, _⟩ := ar_some hS.sub
              clear hS
              go_wp2
              go_round
              case rel => exact Or.inr (Or.inr (Or.inr (Or.inl ⟨rfl, rfl⟩)))
              case measure => simp [intOf]
            · obtain ⟨a, b, hS⟩ := arcs3 HA.out
              obtain ⟨q1, q2, _⟩ := ar_some hS.quo
              obtain ⟨q3, q4, _⟩ := ar_some hS.mul
              obtain ⟨q5, q6, _⟩ := ar_some hS.sub
              clear hS
              go_wp2
              go_round
              case rel => exact Or.inr (Or.inr (Or.inr (Or.inr (Or.inl ⟨rfl, rfl⟩))))
              case measure => simp [intOf]
            · obtain ⟨a, b, hS⟩ := arcs4 HA.out
              obtain ⟨q1, q2, _⟩ := ar_some hS.quo
              obtain ⟨q3, q4, _⟩ := ar_some hS.mul
              obtain ⟨q5, q6, _⟩ := ar_some hS.sub
              clear hS
              go_wp2
              go_round
              case rel => exact Or.inr (Or.inr (Or.inr (Or.inr (Or.inr (Or.inl ⟨rfl, rfl⟩)))))
              case measure => simp [intOf]
            · obtain ⟨a, b, hS⟩ := arcs5 HA.out
              obtain ⟨q1, q2, _⟩ := ar_some hS.quo
              obtain ⟨q3, q4, _⟩ := ar_some hS.mul
              obtain ⟨q5, q6, _⟩ := ar_some hS.sub
              clear hS
              go_wp2
              go_round
              case rel => exact Or.inr (Or.inr (Or.inr (Or.inr (Or.inr (Or.inr (Or.inl ⟨rfl, rfl⟩))))))
              case measure => simp [intOf]
            · obtain ⟨a, b, hS⟩ := arcs6 HA.out
              obtain ⟨q1, q2, _⟩ := ar_some hS.quo
              obtain ⟨q3, q4, _⟩ := ar_some hS.mul
              obtain ⟨q5, q6, _⟩ := ar_some hS.sub
              clear hS
              go_wp2
              go_round
              case rel => exact Or.inr (Or.inr (Or.inr (Or.inr (Or.inr (Or.inr (Or.inr (Or.inl ⟨rfl, rfl⟩)))))))
              case measure => simp [intOf]
            · obtain ⟨a, b, hS⟩ := arcs7 HA.out
              obtain ⟨q1, q2, _⟩ := ar_some hS.quo
              obtain ⟨q3, q4, _⟩ := ar_some hS.mul
              obtain ⟨q5, q6, _⟩ := ar_some hS.sub
              clear hS
              go_wp2
              go_round
              case rel => exact Or.inr (Or.inr (Or.inr (Or.inr (Or.inr (Or.inr (Or.inr (Or.inr (⟨rfl, rfl⟩))))))))
              case measure => simp [intOf]
            · obtain ⟨m3, m4, _⟩ := ar_some HA.out.mul
              obtain ⟨m5, m6, _⟩ := ar_some HA.out.eight
              obtain ⟨m7, m8, _⟩ := ar_some HA.out.quo
              have hz : floatBits .sub .f64 cQuart r0 = some r1 := by rcases HO.out.quarter with ⟨_, h⟩ | ⟨h, _⟩ <;> first | exact h | cases h
              obtain ⟨z1, z2, _⟩ := ar_some hz
              clear hz
              rcases HO.out.half with ⟨rfl, hy⟩ | ⟨rfl, rfl⟩
              · obtain ⟨y1, y2, _⟩ := ar_some hy
                clear hy
                cases below
                · go_wp2
                  go_ret
                  exact ⟨_, rfl, grown_new _ _ _ _ _, narV_same _ (FEq.refl _ _) HV.out⟩
                · go_wp2
                  go_ret
                  exact ⟨_, rfl, grown_new _ _ _ _ _, narV_same _ (FEq.refl _ _) HV.out⟩
              · cases below
                · go_wp2
                  go_ret
                  exact ⟨_, rfl, grown_new _ _ _ _ _, narV_same _ (FEq.refl _ _) HV.out⟩
                · go_wp2
                  go_ret
                  exact ⟨_, rfl, grown_new _ _ _ _ _, narV_same _ (FEq.refl _ _) HV.out⟩
  · have hxz' : (FloatKind.f32.format.order x 0 == some .eq) = false := by simpa using hxz
    clear hxz hzero
    cases over
    · go_enter Try.func17, Try.ntmps17
      go_wp2_with (first | (go_at_call 37; refine (HR.out _ _).mono ?_; rintro e w' ⟨rfl, n0, rfl⟩) | (go_at_call 38; refine (abs_any _ _).mono ?_; rintro e w' ⟨rfl, rfl⟩))
      try clear hxz' p1 p2' hab hbb hmn hmx hwy hny hwx hnx
      go_loop [7, 40] (fun t k => (k = .int .i64 0 ∧ t = .float .f64 t0) ∨ (k = .int .i64 1 ∧ t = .float .f64 t1) ∨ (k = .int .i64 2 ∧ t = .float .f64 t2) ∨ (k = .int .i64 3 ∧ t = .float .f64 t3)) (fun _ k => (3 - intOf k).toNat)
      case atStart => exact Or.inl ⟨rfl, rfl⟩
      case round =>
        rcases hrel with ⟨rfl, rfl⟩ | ⟨rfl, rfl⟩ | ⟨rfl, rfl⟩ | ⟨rfl, rfl⟩
        · obtain ⟨q1, q2, _⟩ := ar_some HI0.out.sq
          obtain ⟨q3, q4, _⟩ := ar_some HI0.out.one
          obtain ⟨q5, q6⟩ := sqV_some HI0.out.root
          obtain ⟨q7, q8, _⟩ := ar_some HI0.out.two
          obtain ⟨q9, q10, _⟩ := ar_some HI0.out.quo
          go_wp2
          go_round
          case rel => exact Or.inr (Or.inl ⟨rfl, rfl⟩)
          case measure => simp [intOf]
        · obtain ⟨q1, q2, _⟩ := ar_some HI1.out.sq
          obtain ⟨q3, q4, _⟩ := ar_some HI1.out.one
          obtain ⟨q5, q6⟩ := sqV_some HI1.out.root
          obtain ⟨q7, q8, _⟩ := ar_some HI1.out.two
          obtain ⟨q9, q10, _⟩ := ar_some HI1.out.quo
          go_wp2
          go_round
          case rel => exact Or.inr (Or.inr (Or.inl ⟨rfl, rfl⟩))
          case measure => simp [intOf]
        · obtain ⟨q1, q2, _⟩ := ar_some HI2.out.sq
          obtain ⟨q3, q4, _⟩ := ar_some HI2.out.one
          obtain ⟨q5, q6⟩ := sqV_some HI2.out.root
          obtain ⟨q7, q8, _⟩ := ar_some HI2.out.two
          obtain ⟨q9, q10, _⟩ := ar_some HI2.out.quo
          go_wp2
          go_round
          case rel => exact Or.inr (Or.inr (Or.inr (⟨rfl, rfl⟩)))
          case measure => simp [intOf]
        · clear HI0 HI1 HI2
          obtain ⟨m1, m2, _⟩ := ar_some HA.out.sq
          go_wp2_with fail
          clear m1 m2
          go_loop [9, 10] (fun q k => (k = .int .i64 (15) ∧ q = .float .f64 (arcP u 0)) ∨ (k = .int .i64 (13) ∧ q = .float .f64 (arcP u 1)) ∨ (k = .int .i64 (11) ∧ q = .float .f64 (arcP u 2)) ∨ (k = .int .i64 (9) ∧ q = .float .f64 (arcP u 3)) ∨ (k = .int .i64 (7) ∧ q = .float .f64 (arcP u 4)) ∨ (k = .int .i64 (5) ∧ q = .float .f64 (arcP u 5)) ∨ (k = .int .i64 (3) ∧ q = .float .f64 (arcP u 6)) ∨ (k = .int .i64 (1) ∧ q = .float .f64 (arcP u 7)) ∨ (k = .int .i64 (-1) ∧ q = .float .f64 (arcP u 8))) (fun _ k => (intOf k + 1).toNat)
          case atStart => exact Or.inl ⟨rfl, rfl⟩
          case round =>
            rcases hrel with ⟨rfl, rfl⟩ | ⟨rfl, rfl⟩ | ⟨rfl, rfl⟩ | ⟨rfl, rfl⟩ | ⟨rfl, rfl⟩ | ⟨rfl, rfl⟩ | ⟨rfl, rfl⟩ | ⟨rfl, rfl⟩ | ⟨rfl, rfl⟩
            · obtain ⟨a, b, hS⟩ := arcs0 HA.out
              obtain ⟨q1, q2, _⟩ := ar_some hS.quo
              obtain ⟨q3, q4, _⟩ := ar_some hS.mul
              obtain ⟨q5, q6, _⟩ := ar_some hS.sub
              clear hS
              go_wp2
              go_round
              case rel => exact Or.inr (Or.inl ⟨rfl, rfl⟩)
              case measure => simp [intOf]
            · obtain ⟨a, b, hS⟩ := arcs1 HA.out
              obtain ⟨q1, q2, _⟩ := ar_some hS.quo
              obtain ⟨q3, q4, _⟩ := ar_some hS.mul
              obtain ⟨q5, q6, _⟩ := ar_some hS.sub
              clear hS
              go_wp2
              go_round
              case rel => exact Or.inr (Or.inr (Or.inl ⟨rfl, rfl⟩))
              case measure => simp [intOf]
            · obtain ⟨a, b, hS⟩ := arcs2 HA.out
              obtain ⟨q1, q2, _⟩ := ar_some hS.quo
              obtain ⟨q3, q4, _⟩ := ar_some hS.mul
              obtain ⟨q5, q6, _⟩ := ar_some hS.sub
              clear hS
              go_wp2
              go_round
              case rel => exact Or.inr (Or.inr (Or.inr (Or.inl ⟨rfl, rfl⟩)))
              case measure => simp [intOf]
            · obtain ⟨a, b, hS⟩ := arcs3 HA.out
              obtain ⟨q1, q2, _⟩ := ar_some hS.quo
              obtain ⟨q3, q4, _⟩ := ar_some hS.mul
              obtain ⟨q5, q6, _⟩ := ar_some hS.sub
              clear hS
              go_wp2
              go_round
              case rel => exact Or.inr (Or.inr (Or.inr (Or.inr (Or.inl ⟨rfl, rfl⟩))))
              case measure => simp [intOf]
            · obtain ⟨a, b, hS⟩ := arcs4 HA.out
              obtain ⟨q1, q2, _⟩ := ar_some hS.quo
              obtain ⟨q3, q4, _⟩ := ar_some hS.mul
              obtain ⟨q5, q6, _⟩ := ar_some hS.sub
              clear hS
              go_wp2
              go_round
              case rel => exact Or.inr (Or.inr (Or.inr (Or.inr (Or.inr (Or.inl ⟨rfl, rfl⟩)))))
              case measure => simp [intOf]
            · obtain ⟨a, b, hS⟩ := arcs5 HA.out
              obtain ⟨q1, q2, _⟩ := ar_some hS.quo
              obtain ⟨q3, q4, _⟩ := ar_some hS.mul
              obtain ⟨q5, q6, _⟩ := ar_some hS.sub
              clear hS
              go_wp2
              go_round
              case rel => exact Or.inr (Or.inr (Or.inr (Or.inr (Or.inr (Or.inr (Or.inl ⟨rfl, rfl⟩))))))
              case measure => simp [intOf]
            · obtain ⟨a, b, hS⟩ := arcs6 HA.out
              obtain ⟨q1, q2, _⟩ := ar_some hS.quo
              obtain ⟨q3, q4, _⟩ := ar_some hS.mul
              obtain ⟨q5, q6, _⟩ := ar_some hS.sub
              clear hS
              go_wp2
              go_round
              case rel => exact Or.inr (Or.inr (Or.inr (Or.inr (Or.inr (Or.inr (Or.inr (Or.inl ⟨rfl, rfl⟩)))))))
              case measure => simp [intOf]
            · obtain ⟨a, b, hS⟩ := arcs7 HA.out
              obtain ⟨q1, q2, _⟩ := ar_some hS.quo
              obtain ⟨q3, q4, _⟩ := ar_some hS.mul
              obtain ⟨q5, q6, _⟩ := ar_some hS.sub
              clear hS
              go_wp2
              go_round
              case rel => exact Or.inr (Or.inr (Or.inr (Or.inr (Or.inr (Or.inr (Or.inr (Or.inr (⟨rfl, rfl⟩))))))))
              case measure => simp [intOf]
            · obtain ⟨m3, m4, _⟩ := ar_some HA.out.mul
              obtain ⟨m5, m6, _⟩ := ar_some HA.out.eight
              obtain ⟨m7, m8, _⟩ := ar_some HA.out.quo
              have hz : r1 = r0 := by rcases HO.out.quarter with ⟨h, _⟩ | ⟨_, h⟩ <;> first | exact h | cases h
              subst hz
              rcases HO.out.half with ⟨rfl, hy⟩ | ⟨rfl, rfl⟩
              · obtain ⟨y1, y2, _⟩ := ar_some hy
                clear hy
                cases below
                · go_wp2
                  go_ret
                  exact ⟨_, rfl, grown_new _ _ _ _ _, narV_same _ (FEq.refl _ _) HV.out⟩
                · go_wp2
                  go_ret
                  exact ⟨_, rfl, grown_new _ _ _ _ _, narV_same _ (FEq.refl _ _) HV.out⟩
              · cases below
                · go_wp2
                  go_ret
                  exact ⟨_, rfl, grown_new _ _ _ _ _, narV_same _ (FEq.refl _ _) HV.out⟩
                · go_wp2
                  go_ret
                  exact ⟨_, rfl, grown_new _ _ _ _ _, narV_same _ (FEq.refl _ _) HV.out⟩
    · go_enter Try.func17, Try.ntmps17
      go_wp2_with (first | (go_at_call 37; refine (HR.out _ _).mono ?_; rintro e w' ⟨rfl, n0, rfl⟩) | (go_at_call 38; refine (abs_any _ _).mono ?_; rintro e w' ⟨rfl, rfl⟩))
      try clear hxz' p1 p2' hab hbb hmn hmx hwy hny hwx hnx
      go_loop [7, 40] (fun t k => (k = .int .i64 0 ∧ t = .float .f64 t0) ∨ (k = .int .i64 1 ∧ t = .float .f64 t1) ∨ (k = .int .i64 2 ∧ t = .float .f64 t2) ∨ (k = .int .i64 3 ∧ t = .float .f64 t3)) (fun _ k => (3 - intOf k).toNat)
      case atStart => exact Or.inl ⟨rfl, rfl⟩
      case round =>
        rcases hrel with ⟨rfl, rfl⟩ | ⟨rfl, rfl⟩ | ⟨rfl, rfl⟩ | ⟨rfl, rfl⟩
        · obtain ⟨q1, q2, _⟩ := ar_some HI0.out.sq
          obtain ⟨q3, q4, _⟩ := ar_some HI0.out.one
          obtain ⟨q5, q6⟩ := sqV_some HI0.out.root
          obtain ⟨q7, q8, _⟩ := ar_some HI0.out.two
          obtain ⟨q9, q10, _⟩ := ar_some HI0.out.quo
          go_wp2
          go_round
          case rel => exact Or.inr (Or.inl ⟨rfl, rfl⟩)
          case measure => simp [intOf]
        · obtain ⟨q1, q2, _⟩ := ar_some HI1.out.sq
          obtain ⟨q3, q4, _⟩ := ar_some HI1.out.one
          obtain ⟨q5, q6⟩ := sqV_some HI1.out.root
          obtain ⟨q7, q8, _⟩ := ar_some HI1.out.two
          obtain ⟨q9, q10, _⟩ := ar_some HI1.out.quo
          go_wp2
          go_round
          case rel => exact Or.inr (Or.inr (Or.inl ⟨rfl, rfl⟩))
          case measure => simp [intOf]
        · obtain ⟨q1, q2, _⟩ := ar_some HI2.out.sq
          obtain ⟨q3, q4, _⟩ := ar_some HI2.out.one
          obtain ⟨q5, q6⟩ := sqV_some HI2.out.root
          obtain ⟨q7, q8, _⟩ := ar_some HI2.out.two
          obtain ⟨q9, q10, _⟩ := ar_some HI2.out.quo
          go_wp2
          go_round
          case rel => exact Or.inr (Or.inr (Or.inr (⟨rfl, rfl⟩)))
          case measure => simp [intOf]
        · clear HI0 HI1 HI2
          obtain ⟨m1, m2, _⟩ := ar_some HA.out.sq
          go_wp2_with fail
          clear m1 m2
          go_loop [9, 10] (fun q k => (k = .int .i64 (15) ∧ q = .float .f64 (arcP u 0)) ∨ (k = .int .i64 (13) ∧ q = .float .f64 (arcP u 1)) ∨ (k = .int .i64 (11) ∧ q = .float .f64 (arcP u 2)) ∨ (k = .int .i64 (9) ∧ q = .float .f64 (arcP u 3)) ∨ (k = .int .i64 (7) ∧ q = .float .f64 (arcP u 4)) ∨ (k = .int .i64 (5) ∧ q = .float .f64 (arcP u 5)) ∨ (k = .int .i64 (3) ∧ q = .float .f64 (arcP u 6)) ∨ (k = .int .i64 (1) ∧ q = .float .f64 (arcP u 7)) ∨ (k = .int .i64 (-1) ∧ q = .float .f64 (arcP u 8))) (fun _ k => (intOf k + 1).toNat)
          case atStart => exact Or.inl ⟨rfl, rfl⟩
          case round =>
            rcases hrel with ⟨rfl, rfl⟩ | ⟨rfl, rfl⟩ | ⟨rfl, rfl⟩ | ⟨rfl, rfl⟩ | ⟨rfl, rfl⟩ | ⟨rfl, rfl⟩ | ⟨rfl, rfl⟩ | ⟨rfl, rfl⟩ | ⟨rfl, rfl⟩
            · obtain ⟨a, b, hS⟩ := arcs0 HA.out
              obtain ⟨q1, q2, _⟩ := ar_some hS.quo
              obtain ⟨q3, q4, _⟩ := ar_some hS.mul
              obtain ⟨q5, q6, _⟩ := ar_some hS.sub
              clear hS
              go_wp2
              go_round
              case rel => exact Or.inr (Or.inl ⟨rfl, rfl⟩)
              case measure => simp [intOf]
            · obtain ⟨a, b, hS⟩ := arcs1 HA.out
              obtain ⟨q1, q2, _⟩ := ar_some hS.quo
              obtain ⟨q3, q4, _⟩ := ar_some hS.mul
              obtain ⟨q5, q6, _⟩ := ar_some hS.sub
              clear hS
              go_wp2
              go_round
              case rel => exact Or.inr (Or.inr (Or.inl ⟨rfl, rfl⟩))
              case measure => simp [intOf]
            · obtain ⟨a, b, hS⟩ := arcs2 HA.out
              obtain ⟨q1, q2, _⟩ := ar_some hS.quo
              obtain ⟨q3, q4, _⟩ := ar_some hS.mul
              obtain ⟨q5, q6, _⟩ := ar_some hS.sub
              clear hS
              go_wp2
              go_round
              case rel => exact Or.inr (Or.inr (Or.inr (Or.inl ⟨rfl, rfl⟩)))
              case measure => simp [intOf]
            · obtain ⟨a, b, hS⟩ := arcs3 HA.out
              obtain ⟨q1, q2, _⟩ := ar_some hS.quo
              obtain ⟨q3, q4, _⟩ := ar_some hS.mul
              obtain ⟨q5, q6, _⟩ := ar_some hS.sub
              clear hS
              go_wp2
              go_round
              case rel => exact Or.inr (Or.inr (Or.inr (Or.inr (Or.inl ⟨rfl, rfl⟩))))
              case measure => simp [intOf]
            · obtain ⟨a, b, hS⟩ := arcs4 HA.out
              obtain ⟨q1, q2, _⟩ := ar_some hS.quo
              obtain ⟨q3, q4, _⟩ := ar_some hS.mul
              obtain ⟨q5, q6, _⟩ := ar_some hS.sub
              clear hS
              go_wp2
              go_round
              case rel => exact Or.inr (Or.inr (Or.inr (Or.inr (Or.inr (Or.inl ⟨rfl, rfl⟩)))))
              case measure => simp [intOf]
            · obtain ⟨a, b, hS⟩ := arcs5 HA.out
              obtain ⟨q1, q2, _⟩ := ar_some hS.quo
              obtain ⟨q3, q4, _⟩ := ar_some hS.mul
              obtain ⟨q5, q6, _⟩ := ar_some hS.sub
              clear hS
              go_wp2
              go_round
              case rel => exact Or.inr (Or.inr (Or.inr (Or.inr (Or.inr (Or.inr (Or.inl ⟨rfl, rfl⟩))))))
              case measure => simp [intOf]
            · obtain ⟨a, b, hS⟩ := arcs6 HA.out
              obtain ⟨q1, q2, _⟩ := ar_some hS.quo
              obtain ⟨q3, q4, _⟩ := ar_some hS.mul
              obtain ⟨q5, q6, _⟩ := ar_some hS.sub
              clear hS
              go_wp2
              go_round
              case rel => exact Or.inr (Or.inr (Or.inr (Or.inr (Or.inr (Or.inr (Or.inr (Or.inl ⟨rfl, rfl⟩)))))))
              case measure => simp [intOf]
            · obtain ⟨a, b, hS⟩ := arcs7 HA.out
              obtain ⟨q1, q2, _⟩ := ar_some hS.quo
              obtain ⟨q3, q4, _⟩ := ar_some hS.mul
              obtain ⟨q5, q6, _⟩ := ar_some hS.sub
              clear hS
              go_wp2
              go_round
              case rel => exact Or.inr (Or.inr (Or.inr (Or.inr (Or.inr (Or.inr (Or.inr (Or.inr (⟨rfl, rfl⟩))))))))
              case measure => simp [intOf]
            · obtain ⟨m3, m4, _⟩ := ar_some HA.out.mul
              obtain ⟨m5, m6, _⟩ := ar_some HA.out.eight
              obtain ⟨m7, m8, _⟩ := ar_some HA.out.quo
              have hz : floatBits .sub .f64 cQuart r0 = some r1 := by rcases HO.out.quarter with ⟨_, h⟩ | ⟨h, _⟩ <;> first | exact h | cases h
              obtain ⟨z1, z2, _⟩ := ar_some hz
              clear hz
              rcases HO.out.half with ⟨rfl, hy⟩ | ⟨rfl, rfl⟩
              · obtain ⟨y1, y2, _⟩ := ar_some hy
                clear hy
                cases below
                · go_wp2
                  go_ret
                  exact ⟨_, rfl, grown_new _ _ _ _ _, narV_same _ (FEq.refl _ _) HV.out⟩
                · go_wp2
                  go_ret
                  exact ⟨_, rfl, grown_new _ _ _ _ _, narV_same _ (FEq.refl _ _) HV.out⟩
              · cases below
                · go_wp2
                  go_ret
                  exact ⟨_, rfl, grown_new _ _ _ _ _, narV_same _ (FEq.refl _ _) HV.out⟩
                · go_wp2
                  go_ret
                  exact ⟨_, rfl, grown_new _ _ _ _ _, narV_same _ (FEq.refl _ _) HV.out⟩
end Go.Proofs.Ytdlaafeagcbpaaa
