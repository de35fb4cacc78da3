/-
  The walks of TenthsOf (program and reference) and of its law.
-/
import Derived.Test.YtdlaafeagcbpaaaSineW
import Derived.Test.YtdlaafeagcbpaaaLog
import Derived.Test.YtdlaafeagcbpaaaFin
namespace Go.Proofs.Ytdlaafeagcbpaaa
open Go Go.RowKit Ieee

def GivesIB (w : World) (v : Int) (b : Bool) (e : Ending) (w' : World) : Prop := e = .returned (.tuple #[.int .i64 v, .bool b]) ∧ ∃ n, w' = w.drewN n

theorem Floor64 {x : Nat} (hx : fin .f64 x = true) (w : World) : (callFunc 48 #[.float .f64 x]).run Try.prog w = .ok (.value (.float .f64 (flo x))) w := by
  rw [run_callFunc_extern Try.func48 (by kernel_rfl) (by kernel_rfl) (by kernel_rfl) (e := Extern.MathFloor.toIntegral "math.archFloor" .down) (by kernel_rfl)]
  obtain ⟨s, m, e, hd, _⟩ := fin_form hx
  have e1 : Extern.MathFloor.toIntegral "math.archFloor" .down #[.float .f64 x] = pure (.float .f64 (flo x)) := by
    have key : ∀ (d : Datum) (A : Bool → Nat → Sem Value), d = .number s m e → (match d with | .nan s t => A s t | d => pure (.float .f64 (FloatKind.f64.encode (d.integral .down)))) = (pure (.float .f64 (FloatKind.f64.encode (d.integral .down))) : Sem Value) := by
      intro d A h
      rw [h]
    exact key (FloatKind.f64.decode x) _ hd
  rw [e1]
  rfl
theorem floor_any {x : Nat} (hx : fin .f64 x = true) (w : World) : Calls Try.prog 35 #[.float .f64 x] w (GivesX .f64 w (flo x)) := by
  have h := fun w => Floor64 hx w
  clear hx
  go_enter Try.func35, Try.ntmps35
  go_wp2
  go_ret
  exact ⟨rfl, rfl⟩

theorem sers0 {x : Nat} {e n : Int} {a b s u c d f l g h : Nat} (hT : TenOk x e n a b s u c d f l g h) : ∃ a b, SerOk u (serP u 0) (serP u 1) 25 a b := hT.steps 0 (by decide)
theorem sers1 {x : Nat} {e n : Int} {a b s u c d f l g h : Nat} (hT : TenOk x e n a b s u c d f l g h) : ∃ a b, SerOk u (serP u 1) (serP u 2) 23 a b := hT.steps 1 (by decide)
theorem sers2 {x : Nat} {e n : Int} {a b s u c d f l g h : Nat} (hT : TenOk x e n a b s u c d f l g h) : ∃ a b, SerOk u (serP u 2) (serP u 3) 21 a b := hT.steps 2 (by decide)
theorem sers3 {x : Nat} {e n : Int} {a b s u c d f l g h : Nat} (hT : TenOk x e n a b s u c d f l g h) : ∃ a b, SerOk u (serP u 3) (serP u 4) 19 a b := hT.steps 3 (by decide)
theorem sers4 {x : Nat} {e n : Int} {a b s u c d f l g h : Nat} (hT : TenOk x e n a b s u c d f l g h) : ∃ a b, SerOk u (serP u 4) (serP u 5) 17 a b := hT.steps 4 (by decide)
theorem sers5 {x : Nat} {e n : Int} {a b s u c d f l g h : Nat} (hT : TenOk x e n a b s u c d f l g h) : ∃ a b, SerOk u (serP u 5) (serP u 6) 15 a b := hT.steps 5 (by decide)
theorem sers6 {x : Nat} {e n : Int} {a b s u c d f l g h : Nat} (hT : TenOk x e n a b s u c d f l g h) : ∃ a b, SerOk u (serP u 6) (serP u 7) 13 a b := hT.steps 6 (by decide)
theorem sers7 {x : Nat} {e n : Int} {a b s u c d f l g h : Nat} (hT : TenOk x e n a b s u c d f l g h) : ∃ a b, SerOk u (serP u 7) (serP u 8) 11 a b := hT.steps 7 (by decide)
theorem sers8 {x : Nat} {e n : Int} {a b s u c d f l g h : Nat} (hT : TenOk x e n a b s u c d f l g h) : ∃ a b, SerOk u (serP u 8) (serP u 9) 9 a b := hT.steps 8 (by decide)
theorem sers9 {x : Nat} {e n : Int} {a b s u c d f l g h : Nat} (hT : TenOk x e n a b s u c d f l g h) : ∃ a b, SerOk u (serP u 9) (serP u 10) 7 a b := hT.steps 9 (by decide)
theorem sers10 {x : Nat} {e n : Int} {a b s u c d f l g h : Nat} (hT : TenOk x e n a b s u c d f l g h) : ∃ a b, SerOk u (serP u 10) (serP u 11) 5 a b := hT.steps 10 (by decide)
theorem sers11 {x : Nat} {e n : Int} {a b s u c d f l g h : Nat} (hT : TenOk x e n a b s u c d f l g h) : ∃ a b, SerOk u (serP u 11) (serP u 12) 3 a b := hT.steps 11 (by decide)
theorem sers12 {x : Nat} {e n : Int} {a b s u c d f l g h : Nat} (hT : TenOk x e n a b s u c d f l g h) : ∃ a b, SerOk u (serP u 12) (serP u 13) 1 a b := hT.steps 12 (by decide)

theorem ret_sub0 (i : Nat) : Value.int .i64 (i : Int) = .int .i64 ((i : Int) - ((0 : Nat) : Int)) := by
  have h : (i : Int) = (i : Int) - ((0 : Nat) : Int) := by omega
  rw [← h]
theorem ret_sub1 (i j : Nat) : Value.int .i64 ((i : Int) - (j : Int) - 1) = .int .i64 ((i : Int) - ((j + 1 : Nat) : Int)) := by
  have h : (i : Int) - (j : Int) - 1 = (i : Int) - ((j + 1 : Nat) : Int) := by omega
  rw [h]
theorem ret_ib {w : World} {v : Int} {b : Bool} (n : Nat) : GivesIB w v b (.returned (.tuple #[.int .i64 v, .bool b])) (w.drewN n) := ⟨rfl, n, rfl⟩

theorem fin_max : fin .f64 9218868437227405311 = true := by decide
/-- a number greater than 0: the questions at the reference's head. -/
theorem not_inf {y : Nat} (hy : fin .f64 y = true) (h : val .f64 y < p2 1000) : (FloatKind.f64.format.order y 9218868437227405311 == some .gt) = false := by
  rw [gtr_num hy fin_max]
  have e : FloatKind.f64.decode 9218868437227405311 = .number false 9007199254740991 971 := by decide
  have h2 : p2 1000 ≤ val .f64 9218868437227405311 := by
    rw [val_of e]
    have : mv (2 ^ 29) 971 ≤ mv 9007199254740991 971 := mv_le (by decide)
    rw [mv_p2] at this
    exact this
  have : ¬ val .f64 9218868437227405311 < val .f64 y := by grind
  simpa using this

set_option maxHeartbeats 2000000 in
theorem spec_LogWide {y n1 n2 : Nat} {n : Int} {a b s u c d f l g h : Nat} (hU : UpOk y n1) (hn1 : n1 ≤ 200) (hD : DownOk (hH y n1) n2) (hn2 : n2 ≤ 200) (hT : TenOk (hK (hH y n1) n2) ((n1 : Int) - (n2 : Int)) n a b s u c d f l g h) (hy : fin .f64 y = true) (hy0 : 0 < val .f64 y) (hy1 : val .f64 y < p2 1000) (w : World) :
    Calls Try.prog 47 #[.float .f64 y] w (GivesX .f64 w l) := by
  have t1 := neq_num (fin_nan hy)
  have t2 : (FloatKind.f64.format.order y 0 == some .lt) = false := by
    rw [lss_num hy fin_c0, val_c0]
    have : ¬ val .f64 y < 0 := by grind
    simpa using this
  have t3 : (FloatKind.f64.format.order y 0 == some .eq) = false := by
    rw [eql_fin hy fin_c0, val_c0]
    have : ¬ val .f64 y = 0 := by grind
    simpa using this
  have t4 := not_inf hy hy1
  have hz0 : ∀ w : World, w.drewN 0 = w := fun _ => rfl
  have HU := Lib.hid hU
  have HD := Lib.hid hD
  have HT := Lib.hid hT
  clear hU hD hT hy hy0 hy1
  go_enter Try.func47, Try.ntmps47
  go_wp2
  clear t1 t2 t3 t4
  go_loop [0, 3] (fun x e => ∃ i : Nat, i ≤ n1 ∧ e = .int .i64 i ∧ x = .float .f64 (hH y i)) (fun _ e => n1 - (intOf e).toNat)
  case atStart => exact ⟨0, Nat.zero_le _, rfl, rfl⟩
  case round =>
    obtain ⟨i, hi, rfl, rfl⟩ := hrel
    by_cases hlt : i < n1
    · obtain ⟨g1, g2⟩ := HU.out.step i hlt
      obtain ⟨m1, m2, _⟩ := ar_some g2
      clear g2
      go_wp2
      go_round
      case rel => exact ⟨i + 1, by omega, by go_num, rfl⟩
      case measure => simp [intOf]; omega
    · obtain rfl : i = n1 := by omega
      have g1 := HU.out.stop
      clear hlt hi
      go_wp2_with fail
      clear g1
      go_loop [0, 3] (fun x e => ∃ j : Nat, j ≤ n2 ∧ e = .int .i64 ((i : Int) - (j : Int)) ∧ x = .float .f64 (hK (hH y i) j)) (fun _ e => n2 - ((i : Int) - intOf e).toNat)
      case atStart => exact ⟨0, Nat.zero_le _, ret_sub0 _, rfl⟩
      case round =>
        obtain ⟨j, hj, rfl, rfl⟩ := hrel
        by_cases hlt : j < n2
        · obtain ⟨g1, g2⟩ := HD.out.step j hlt
          obtain ⟨m1, m2, _⟩ := ar_some g2
          clear g2
          go_wp2
          go_round
          case rel => exact ⟨j + 1, by omega, ret_sub1 _ _, rfl⟩
          case measure => simp [intOf]; omega
        · obtain rfl : j = n2 := by omega
          have g1 := HD.out.stop
          clear hlt hj
          obtain ⟨e1, e2, _⟩ := ar_some HT.out.sub
          obtain ⟨e3, e4, _⟩ := ar_some HT.out.add
          obtain ⟨e5, e6, _⟩ := ar_some HT.out.quo
          obtain ⟨e7, e8, _⟩ := ar_some HT.out.sq
          go_wp2_with fail
          clear e1 e2 e3 e4 e5 e6 e7 e8 g1
          go_loop [6, 7] (fun q k => (k = .int .i64 (25) ∧ q = .float .f64 (serP u 0)) ∨ (k = .int .i64 (23) ∧ q = .float .f64 (serP u 1)) ∨ (k = .int .i64 (21) ∧ q = .float .f64 (serP u 2)) ∨ (k = .int .i64 (19) ∧ q = .float .f64 (serP u 3)) ∨ (k = .int .i64 (17) ∧ q = .float .f64 (serP u 4)) ∨ (k = .int .i64 (15) ∧ q = .float .f64 (serP u 5)) ∨ (k = .int .i64 (13) ∧ q = .float .f64 (serP u 6)) ∨ (k = .int .i64 (11) ∧ q = .float .f64 (serP u 7)) ∨ (k = .int .i64 (9) ∧ q = .float .f64 (serP u 8)) ∨ (k = .int .i64 (7) ∧ q = .float .f64 (serP u 9)) ∨ (k = .int .i64 (5) ∧ q = .float .f64 (serP u 10)) ∨ (k = .int .i64 (3) ∧ q = .float .f64 (serP u 11)) ∨ (k = .int .i64 (1) ∧ q = .float .f64 (serP u 12)) ∨ (k = .int .i64 (-1) ∧ q = .float .f64 (serP u 13))) (fun _ k => (intOf k + 1).toNat)
          case atStart => exact Or.inl ⟨rfl, rfl⟩
          case round =>
            rcases hrel with ⟨rfl, rfl⟩ | ⟨rfl, rfl⟩ | ⟨rfl, rfl⟩ | ⟨rfl, rfl⟩ | ⟨rfl, rfl⟩ | ⟨rfl, rfl⟩ | ⟨rfl, rfl⟩ | ⟨rfl, rfl⟩ | ⟨rfl, rfl⟩ | ⟨rfl, rfl⟩ | ⟨rfl, rfl⟩ | ⟨rfl, rfl⟩ | ⟨rfl, rfl⟩ | ⟨rfl, rfl⟩
            · obtain ⟨a, b, hS⟩ := sers0 HT.out
              obtain ⟨q1, q2, _⟩ := ar_some hS.quo
              obtain ⟨q3, q4, _⟩ := ar_some hS.mul
              obtain ⟨q5, q6, _⟩ := ar_some hS.add
              clear hS
              go_wp2
              go_round
              case rel => exact Or.inr (Or.inl ⟨rfl, rfl⟩)
              case measure => simp [intOf]
            · obtain ⟨a, b, hS⟩ := sers1 HT.out
              obtain ⟨q1, q2, _⟩ := ar_some hS.quo
              obtain ⟨q3, q4, _⟩ := ar_some hS.mul
              obtain ⟨q5, q6, _⟩ := ar_some hS.add
              clear hS
              go_wp2
              go_round
              case rel => exact Or.inr (Or.inr (Or.inl ⟨rfl, rfl⟩))
              case measure => simp [intOf]
            · obtain ⟨a, b, hS⟩ := sers2 HT.out
              obtain ⟨q1, q2, _⟩ := ar_some hS.quo
              obtain ⟨q3, q4, _⟩ := ar_some hS.mul
              obtain ⟨q5, q6, _⟩ := ar_some hS.add
              clear hS
              go_wp2
              go_round
              case rel => exact Or.inr (Or.inr (Or.inr (Or.inl ⟨rfl, rfl⟩)))
              case measure => simp [intOf]
            · obtain ⟨a, b, hS⟩ := sers3 HT.out
              obtain ⟨q1, q2, _⟩ := ar_some hS.quo
              obtain ⟨q3, q4, _⟩ := ar_some hS.mul
              obtain ⟨q5, q6, _⟩ := ar_some hS.add
              clear hS
              go_wp2
              go_round
              case rel => exact Or.inr (Or.inr (Or.inr (Or.inr (Or.inl ⟨rfl, rfl⟩))))
              case measure => simp [intOf]
            · obtain ⟨a, b, hS⟩ := sers4 HT.out
              obtain ⟨q1, q2, _⟩ := ar_some hS.quo
              obtain ⟨q3, q4, _⟩ := ar_some hS.mul
              obtain ⟨q5, q6, _⟩ := ar_some hS.add
              clear hS
              go_wp2
              go_round
              case rel => exact Or.inr (Or.inr (Or.inr (Or.inr (Or.inr (Or.inl ⟨rfl, rfl⟩)))))
              case measure => simp [intOf]
            · obtain ⟨a, b, hS⟩ := sers5 HT.out
              obtain ⟨q1, q2, _⟩ := ar_some hS.quo
              obtain ⟨q3, q4, _⟩ := ar_some hS.mul
              obtain ⟨q5, q6, _⟩ := ar_some hS.add
              clear hS
              go_wp2
              go_round
              case rel => exact Or.inr (Or.inr (Or.inr (Or.inr (Or.inr (Or.inr (Or.inl ⟨rfl, rfl⟩))))))
              case measure => simp [intOf]
            · obtain ⟨a, b, hS⟩ := sers6 HT.out
              obtain ⟨q1, q2, _⟩ := ar_some hS.quo
              obtain ⟨q3, q4, _⟩ := ar_some hS.mul
              obtain ⟨q5, q6, _⟩ := ar_some hS.add
              clear hS
              go_wp2
              go_round
              case rel => exact Or.inr (Or.inr (Or.inr (Or.inr (Or.inr (Or.inr (Or.inr (Or.inl ⟨rfl, rfl⟩)))))))
              case measure => simp [intOf]
            · obtain ⟨a, b, hS⟩ := sers7 HT.out
              obtain ⟨q1, q2, _⟩ := ar_some hS.quo
              obtain ⟨q3, q4, _⟩ := ar_some hS.mul
              obtain ⟨q5, q6, _⟩ := ar_some hS.add
              clear hS
              go_wp2
              go_round
              case rel => exact Or.inr (Or.inr (Or.inr (Or.inr (Or.inr (Or.inr (Or.inr (Or.inr (Or.inl ⟨rfl, rfl⟩))))))))
              case measure => simp [intOf]
            · obtain ⟨a, b, hS⟩ := sers8 HT.out
              obtain ⟨q1, q2, _⟩ := ar_some hS.quo
              obtain ⟨q3, q4, _⟩ := ar_some hS.mul
              obtain ⟨q5, q6, _⟩ := ar_some hS.add
              clear hS
              go_wp2
              go_round
              case rel => exact Or.inr (Or.inr (Or.inr (Or.inr (Or.inr (Or.inr (Or.inr (Or.inr (Or.inr (Or.inl ⟨rfl, rfl⟩)))))))))
              case measure => simp [intOf]
            · obtain ⟨a, b, hS⟩ := sers9 HT.out
              obtain ⟨q1, q2, _⟩ := ar_some hS.quo
              obtain ⟨q3, q4, _⟩ := ar_some hS.mul
              obtain ⟨q5, q6, _⟩ := ar_some hS.add
              clear hS
              go_wp2
              go_round
              case rel => exact Or.inr (Or.inr (Or.inr (Or.inr (Or.inr (Or.inr (Or.inr (Or.inr (Or.inr (Or.inr (Or.inl ⟨rfl, rfl⟩))))))))))
              case measure => simp [intOf]
            · obtain ⟨a, b, hS⟩ := sers10 HT.out
              obtain ⟨q1, q2, _⟩ := ar_some hS.quo
              obtain ⟨q3, q4, _⟩ := ar_some hS.mul
              obtain ⟨q5, q6, _⟩ := ar_some hS.add
              clear hS
              go_wp2
              go_round
              case rel => exact Or.inr (Or.inr (Or.inr (Or.inr (Or.inr (Or.inr (Or.inr (Or.inr (Or.inr (Or.inr (Or.inr (Or.inl ⟨rfl, rfl⟩)))))))))))
              case measure => simp [intOf]
            · obtain ⟨a, b, hS⟩ := sers11 HT.out
              obtain ⟨q1, q2, _⟩ := ar_some hS.quo
              obtain ⟨q3, q4, _⟩ := ar_some hS.mul
              obtain ⟨q5, q6, _⟩ := ar_some hS.add
              clear hS
              go_wp2
              go_round
              case rel => exact Or.inr (Or.inr (Or.inr (Or.inr (Or.inr (Or.inr (Or.inr (Or.inr (Or.inr (Or.inr (Or.inr (Or.inr (Or.inl ⟨rfl, rfl⟩))))))))))))
              case measure => simp [intOf]
            · obtain ⟨a, b, hS⟩ := sers12 HT.out
              obtain ⟨q1, q2, _⟩ := ar_some hS.quo
              obtain ⟨q3, q4, _⟩ := ar_some hS.mul
              obtain ⟨q5, q6, _⟩ := ar_some hS.add
              clear hS
              go_wp2
              go_round
              case rel => exact Or.inr (Or.inr (Or.inr (Or.inr (Or.inr (Or.inr (Or.inr (Or.inr (Or.inr (Or.inr (Or.inr (Or.inr (Or.inr (⟨rfl, rfl⟩)))))))))))))
              case measure => simp [intOf]
            · clear HU HD
              obtain ⟨w1, w2, _⟩ := ar_some HT.out.mul
              obtain ⟨w3, w4, _⟩ := ar_some HT.out.two
              obtain ⟨w5, w6, _⟩ := ar_some HT.out.ln
              obtain ⟨w7, w8, _⟩ := ar_some HT.out.log
              go_wp2
              go_ret
              exact ⟨rfl, rfl⟩

set_option maxHeartbeats 2000000 in
theorem impl_Tenths_num {x y n1 n2 : Nat} {n : Int} {a b s u c d f l g h : Nat} (hx : fin .f32 x = true) (hx0 : (FloatKind.f32.format.order x 0 == some .lt || FloatKind.f32.format.order x 0 == some .eq) = false) (hwy : ∀ w, widV x w = y) (hwn : widN x = 0) (hU : UpOk y n1) (hn1 : n1 ≤ 200) (hD : DownOk (hH y n1) n2) (hn2 : n2 ≤ 200) (hT : TenOk (hK (hH y n1) n2) ((n1 : Int) - (n2 : Int)) n a b s u c d f l g h) (w : World) :
    Calls Try.prog 15 #[.float .f32 x] w (GivesIB w n true) := by
  have hi := fun w => impl_IsFinite x w
  rw [hx] at hi
  have HI := Lib.hid hi
  have HU := Lib.hid hU
  have HD := Lib.hid hD
  have HT := Lib.hid hT
  clear hU hD hT hx hi
  go_enter Try.func15, Try.ntmps15
  go_wp2_with (go_at_call 27; refine (HI.out _).mono ?_; rintro e w' ⟨rfl, n0, rfl⟩)
  clear hx0 hwy hwn
  go_loop [4, 5] (fun x e => ∃ i : Nat, i ≤ n1 ∧ e = .int .i64 i ∧ x = .float .f64 (hH y i)) (fun _ e => n1 - (intOf e).toNat)
  case atStart => exact ⟨0, Nat.zero_le _, rfl, rfl⟩
  case round =>
    obtain ⟨i, hi, rfl, rfl⟩ := hrel
    by_cases hlt : i < n1
    · obtain ⟨g1, g2⟩ := HU.out.step i hlt
      obtain ⟨m1, m2, _⟩ := ar_some g2
      clear g2
      go_wp2
      go_round
      case rel => exact ⟨i + 1, by omega, by go_num, rfl⟩
      case measure => simp [intOf]; omega
    · obtain rfl : i = n1 := by omega
      have g1 := HU.out.stop
      clear hlt hi
      go_wp2_with fail
      clear g1
      go_loop [4, 5] (fun x e => ∃ j : Nat, j ≤ n2 ∧ e = .int .i64 ((i : Int) - (j : Int)) ∧ x = .float .f64 (hK (hH y i) j)) (fun _ e => n2 - ((i : Int) - intOf e).toNat)
      case atStart => exact ⟨0, Nat.zero_le _, ret_sub0 _, rfl⟩
      case round =>
        obtain ⟨j, hj, rfl, rfl⟩ := hrel
        by_cases hlt : j < n2
        · obtain ⟨g1, g2⟩ := HD.out.step j hlt
          obtain ⟨m1, m2, _⟩ := ar_some g2
          clear g2
          go_wp2
          go_round
          case rel => exact ⟨j + 1, by omega, ret_sub1 _ _, rfl⟩
          case measure => simp [intOf]; omega
        · obtain rfl : j = n2 := by omega
          have g1 := HD.out.stop
          clear hlt hj
          obtain ⟨e1, e2, _⟩ := ar_some HT.out.sub
          obtain ⟨e3, e4, _⟩ := ar_some HT.out.add
          obtain ⟨e5, e6, _⟩ := ar_some HT.out.quo
          obtain ⟨e7, e8, _⟩ := ar_some HT.out.sq
          go_wp2_with fail
          clear e1 e2 e3 e4 e5 e6 e7 e8 g1
          go_loop [7, 9] (fun q k => (k = .int .i64 (25) ∧ q = .float .f64 (serP u 0)) ∨ (k = .int .i64 (23) ∧ q = .float .f64 (serP u 1)) ∨ (k = .int .i64 (21) ∧ q = .float .f64 (serP u 2)) ∨ (k = .int .i64 (19) ∧ q = .float .f64 (serP u 3)) ∨ (k = .int .i64 (17) ∧ q = .float .f64 (serP u 4)) ∨ (k = .int .i64 (15) ∧ q = .float .f64 (serP u 5)) ∨ (k = .int .i64 (13) ∧ q = .float .f64 (serP u 6)) ∨ (k = .int .i64 (11) ∧ q = .float .f64 (serP u 7)) ∨ (k = .int .i64 (9) ∧ q = .float .f64 (serP u 8)) ∨ (k = .int .i64 (7) ∧ q = .float .f64 (serP u 9)) ∨ (k = .int .i64 (5) ∧ q = .float .f64 (serP u 10)) ∨ (k = .int .i64 (3) ∧ q = .float .f64 (serP u 11)) ∨ (k = .int .i64 (1) ∧ q = .float .f64 (serP u 12)) ∨ (k = .int .i64 (-1) ∧ q = .float .f64 (serP u 13))) (fun _ k => (intOf k + 1).toNat)
          case atStart => exact Or.inl ⟨rfl, rfl⟩
          case round =>
            rcases hrel with ⟨rfl, rfl⟩ | ⟨rfl, rfl⟩ | ⟨rfl, rfl⟩ | ⟨rfl, rfl⟩ | ⟨rfl, rfl⟩ | ⟨rfl, rfl⟩ | ⟨rfl, rfl⟩ | ⟨rfl, rfl⟩ | ⟨rfl, rfl⟩ | ⟨rfl, rfl⟩ | ⟨rfl, rfl⟩ | ⟨rfl, rfl⟩ | ⟨rfl, rfl⟩ | ⟨rfl, rfl⟩
            · obtain ⟨a, b, hS⟩ := sers0 HT.out
              obtain ⟨q1, q2, _⟩ := ar_some hS.quo
              obtain ⟨q3, q4, _⟩ := ar_some hS.mul
              obtain ⟨q5, q6, _⟩ := ar_some hS.add
              clear hS
              go_wp2
              go_round
              case rel => exact Or.inr (Or.inl ⟨rfl, rfl⟩)
              case measure => simp [intOf]
            · obtain ⟨a, b, hS⟩ := sers1 HT.out
              obtain ⟨q1, q2, _⟩ := ar_some hS.quo
              obtain ⟨q3, q4, _⟩ := ar_some hS.mul
              obtain ⟨q5, q6, _⟩ := ar_some hS.add
              clear hS
              go_wp2
              go_round
              case rel => exact Or.inr (Or.inr (Or.inl ⟨rfl, rfl⟩))
              case measure => simp [intOf]
            · obtain ⟨a, b, hS⟩ := sers2 HT.out
              obtain ⟨q1, q2, _⟩ := ar_some hS.quo
              obtain ⟨q3, q4, _⟩ := ar_some hS.mul
              obtain ⟨q5, q6, _⟩ := ar_some hS.add
              clear hS
              go_wp2
              go_round
              case rel => exact Or.inr (Or.inr (Or.inr (Or.inl ⟨rfl, rfl⟩)))
              case measure => simp [intOf]
            · obtain ⟨a, b, hS⟩ := sers3 HT.out
              obtain ⟨q1, q2, _⟩ := ar_some hS.quo
              obtain ⟨q3, q4, _⟩ := ar_some hS.mul
              obtain ⟨q5, q6, _⟩ := ar_some hS.add
              clear hS
              go_wp2
              go_round
              case rel => exact Or.inr (Or.inr (Or.inr (Or.inr (Or.inl ⟨rfl, rfl⟩))))
              case measure => simp [intOf]
            · obtain ⟨a, b, hS⟩ := sers4 HT.out
              obtain ⟨q1, q2, _⟩ := ar_some hS.quo
              obtain ⟨q3, q4, _⟩ := ar_some hS.mul
              obtain ⟨q5, q6, _⟩ := ar_some hS.add
              clear hS
              go_wp2
              go_round
              case rel => exact Or.inr (Or.inr (Or.inr (Or.inr (Or.inr (Or.inl ⟨rfl, rfl⟩)))))
              case measure => simp [intOf]
            · obtain ⟨a, b, hS⟩ := sers5 HT.out
              obtain ⟨q1, q2, _⟩ := ar_some hS.quo
              obtain ⟨q3, q4, _⟩ := ar_some hS.mul
              obtain ⟨q5, q6, _⟩ := ar_some hS.add
              clear hS
              go_wp2
              go_round
              case rel => exact Or.inr (Or.inr (Or.inr (Or.inr (Or.inr (Or.inr (Or.inl ⟨rfl, rfl⟩))))))
              case measure => simp [intOf]
            · obtain ⟨a, b, hS⟩ := sers6 HT.out
              obtain ⟨q1, q2, _⟩ := ar_some hS.quo
              obtain ⟨q3, q4, _⟩ := ar_some hS.mul
              obtain ⟨q5, q6, _⟩ := ar_some hS.add
              clear hS
              go_wp2
              go_round
              case rel => exact Or.inr (Or.inr (Or.inr (Or.inr (Or.inr (Or.inr (Or.inr (Or.inl ⟨rfl, rfl⟩)))))))
              case measure => simp [intOf]
            · obtain ⟨a, b, hS⟩ := sers7 HT.out
              obtain ⟨q1, q2, _⟩ := ar_some hS.quo
              obtain ⟨q3, q4, _⟩ := ar_some hS.mul
              obtain ⟨q5, q6, _⟩ := ar_some hS.add
              clear hS
              go_wp2
              go_round
              case rel => exact Or.inr (Or.inr (Or.inr (Or.inr (Or.inr (Or.inr (Or.inr (Or.inr (Or.inl ⟨rfl, rfl⟩))))))))
              case measure => simp [intOf]
            · obtain ⟨a, b, hS⟩ := sers8 HT.out
              obtain ⟨q1, q2, _⟩ := ar_some hS.quo
              obtain ⟨q3, q4, _⟩ := ar_some hS.mul
              obtain ⟨q5, q6, _⟩ := ar_some hS.add
              clear hS
              go_wp2
              go_round
              case rel => exact Or.inr (Or.inr (Or.inr (Or.inr (Or.inr (Or.inr (Or.inr (Or.inr (Or.inr (Or.inl ⟨rfl, rfl⟩)))))))))
              case measure => simp [intOf]
            · obtain ⟨a, b, hS⟩ := sers9 HT.out
              obtain ⟨q1, q2, _⟩ := ar_some hS.quo
              obtain ⟨q3, q4, _⟩ := ar_some hS.mul
              obtain ⟨q5, q6, _⟩ := ar_some hS.add
              clear hS
              go_wp2
              go_round
              case rel => exact Or.inr (Or.inr (Or.inr (Or.inr (Or.inr (Or.inr (Or.inr (Or.inr (Or.inr (Or.inr (Or.inl ⟨rfl, rfl⟩))))))))))
              case measure => simp [intOf]
            · obtain ⟨a, b, hS⟩ := sers10 HT.out
              obtain ⟨q1, q2, _⟩ := ar_some hS.quo
              obtain ⟨q3, q4, _⟩ := ar_some hS.mul
              obtain ⟨q5, q6, _⟩ := ar_some hS.add
              clear hS
              go_wp2
              go_round
              case rel => exact Or.inr (Or.inr (Or.inr (Or.inr (Or.inr (Or.inr (Or.inr (Or.inr (Or.inr (Or.inr (Or.inr (Or.inl ⟨rfl, rfl⟩)))))))))))
              case measure => simp [intOf]
            · obtain ⟨a, b, hS⟩ := sers11 HT.out
              obtain ⟨q1, q2, _⟩ := ar_some hS.quo
              obtain ⟨q3, q4, _⟩ := ar_some hS.mul
              obtain ⟨q5, q6, _⟩ := ar_some hS.add
              clear hS
              go_wp2
              go_round
              case rel => exact Or.inr (Or.inr (Or.inr (Or.inr (Or.inr (Or.inr (Or.inr (Or.inr (Or.inr (Or.inr (Or.inr (Or.inr (Or.inl ⟨rfl, rfl⟩))))))))))))
              case measure => simp [intOf]
            · obtain ⟨a, b, hS⟩ := sers12 HT.out
              obtain ⟨q1, q2, _⟩ := ar_some hS.quo
              obtain ⟨q3, q4, _⟩ := ar_some hS.mul
              obtain ⟨q5, q6, _⟩ := ar_some hS.add
              clear hS
              go_wp2
              go_round
              case rel => exact Or.inr (Or.inr (Or.inr (Or.inr (Or.inr (Or.inr (Or.inr (Or.inr (Or.inr (Or.inr (Or.inr (Or.inr (Or.inr (⟨rfl, rfl⟩)))))))))))))
              case measure => simp [intOf]
            · clear HU HD
              obtain ⟨w1, w2, _⟩ := ar_some HT.out.mul
              obtain ⟨w3, w4, _⟩ := ar_some HT.out.two
              obtain ⟨w5, w6, _⟩ := ar_some HT.out.ln
              obtain ⟨w7, w8, _⟩ := ar_some HT.out.log
              obtain ⟨w9, w10, _⟩ := ar_some HT.out.ten
              obtain ⟨w11, w12, _⟩ := ar_some HT.out.half
              have hc : ∀ w, (convert 25 2 (.float .f64 (flo h))).run Try.prog w = .ok (.int .i64 n) w := fun w => conv_int w _ _ _ n (by rw [Try.underlying25]; rfl) Try.underlying2 HT.out.conv
              go_wp2_with (go_at_call 35; refine (floor_any HT.out.isfin _).mono ?_; rintro e w' ⟨rfl, rfl⟩)
              go_ret2
              exact ret_ib _

theorem spec_Tenths_num {x y n1 n2 : Nat} {n : Int} {a b s u c d f l g h : Nat} (hx : fin .f32 x = true) (hx0 : (FloatKind.f32.format.order x 0 == some .lt || FloatKind.f32.format.order x 0 == some .eq) = false) (hwy : ∀ w, widV x w = y) (hwn : widN x = 0) (hy : fin .f64 y = true) (hy0 : 0 < val .f64 y) (hy1 : val .f64 y < p2 1000) (hU : UpOk y n1) (hn1 : n1 ≤ 200) (hD : DownOk (hH y n1) n2) (hn2 : n2 ≤ 200) (hT : TenOk (hK (hH y n1) n2) ((n1 : Int) - (n2 : Int)) n a b s u c d f l g h) (w : World) :
    Calls Try.prog 14 #[.float .f32 x] w (GivesIB w n true) := by
  have hi := fun w => spec_l01Finite x w
  rw [hx] at hi
  have HI := Lib.hid hi
  have HL := Lib.hid (fun w => spec_LogWide hU hn1 hD hn2 hT hy hy0 hy1 w)
  obtain ⟨w9, w10, _⟩ := ar_some hT.ten
  obtain ⟨w11, w12, _⟩ := ar_some hT.half
  have hc : ∀ w, (convert 25 2 (.float .f64 (flo h))).run Try.prog w = .ok (.int .i64 n) w := fun w => conv_int w _ _ _ n (by rw [Try.underlying25]; rfl) Try.underlying2 hT.conv
  have HT := Lib.hid hT
  clear hU hD hT hx hi hy hy0 hy1 hn1 hn2
  go_enter Try.func14, Try.ntmps14
  go_wp2_with (first | (go_at_call 33; refine (HI.out _).mono ?_; rintro e w' ⟨rfl, n0, rfl⟩) | (go_at_call 34; go_in) | (go_at_call 47; refine (HL.out _).mono ?_; rintro e w' ⟨rfl, rfl⟩) | (go_at_call 35; refine (floor_any HT.out.isfin _).mono ?_; rintro e w' ⟨rfl, rfl⟩))
  go_ret2
  exact ret_ib _

theorem spec_Tenths_nofin {x : Nat} (hx : fin .f32 x = false) (w : World) : Calls Try.prog 14 #[.float .f32 x] w (GivesIB w 0 false) := by
  have hi := fun w => spec_l01Finite x w
  rw [hx] at hi
  have HI := Lib.hid hi
  clear hx hi
  go_enter Try.func14, Try.ntmps14
  go_wp2_with (go_at_call 33; refine (HI.out _).mono ?_; rintro e w' ⟨rfl, n0, rfl⟩)
  go_ret2
  exact ret_ib _
theorem impl_Tenths_nofin {x : Nat} (hx : fin .f32 x = false) (w : World) : Calls Try.prog 15 #[.float .f32 x] w (GivesIB w 0 false) := by
  have hi := fun w => impl_IsFinite x w
  rw [hx] at hi
  have HI := Lib.hid hi
  clear hx hi
  go_enter Try.func15, Try.ntmps15
  go_wp2_with (go_at_call 27; refine (HI.out _).mono ?_; rintro e w' ⟨rfl, n0, rfl⟩)
  go_ret2
  exact ret_ib _
theorem spec_Tenths_neg {x : Nat} (hx : fin .f32 x = true) (hx0 : (FloatKind.f32.format.order x 0 == some .lt || FloatKind.f32.format.order x 0 == some .eq) = true) (w : World) : Calls Try.prog 14 #[.float .f32 x] w (GivesIB w 0 false) := by
  have hi := fun w => spec_l01Finite x w
  rw [hx] at hi
  have HI := Lib.hid hi
  clear hx hi
  go_enter Try.func14, Try.ntmps14
  go_wp2_with (go_at_call 33; refine (HI.out _).mono ?_; rintro e w' ⟨rfl, n0, rfl⟩)
  go_ret2
  exact ret_ib _
theorem impl_Tenths_neg {x : Nat} (hx : fin .f32 x = true) (hx0 : (FloatKind.f32.format.order x 0 == some .lt || FloatKind.f32.format.order x 0 == some .eq) = true) (w : World) : Calls Try.prog 15 #[.float .f32 x] w (GivesIB w 0 false) := by
  have hi := fun w => impl_IsFinite x w
  rw [hx] at hi
  have HI := Lib.hid hi
  clear hx hi
  go_enter Try.func15, Try.ntmps15
  go_wp2_with (go_at_call 27; refine (HI.out _).mono ?_; rintro e w' ⟨rfl, n0, rfl⟩)
  go_ret2
  exact ret_ib _

theorem pos32 {x : Nat} (hx : fin .f32 x = true) (h : (FloatKind.f32.format.order x 0 == some .lt || FloatKind.f32.format.order x 0 == some .eq) = false) : p2 (-149) ≤ val .f32 x := by
  have h0 : fin .f32 0 = true := by decide
  have hv0 : val .f32 0 = 0 := by
    have : FloatKind.f32.decode 0 = .number false 0 (-149) := by decide
    rw [val_of this, mv_zero]; rfl
  rw [order_num hx h0, hv0] at h
  have hp : 0 < val .f32 x := by
    apply Rat.not_le.1
    intro hle
    by_cases h1 : val .f32 x < 0
    · simp [h1] at h
    · have h2 : val .f32 x = 0 := by grind
      simp [h2] at h
  obtain ⟨s, m, e, hd, hv, _, he, _⟩ := fin_form hx
  rw [hv] at hp ⊢
  have hm0 := mv_nonneg m e
  cases s
  · have hm : m ≠ 0 := by
      rintro rfl
      rw [mv_zero] at hp
      simp [sv] at hp
    have he' : -149 ≤ e := he
    have h1 : mv 1 e ≤ mv m e := mv_le (Nat.pos_of_ne_zero hm)
    have h2 : mv 1 e = p2 e := by simp [mv]
    have h3 : p2 (-149) ≤ p2 e := p2_le he'
    rw [h2] at h1
    show p2 (-149) ≤ mv m e
    exact Rat.le_trans h3 h1
  · exfalso
    simp only [sv, if_true] at hp
    grind
theorem tenths_same (x : Nat) : ∃ n b, (∀ w, Calls Try.prog 14 #[.float .f32 x] w (GivesIB w n b)) ∧ (∀ w, Calls Try.prog 15 #[.float .f32 x] w (GivesIB w n b)) := by
  cases hx : fin .f32 x
  · exact ⟨_, _, fun w => spec_Tenths_nofin hx w, fun w => impl_Tenths_nofin hx w⟩
  · cases h0 : (FloatKind.f32.format.order x 0 == some .lt || FloatKind.f32.format.order x 0 == some .eq)
    · have hp := pos32 hx h0
      obtain ⟨w1, w2⟩ := wid_num hx
      obtain ⟨q1, q2⟩ := widV_fin hx
      have ht := (val_top hx).2
      rw [top32, ← w2] at ht
      rw [← w2] at hp
      have hpp := p2_pos (-149)
      have e128 : p2 ((128 : Nat) : Int) = p2 128 := rfl
      obtain ⟨n1, hn1, hU⟩ := up_ok 128 (wid x) (by decide) w1 (by grind) (by rw [e128]; grind)
      have hlo : p2 (-149) ≤ val .f64 (hH (wid x) n1) := by
        rcases hU.lo with ⟨_, h⟩ | h
        · rw [h]; exact hp
        · have h3 : p2 (-149) ≤ p2 (-2) := p2_le (by decide)
          rw [p2_m2] at h3
          grind
      have hhi := hU.hi
      obtain ⟨n2, hn2, hD⟩ := down_ok 149 _ (by decide) hU.isfin hlo (by grind)
      obtain ⟨n, a, b, s, u, c, d, f, l, g, h, hT⟩ := ten_ok hD.isfin hD.lo hD.hi ((n1 : Int) - (n2 : Int)) (by omega)
      have h1000 : p2 128 ≤ p2 1000 := p2_le (by decide)
      exact ⟨n, true, fun w => spec_Tenths_num hx h0 q1 q2 w1 (by grind) (by grind) hU (by omega) hD (by omega) hT w, fun w => impl_Tenths_num hx h0 q1 q2 hU (by omega) hD (by omega) hT w⟩
    · exact ⟨_, _, fun w => spec_Tenths_neg hx h0 w, fun w => impl_Tenths_neg hx h0 w⟩
theorem walk_FnExactTenthsOf (x : Nat) (_ : (Lit.float .f32 x).wf = true) (w : World) : Calls Try.prog 5 #[.float .f32 x] w fun e w' => e = .returned (.bool true) ∧ Grown w w' := by
  obtain ⟨n, b, h1, h2⟩ := tenths_same x
  have H1 := Lib.hid h1
  have H2 := Lib.hid h2
  clear h1 h2
  go_enter Try.func5, Try.ntmps5
  go_wp2_with (first | (go_at_call 14; refine (H1.out _).mono ?_; rintro e w' ⟨rfl, n1, rfl⟩) | (go_at_call 15; refine (H2.out _).mono ?_; rintro e w' ⟨rfl, n2, rfl⟩))
  go_ret
  exact ⟨rfl, grown_drewN _ _⟩
end Go.Proofs.Ytdlaafeagcbpaaa
