/-
  Floating-point operations of the model, with their draws from the tape, as plain functions of the operands' bits and of the world; the relation 'the same number, or both not-a-numbers'; how each operation keeps it.
-/
import Derived.WalkKit
import Derived.WalkLawsBesides
import Derived.Deep.Draws
import Derived.KernelRfl
namespace Go.Proofs.Ytlolmopfeglifaa
open Go

/-- is it a not-a-number? -/
def isN (k : FloatKind) (b : Nat) : Bool := (k.decode b).isNaN
/-- the same bits, or both not-a-numbers. -/
def FEq (k : FloatKind) (a b : Nat) : Prop := a = b ∨ (isN k a = true ∧ isN k b = true)
theorem FEq.refl (k : FloatKind) (a : Nat) : FEq k a a := Or.inl rfl
theorem FEq.symm {k : FloatKind} {a b : Nat} (h : FEq k a b) : FEq k b a := by
  rcases h with rfl | ⟨h1, h2⟩
  · exact Or.inl rfl
  · exact Or.inr ⟨h2, h1⟩
theorem FEq.trans {k : FloatKind} {a b c : Nat} (h : FEq k a b) (g : FEq k b c) : FEq k a c := by
  rcases h with rfl | ⟨h1, h2⟩
  · exact g
  · rcases g with rfl | ⟨g1, g2⟩
    · exact Or.inr ⟨h1, h2⟩
    · exact Or.inr ⟨h1, g2⟩
theorem FEq.nan {k : FloatKind} {a b : Nat} (h : FEq k a b) : isN k a = isN k b := by
  rcases h with rfl | ⟨h1, h2⟩
  · rfl
  · rw [h1, h2]
theorem FEq.eq {k : FloatKind} {a b : Nat} (h : FEq k a b) (hn : isN k a = false) : a = b := by
  rcases h with rfl | ⟨h1, _⟩
  · rfl
  · rw [hn] at h1; cases h1
theorem FEq.of_nan {k : FloatKind} {a b : Nat} (ha : isN k a = true) (hb : isN k b = true) : FEq k a b := Or.inr ⟨ha, hb⟩

/-- what the tape answers. -/
def ask (q : Question) (w : World) : Nat := q.cut (w.tape w.drawn q)

theorem read_nan32 (s r : Nat) (_hs : s < 2) (hr : r < 8388607) : isN .f32 (s * 2147483648 + 2139095040 + 1 + r) = true := by
  have e1 : (s * 2147483648 + 2139095040 + 1 + r) % 2147483648 = 2139095041 + r := by omega
  unfold isN FloatKind.decode Ieee.Format.read
  simp only [FloatKind.format, Ieee.single, Ieee.Format.signWeight, Ieee.Format.binade, Ieee.Format.infRung]
  simp only [show (2 : Nat) ^ (8 + 23) = 2147483648 from rfl, show (2 : Nat) ^ 23 = 8388608 from rfl, show ((2 : Nat) ^ 8 - 1) * 8388608 = 2139095040 from rfl, e1]
  rw [if_neg (by omega), if_neg (by omega), if_neg (by omega)]
  rfl

theorem read_nan64 (s r : Nat) (_hs : s < 2) (hr : r < 4503599627370495) : isN .f64 (s * 9223372036854775808 + 9218868437227405312 + 1 + r) = true := by
  have e1 : (s * 9223372036854775808 + 9218868437227405312 + 1 + r) % 9223372036854775808 = 9218868437227405313 + r := by omega
  unfold isN FloatKind.decode Ieee.Format.read
  simp only [FloatKind.format, Ieee.double, Ieee.Format.signWeight, Ieee.Format.binade, Ieee.Format.infRung]
  simp only [show (2 : Nat) ^ (11 + 52) = 9223372036854775808 from rfl, show (2 : Nat) ^ 52 = 4503599627370496 from rfl, show ((2 : Nat) ^ 11 - 1) * 4503599627370496 = 9218868437227405312 from rfl, e1]
  rw [if_neg (by omega), if_neg (by omega), if_neg (by omega)]
  rfl

theorem nan_ask (k : FloatKind) (x y : Nat) (w : World) : isN k (ask (.nanBits k x y) w) = true := by
  unfold ask
  generalize w.tape w.drawn (.nanBits k x y) = t
  cases k
  · exact read_nan32 (t % 2) ((t / 2) % (2 ^ 23 - 1)) (by omega) (by omega)
  · exact read_nan64 (t % 2) ((t / 2) % (2 ^ 52 - 1)) (by omega) (by omega)
theorem nan_askConv (k : FloatKind) (x : Nat) (w : World) : isN k (ask (.nanConv k x) w) = true := by
  unfold ask
  generalize w.tape w.drawn (.nanConv k x) = t
  cases k
  · exact read_nan32 (t % 2) ((t / 2) % (2 ^ 23 - 1)) (by omega) (by omega)
  · exact read_nan64 (t % 2) ((t / 2) % (2 ^ 52 - 1)) (by omega) (by omega)

/-- the not-a-number that stands for all. -/
def qn : FloatKind → Nat
  | .f32 => 2143289344
  | .f64 => 9221120237041090560
theorem nan_qn (k : FloatKind) : isN k (qn k) = true := by cases k <;> rfl

-- + - * /
def ar (op : BinOp) (k : FloatKind) (x y : Nat) (w : World) : Nat :=
  match floatBits op k x y with
  | some r => r
  | none => ask (.nanBits k x y) w
def arN (op : BinOp) (k : FloatKind) (x y : Nat) : Nat :=
  match floatBits op k x y with
  | some _ => 0
  | none => 1
/-- the operation, a not-a-number where it is invalid. -/
def pa (op : BinOp) (k : FloatKind) (x y : Nat) : Nat := (floatBits op k x y).getD (qn k)

section
variable {P : Program} (w : World)
theorem run_ar (op : BinOp) (hop : op = .add ∨ op = .sub ∨ op = .mul ∨ op = .quo) (t : TypeId) (k : FloatKind) (x y : Nat) :
    (binOp op t (.float k x) (.float k y)).run P w = .ok (.float k (ar op k x y w)) (w.drewN (arN op k x y)) := by
  unfold ar arN
  cases h : floatBits op k x y with
  | some r => rw [run_float_arith w op t k x y r h]; simp [World.drewN_zero]
  | none =>
    unfold floatBits at h
    rcases hop with rfl | rfl | rfl | rfl <;> (simp only at h; simp [binOp, Op.floatArith, h, ask, Question.forced, World.drew_is_drewN])
@[go_sem] theorem run_ar_add (t : TypeId) (k : FloatKind) (x y : Nat) : (binOp .add t (.float k x) (.float k y)).run P w = .ok (.float k (ar .add k x y w)) (w.drewN (arN .add k x y)) := run_ar w .add (by simp) t k x y
@[go_sem] theorem run_ar_sub (t : TypeId) (k : FloatKind) (x y : Nat) : (binOp .sub t (.float k x) (.float k y)).run P w = .ok (.float k (ar .sub k x y w)) (w.drewN (arN .sub k x y)) := run_ar w .sub (by simp) t k x y
@[go_sem] theorem run_ar_mul (t : TypeId) (k : FloatKind) (x y : Nat) : (binOp .mul t (.float k x) (.float k y)).run P w = .ok (.float k (ar .mul k x y w)) (w.drewN (arN .mul k x y)) := run_ar w .mul (by simp) t k x y
@[go_sem] theorem run_ar_quo (t : TypeId) (k : FloatKind) (x y : Nat) : (binOp .quo t (.float k x) (.float k y)).run P w = .ok (.float k (ar .quo k x y w)) (w.drewN (arN .quo k x y)) := run_ar w .quo (by simp) t k x y
end

theorem nan_read {k : FloatKind} {x : Nat} (h : isN k x = true) : ∃ s t, k.format.read x = .nan s t := by
  unfold isN FloatKind.decode at h
  cases hd : k.format.read x with
  | nan s t => exact ⟨s, t, rfl⟩
  | number _ _ _ => rw [hd] at h; cases h
  | infinity _ => rw [hd] at h; cases h

theorem bits_nan_left (op : BinOp) {k : FloatKind} {x : Nat} (y : Nat) (h : isN k x = true) : floatBits op k x y = none := by
  obtain ⟨s, t, h⟩ := nan_read h
  unfold floatBits Ieee.Format.add Ieee.Format.sub Ieee.Format.mul Ieee.Format.div
  cases op <;> simp [h, Ieee.Datum.sum, Ieee.Datum.product, Ieee.Datum.quotient]
theorem bits_nan_right (op : BinOp) {k : FloatKind} (x : Nat) {y : Nat} (h : isN k y = true) : floatBits op k x y = none := by
  obtain ⟨s, t, h⟩ := nan_read h
  unfold floatBits Ieee.Format.add Ieee.Format.sub Ieee.Format.mul Ieee.Format.div
  cases op <;> simp [h, Ieee.Datum.opposite] <;> cases k.format.read x <;> simp [Ieee.Datum.sum, Ieee.Datum.product, Ieee.Datum.quotient]

/-- what the model computes is the same as the plain function says. -/
theorem ar_same (op : BinOp) {k : FloatKind} {x y x' y' : Nat} (w : World) (hx : FEq k x x') (hy : FEq k y y') : FEq k (ar op k x y w) (pa op k x' y') := by
  by_cases hn : isN k x = true
  · have e1 := bits_nan_left op y hn
    have e2 := bits_nan_left op y' (hx.nan ▸ hn)
    unfold ar pa
    rw [e1, e2]
    exact FEq.of_nan (nan_ask k x y w) (nan_qn k)
  · obtain rfl := hx.eq (by simpa using hn)
    by_cases hm : isN k y = true
    · have e1 := bits_nan_right op x hm
      have e2 := bits_nan_right op x (hy.nan ▸ hm)
      unfold ar pa
      rw [e1, e2]
      exact FEq.of_nan (nan_ask k x y w) (nan_qn k)
    · obtain rfl := hy.eq (by simpa using hm)
      unfold ar pa
      cases h : floatBits op k x y with
      | some r => exact FEq.refl _ _
      | none => exact FEq.of_nan (nan_ask k x y w) (nan_qn k)

theorem pa_same (op : BinOp) {k : FloatKind} {x y x' y' : Nat} (hx : FEq k x x') (hy : FEq k y y') : FEq k (pa op k x y) (pa op k x' y') := by
  by_cases hn : isN k x = true
  · unfold pa
    rw [bits_nan_left op y hn, bits_nan_left op y' (hx.nan ▸ hn)]
    exact FEq.refl _ _
  · obtain rfl := hx.eq (by simpa using hn)
    by_cases hm : isN k y = true
    · unfold pa
      rw [bits_nan_right op x hm, bits_nan_right op x (hy.nan ▸ hm)]
      exact FEq.refl _ _
    · obtain rfl := hy.eq (by simpa using hm)
      exact FEq.refl _ _

-- comparisons
theorem order_nan_left {k : FloatKind} {x : Nat} (y : Nat) (h : isN k x = true) : k.format.order x y = none := by
  obtain ⟨s, t, h⟩ := nan_read h
  simp [Ieee.Format.order, h, Ieee.Datum.order]
theorem order_nan_right {k : FloatKind} (x : Nat) {y : Nat} (h : isN k y = true) : k.format.order x y = none := by
  obtain ⟨s, t, h⟩ := nan_read h
  simp only [Ieee.Format.order, h]
  cases k.format.read x <;> rfl
theorem order_same {k : FloatKind} {x y x' y' : Nat} (hx : FEq k x x') (hy : FEq k y y') : k.format.order x y = k.format.order x' y' := by
  by_cases hn : isN k x = true
  · rw [order_nan_left y hn, order_nan_left y' (hx.nan ▸ hn)]
  · obtain rfl := hx.eq (by simpa using hn)
    by_cases hm : isN k y = true
    · rw [order_nan_right x hm, order_nan_right x (hy.nan ▸ hm)]
    · obtain rfl := hy.eq (by simpa using hm)
      rfl
theorem order_self (k : FloatKind) (x : Nat) : k.format.order x x = if isN k x then none else some .eq := by
  unfold isN FloatKind.decode Ieee.Format.order
  cases k.format.read x with
  | nan s t => rfl
  | infinity s => cases s <;> rfl
  | number s m e => simp [Ieee.Datum.order, Ieee.Datum.isNaN]

-- float32 to float64
def widV (x : Nat) (w : World) : Nat :=
  match FloatKind.f32.decode x with
  | .nan _ _ => ask (.nanConv .f64 x) w
  | d => FloatKind.f64.encode d
def widN (x : Nat) : Nat :=
  match FloatKind.f32.decode x with
  | .nan _ _ => 1
  | _ => 0
def wid (x : Nat) : Nat :=
  match FloatKind.f32.decode x with
  | .nan _ _ => qn .f64
  | d => FloatKind.f64.encode d
-- float64 to float32
def ovf (x : Nat) : Bool :=
  match FloatKind.f64.decode x with
  | .number s m e => (FloatKind.f32.decode (FloatKind.f32.encode (.number s m e))).isInfinity
  | _ => false
def narV (x : Nat) (w : World) : Nat :=
  match FloatKind.f64.decode x with
  | .nan _ _ => ask (.nanConv .f32 x) w
  | d => if ovf x then ask (.floatToFloat x) w else FloatKind.f32.encode d
def narN (x : Nat) : Nat :=
  match FloatKind.f64.decode x with
  | .nan _ _ => 1
  | _ => if ovf x then 1 else 0
def nar (x : Nat) : Nat :=
  match FloatKind.f64.decode x with
  | .nan _ _ => qn .f32
  | d => FloatKind.f32.encode d

theorem widV_same {x x' : Nat} (w : World) (h : FEq .f32 x x') : FEq .f64 (widV x w) (wid x') := by
  by_cases hn : isN .f32 x = true
  · obtain ⟨s, t, e1⟩ := nan_read hn
    obtain ⟨s', t', e2⟩ := nan_read (h.nan ▸ hn)
    have e1' : FloatKind.f32.decode x = .nan s t := e1
    have e2' : FloatKind.f32.decode x' = .nan s' t' := e2
    unfold widV wid
    rw [e1', e2']
    exact FEq.of_nan (nan_askConv _ _ _) (nan_qn _)
  · obtain rfl := h.eq (by simpa using hn)
    unfold widV wid
    cases hd : FloatKind.f32.decode x with
    | nan s t => simp [isN, hd, Ieee.Datum.isNaN] at hn
    | number _ _ _ => exact FEq.refl _ _
    | infinity _ => exact FEq.refl _ _
theorem wid_same {x x' : Nat} (h : FEq .f32 x x') : wid x = wid x' := by
  by_cases hn : isN .f32 x = true
  · obtain ⟨s, t, e1⟩ := nan_read hn
    obtain ⟨s', t', e2⟩ := nan_read (h.nan ▸ hn)
    have e1' : FloatKind.f32.decode x = .nan s t := e1
    have e2' : FloatKind.f32.decode x' = .nan s' t' := e2
    unfold wid
    rw [e1', e2']
  · obtain rfl := h.eq (by simpa using hn)
    rfl
theorem narV_same {x x' : Nat} (w : World) (h : FEq .f64 x x') (ho : ovf x' = false) : FEq .f32 (narV x w) (nar x') := by
  by_cases hn : isN .f64 x = true
  · obtain ⟨s, t, e1⟩ := nan_read hn
    obtain ⟨s', t', e2⟩ := nan_read (h.nan ▸ hn)
    have e1' : FloatKind.f64.decode x = .nan s t := e1
    have e2' : FloatKind.f64.decode x' = .nan s' t' := e2
    unfold narV nar
    rw [e1', e2']
    exact FEq.of_nan (nan_askConv _ _ _) (nan_qn _)
  · obtain rfl := h.eq (by simpa using hn)
    have key : ∀ d : Ieee.Datum, d.isNaN = false → (match d with | .nan _ _ => ask (.nanConv .f32 x) w | d => if ovf x then ask (.floatToFloat x) w else FloatKind.f32.encode d)
        = (match d with | .nan _ _ => qn .f32 | d => FloatKind.f32.encode d) := by
      intro d hd
      rw [ho]
      cases d with
      | nan s t => cases hd
      | number _ _ _ => simp only [Bool.false_eq_true, if_false]
      | infinity _ => simp only [Bool.false_eq_true, if_false]
    left
    exact key _ (by simpa [isN] using hn)

section
variable {P : Program} (w : World)
theorem run_narrow0 (x : Nat) : (Conv.floatToFloat .f64 x .f32).run P w = .ok (.float .f32 (narV x w)) (w.drewN (narN x)) := by
  have hne : ¬ FloatKind.f64 = FloatKind.f32 := by decide
  unfold Conv.floatToFloat narV narN ovf
  rw [if_neg hne]
  cases FloatKind.f64.decode x with
  | nan s t => simp [ask, Question.forced, World.drew_is_drewN]
  | infinity s => simp [World.drewN_zero]
  | number s m e =>
    dsimp only
    by_cases ho : (FloatKind.f32.decode (FloatKind.f32.encode (.number s m e))).isInfinity = true
    · simp only [if_pos ho]
      simp [ask, Question.forced, World.drew_is_drewN]
    · simp only [if_neg ho]
      simp [World.drewN_zero]
@[go_sem] theorem run_narrow (src dst : TypeId) (x : Nat) (hs : (P.underlying src).isSome = true) (hd : P.underlying dst = some (.float .f32)) :
    (convert src dst (.float .f64 x)).run P w = .ok (.float .f32 (narV x w)) (w.drewN (narN x)) := by
  obtain ⟨u, hs'⟩ := Option.isSome_iff_exists.1 hs
  rw [← run_narrow0 (P := P) w x]
  cases u <;> simp [convert, run_underlying hs', run_underlying hd]
end
end Go.Proofs.Ytlolmopfeglifaa
