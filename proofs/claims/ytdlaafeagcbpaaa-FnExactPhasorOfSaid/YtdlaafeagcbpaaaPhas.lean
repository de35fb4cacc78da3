/-
  The walks of PhasorOf (program and reference) and of its law.
-/
import Derived.Test.YtdlaafeagcbpaaaSineT
namespace Go.Proofs.Ytdlaafeagcbpaaa
open Go Go.RowKit Ieee

-- quarters
def qG (f : Nat) : Nat → Nat
  | 0 => f
  | i + 1 => pa .sub .f64 (qG f i) cQuart
structure QuartOk (f q : Nat) : Prop where
  le : q ≤ 4
  step : ∀ i, i < q → (FloatKind.f64.format.order (qG f i) cQuart == some .gt || FloatKind.f64.format.order (qG f i) cQuart == some .eq) = true ∧ floatBits .sub .f64 (qG f i) cQuart = some (qG f (i + 1))
  stop : (FloatKind.f64.format.order (qG f q) cQuart == some .gt || FloatKind.f64.format.order (qG f q) cQuart == some .eq) = false
  isfin : fin .f64 (qG f q) = true
  lo : 0 ≤ val .f64 (qG f q)
  hi : val .f64 (qG f q) < 1 / 4
theorem rep_34 : Rep .f64 (3 / 4) := ⟨3, -2, by decide, by decide, Or.inl (by unfold mv; rw [p2_m2]; grind)⟩
theorem rep_24 : Rep .f64 (2 / 4) := by
  have : (2 / 4 : Rat) = 1 / 2 := by grind
  rw [this]; exact rep_half
theorem quart_one {f : Nat} {M : Rat} (hf : fin .f64 f = true) (_ : 0 ≤ val .f64 f) (h1 : val .f64 f ≤ M + 1 / 4) (hM : Rep .f64 M) (hM1 : M ≤ 3 / 4) :
    (FloatKind.f64.format.order f cQuart == some .gt || FloatKind.f64.format.order f cQuart == some .eq) = false ∧ val .f64 f < 1 / 4 ∨
    (FloatKind.f64.format.order f cQuart == some .gt || FloatKind.f64.format.order f cQuart == some .eq) = true ∧ ∃ g, floatBits .sub .f64 f cQuart = some g ∧ fin .f64 g = true ∧ 0 ≤ val .f64 g ∧ val .f64 g ≤ M := by
  have hg := geq_num hf fin_quart
  rw [val_quart] at hg
  by_cases hh : (1 / 4 : Rat) ≤ val .f64 f
  · right
    refine ⟨by rw [hg]; simpa using hh, ?_⟩
    obtain ⟨g, hs, hR, _, _⟩ := sub_b hf fin_quart 0 (by decide) (by decide) (by rw [val_quart, p2_zero]; grind) (by rw [val_quart, p2_zero]; grind)
    exact ⟨g, hs, hR.1, hR.2.2 0 (rep_zero _) (by rw [val_quart]; grind), hR.2.1 M hM (by rw [val_quart]; grind)⟩
  · left
    exact ⟨by rw [hg]; simpa using hh, Rat.not_le.1 hh⟩
theorem quart_ok {f : Nat} (hf : fin .f64 f = true) (h0 : 0 ≤ val .f64 f) (h1 : val .f64 f ≤ 1) : ∃ q, QuartOk f q := by
  rcases quart_one (M := 3 / 4) hf h0 (by grind) rep_34 (by grind) with ⟨a, b⟩ | ⟨a, g1, b1, c1, d1, e1⟩
  · exact ⟨0, by decide, fun i hi => absurd hi (by omega), a, hf, h0, b⟩
  have s1 : qG f 1 = g1 := (ar_some b1).2.2
  rcases quart_one (M := 2 / 4) c1 d1 (by grind) rep_24 (by grind) with ⟨a2, b2⟩ | ⟨a2, g2, b2, c2, d2, e2⟩
  · refine ⟨1, by decide, fun i hi => ?_, by rw [s1]; exact a2, by rw [s1]; exact c1, by rw [s1]; exact d1, by rw [s1]; exact b2⟩
    obtain rfl : i = 0 := by omega
    exact ⟨a, by rw [s1]; exact b1⟩
  have s2 : qG f 2 = g2 := by show pa .sub .f64 (qG f 1) cQuart = g2; rw [s1]; exact (ar_some b2).2.2
  rcases quart_one (M := 1 / 4) c2 d2 (by grind) rep_quart (by grind) with ⟨a3, b3⟩ | ⟨a3, g3, b3, c3, d3, e3⟩
  · refine ⟨2, by decide, fun i hi => ?_, by rw [s2]; exact a3, by rw [s2]; exact c2, by rw [s2]; exact d2, by rw [s2]; exact b3⟩
    have : i = 0 ∨ i = 1 := by omega
    rcases this with rfl | rfl
    · exact ⟨a, by rw [s1]; exact b1⟩
    · rw [s1]; exact ⟨a2, by rw [s2]; exact b2⟩
  have s3 : qG f 3 = g3 := by show pa .sub .f64 (qG f 2) cQuart = g3; rw [s2]; exact (ar_some b3).2.2
  rcases quart_one (M := 0) c3 d3 (by grind) (rep_zero _) (by grind) with ⟨a4, b4⟩ | ⟨a4, g4, b4, c4, d4, e4⟩
  · refine ⟨3, by decide, fun i hi => ?_, by rw [s3]; exact a4, by rw [s3]; exact c3, by rw [s3]; exact d3, by rw [s3]; exact b4⟩
    have : i = 0 ∨ i = 1 ∨ i = 2 := by omega
    rcases this with rfl | rfl | rfl
    · exact ⟨a, by rw [s1]; exact b1⟩
    · rw [s1]; exact ⟨a2, by rw [s2]; exact b2⟩
    · rw [s2]; exact ⟨a3, by rw [s3]; exact b3⟩
  have s4 : qG f 4 = g4 := by show pa .sub .f64 (qG f 3) cQuart = g4; rw [s3]; exact (ar_some b4).2.2
  have hstop : (FloatKind.f64.format.order g4 cQuart == some .gt || FloatKind.f64.format.order g4 cQuart == some .eq) = false := by
    rw [geq_num c4 fin_quart, val_quart]
    have : ¬ (1 / 4 : Rat) ≤ val .f64 g4 := by grind
    simpa using this
  refine ⟨4, by decide, fun i hi => ?_, by rw [s4]; exact hstop, by rw [s4]; exact c4, by rw [s4]; exact d4, by rw [s4]; grind⟩
  have : i = 0 ∨ i = 1 ∨ i = 2 ∨ i = 3 := by omega
  rcases this with rfl | rfl | rfl | rfl
  · exact ⟨a, by rw [s1]; exact b1⟩
  · rw [s1]; exact ⟨a2, by rw [s2]; exact b2⟩
  · rw [s2]; exact ⟨a3, by rw [s3]; exact b3⟩
  · rw [s3]; exact ⟨a4, by rw [s4]; exact b4⟩

/-- the sine of a number from 0 to 1/4. -/
structure SinOk (f v : Nat) : Prop where
  impl : ∀ w, Calls Try.prog 30 #[.float .f64 f] w (GivesX .f64 w v)
  spec : ∀ w, Calls Try.prog 44 #[.float .f64 f] w (GivesX .f64 w v)
  isfin : fin .f64 v = true
  lo : -p2 9 ≤ val .f64 v
  hi : val .f64 v ≤ p2 9
theorem sin_ok {f : Nat} (hf : fin .f64 f = true) (h0 : 0 ≤ val .f64 f) (h1 : val .f64 f ≤ 1) : ∃ v, SinOk f v := by
  have hb : 1 < p2 52 := by
    have h3 : p2 1 ≤ p2 52 := p2_le (by decide)
    rw [p2_one] at h3
    grind
  have a1 : val .f64 f < p2 52 := by grind
  have a2 : -p2 52 < val .f64 f := by grind
  obtain ⟨n, f0, f1, hP⟩ := part_ok hf a2 a1
  obtain ⟨f2, f3, t, hF⟩ := fold_ok hP.isfin hP.lo hP.hi
  obtain ⟨z, u, r, hE⟩ := end_ok hF.isfin hF.lo hF.hi
  have e1 := hE.lo
  have e2 := hE.hi
  refine ⟨sineOf t r, fun w => impl_sine hP hF hE w, fun w => spec_SineWide hf a1 a2 hP hF hE w, ?_, ?_, ?_⟩
  all_goals (unfold sineOf; cases t)
  · exact hE.isfin
  · exact (neg_num hE.isfin).1
  · exact e1
  · simp only [if_true]; rw [(neg_num hE.isfin).2]; grind
  · exact e2
  · simp only [if_true]; rw [(neg_num hE.isfin).2]; grind
theorem SinOk.ovf {f v : Nat} (h : SinOk f v) : ovf v = false := by
  have h7 : p2 9 ≤ p2 127 := p2_le (by decide)
  have h1 := h.lo
  have h2 := h.hi
  exact ovf_fin h.isfin (by grind) (by grind)
theorem SinOk.opp {f v : Nat} (h : SinOk f v) : ∃ o, floatBits .sub .f64 0 v = some o ∧ Go.Proofs.Ytdlaafeagcbpaaa.ovf o = false := by
  have h7 : p2 9 ≤ p2 127 := p2_le (by decide)
  have h1 := h.lo
  have h2 := h.hi
  obtain ⟨o, ho, hR, b1, b2⟩ := sub_b fin_c0 h.isfin 9 (by decide) (by decide) (by rw [val_c0]; grind) (by rw [val_c0]; grind)
  exact ⟨o, ho, ovf_fin hR.1 (by grind) (by grind)⟩

/-- two parts, as the quarter says. -/
def phA (q c s nc ns : Nat) : Nat := match q with | 1 => nar ns | 2 => nar nc | 3 => nar s | _ => nar c
def phB (q c s nc ns : Nat) : Nat := match q with | 1 => nar c | 2 => nar ns | 3 => nar nc | _ => nar s
def GivesC (w : World) (a b : Nat) (e : Ending) (w' : World) : Prop := ∃ r i n, e = .returned (.complex .f32 r i) ∧ w' = w.drewN n ∧ FEq .f32 r a ∧ FEq .f32 i b

set_option maxHeartbeats 2000000 in
theorem impl_Phasor {y : Nat} {n : Int} {f0 f1 q fc c s nc ns : Nat} (hlt : y < 18446744073709551616) (hy : fin .f64 y = true) (hy1 : val .f64 y < p2 52) (hy2 : -p2 52 < val .f64 y) (hP : PartOk y n f0 f1) (hQ : QuartOk f1 q)
    (hfc : floatBits .sub .f64 cQuart (qG f1 q) = some fc) (hC : SinOk fc c) (hS : SinOk (qG f1 q) s) (hnc : floatBits .sub .f64 0 c = some nc) (hns : floatBits .sub .f64 0 s = some ns) (honc : ovf nc = false) (hons : ovf ns = false) (w : World) :
    Calls Try.prog 12 #[.float .f64 y] w (GivesC w (phA q c s nc ns) (phB q c s nc ns)) := by
  obtain ⟨d0, hd0, hd1⟩ := self_sub hy
  obtain ⟨s1, s2, _⟩ := ar_some hd0
  obtain ⟨n1, n2, _⟩ := ar_some hnc
  obtain ⟨n3, n4, _⟩ := ar_some hns
  obtain ⟨n5, n6, _⟩ := ar_some hfc
  have hw := fun w => impl_isWhole (y := y) w
  have hnb : ¬ (p2 52 ≤ val .f64 y ∨ val .f64 y ≤ -p2 52) := by grind
  rw [abs_geq hlt hy, decide_eq_false hnb] at hw
  have HW := Lib.hid hw
  have HP := Lib.hid hP
  have HQ := Lib.hid hQ
  have HC := Lib.hid hC
  have HS := Lib.hid hS
  have hq4 := hQ.le
  have HONC := Lib.hid honc
  have HONS := Lib.hid hons
  clear hd0 hw hnb hP hQ hC hS hy hy1 hy2 hlt hnc hns hfc honc hons
  go_enter Try.func12, Try.ntmps12
  go_wp2_with (first | (go_at_call 29; refine (HW.out _).mono ?_; rintro e w' ⟨rfl, rfl⟩) | (go_at_call 32; refine (impl_part HP.out _).mono ?_; rintro e w' ⟨rfl, rfl⟩))
  go_loop [4, 5] (fun p k => ∃ i : Nat, i ≤ q ∧ k = .int .i64 i ∧ p = .float .f64 (qG f1 i)) (fun _ k => q - (intOf k).toNat)
  case atStart => exact ⟨0, Nat.zero_le _, rfl, rfl⟩
  case round =>
    obtain ⟨i, hi, rfl, rfl⟩ := hrel
    by_cases hlt : i < q
    · obtain ⟨g1, g2⟩ := HQ.out.step i hlt
      obtain ⟨m1, m2, _⟩ := ar_some g2
      clear g2
      go_wp2
      go_round
      case rel => exact ⟨i + 1, by omega, by go_num, rfl⟩
      case measure => simp [intOf]; omega
    · obtain rfl : i = q := by omega
      have g1 := HQ.out.stop
      clear hi hlt
      have hq5 : i = 0 ∨ i = 1 ∨ i = 2 ∨ i = 3 ∨ i = 4 := by omega
      clear hq4
      rcases hq5 with rfl | rfl | rfl | rfl | rfl
      all_goals
        go_wp2_with fail
        refine (HC.out.impl _).mono ?_; rintro e w' ⟨rfl, rfl⟩
        go_wp2_with fail
        refine (HS.out.impl _).mono ?_; rintro e w' ⟨rfl, rfl⟩
        go_wp2_with fail
        go_ret
        exact ⟨_, _, _, rfl, rfl, narV_same _ (FEq.refl _ _) (by first | exact HC.out.ovf | exact HS.out.ovf | exact HONC.out | exact HONS.out), narV_same _ (FEq.refl _ _) (by first | exact HC.out.ovf | exact HS.out.ovf | exact HONC.out | exact HONS.out)⟩

set_option maxHeartbeats 2000000 in
theorem spec_Phasor {y : Nat} {n : Int} {f0 f1 q fc c s nc ns : Nat} (hy : fin .f64 y = true) (hy1 : val .f64 y < p2 52) (hy2 : -p2 52 < val .f64 y) (hP : PartOk y n f0 f1) (hQ : QuartOk f1 q)
    (hfc : floatBits .sub .f64 cQuart (qG f1 q) = some fc) (hC : SinOk fc c) (hS : SinOk (qG f1 q) s) (hnc : floatBits .sub .f64 0 c = some nc) (hns : floatBits .sub .f64 0 s = some ns) (honc : ovf nc = false) (hons : ovf ns = false) (w : World) :
    Calls Try.prog 31 #[.float .f64 y] w (GivesC w (phA q c s nc ns) (phB q c s nc ns)) := by
  obtain ⟨d0, hd0, hd1⟩ := self_sub hy
  obtain ⟨s1, s2, _⟩ := ar_some hd0
  obtain ⟨n1, n2, _⟩ := ar_some hnc
  obtain ⟨n3, n4, _⟩ := ar_some hns
  obtain ⟨n5, n6, _⟩ := ar_some hfc
  have g1 := big_pos hy hy1
  have g2 := big_neg hy hy2
  have hc : ∀ w, (convert 25 2 (.float .f64 y)).run Try.prog w = .ok (.int .i64 n) w := fun w => conv_int w _ _ y n (by rw [Try.underlying25]; rfl) Try.underlying2 hP.conv
  obtain ⟨hs1, hs2, _⟩ := ar_some hP.sub
  have HQ := Lib.hid hQ
  have HC := Lib.hid hC
  have HS := Lib.hid hS
  have hq4 := hQ.le
  have HONC := Lib.hid honc
  have HONS := Lib.hid hons
  have hup := hP.up
  clear hd0 hP hQ hC hS hy hy1 hy2 hnc hns hfc honc hons
  rcases hup with ⟨hb, hu⟩ | ⟨hb, rfl⟩
  · obtain ⟨hu1, hu2, _⟩ := ar_some hu
    clear hu
    go_enter Try.func31, Try.ntmps31
    go_wp2_with fail
    go_loop [3, 4] (fun p k => ∃ i : Nat, i ≤ q ∧ k = .int .i64 i ∧ p = .float .f64 (qG f1 i)) (fun _ k => q - (intOf k).toNat)
    case atStart => exact ⟨0, Nat.zero_le _, rfl, rfl⟩
    case round =>
      obtain ⟨i, hi, rfl, rfl⟩ := hrel
      by_cases hlt : i < q
      · obtain ⟨g1, g2⟩ := HQ.out.step i hlt
        obtain ⟨m1, m2, _⟩ := ar_some g2
        clear g2
        go_wp2
        go_round
        case rel => exact ⟨i + 1, by omega, by go_num, rfl⟩
        case measure => simp [intOf]; omega
      · obtain rfl : i = q := by omega
        have g1 := HQ.out.stop
        clear hi hlt
        have hq5 : i = 0 ∨ i = 1 ∨ i = 2 ∨ i = 3 ∨ i = 4 := by omega
        clear hq4
        rcases hq5 with rfl | rfl | rfl | rfl | rfl
        all_goals
          go_wp2_with fail
          refine (HC.out.spec _).mono ?_; rintro e w' ⟨rfl, rfl⟩
          go_wp2_with fail
          refine (HS.out.spec _).mono ?_; rintro e w' ⟨rfl, rfl⟩
          go_wp2_with (go_at_call 43; go_in)
          go_ret
          exact ⟨_, _, _, rfl, rfl, narV_same _ (FEq.refl _ _) (by first | exact HC.out.ovf | exact HS.out.ovf | exact HONC.out | exact HONS.out), narV_same _ (FEq.refl _ _) (by first | exact HC.out.ovf | exact HS.out.ovf | exact HONC.out | exact HONS.out)⟩
  · go_enter Try.func31, Try.ntmps31
    go_wp2_with fail
    go_loop [3, 4] (fun p k => ∃ i : Nat, i ≤ q ∧ k = .int .i64 i ∧ p = .float .f64 (qG f1 i)) (fun _ k => q - (intOf k).toNat)
    case atStart => exact ⟨0, Nat.zero_le _, rfl, rfl⟩
    case round =>
      obtain ⟨i, hi, rfl, rfl⟩ := hrel
      by_cases hlt : i < q
      · obtain ⟨g1, g2⟩ := HQ.out.step i hlt
        obtain ⟨m1, m2, _⟩ := ar_some g2
        clear g2
        go_wp2
        go_round
        case rel => exact ⟨i + 1, by omega, by go_num, rfl⟩
        case measure => simp [intOf]; omega
      · obtain rfl : i = q := by omega
        have g1 := HQ.out.stop
        clear hi hlt
        have hq5 : i = 0 ∨ i = 1 ∨ i = 2 ∨ i = 3 ∨ i = 4 := by omega
        clear hq4
        rcases hq5 with rfl | rfl | rfl | rfl | rfl
        all_goals
          go_wp2_with fail
          refine (HC.out.spec _).mono ?_; rintro e w' ⟨rfl, rfl⟩
          go_wp2_with fail
          refine (HS.out.spec _).mono ?_; rintro e w' ⟨rfl, rfl⟩
          go_wp2_with (go_at_call 43; go_in)
          go_ret
          exact ⟨_, _, _, rfl, rfl, narV_same _ (FEq.refl _ _) (by first | exact HC.out.ovf | exact HS.out.ovf | exact HONC.out | exact HONS.out), narV_same _ (FEq.refl _ _) (by first | exact HC.out.ovf | exact HS.out.ovf | exact HONC.out | exact HONS.out)⟩

-- not finite; too great
theorem nan32 : isN .f32 2143289344 = true := by decide
theorem From32 (n : Int) (w : World) : (callFunc 57 #[.int .u32 n]).run Try.prog w = .ok (.value (.float .f32 n.toNat)) w := by
  rw [run_callFunc_extern Try.func57 (by kernel_rfl) (by kernel_rfl) (by kernel_rfl) (e := Extern.MathFloatBits.float32frombits) (by kernel_rfl)]
  rfl
theorem spec_Phasor_nan {y : Nat} (hy : fin .f64 y = false) (w : World) : Calls Try.prog 31 #[.float .f64 y] w (GivesC w (qn .f32) (qn .f32)) := by
  have h := self_nan hy
  have hf := From32
  clear hy
  go_enter Try.func31, Try.ntmps31
  go_wp2
  go_ret
  exact ⟨_, _, _, rfl, rfl, FEq.of_nan nan32 (nan_qn _), FEq.of_nan nan32 (nan_qn _)⟩
theorem impl_Phasor_nan {y : Nat} (hy : fin .f64 y = false) (w : World) : Calls Try.prog 12 #[.float .f64 y] w (GivesC w (qn .f32) (qn .f32)) := by
  have h := self_nan hy
  have hn := Nan64
  clear hy
  go_enter Try.func12, Try.ntmps12
  go_wp2_with (go_at_call 28; refine (nan_any _).mono ?_; rintro e w' ⟨rfl, rfl⟩)
  go_ret
  have k := (narV_same (w.drewN (arN .sub .f64 y y)) (FEq.of_nan hn (nan_qn _)) ovf_qn).trans (Or.inl nar_qn)
  exact ⟨_, _, _, rfl, rfl, k, k⟩
theorem spec_Phasor_big {y : Nat} (hy : fin .f64 y = true) (hb : p2 52 ≤ val .f64 y ∨ val .f64 y ≤ -p2 52) (w : World) : Calls Try.prog 31 #[.float .f64 y] w (GivesC w 1065353216 0) := by
  obtain ⟨d0, hd0, hd1⟩ := self_sub hy
  obtain ⟨s1, s2, _⟩ := ar_some hd0
  by_cases h1 : p2 52 ≤ val .f64 y
  · have g1 : (FloatKind.f64.format.order y 4841369599423283200 == some .gt || FloatKind.f64.format.order y 4841369599423283200 == some .eq) = true := by
      rw [geq_num hy fin_big, val_big]; simpa using h1
    clear hd0 hy hb h1
    go_enter Try.func31, Try.ntmps31
    go_wp2
    go_ret
    exact ⟨_, _, 0, rfl, rfl, FEq.refl _ _, FEq.refl _ _⟩
  · have g1 := big_pos hy (Rat.not_le.1 h1)
    have g2 : (FloatKind.f64.format.order y 14064741636278059008 == some .lt || FloatKind.f64.format.order y 14064741636278059008 == some .eq) = true := by
      rw [leq_num hy fin_mbig, val_mbig]
      have : val .f64 y ≤ -p2 52 := by rcases hb with h | h
                                       · exact absurd h h1
                                       · exact h
      simpa using this
    clear hd0 hy hb h1
    go_enter Try.func31, Try.ntmps31
    go_wp2
    go_ret
    exact ⟨_, _, 0, rfl, rfl, FEq.refl _ _, FEq.refl _ _⟩
theorem impl_Phasor_big {y : Nat} (hlt : y < 18446744073709551616) (hy : fin .f64 y = true) (hb : p2 52 ≤ val .f64 y ∨ val .f64 y ≤ -p2 52) (w : World) : Calls Try.prog 12 #[.float .f64 y] w (GivesC w 1065353216 0) := by
  obtain ⟨d0, hd0, hd1⟩ := self_sub hy
  obtain ⟨s1, s2, _⟩ := ar_some hd0
  have hw := fun w => impl_isWhole (y := y) w
  rw [abs_geq hlt hy, decide_eq_true hb] at hw
  have HW := Lib.hid hw
  clear hd0 hy hb hw hlt
  go_enter Try.func12, Try.ntmps12
  go_wp2_with (go_at_call 29; refine (HW.out _).mono ?_; rintro e w' ⟨rfl, rfl⟩)
  go_ret
  exact ⟨_, _, 0, rfl, rfl, FEq.refl _ _, FEq.refl _ _⟩

theorem phasor_same (y : Nat) (hlt : y < 18446744073709551616) : ∃ a b, (∀ w, Calls Try.prog 31 #[.float .f64 y] w (GivesC w a b)) ∧ (∀ w, Calls Try.prog 12 #[.float .f64 y] w (GivesC w a b)) := by
  cases hy : fin .f64 y
  · exact ⟨_, _, fun w => spec_Phasor_nan hy w, fun w => impl_Phasor_nan hy w⟩
  · by_cases hb : p2 52 ≤ val .f64 y ∨ val .f64 y ≤ -p2 52
    · exact ⟨_, _, fun w => spec_Phasor_big hy hb w, fun w => impl_Phasor_big hlt hy hb w⟩
    · have h1 : val .f64 y < p2 52 := Rat.not_le.1 (fun h => hb (Or.inl h))
      have h2 : -p2 52 < val .f64 y := Rat.not_le.1 (fun h => hb (Or.inr h))
      obtain ⟨n, f0, f1, hP⟩ := part_ok hy h2 h1
      obtain ⟨q, hQ⟩ := quart_ok hP.isfin hP.lo hP.hi
      have ql := hQ.lo
      have qh := hQ.hi
      obtain ⟨fc, hfc, hR, _, _⟩ := sub_b fin_quart hQ.isfin 0 (by decide) (by decide) (by rw [val_quart, p2_zero]; grind) (by rw [val_quart, p2_zero]; grind)
      obtain ⟨c, hC⟩ := sin_ok hR.1 (hR.2.2 0 (rep_zero _) (by rw [val_quart]; grind)) (hR.2.1 1 rep_one (by rw [val_quart]; grind))
      obtain ⟨s, hS⟩ := sin_ok hQ.isfin hQ.lo (by grind)
      obtain ⟨nc, hnc, honc⟩ := hC.opp
      obtain ⟨ns, hns, hons⟩ := hS.opp
      exact ⟨_, _, fun w => spec_Phasor hy h1 h2 hP hQ hfc hC hS hnc hns honc hons w, fun w => impl_Phasor hlt hy h1 h2 hP hQ hfc hC hS hnc hns honc hons w⟩

section
variable {P : Program} (w : World)
/-- complex64 to complex128. -/
@[go_sem] theorem run_widen_complex (src dst : TypeId) (a b : Nat) (hs : (P.underlying src).isSome = true) (hd : P.underlying dst = some (.complex .f64)) :
    (convert src dst (.complex .f32 a b)).run P w = .ok (.complex .f64 (widV a w) (widV b (w.drewN (widN a)))) ((w.drewN (widN a)).drewN (widN b)) := by
  obtain ⟨u, hs'⟩ := Option.isSome_iff_exists.1 hs
  have h1 := run_widen0 (P := P) w a
  have h2 := run_widen0 (P := P) (w.drewN (widN a)) b
  cases u <;> simp [convert, run_underlying hs', run_underlying hd, Conv.complexToComplex, h1, h2]
end
theorem sameC_ok (a b c d : Nat) (h1 : FEq .f64 a c) (h2 : FEq .f64 b d) (w : World) : Calls Try.prog 13 #[.complex .f64 a b, .complex .f64 c d] w (GivesB w true) := by
  have H1 := Lib.hid h1
  have H2 := Lib.hid h2
  clear h1 h2
  go_enter Try.func13, Try.ntmps13
  go_wp2_with fail
  refine (same_ok _ _ H1.out _).mono ?_; rintro e w' ⟨rfl, n, rfl⟩
  go_wp2_with fail
  refine (same_ok _ _ H2.out _).mono ?_; rintro e w' ⟨rfl, m, rfl⟩
  go_wp2_with fail
  go_ret
  exact ⟨rfl, _, rfl⟩
theorem walk_FnExactPhasorOf (y : Nat) (wy : (Lit.float .f64 y).wf = true) (w : World) : Calls Try.prog 4 #[.float .f64 y] w fun e w' => e = .returned (.bool true) ∧ Grown w w' := by
  have hlt : y < 18446744073709551616 := of_decide_eq_true wy
  obtain ⟨a, b, h1, h2⟩ := phasor_same y hlt
  have H1 := Lib.hid h1
  have H2 := Lib.hid h2
  clear h1 h2 hlt
  go_enter Try.func4, Try.ntmps4
  go_wp2_with (first | (go_at_call 31; refine (H1.out _).mono ?_; rintro e w' ⟨r1, i1, n1, rfl, rfl, hr1, hi1⟩; have K1 := Lib.hid hr1; have L1 := Lib.hid hi1; clear hr1 hi1) | (go_at_call 11; go_in) | (go_at_call 12; refine (H2.out _).mono ?_; rintro e w' ⟨r2, i2, n2, rfl, rfl, hr2, hi2⟩; have K2 := Lib.hid hr2; have L2 := Lib.hid hi2; clear hr2 hi2))
  refine (sameC_ok _ _ _ _ ((widV_same _ K2.out).trans (widV_same _ K1.out).symm) ((widV_same _ L2.out).trans (widV_same _ L1.out).symm) _).mono ?_; rintro e w' ⟨rfl, n3, rfl⟩
  go_wp2_with fail
  go_ret
  exact ⟨rfl, grown_drewN _ _⟩
end Go.Proofs.Ytdlaafeagcbpaaa
