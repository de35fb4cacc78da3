/-
  Is a grain, is a row of grains valid? The reference's question, walked.
-/
import Derived.Test.YtlolmopfeglifaaGrS
import Derived.Test.YtlolmopfeglifaaAreF
namespace Go.Proofs.Ytlolmopfeglifaa
open Go Go.RowKit

def above (r : Nat) : Bool := fin .f32 r && (FloatKind.f32.format.order r 0 == some .gt)
/-- is the grain valid? -/
def gv (r m : Nat) (p : Nat × Nat) : Bool := (fin .f32 p.1 && fin .f32 p.2) && (above r && above m)
theorem fin32_0 : fin .f32 0 = true := by decide
theorem spec_l01CFinite (x y : Nat) (w : World) : Calls Try.prog 36 #[.complex .f32 x y] w (GivesB w (fin .f32 x && fin .f32 y)) := by
  have H1 := Lib.hid (fun w => spec_l01Finite x w)
  have H2 := Lib.hid (fun w => spec_l01Finite y w)
  cases hx : fin .f32 x with
  | true =>
    rw [hx] at H1
    go_enter Try.func36, Try.ntmps36
    go_wp2_with (go_at_call 13; first | ((with_reducible refine (H1.out _).mono ?_); rintro e w' ⟨rfl, n1, rfl⟩) | ((with_reducible refine (H2.out _).mono ?_); rintro e w' ⟨rfl, n2, rfl⟩))
    go_ret
    exact ⟨rfl, _, rfl⟩
  | false =>
    rw [hx] at H1
    go_enter Try.func36, Try.ntmps36
    go_wp2_with (go_at_call 13; first | ((with_reducible refine (H1.out _).mono ?_); rintro e w' ⟨rfl, n1, rfl⟩) | ((with_reducible refine (H2.out _).mono ?_); rintro e w' ⟨rfl, n2, rfl⟩))
    go_ret
    exact ⟨rfl, _, rfl⟩
theorem spec_l02Above (x : Nat) (w : World) : Calls Try.prog 37 #[.float .f32 x] w (GivesB w (above x)) := by
  have H1 := Lib.hid (fun w => spec_l01Finite x w)
  unfold above
  cases hx : fin .f32 x with
  | true =>
    rw [hx] at H1
    go_enter Try.func37, Try.ntmps37
    go_wp2_with (go_at_call 13; refine (H1.out _).mono ?_; rintro e w' ⟨rfl, n1, rfl⟩)
    go_ret
    exact ⟨rfl, _, rfl⟩
  | false =>
    rw [hx] at H1
    go_enter Try.func37, Try.ntmps37
    go_wp2_with (go_at_call 13; refine (H1.out _).mono ?_; rintro e w' ⟨rfl, n1, rfl⟩)
    go_ret
    exact ⟨rfl, _, rfl⟩
/-- seven cells from a place on. -/
def G7 (w : World) (b off r m : Nat) (p : Nat × Nat) : Prop := ∀ k (_ : k < 7), w.cell? ⟨b, off + k, none⟩ = (gc r m p.1 p.2)[k]?
set_option maxHeartbeats 1000000 in
theorem spec_l02Grain (b off r m : Nat) (p : Nat × Nat) (w : World) (hc : G7 w b off r m p) :
    Calls Try.prog 29 #[.pointer (some ⟨b, off, none⟩)] w (GivesB w (gv r m p)) := by
  obtain ⟨x, y⟩ := p
  have h0 : w.cell? ⟨b, off, none⟩ = some (.complex .f32 x y) := hc 0 (by decide)
  have h1 : w.cell? ⟨b, off + 1, none⟩ = some (.complex .f32 0 0) := hc 1 (by decide)
  have h2 : w.cell? ⟨b, off + 2, none⟩ = some (.float .f32 r) := hc 2 (by decide)
  have h3 : w.cell? ⟨b, off + 3, none⟩ = some (.float .f32 m) := hc 3 (by decide)
  have h4 : w.cell? ⟨b, off + 4, none⟩ = some (.float .f32 0) := hc 4 (by decide)
  have h5 : w.cell? ⟨b, off + 5, none⟩ = some (.float .f32 0) := hc 5 (by decide)
  have HC := Lib.hid (fun w => spec_l01CFinite x y w)
  have HZ := Lib.hid (fun w => spec_l01CFinite 0 0 w)
  have HR := Lib.hid (fun w => spec_l02Above r w)
  have HM := Lib.hid (fun w => spec_l02Above m w)
  have HF := Lib.hid (fun w => spec_l01Finite 0 w)
  rw [fin32_0] at HF HZ
  have HG : Hid (gv r m (x, y) = ((fin .f32 x && fin .f32 y) && (above r && above m))) := rfl
  generalize (fin .f32 x && fin .f32 y) = bx at *
  generalize above r = br at *
  generalize above m = bm at *
  clear hc
  cases bx <;> cases br <;> cases bm
  all_goals
    go_enter Try.func29, Try.ntmps29
    go_wp2_with (first
      | (go_at_call 36; first | ((with_reducible refine (HC.out _).mono ?_); rintro e w' ⟨rfl, n1, rfl⟩) | ((with_reducible refine (HZ.out _).mono ?_); rintro e w' ⟨rfl, n2, rfl⟩))
      | (go_at_call 37; first | ((with_reducible refine (HR.out _).mono ?_); rintro e w' ⟨rfl, n3, rfl⟩) | ((with_reducible refine (HM.out _).mono ?_); rintro e w' ⟨rfl, n4, rfl⟩))
      | (go_at_call 13; refine (HF.out _).mono ?_; rintro e w' ⟨rfl, n5, rfl⟩))
    go_ret
    exact ⟨ret_bool (by rw [HG.out]; rfl), _, rfl⟩
/-- the row's grains are all valid. -/
def allV (r m : Nat) (ps : List (Nat × Nat)) : Bool := ps.all (gv r m)
theorem allV_succ (r m : Nat) (ps : List (Nat × Nat)) (k : Nat) (h : k < ps.length) : (ps.take (k + 1)).all (gv r m) = ((ps.take k).all (gv r m) && gv r m ps[k]) := by
  rw [List.take_succ_eq_append_getElem h, List.all_append]
  simp
theorem allV_not (r m : Nat) (ps : List (Nat × Nat)) (k : Nat) (h : k < ps.length) (hf : gv r m ps[k] = false) : allV r m ps = false := by
  unfold allV
  rw [List.all_eq_false]
  exact ⟨ps[k], List.getElem_mem h, by rw [hf]; decide⟩
/-- the grains lie at a, seven cells each. -/
def RowG (w : World) (a : Option Addr) (r m : Nat) (ps : List (Nat × Nat)) : Prop := ∀ i (h : i < ps.length), ∃ b, a = some ⟨b, 0, none⟩ ∧ G7 w b (i * 7) r m ps[i]
theorem ownG_row {B : Nat} {w : World} {a : Option Addr} {n c r m : Nat} {ps : List (Nat × Nat)} (h : OwnG B w (.slice a n c) r m ps) : n = ps.length ∧ RowG w a r m ps := by
  rcases h.2 with ⟨h0, h1⟩ | ⟨g, cap, cur, h1, h2, h3, h4, h5, h6, h7⟩
  · simp only [Value.slice.injEq] at h0
    refine ⟨by omega, fun i hi => ?_⟩
    omega
  · simp only [Value.slice.injEq] at h1
    obtain ⟨rfl, rfl, rfl⟩ := h1
    refine ⟨rfl, fun i hi => ⟨g, rfl, fun k hk => ?_⟩⟩
    have hh := World.ownsRow.cellAt h (i * 7 + k) (by omega)
    rw [hh, gl_get r m ps i hi k hk]
set_option maxHeartbeats 1000000 in
theorem spec_l02Is (a : Option Addr) (c r m : Nat) (ps : List (Nat × Nat)) (hn : ps.length ≤ 24) (hb : Nat) (w : World) (hv : HV w hb (.slice a ps.length c)) (hr : RowG w a r m ps) :
    Calls Try.prog 23 #[.pointer (some ⟨hb, 0, none⟩)] w (GivesB w (allV r m ps)) := by
  have hc := hv.cell
  have hd : decide ((ps.length : Int) ≤ 24) = true := by simp; omega
  have HR := Lib.hid hr
  clear hv hr
  go_enter Try.func23, Try.ntmps23
  go_wp2
  go_loopw [3] (fun i wr => ∃ (k q : Nat), k ≤ ps.length ∧ i = .int .i64 k ∧ wr = w.drewN q ∧ (ps.take k).all (gv r m) = true) (fun i _ => ps.length - (RowKit.intOf i).toNat)
  case atStart => exact ⟨0, 0, Nat.zero_le _, rfl, rfl, rfl⟩
  case round =>
    obtain ⟨k, q, hk, rfl, rfl, ha⟩ := hrel
    have HA := Lib.hid ha
    clear ha
    by_cases hlt : k < ps.length
    · obtain ⟨b, rfl, hg⟩ := HR.out k hlt
      have HG := Lib.hid hg
      have HS := Lib.hid (allV_succ r m ps k hlt)
      have HN := Lib.hid (allV_not r m ps k hlt)
      have HC := Lib.hid (spec_l02Grain b (k * 7) r m (ps[k]'hlt))
      clear hg
      generalize hp : ps[k] = p at *
      cases hgv : gv r m p with
      | true =>
        rw [hgv] at HC
        have HGV := Lib.hid hgv
        clear hgv hp
        go_wp2_with (go_at_call 29; refine (HC.out _ ?_).mono ?_; exact HG.out; rintro e w' ⟨rfl, q2, rfl⟩)
        go_roundw
        case rel => exact ⟨k + 1, _, by omega, by go_num, rfl, by rw [HS.out, HA.out, HGV.out]; rfl⟩
        case measure => simp [RowKit.intOf]; omega
      | false =>
        rw [hgv] at HC
        have HGV := Lib.hid hgv
        clear hgv hp
        go_wp2_with (go_at_call 29; refine (HC.out _ ?_).mono ?_; exact HG.out; rintro e w' ⟨rfl, q2, rfl⟩)
        go_ret
        exact ⟨ret_bool (HN.out HGV.out).symm, _, rfl⟩
    · obtain rfl : k = ps.length := by omega
      have hx : allV r m ps = true := by
        have h := HA.out
        rw [List.take_length] at h
        exact h
      have HX := Lib.hid hx
      clear hx
      go_wp2
      go_ret
      exact ⟨ret_bool (by rw [HX.out]), _, rfl⟩
theorem FEq.fin {x y : Nat} (h : FEq .f32 x y) : fin .f32 x = fin .f32 y := by
  rcases h with rfl | ⟨h1, h2⟩
  · rfl
  · rw [nofin_of_nan h1, nofin_of_nan h2]
theorem gv_same {r m : Nat} {p q : Nat × Nat} (h1 : FEq .f32 p.1 q.1) (h2 : FEq .f32 p.2 q.2) : gv r m p = gv r m q := by
  unfold gv
  rw [h1.fin, h2.fin]
theorem allV_same {r m : Nat} : ∀ {ps qs : List (Nat × Nat)}, FE2 ps qs → allV r m ps = allV r m qs
  | [], [], _ => rfl
  | [], q :: qs, h => by have := h.1; simp at this
  | p :: ps, [], h => by have := h.1; simp at this
  | p :: ps, q :: qs, h => by
    have h0 := h.2 0 (by simp) (by simp)
    have ht : FE2 ps qs := ⟨by have := h.1; simpa using this, fun i hi hi' => h.2 (i + 1) (by simp; omega) (by simp; omega)⟩
    unfold allV
    rw [List.all_cons, List.all_cons, show gv r m p = gv r m q from gv_same h0.1 h0.2]
    have := allV_same (r := r) (m := m) ht
    unfold allV at this
    rw [this]
/-- what a maker of heaps gives: a row of one's own, or nothing. -/
def GivesHp (w : World) (ok : Bool) (r m : Nat) (qs : List (Nat × Nat)) (e : Ending) (w' : World) : Prop :=
  if ok then ∃ a n c ps, e = .returned (.tuple #[.agg #[.slice a n c], .bool true]) ∧ FE2 ps qs ∧ OwnG w.heap.size w' (.slice a n c) r m ps ∧ Below w.heap.size w w'
  else e = .returned (.tuple #[.agg #[.slice none 0 0], .bool false]) ∧ Below w.heap.size w w'
theorem spec_l02Give (a : Option Addr) (n c r m : Nat) (ps : List (Nat × Nat)) (hn : ps.length ≤ 24) (w : World) (ho : ∃ B, OwnG B w (.slice a n c) r m ps) :
    Calls Try.prog 14 #[.agg #[.slice a n c]] w fun e w' => e = .returned (.tuple #[.agg #[if allV r m ps then .slice a n c else .slice none 0 0], .bool (allV r m ps)]) ∧ Below w.heap.size w w' := by
  obtain ⟨B, ho⟩ := ho
  obtain ⟨rfl, hr⟩ := ownG_row ho
  have hh0 := buildH0
  have HIs : Hid (∀ w', Below w.heap.size w w' → HV w' w.heap.size (.slice a ps.length c) → Calls Try.prog 23 #[.pointer (some ⟨w.heap.size, 0, none⟩)] w' (GivesB w' (allV r m ps))) := fun w' hb hv =>
    spec_l02Is a c r m ps hn w.heap.size w' hv (fun i hi => by
      obtain ⟨b, hab, hg⟩ := hr i hi
      exact ⟨b, hab, fun k hk => by
        have h1 := hg k hk
        rw [← h1]
        exact hb.cell (p := ⟨b, i * 7 + k, none⟩) (World.block_lt_of_cell? _ _ (h1.trans (List.getElem?_eq_getElem (by rw [gc_len]; exact hk))))⟩)
  clear ho hr
  have HB := Lib.hid (((Below.refl w.heap.size w).alloc (Nat.le_refl _) (.cells #[.slice a ps.length c] 25)).alloc (by simp) (.cells #[.slice none 0 0] 25))
  have HV2 := Lib.hid ((HV.new w (.slice a ps.length c)).alloc (.cells #[.slice none 0 0] 25))
  have HR2 : Hid (HV ((w.alloc (.cells #[.slice a ps.length c] 25)).alloc (.cells #[.slice none 0 0] 25)) (w.heap.size + 1) (.slice none 0 0)) := by
    have h := HV.new (w.alloc (.cells #[.slice a ps.length c] 25)) (.slice none 0 0)
    have e : (w.alloc (.cells #[.slice a ps.length c] 25)).heap.size = w.heap.size + 1 := by simp
    rwa [e] at h
  cases hv : allV r m ps with
  | true =>
    rw [hv] at HIs
    rw [if_pos rfl]
    clear hv
    go_enter Try.func14, Try.ntmps14
    go_wp2_with (go_at_call 23; refine (HIs.out _ ?_ ?_).mono ?_; exact HB.out; exact HV2.out; rintro e w' ⟨rfl, q, rfl⟩)
    have hce := (HV.set (w := ((w.alloc (.cells #[.slice a ps.length c] 25)).alloc (.cells #[.slice none 0 0] 25)).drewN q) HR2.out (.slice a ps.length c)).cell
    refine bodyPost_ret (v := .tuple #[.agg #[.slice a ps.length c], .bool true]) (by simp [results, Try.results14, go_sem, hce]) rfl ⟨rfl, (below_drewNG HB.out q).setCell (Nat.le_succ _) _⟩
  | false =>
    rw [hv] at HIs
    rw [if_neg (by decide)]
    clear hv
    go_enter Try.func14, Try.ntmps14
    go_wp2_with (go_at_call 23; refine (HIs.out _ ?_ ?_).mono ?_; exact HB.out; exact HV2.out; rintro e w' ⟨rfl, q, rfl⟩)
    have hce := (HV.set (w := ((w.alloc (.cells #[.slice a ps.length c] 25)).alloc (.cells #[.slice none 0 0] 25)).drewN q) HR2.out (.slice none 0 0)).cell
    refine bodyPost_ret (v := .tuple #[.agg #[.slice none 0 0], .bool false]) (by simp [results, Try.results14, go_sem, hce]) rfl ⟨rfl, (below_drewNG HB.out q).setCell (Nat.le_succ _) _⟩
end Go.Proofs.Ytlolmopfeglifaa
