/-
  The program's question whether a heap of grains is valid, walked.
-/
import Derived.Test.YtlolmopfeglifaaGrI
namespace Go.Proofs.Ytlolmopfeglifaa
open Go Go.RowKit

theorem impl_notValid (x y r m : Nat) (w : World) :
    Calls Try.prog 32 #[.agg #[.complex .f32 x y, .complex .f32 0 0, .float .f32 r, .float .f32 m, .float .f32 0, .float .f32 0, .bool false]] w (GivesBb w (!gv r m (x, y))) := by
  have HC := Lib.hid (fun w => impl_ValidGrain x y r m w)
  have HB := Lib.hid (fun o => (Below.refl w.heap.size w).alloc (Nat.le_refl _) o)
  go_enter Try.func32, Try.ntmps32
  go_wp2_with (go_at_call 33; refine (HC.out _).mono ?_; rintro e w1 ⟨rfl, hb⟩; have HB1 := Lib.hid ((HB.out _).trans (hb.mono (HB.out _).size)); clear hb)
  go_ret
  exact ⟨rfl, HB1.out⟩
theorem G7.sev {w : World} {b off r m : Nat} {p : Nat × Nat} (h : G7 w b off r m p) : w.cell? ⟨b, off, none⟩ = some (.complex .f32 p.1 p.2) ∧ w.cell? ⟨b, off + 1, none⟩ = some (.complex .f32 0 0) ∧ w.cell? ⟨b, off + 2, none⟩ = some (.float .f32 r) ∧ w.cell? ⟨b, off + 3, none⟩ = some (.float .f32 m) ∧ w.cell? ⟨b, off + 4, none⟩ = some (.float .f32 0) ∧ w.cell? ⟨b, off + 5, none⟩ = some (.float .f32 0) ∧ w.cell? ⟨b, off + 6, none⟩ = some (.bool false) :=
  ⟨h 0 (by decide), h 1 (by decide), h 2 (by decide), h 3 (by decide), h 4 (by decide), h 5 (by decide), h 6 (by decide)⟩
theorem RowG.below {w w' : World} {a : Option Addr} {r m : Nat} {ps : List (Nat × Nat)} (h : RowG w a r m ps) (hb : Below w.heap.size w w') : RowG w' a r m ps := fun i hi => by
  obtain ⟨b, hab, hg⟩ := h i hi
  exact ⟨b, hab, hg.below hb⟩
def GivesFirstG (w : World) (v : Bool) (e : Ending) (w' : World) : Prop := ∃ r : Int, e = .returned (.int .i64 r) ∧ Below w.heap.size w w' ∧ decide (0 ≤ r) = !v
set_option maxHeartbeats 2000000 in
theorem indexFuncG (a : Option Addr) (c r m : Nat) (ps : List (Nat × Nat)) (hn : ps.length ≤ 24) (w : World) (hr : RowG w a r m ps) :
    Calls Try.prog 38 #[.slice a ps.length c, .func (.func 32) #[] #[]] w (GivesFirstG w (allV r m ps)) := by
  have HR := Lib.hid hr
  clear hr
  go_enter Try.func38, Try.ntmps38
  go_wp2
  go_loopw [8] (fun i wr => ∃ (k : Nat), k ≤ ps.length ∧ i = .int .i64 k ∧ Below w.heap.size w wr ∧ (ps.take k).all (gv r m) = true) (fun i _ => ps.length - (RowKit.intOf i).toNat)
  case atStart => exact ⟨0, Nat.zero_le _, rfl, Below.refl _ _, rfl⟩
  case round =>
    obtain ⟨k, hk, rfl, hb, ha⟩ := hrel
    have HA := Lib.hid ha
    have HB := Lib.hid hb
    clear ha hb
    by_cases hlt : k < ps.length
    · obtain ⟨b, rfl, hg⟩ := HR.out k hlt
      obtain ⟨c0, c1, c2, c3, c4, c5, c6⟩ := (hg.below HB.out).sev
      have HS := Lib.hid (allV_succ r m ps k hlt)
      have HN := Lib.hid (allV_not r m ps k hlt)
      clear hg
      generalize hp : ps[k] = p at *
      obtain ⟨x, y⟩ := p
      have HC := Lib.hid (impl_notValid x y r m)
      cases hgv : gv r m (x, y) with
      | true =>
        rw [hgv] at HC
        have HGV := Lib.hid hgv
        clear hgv hp
        go_wp2_with (go_at_call 32; refine (HC.out _).mono ?_; rintro e w' ⟨rfl, hb⟩; have HB2 := Lib.hid (HB.out.trans (hb.mono HB.out.size)); clear hb)
        go_roundw
        case rel => exact ⟨k + 1, by omega, by go_num, HB2.out, by rw [HS.out, HA.out, HGV.out]; rfl⟩
        case measure => simp [RowKit.intOf]; omega
      | false =>
        rw [hgv] at HC
        have HGV := Lib.hid hgv
        clear hgv hp
        go_wp2_with (go_at_call 32; refine (HC.out _).mono ?_; rintro e w' ⟨rfl, hb⟩; have HB2 := Lib.hid (HB.out.trans (hb.mono HB.out.size)); clear hb)
        go_ret
        exact ⟨_, rfl, HB2.out, by rw [HN.out HGV.out]; simp⟩
    · obtain rfl : k = ps.length := by omega
      have hx : allV r m ps = true := by
        have h := HA.out
        rw [List.take_length] at h
        exact h
      have HX := Lib.hid hx
      clear hx
      go_wp2
      go_ret
      exact ⟨_, rfl, HB.out, by rw [HX.out]; rfl⟩
theorem containsFuncG (a : Option Addr) (c r m : Nat) (ps : List (Nat × Nat)) (hn : ps.length ≤ 24) (w : World) (hr : RowG w a r m ps) :
    Calls Try.prog 31 #[.slice a ps.length c, .func (.func 32) #[] #[]] w (GivesBb w (!allV r m ps)) := by
  have HC := Lib.hid (indexFuncG a c r m ps hn w hr)
  clear hr
  go_enter Try.func31, Try.ntmps31
  go_wp2_with (go_at_call 38; refine HC.out.mono ?_; rintro e w' ⟨q, rfl, hb, hq⟩; have HQ := Lib.hid hq; have HB := Lib.hid hb; clear hb hq)
  go_ret
  exact ⟨ret_bool HQ.out, HB.out⟩
theorem impl_ValidHeap (a : Option Addr) (c r m : Nat) (ps : List (Nat × Nat)) (hn : ps.length ≤ 24) (w : World) (hr : RowG w a r m ps) :
    Calls Try.prog 27 #[.agg #[.slice a ps.length c]] w (GivesBb w (allV r m ps)) := by
  have hd : decide ((ps.length : Int) ≤ 24) = true := by simp; omega
  have HB := Lib.hid (fun o => (Below.refl w.heap.size w).alloc (Nat.le_refl _) o)
  have HC : Hid (∀ w', Below w.heap.size w w' → Calls Try.prog 31 #[.slice a ps.length c, .func (.func 32) #[] #[]] w' (GivesBb w' (!allV r m ps))) := fun w' hb => containsFuncG a c r m ps hn w' (hr.below hb)
  clear hr
  go_enter Try.func27, Try.ntmps27
  go_wp2_with (go_at_call 31; refine (HC.out _ ?_).mono ?_; exact HB.out _; rintro e w' ⟨rfl, hb⟩; have HB2 := Lib.hid ((HB.out _).trans (hb.mono (HB.out _).size)); clear hb)
  go_ret
  exact ⟨ret_bool (by simp), HB2.out⟩
theorem impl_checked (a : Option Addr) (n c r m : Nat) (ps : List (Nat × Nat)) (hn : ps.length ≤ 24) (w : World) (ho : ∃ B, OwnG B w (.slice a n c) r m ps) :
    Calls Try.prog 18 #[.agg #[.slice a n c]] w fun e w' => e = .returned (.tuple #[.agg #[if allV r m ps then .slice a n c else .slice none 0 0], .bool (allV r m ps)]) ∧ Below w.heap.size w w' := by
  obtain ⟨B, ho⟩ := ho
  obtain ⟨rfl, hr⟩ := ownG_row ho
  have hh0 := buildH0
  have HIs : Hid (∀ w', Below w.heap.size w w' → Calls Try.prog 27 #[.agg #[.slice a ps.length c]] w' (GivesBb w' (allV r m ps))) := fun w' hb => impl_ValidHeap a c r m ps hn w' (fun i hi => by
      obtain ⟨b, hab, hg⟩ := hr i hi
      exact ⟨b, hab, hg.below hb⟩)
  clear ho hr
  have HB := Lib.hid (((Below.refl w.heap.size w).alloc (Nat.le_refl _) (.cells #[.slice a ps.length c] 25)).alloc (by simp) (.cells #[.slice none 0 0] 25))
  have HV2 := Lib.hid ((HV.new w (.slice a ps.length c)).alloc (.cells #[.slice none 0 0] 25))
  have HR2 : Hid (HV ((w.alloc (.cells #[.slice a ps.length c] 25)).alloc (.cells #[.slice none 0 0] 25)) (w.heap.size + 1) (.slice none 0 0)) := by
    have h := HV.new (w.alloc (.cells #[.slice a ps.length c] 25)) (.slice none 0 0)
    have e : (w.alloc (.cells #[.slice a ps.length c] 25)).heap.size = w.heap.size + 1 := by simp
    rwa [e] at h
  cases hv : allV r m ps with
  | true =>
    rw [hv] at HIs
    rw [if_pos rfl]
    clear hv
    go_enter Try.func18, Try.ntmps18
    go_wp2_with (go_at_call 27; refine (HIs.out _ ?_).mono ?_; exact HB.out; rintro e w2 ⟨rfl, hb⟩; have HN2 := Lib.hid (HR2.out.below hb); have hc2 := HN2.out.cell; have hf2 := HN2.out.frozen; have hp2 := (HV2.out.below hb).cell; have HB2 := Lib.hid (HB.out.trans (hb.mono HB.out.size)); clear hb)
    have hce := (HN2.out.set (.slice a ps.length c)).cell
    refine bodyPost_ret (v := .tuple #[.agg #[.slice a ps.length c], .bool true]) (by simp [results, Try.results18, go_sem, hce]) rfl ⟨rfl, HB2.out.setCell (Nat.le_succ _) _⟩
  | false =>
    rw [hv] at HIs
    rw [if_neg (by decide)]
    clear hv
    go_enter Try.func18, Try.ntmps18
    go_wp2_with (go_at_call 27; refine (HIs.out _ ?_).mono ?_; exact HB.out; rintro e w2 ⟨rfl, hb⟩; have HN2 := Lib.hid (HR2.out.below hb); have hc2 := HN2.out.cell; have hf2 := HN2.out.frozen; have hp2 := (HV2.out.below hb).cell; have HB2 := Lib.hid (HB.out.trans (hb.mono HB.out.size)); clear hb)
    have hce := (HN2.out.set (.slice none 0 0)).cell
    refine bodyPost_ret (v := .tuple #[.agg #[.slice none 0 0], .bool false]) (by simp [results, Try.results18, go_sem, hce]) rfl ⟨rfl, HB2.out.setCell (Nat.le_succ _) _⟩
end Go.Proofs.Ytlolmopfeglifaa
