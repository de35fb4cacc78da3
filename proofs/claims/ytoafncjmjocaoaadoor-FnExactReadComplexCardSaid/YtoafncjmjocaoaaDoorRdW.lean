/-
  The walks of ReadDecimal, of the program and of the reference.
-/
import Derived.Test.YtoafncjmjocaoaaDoorRd
import Derived.Test.YtoafncjmjocaoaaDoorDecW
import Derived.Test.YtoafncjmjocaoaaDoorShelf2
namespace Go.Proofs.YtoafncjmjocaoaaDoor
open Go Go.RowKit Go.Lib

/-- what is handed back for what is read. -/
def GivesRd (w : World) (o : Option Int) (e : Ending) (w' : World) : Prop := e = .returned (.tuple #[.int .i64 (o.getD 0), .bool o.isSome]) ∧ Below w.heap.size w w'
theorem take_snoc' (s : ByteArray) (k : Nat) (h : k < s.size) : s.data.toList.take (k + 1) = s.data.toList.take k ++ [s[k]] := by
  rw [List.take_succ_eq_append_getElem (by simpa using h)]; rfl
theorem dig_step (s : ByteArray) (k : Nat) (h : k < s.size) : dig (s.data.toList.take (k + 1)) = dstep (dig (s.data.toList.take k)) s[k] := by
  rw [take_snoc' s k h, dig_snoc]
theorem dig_bd0 (l : List UInt8) : ∀ a, l.foldl dstep a < (a + 1) * 10 ^ l.length := by
  induction l with
  | nil => intro a; simp
  | cons c l ih =>
    intro a
    have h := ih (dstep a c)
    have h1 : dstep a c + 1 ≤ (a + 1) * 10 := by
      unfold dstep
      have := c.toNat_lt
      split <;> omega
    have h2 := Nat.mul_le_mul_right (10 ^ l.length) h1
    rw [List.foldl_cons, List.length_cons, Nat.pow_succ, Nat.mul_comm (10 ^ l.length) 10, ← Nat.mul_assoc]
    omega
theorem dig_bd (l : List UInt8) : dig l < 10 ^ l.length := by
  have h := dig_bd0 l 0
  rw [Nat.zero_add, Nat.one_mul] at h
  exact h
theorem byte_bd (s : ByteArray) (k : Nat) (h : k < s.size) : (s[k].toNat : Int) ≤ 255 := by
  have := s[k].toNat_lt
  omega
theorem head_of (s : ByteArray) (h : 0 < s.size) : s.data.toList.head? = some s[0] := by
  have e : s.data.toList[0]? = some s[0] := by
    rw [List.getElem?_eq_getElem (by simpa using h)]
    rfl
  rw [← e]
  exact List.head?_eq_getElem?
set_option maxHeartbeats 1000000 in
theorem spec_l01Value (s : ByteArray) (w : World) (hm : s.size ≤ 1048576) :
    Calls Tryd.prog 62 #[.string s] w (GivesRd w (rd s.data.toList)) := by
  by_cases hlen : 1 ≤ s.size ∧ s.size ≤ 17
  · obtain ⟨hl1, hl2⟩ := hlen
    have hs0 : 0 < s.size := hl1
    have hdb := dig_bd s.data.toList
    have hll : s.data.toList.length = s.size := by simp
    have hfull : s.data.toList.take s.size = s.data.toList := List.take_of_length_le (by omega)
    have hhead := head_of s hs0
    have hrd : rd s.data.toList = if (valOf s.data.toList).natAbs ≤ 1000000000000000 ∧ itoa (valOf s.data.toList) = s.data.toList then some (valOf s.data.toList) else none := rfl
    have hpow : dig s.data.toList < 10 ^ 17 := Nat.lt_of_lt_of_le hdb (Nat.pow_le_pow_right (by decide) (by omega))
    have hvn : s[0].toNat = 45 → valOf s.data.toList = -(dig s.data.toList : Int) := fun h => by
      unfold valOf
      rw [hhead, if_pos (by congr 1; exact UInt8.toNat_inj.1 (by rw [h]; rfl))]
    have hvp : s[0].toNat ≠ 45 → valOf s.data.toList = (dig s.data.toList : Int) := fun h => by
      unfold valOf
      rw [hhead, if_neg (fun hh => h (by rw [Option.some.inj hh]; rfl))]
    have HRD := Lib.hid hrd
    have HVN := Lib.hid hvn
    have HVP := Lib.hid hvp
    have HF := Lib.hid hfull
    have HP := Lib.hid hpow
    clear hrd hvn hvp hfull hpow hdb hhead hll
    go_enter Tryd.func62, Tryd.ntmps62
    go_wp2
    go_loop [4, 5] (fun n i => ∃ k : Nat, k ≤ s.size ∧ i = .int .i64 k ∧ n = .int .i64 (dig (s.data.toList.take k))) (fun _ i => s.size - (RowKit.intOf i).toNat)
    case atStart => exact ⟨0, Nat.zero_le _, rfl, rfl⟩
    case round =>
      obtain ⟨k, hk, rfl, rfl⟩ := hrel
      by_cases hlt : k < s.size
      · have hb := byte_bd s k hlt
        have hd0 := dig_bd (s.data.toList.take k)
        have hd1 : dig (s.data.toList.take k) < 10 ^ 17 := Nat.lt_of_lt_of_le hd0 (Nat.pow_le_pow_right (by decide) (by simp; omega))
        have hd2 : (dig (s.data.toList.take k) : Int) ≤ 100000000000000000 := by omega
        have HS := Lib.hid (dig_step s k hlt)
        clear hd0 hd1
        by_cases h1 : 48 ≤ s[k].toNat
        · by_cases h2 : s[k].toNat ≤ 57
          · have e : dstep (dig (s.data.toList.take k)) s[k] = 10 * dig (s.data.toList.take k) + (s[k].toNat - 48) := by unfold dstep; rw [if_pos ⟨h1, h2⟩]
            have HE := Lib.hid e
            clear e
            go_wp2
            go_round
            case rel => exact ⟨k + 1, by omega, by go_num, by rw [HS.out, HE.out]; congr 1; omega⟩
            case measure => simp [RowKit.intOf]; omega
          · have e : dstep (dig (s.data.toList.take k)) s[k] = dig (s.data.toList.take k) := by unfold dstep; rw [if_neg (fun h => h2 h.2)]
            have HE := Lib.hid e
            clear e
            go_wp2
            go_round
            case rel => exact ⟨k + 1, by omega, by go_num, by rw [HS.out, HE.out]⟩
            case measure => simp [RowKit.intOf]; omega
        · have e : dstep (dig (s.data.toList.take k)) s[k] = dig (s.data.toList.take k) := by unfold dstep; rw [if_neg (fun h => h1 h.1)]
          have HE := Lib.hid e
          clear e
          go_wp2
          go_round
          case rel => exact ⟨k + 1, by omega, by go_num, by rw [HS.out, HE.out]⟩
          case measure => simp [RowKit.intOf]; omega
      · obtain rfl : k = s.size := by omega
        rw [HF.out]
        have hpow := HP.out
        have hlist : ∀ l : List UInt8, l = s.data.toList → (⟨l.toArray⟩ : ByteArray) = s := fun l h => by subst h; cases s; rfl
        have hlist2 : ∀ l : List UInt8, l ≠ s.data.toList → (l == s.toList) = false := fun l h => by
          rw [ByteArray.toList_eq]
          exact beq_false_of_ne h
        by_cases hneg : s[0].toNat = 45
        · have hv := HVN.out hneg
          have hrd := HRD.out
          rw [hv] at hrd
          generalize hD : dig s.data.toList = D at *
          clear hD HVN HVP HRD HP HF hv
          by_cases hin : D ≤ 1000000000000000
          · by_cases heq : itoa (-(D : Int)) = s.data.toList
            · have hs := hlist _ heq
              rw [if_pos ⟨by omega, heq⟩] at hrd
              have HR := Lib.hid hrd
              clear hrd hlist hlist2 heq hpow
              go_wp2_with (first | (go_at_call 79; go_in) | (go_at_call 48; refine (spec_l01Dec _ (by omega) (by omega) _).mono ?_; rintro e w' ⟨rfl, hb⟩; have HB := Lib.hid hb; clear hb))
              go_ret2
              exact ⟨by rw [HR.out]; rfl, HB.out⟩
            · have hs := hlist2 _ heq
              rw [if_neg (fun h => heq h.2)] at hrd
              have HR := Lib.hid hrd
              clear hrd hlist hlist2 heq hpow
              go_wp2_with (first | (go_at_call 79; go_in) | (go_at_call 48; refine (spec_l01Dec _ (by omega) (by omega) _).mono ?_; rintro e w' ⟨rfl, hb⟩; have HB := Lib.hid hb; clear hb))
              go_ret2
              exact ⟨by rw [HR.out]; rfl, HB.out⟩
          · rw [if_neg (fun h => hin (by omega))] at hrd
            have HR := Lib.hid hrd
            clear hrd hlist hlist2
            go_wp2_with (first | (go_at_call 79; go_in))
            go_ret2
            exact ⟨by rw [HR.out]; rfl, Below.refl _ _⟩
        · have hv := HVP.out hneg
          have hrd := HRD.out
          rw [hv] at hrd
          generalize hD : dig s.data.toList = D at *
          clear hD HVN HVP HRD HP HF hv
          by_cases hin : D ≤ 1000000000000000
          · by_cases heq : itoa (D : Int) = s.data.toList
            · have hs := hlist _ heq
              rw [if_pos ⟨by omega, heq⟩] at hrd
              have HR := Lib.hid hrd
              clear hrd hlist hlist2 heq hpow
              go_wp2_with (first | (go_at_call 79; go_in) | (go_at_call 48; refine (spec_l01Dec _ (by omega) (by omega) _).mono ?_; rintro e w' ⟨rfl, hb⟩; have HB := Lib.hid hb; clear hb))
              go_ret2
              exact ⟨by rw [HR.out]; rfl, HB.out⟩
            · have hs := hlist2 _ heq
              rw [if_neg (fun h => heq h.2)] at hrd
              have HR := Lib.hid hrd
              clear hrd hlist hlist2 heq hpow
              go_wp2_with (first | (go_at_call 79; go_in) | (go_at_call 48; refine (spec_l01Dec _ (by omega) (by omega) _).mono ?_; rintro e w' ⟨rfl, hb⟩; have HB := Lib.hid hb; clear hb))
              go_ret2
              exact ⟨by rw [HR.out]; rfl, HB.out⟩
          · rw [if_neg (fun h => hin (by omega))] at hrd
            have HR := Lib.hid hrd
            clear hrd hlist hlist2
            go_wp2_with (first | (go_at_call 79; go_in))
            go_ret2
            exact ⟨by rw [HR.out]; rfl, Below.refl _ _⟩
  · have hn : rd s.data.toList = none := rd_none_of fun n h1 h2 => by
      have := itoa_length h1
      rw [h2] at this
      simp at this
      omega
    rw [hn]
    by_cases h1 : s.size < 1
    · have hd : decide ((s.size : Int) < 1) = true := by simp; omega
      go_enter Tryd.func62, Tryd.ntmps62
      go_wp2
      go_ret2
      exact ⟨rfl, Below.refl _ _⟩
    · have hd : decide ((s.size : Int) < 1) = false := by simp; omega
      have hd2 : decide ((s.size : Int) > 17) = true := by simp; omega
      go_enter Tryd.func62, Tryd.ntmps62
      go_wp2
      go_ret2
      exact ⟨rfl, Below.refl _ _⟩
theorem spec_ReadDecimal (s : ByteArray) (w : World) (hm : s.size ≤ 1048576) :
    Calls Tryd.prog 36 #[.string s] w (GivesRd w (rd s.data.toList)) := by
  go_enter Tryd.func36, Tryd.ntmps36
  go_wp2_with (first | (go_at_call 62; refine (spec_l01Value _ _ hm).mono ?_; rintro e w' ⟨rfl, hb⟩; have HB := Lib.hid hb; clear hb))
  go_ret2
  exact ⟨rfl, HB.out⟩
end Go.Proofs.YtoafncjmjocaoaaDoor
