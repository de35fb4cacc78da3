/-
  The library's ParseUint at a word of eight hexadecimal digits.
-/
import Derived.Test.YtoafncjmjocaoaaDoorHexP
import Derived.Lib.ConvBytes
import Derived.Lib.Strings
import Derived.Laws.Strings3
namespace Go.Proofs.YtoafncjmjocaoaaDoor
open Go Go.RowKit

theorem or32_nat : ∀ n : Fin 256, 97 ≤ n.val → n.val ≤ 102 → bits .or .u8 (n.val : Int) 32 = (n.val : Int) := by decide +kernel
theorem or32 (c : UInt8) (h1 : 97 ≤ c.toNat) (h2 : c.toNat ≤ 102) : bits .or .u8 (c.toNat : Int) 32 = (c.toNat : Int) := or32_nat ⟨c.toNat, c.toNat_lt⟩ h1 h2
theorem below_bytes (w : World) (e : TypeId) (s : ByteArray) : Below w.heap.size w (Lib.bytesWorld w e s) := by
  refine ⟨rfl, rfl, rfl, ?_, fun i hi => Lib.bytesWorld_at_old w e s i hi⟩
  simp [Lib.bytesWorld, World.freeze, World.alloc, World.drew, -World.alloc_eq, -World.drew_eq]
theorem isHex_cases {c : UInt8} (h : isHex c = true) : (48 ≤ c.toNat ∧ c.toNat ≤ 57) ∨ (97 ≤ c.toNat ∧ c.toNat ≤ 102) := by
  unfold isHex at h
  simpa using h
theorem hval_step (bs : List UInt8) (k : Nat) (h : k < bs.length) : hval 0 (bs.take (k + 1)) = 16 * hval 0 (bs.take k) + digV bs[k] := by
  rw [List.take_succ_eq_append_getElem h, hval_snoc]
theorem hval_bound (bs : List UInt8) (hx : bs.all isHex = true) (k : Nat) (hk : k ≤ bs.length) : hval 0 (bs.take k) < 16 ^ k := by
  have h1 := hval_lt 0 (bs.take k) (by rw [List.all_eq_true] at hx ⊢; exact fun x hm => hx x (List.mem_of_mem_take hm))
  rw [List.length_take, Nat.min_eq_left hk] at h1
  simpa using h1
theorem take_snocH (s : ByteArray) (k : Nat) (h : k < s.size) : s.data.toList.take (k + 1) = s.data.toList.take k ++ [s[k]] := by
  rw [List.take_succ_eq_append_getElem (by simpa using h)]; rfl
set_option maxRecDepth 100000 in
set_option maxHeartbeats 4000000 in
theorem inner_ParseUint (s : ByteArray) (h8 : s.size = 8) (hx : s.data.toList.all isHex = true) (w : World) :
    Calls Tryd.prog 91 #[.string s, .int .i64 16, .int .i64 32] w fun e w' => e = .returned (.tuple #[.int .u64 (hval 0 s.data.toList : Nat), .nilIface]) ∧ Below w.heap.size w w' := by
  have hemp : s.toList.isEmpty = false := by
    rw [← decide_eq_emptyBytes]
    exact decide_eq_false (fun h => by rw [h] at h8; simp at h8)
  have hcv := Lib.run_convert_string_bytes (P := Tryd.prog) w 9 85 5 s (u := .string) Tryd.underlying9 Tryd.underlying85 Tryd.underlying5
  have hB : ∀ j, j < s.size → (Lib.bytesWorld w 5 s).cell? ⟨w.heap.size, j, none⟩ = some (.int .u8 (s.data.toList.getD j 0).toNat) := fun j hj => Lib.bytesWorld_cell w 5 s j hj
  have HBEL := Lib.hid (below_bytes w 5 s)
  obtain ⟨W1, hW1⟩ : ∃ W1, W1 = Lib.bytesWorld w 5 s := ⟨_, rfl⟩
  rw [← hW1] at hcv hB HBEL
  clear hW1
  obtain ⟨bs, hL⟩ : ∃ bs, bs = s.data.toList := ⟨_, rfl⟩
  have hLn : bs.length = 8 := by rw [hL]; simpa using h8
  rw [← hL] at hB hx ⊢
  rw [h8] at hB hcv
  clear hL
  have HX := Lib.hid hx
  have HBD := Lib.hid (fun k hk => hval_bound bs hx k hk)
  have HST := Lib.hid (fun k hk => hval_step bs k hk)
  have HC := Lib.hid hB
  have HAT : Hid (∀ k (h : k < bs.length), isHex bs[k] = true) := fun k h => List.all_eq_true.1 hx _ (List.getElem_mem h)
  have hmv : IntKind.u64.wrap (IntKind.u64.wrap 4294967296 - 1) = 4294967295 := by
    rw [IntKind.wrap_u64, IntKind.wrap_u64]
    decide
  clear hx hB
  go_enter Tryd.func91, Tryd.ntmps91
  go_wp2
  go_loop [12, 13, 101] (fun vu vn vi => ∃ (k acc : Nat) (a : Int), vu = .bool false ∧ vn = .int .u64 a ∧ vi = .int .i64 k ∧ k ≤ 8 ∧ Hid (a = (acc : Int) ∧ acc = hval 0 (bs.take k))) (fun _ _ vi => 8 - (intOf vi).toNat)
  case atStart => exact ⟨0, 0, 0, rfl, rfl, rfl, by omega, rfl, rfl⟩
  case round =>
    obtain ⟨k, acc, a, rfl, rfl, rfl, hk, hh⟩ := hrel
    obtain ⟨ha, hh⟩ := hh.out
    have hacc := HBD.out k (by omega)
    rw [← hh] at hacc
    by_cases hkn : k < 8
    · have hc := HC.out k hkn
      have hget : bs.getD k 0 = bs[k]'(by omega) := by simp [List.getD, List.getElem?_eq_getElem (show k < bs.length by omega)]
      rw [hget] at hc
      have hst := HST.out k (by omega)
      rw [← hh] at hst
      have hn2 := HBD.out (k + 1) (by omega)
      have hcx := HAT.out k (by omega)
      have hpk : 16 ^ (k + 1) ≤ 16 ^ 8 := Nat.pow_le_pow_right (by decide) (by omega)
      have hnew : hval 0 (bs.take (k + 1)) < 4294967296 := Nat.lt_of_lt_of_le hn2 hpk
      generalize bs[k]'(by omega) = c at hc hst hcx
      obtain ⟨nx, hnx⟩ : ∃ nx, nx = hval 0 (bs.take (k + 1)) := ⟨_, rfl⟩
      rw [← hnx] at hst hnew
      have HNX := Lib.hid hnx
      clear hn2 hpk hget hacc hnx hh HST HBD HAT
      have hc256 : c.toNat < 256 := c.toNat_lt
      have a0 : 0 ≤ a := by omega
      have a1 : a ≤ 268435455 := by omega
      rcases isHex_cases hcx with ⟨hd0, hd1⟩ | ⟨hd0, hd1⟩
      · have hdv : digV c = c.toNat - 48 := by unfold digV; rw [if_pos hd1]
        rw [hdv] at hst
        have HN : Hid (a * 16 + ((c.toNat : Int) - 48) = (nx : Int)) := Lib.hid (by omega)
        have iov : a * 16 + ((c.toNat : Int) - 48) ≤ 4294967295 := by omega
        clear hst hdv hcx hnew ha
        go_wp2
        exact ⟨⟨k + 1, nx, _, rfl, rfl, by go_num, by omega, HN.out, HNX.out⟩, by simp [intOf]; omega⟩
      · have hdv : digV c = c.toNat - 87 := by unfold digV; rw [if_neg (by omega)]
        rw [hdv] at hst
        have hor := or32 c hd0 hd1
        have HN : Hid (a * 16 + ((c.toNat : Int) - 87) = (nx : Int)) := Lib.hid (by omega)
        have iov : a * 16 + ((c.toNat : Int) - 87) ≤ 4294967295 := by omega
        clear hst hdv hcx hnew ha
        go_wp2_with (go_at_call 114; go_in)
        exact ⟨⟨k + 1, nx, _, rfl, rfl, by go_num, by omega, by have := HN.out; omega, HNX.out⟩, by simp [intOf]; omega⟩
    · have hkk : k = 8 := by omega
      subst hkk
      have HF : Hid (a = (hval 0 bs : Nat)) := by
        show _ = _
        rw [ha, hh, List.take_of_length_le (by omega)]
      clear hh hacc ha HST HBD HAT
      go_wp2
      go_ret2
      exact ⟨by rw [HF.out]; rfl, HBEL.out⟩
theorem ParseUint16 (s : ByteArray) (h8 : s.size = 8) (hx : s.data.toList.all isHex = true) (w : World) :
    Calls Tryd.prog 68 #[.string s, .int .i64 16, .int .i64 32] w fun e w' => e = .returned (.tuple #[.int .u64 (hval 0 s.data.toList : Nat), .nilIface]) ∧ Below w.heap.size w w' := by
  have HC := Lib.hid (inner_ParseUint s h8 hx w)
  clear hx
  go_enter Tryd.func68, Tryd.ntmps68
  go_wp2_with (go_at_call 91; refine HC.out.mono ?_; rintro e w' ⟨rfl, hb⟩; have HB := Lib.hid hb; clear hb)
  go_ret2
  exact ⟨rfl, HB.out⟩
end Go.Proofs.YtoafncjmjocaoaaDoor
