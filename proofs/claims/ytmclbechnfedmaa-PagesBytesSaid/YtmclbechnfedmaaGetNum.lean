/- nums.Get: a number back. -/
import Derived.Test.YtmclbechnfedmaaRecord
import Derived.Lib.EndianBits
namespace Go.Proofs.Ytmclbechnfedmaa
open Go Go.RowKit
theorem andNot128 : ∀ m : Fin 256, bits BinOp.andNot IntKind.u8 ((m : Nat) : Int) 128 = ((m.val % 128 : Nat) : Int) := by decide +kernel

/-- What Get answers. -/
inductive Got | ok (n took : Nat) | short | form
def nxt (k v x : Nat) : Nat := v + (if k = 9 then x % 2 else x % 128) * 2 ^ (7 * k)
def dec : Nat → Nat → List UInt8 → Got
  | k, _, [] => if 9 < k then .form else .short
  | k, v, x :: r => if 9 < k then .form else
      if 128 ≤ x.toNat then dec (k + 1) (nxt k v x.toNat) r
      else if (0 < k ∧ x.toNat = 0) ∨ (k = 9 ∧ 1 < x.toNat) then .form
      else .ok (nxt k v x.toNat) (k + 1)
def Got.val : Got → Value
  | .ok n t => .tuple #[.int .u64 n, .int .i64 t, .int .i64 0]
  | .short => .tuple #[.int .u64 0, .int .i64 0, .int .i64 5]
  | .form => .tuple #[.int .u64 0, .int .i64 0, .int .i64 4]

theorem pow_cases {k : Nat} (hk : k ≤ 9) : k = 0 ∨ k = 1 ∨ k = 2 ∨ k = 3 ∨ k = 4 ∨ k = 5 ∨ k = 6 ∨ k = 7 ∨ k = 8 ∨ k = 9 := by omega
theorem nxt_lt {k v x : Nat} (hk : k ≤ 8) (hv : v < 2 ^ (7 * k)) : nxt k v x < 2 ^ (7 * (k + 1)) := by
  unfold nxt
  rw [if_neg (by omega), show 7 * (k + 1) = 7 * k + 7 by omega, Nat.pow_add]
  have h1 : x % 128 ≤ 127 := by omega
  have h2 : x % 128 * 2 ^ (7 * k) ≤ 127 * 2 ^ (7 * k) := Nat.mul_le_mul_right _ h1
  omega
theorem or_shift {i P v z : Nat} (hP : P = 2 ^ i) (hv : v < P) (hz : z % P = 0) (hP2 : P ≤ 9223372036854775808) (hz2 : z < 18446744073709551616) : bits BinOp.or IntKind.u64 (v : Int) (z : Int) = ((v + z : Nat) : Int) := by
  subst hP
  rw [bits_join_low IntKind.u64 64 (by decide) (fun n h0 h1 => by rw [IntKind.wrap_u64]; omega) i (v : Int) (z : Int) (by omega) (by exact_mod_cast hv) (by
    have : (v : Int) < 9223372036854775808 := by omega
    have h2 : (2 : Int) ^ 64 = 18446744073709551616 := by decide
    omega) (by omega) (by exact_mod_cast hz) (by
    have h2 : (2 : Int) ^ 64 = 18446744073709551616 := by decide
    omega)]
  omega
theorem nxt_bits {k v x : Nat} (hk : k ≤ 9) (hv : v < 2 ^ (7 * k)) (hx : x < 256) :
    bits BinOp.or IntKind.u64 (v : Int) (IntKind.u64.wrap (IntKind.u64.wrap (bits BinOp.andNot IntKind.u8 (x : Int) 128) * 2 ^ (7 * k))) = ((nxt k v x : Nat) : Int) := by
  rw [andNot128 ⟨x, hx⟩]
  have h1 : IntKind.u64.wrap ((x % 128 : Nat) : Int) = ((x % 128 : Nat) : Int) := by rw [IntKind.wrap_u64]; omega
  rw [h1]
  have key : IntKind.u64.wrap (((x % 128 : Nat) : Int) * 2 ^ (7 * k)) = (((if k = 9 then x % 2 else x % 128) * 2 ^ (7 * k) : Nat) : Int) ∧ ((if k = 9 then x % 2 else x % 128) * 2 ^ (7 * k)) < 18446744073709551616 ∧ 2 ^ (7 * k) ≤ 9223372036854775808 := by
    rw [IntKind.wrap_u64]
    rcases pow_cases hk with rfl | rfl | rfl | rfl | rfl | rfl | rfl | rfl | rfl | rfl <;> simp <;> omega
  rw [key.1, or_shift (i := 7 * k) rfl hv (Nat.mul_mod_left _ _) key.2.2 key.2.1]
  rfl

section
variable {w w' : World}
theorem dec_end {k v : Nat} : dec k v [] = if 9 < k then .form else .short := rfl
theorem dec_cons {k v : Nat} {x : UInt8} {r : List UInt8} : dec k v (x :: r) = if 9 < k then .form else if 128 ≤ x.toNat then dec (k + 1) (nxt k v x.toNat) r else if (0 < k ∧ x.toNat = 0) ∨ (k = 9 ∧ 1 < x.toNat) then .form else .ok (nxt k v x.toNat) (k + 1) := rfl

set_option maxHeartbeats 1000000 in
set_option maxRecDepth 100000 in
theorem get_num (A : Option Addr) (m c : Nat) (b : List UInt8) (hr : RowAt w A m 1 (bv b)) (hm : m ≤ 1048576) :
    Calls Try.prog 34 #[.slice A m c] w fun e w' => e = .returned (dec 0 0 b).val ∧ w' = w := by
  have hbm : b.length = m := by have := hr.1; rw [bv_length] at this; omega
  have HR := Lib.hid hr
  have HBM := Lib.hid hbm
  clear hr hbm
  go_enter Try.func34, Try.ntmps34
  go_wp2
  go_loopw [2, 10] (fun n i wr => ∃ (k v : Nat), k ≤ m ∧ k ≤ 10 ∧ i = .int .i64 k ∧ n = .int .u64 v ∧ (k ≤ 9 → v < 2 ^ (7 * k)) ∧ dec k v (b.drop k) = dec 0 0 b ∧ wr = w) (fun _ i _ => 10 - (intOf i).toNat)
  case atStart => exact ⟨0, 0, by omega, by omega, rfl, rfl, fun _ => by decide, rfl, rfl⟩
  case round =>
    obtain ⟨k, v, hk, hk10, rfl, rfl, hv, hd, rfl⟩ := hrel
    have HD := Lib.hid hd
    clear hd
    by_cases hlt : k < m ∧ k < 10
    · obtain ⟨hlt1, hlt2⟩ := hlt
      have hv9 := hv (by omega)
      have hbl : k < b.length := by rw [HBM.out]; exact hlt1
      have hdr : b.drop k = b[k] :: b.drop (k + 1) := List.drop_eq_getElem_cons hbl
      have hD := HD.out
      rw [hdr, dec_cons, if_neg (by omega)] at hD
      obtain ⟨ad, u, rfl, hu, hc⟩ := HR.out.at1 hlt1
      rw [bv_get, List.getElem?_eq_getElem hbl] at hu
      cases hu
      unfold u8v at hc
      have hx := b[k].toNat_lt
      generalize b[k].toNat = x at *
      have hnx := nxt_bits (by omega : k ≤ 9) hv9 hx
      have hnl : k ≤ 8 → nxt k v x < 2 ^ (7 * (k + 1)) := fun h8 => nxt_lt h8 hv9
      generalize nxt k v x = n at *
      have hmin : ((k : Int) < min (m : Int) 10) := by omega
      have HNL := Lib.hid hnl
      clear hnl hv hv9 hdr hbl
      by_cases h128 : 128 ≤ x
      · rw [if_pos h128] at hD
        have HD2 := Lib.hid hD
        clear hD
        go_wp2
        go_roundw
        case rel => exact ⟨k + 1, n, by omega, by omega, by go_num, rfl, fun h9 => HNL.out (by omega), HD2.out, trivial⟩
        case measure => simp [intOf]; omega
      · rw [if_neg h128] at hD
        by_cases hk0 : k = 0
        · have hk0' : ¬ ((0 : Int) < (k : Int)) := by omega
          have hk9' : ((k : Int) == 9) = false := by simp; omega
          rw [if_neg (by omega)] at hD
          have HD2 := Lib.hid hD
          clear hD hk0
          go_wp2
          go_ret3
          exact ⟨by rw [← HD2.out]; rfl, rfl⟩
        · have hk1 : (0 : Int) < (k : Int) := by omega
          by_cases hx0 : x = 0
          · subst hx0
            rw [if_pos (.inl ⟨by omega, rfl⟩)] at hD
            have HD2 := Lib.hid hD
            clear hD
            go_wp2
            go_ret3
            exact ⟨by rw [← HD2.out]; rfl, rfl⟩
          · have hx0' : ((x : Int) == 0) = false := by simp; omega
            by_cases hk9 : k = 9
            · have hk9' : ((k : Int) == 9) = true := by simp; omega
              by_cases hx1 : 1 < x
              · rw [if_pos (.inr ⟨hk9, hx1⟩)] at hD
                have HD2 := Lib.hid hD
                clear hD hk9
                go_wp2
                go_ret3
                exact ⟨by rw [← HD2.out]; rfl, rfl⟩
              · rw [if_neg (by omega)] at hD
                have HD2 := Lib.hid hD
                clear hD hk9
                go_wp2
                go_ret3
                exact ⟨by rw [← HD2.out]; rfl, rfl⟩
            · have hk9' : ((k : Int) == 9) = false := by simp; omega
              rw [if_neg (by omega)] at hD
              have HD2 := Lib.hid hD
              clear hD
              go_wp2
              go_ret3
              exact ⟨by rw [← HD2.out]; rfl, rfl⟩
    · have hmin : ¬ ((k : Int) < min (m : Int) 10) := by omega
      have hD := HD.out
      by_cases hk10' : k = 10
      · subst hk10'
        have hform : dec 0 0 b = .form := by
          rw [← hD]
          cases b.drop 10 <;> rfl
        have HF := Lib.hid hform
        have hm9 : (9 : Int) < (m : Int) := by omega
        clear hD hform hv
        go_wp2
        go_ret3
        exact ⟨by rw [HF.out]; rfl, rfl⟩
      · have hkm : k = m := by omega
        rw [List.drop_eq_nil_of_le (by rw [HBM.out]; omega), dec_end, if_neg (by omega)] at hD
        have HF := Lib.hid hD
        have hm9 : ¬ ((9 : Int) < (m : Int)) := by omega
        clear hD hv
        go_wp2
        go_ret3
        exact ⟨by rw [← HF.out]; rfl, rfl⟩
end
end Go.Proofs.Ytmclbechnfedmaa
