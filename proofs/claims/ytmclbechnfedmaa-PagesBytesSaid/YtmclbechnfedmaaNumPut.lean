/- nums.Put. -/
import Derived.Test.YtmclbechnfedmaaNums
namespace Go.Proofs.Ytmclbechnfedmaa
open Go Go.RowKit

/-- How many bytes a number takes. -/
def vlen (n : Nat) : Nat := max 1 ((Lib.bitLen n + 6) / 7)
theorem vlen_pos (n : Nat) : 1 ≤ vlen n := Nat.le_max_left _ _
theorem bitLen_le (n : Nat) : Lib.bitLen n ≤ 64 := by
  have h : ∀ f x, Lib.bitLenAux f x ≤ f := by
    intro f
    induction f with
    | zero => intro x; simp [Lib.bitLenAux]
    | succ f ih => intro x; unfold Lib.bitLenAux; split <;> (try have := ih (x / 2)); all_goals omega
  exact h 64 n
theorem vlen_le (n : Nat) : vlen n ≤ 10 := by
  have := bitLen_le n
  unfold vlen
  omega
def enc (n : Nat) : List UInt8 := encK (vlen n) n

section
variable {w w' : World}
set_option maxRecDepth 100000 in
theorem row_ok (w : World) (n : Nat) (hn : n < 18446744073709551616) :
    Calls Try.prog 74 #[.int .u64 n] w fun e w' => ∃ a b, e = .returned (.func (.func 84) #[] #[.pointer (some ⟨a, 0, none⟩), .pointer (some ⟨b, 0, none⟩)]) ∧ Blk w' a 80 #[.int .u64 n] ∧ Blk w' b 3 #[.int .i64 (vlen n)] ∧ w.heap.size ≤ a ∧ w.heap.size ≤ b ∧ Mod Non w w' := by
  have hL := fun (W : World) => bits_Len64 (n : Int) W (by omega) (by omega)
  have hb := bitLen_le n
  simp only [Int.toNat_natCast] at hL
  generalize hbl : Lib.bitLen n = B at *
  go_enter Try.func74, Try.ntmps74
  go_wp2_with (go_at_call 73; refine (hL _).mono ?_; rintro e w1 ⟨rfl, rfl⟩)
  go_ret
  refine ⟨w.heap.size, w.heap.size + 1, rfl, (Blk.new w _ _).alloc _, ?_, Nat.le_refl _, Nat.le_succ _, ((Mod.refl _ w).alloc _).alloc _⟩
  have hs : (w.alloc (.cells #[.int .u64 n] 80)).heap.size = w.heap.size + 1 := by simp
  have hv : max 1 (((B : Int) + 7 - 1) / 7) = (vlen n : Nat) := by
    unfold vlen
    rw [hbl]
    omega
  have hk := (Blk.new (w.alloc (.cells #[.int .u64 n] 80)) 3 #[.int .i64 (max 1 (((B : Int) + 7 - 1) / 7))])
  rw [hs] at hk
  rw [← hv]
  exact hk
end
end Go.Proofs.Ytmclbechnfedmaa
