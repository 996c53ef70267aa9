/- nums: a number as bytes: the row of them. -/
import Derived.Test.YtmclbechnfedmaaFileOps
import Derived.Test.YtmclbechnfedmaaShelf
namespace Go.Proofs.Ytmclbechnfedmaa
open Go Go.RowKit Go.Shelf
theorem bits_Len64 (x : Int) (w : World) (h0 : 0 ≤ x) (h1 : x ≤ 18446744073709551615) :
    Calls Try.prog 73 #[.int .u64 x] w fun e w' => e = .returned (.int .i64 (Lib.bitLen x.toNat)) ∧ w' = w := Any.bits_Len64 Try.lays129 x w h0 h1

/-- k bytes of a number. -/
def encK : Nat → Nat → List UInt8
  | 0, _ => []
  | 1, n => [UInt8.ofNat (n % 128)]
  | k + 2, n => UInt8.ofNat (n % 128 + 128) :: encK (k + 1) (n / 128)
theorem encK_length (k n : Nat) : (encK k n).length = k := by
  induction k generalizing n with
  | zero => rfl
  | succ k ih =>
    cases k with
    | zero => rfl
    | succ k => simp [encK, ih]

theorem and127 : ∀ m : Fin 256, bits BinOp.and IntKind.u8 ((m : Nat) : Int) 127 = ((m.val % 128 : Nat) : Int) := by decide +kernel
theorem or128 : ∀ m : Fin 128, bits BinOp.or IntKind.u8 ((m : Nat) : Int) 128 = ((m.val + 128 : Nat) : Int) := by decide +kernel

section
variable {w w' : World}
set_option maxRecDepth 100000 in
theorem row_byte (a b n k : Nat) (hk : 1 ≤ k) (hk2 : k ≤ 10) (ha : Blk w a 80 #[.int .u64 n]) (hb : Blk w b 3 #[.int .i64 k]) :
    Calls Try.prog 84 #[.pointer (some ⟨a, 0, none⟩), .pointer (some ⟨b, 0, none⟩)] w fun e w' => e = .returned (.tuple #[.int .u8 (if 1 < k then n % 128 + 128 else n % 128 : Nat), .bool (decide (1 < k))]) ∧
      Mod (fun x => x = a ∨ x = b) w w' ∧ Blk w' a 80 #[.int .u64 (n / 128 : Nat)] ∧ Blk w' b 3 #[.int .i64 ((k : Int) - 1)] := by
  have hab : a ≠ b := ha.ne hb (by decide)
  have ca := ha.cell
  have fa := ha.frozen
  have cb := hb.cell
  have fb := hb.frozen
  have h127 : bits BinOp.and IntKind.u8 ((n : Int) % 256) 127 = ((n % 128 : Nat) : Int) := by
    have := and127 ⟨n % 256, Nat.mod_lt _ (by decide)⟩
    rw [show ((n : Int) % 256) = ((n % 256 : Nat) : Int) by omega, this]
    congr 1
    show n % 256 % 128 = n % 128
    omega
  have h128 : bits BinOp.or IntKind.u8 ((n % 128 : Nat) : Int) 128 = ((n % 128 + 128 : Nat) : Int) := or128 ⟨n % 128, Nat.mod_lt _ (by decide)⟩
  have HA := Lib.hid ha
  have HB := Lib.hid hb
  clear ha hb
  go_enter Try.func84, Try.ntmps84
  go_wp2
  all_goals
    refine wp_plan [(0, false), (1, false), (2, false), (3, false), (4, false)] Non (by kernel_rfl) (by kernel_rfl) (fun c d v a w h => by cases d <;> exact h) (fun w2 hm2 => ?_)
    have hA2 := ((HA.out.set 0 (.int .u64 (n / 128 : Int))).far (p := ⟨b, 0, none⟩) hab (.int .i64 ((k : Int) - 1))).mod hm2 (fun x => x)
    have hB2 := ((HB.out.far (p := ⟨a, 0, none⟩) (fun e => hab e.symm) (.int .u64 (n / 128 : Int))).set 0 (.int .i64 ((k : Int) - 1))).mod hm2 (fun x => x)
    have HA2 := Lib.hid hA2
    have HB2 := Lib.hid hB2
    clear hA2 hB2
    refine wpp_read _ rfl rfl (fun W hW => by have cW := (HB2.out.mod hW (fun x => x)).cell; first | (go_simp; done) | (go_simp; rfl) | rfl) ?_
    simp only [List.getElem_toArray, List.getElem_cons_zero]
    go_frame
    refine wpp_read _ rfl rfl (fun W hW => by have cW := (HB2.out.mod hW (fun x => x)).cell; first | (go_simp; done) | (go_simp; rfl) | rfl) ?_
    simp only [List.getElem_toArray, List.getElem_cons_succ, List.getElem_cons_zero]
    go_frame
    refine wpp_read _ rfl rfl (fun W hW => by have cW := (HB2.out.mod hW (fun x => x)).cell; first | (go_simp; done) | (go_simp; rfl) | rfl) ?_
    simp only [List.getElem_toArray, List.getElem_cons_succ, List.getElem_cons_zero]
    go_frame
    refine wpp_read _ rfl rfl (fun W hW => by have cW := (HB2.out.mod hW (fun x => x)).cell; first | (go_simp; done) | (go_simp; rfl) | rfl) ?_
    simp only [List.getElem_toArray, List.getElem_cons_succ, List.getElem_cons_zero]
    go_frame
    refine wpp_read _ rfl rfl (fun W hW => by have cW := (HB2.out.mod hW (fun x => x)).cell; first | (go_simp; done) | (go_simp; rfl) | rfl) ?_
    simp only [List.getElem_toArray, List.getElem_cons_succ, List.getElem_cons_zero]
    go_frame
    refine wpp_nil ?_
    go_wp2
  · go_ret2
    refine ⟨?_, (((Mod.refl _ w).setCell (p := ⟨a, 0, none⟩) (.inl (.inl rfl)) _).setCell (p := ⟨b, 0, none⟩) (.inl (.inr rfl)) _).trans (hm2.mono (fun _ x => x.elim)), HA2.out, HB2.out⟩
    rw [show ((n : Int) % 128) = ((n % 128 : Nat) : Int) by omega, h128]
    rfl
  · go_ret2
    have e : decide ((1 : Int) < (k : Int)) = false := by rw [decide_eq_false_iff_not]; omega
    refine ⟨by rw [← e]; rfl, (((Mod.refl _ w).setCell (p := ⟨a, 0, none⟩) (.inl (.inl rfl)) _).setCell (p := ⟨b, 0, none⟩) (.inl (.inr rfl)) _).trans (hm2.mono (fun _ x => x.elim)), HA2.out, HB2.out⟩
end
end Go.Proofs.Ytmclbechnfedmaa
