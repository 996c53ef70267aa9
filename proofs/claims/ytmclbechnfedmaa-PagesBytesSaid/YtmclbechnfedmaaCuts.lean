/- Parts of a row of bytes; an array out of one. -/
import Derived.Test.YtmclbechnfedmaaRead
namespace Go.Proofs.Ytmclbechnfedmaa
open Go Go.RowKit
section
variable {w w' : World}
theorem row_part {ad : Addr} {m c t h : Nat} {b : List UInt8} (hr : RowAt w (some ad) m 1 (bv b)) (hth : t ≤ h) (hh : h ≤ m) (hmc : m ≤ c) :
    RowAt w (some (if c = t then ad else ad.add t)) (h - t) 1 (bv ((b.drop t).take (h - t))) ∧ (if c = t then ad else ad.add t).block = ad.block := by
  have hbm : b.length = m := by have := hr.1; rw [bv_length] at this; omega
  refine ⟨⟨by rw [bv_length, List.length_take, List.length_drop]; omega, fun hn => ?_⟩, ?_⟩
  · rw [if_neg (by omega)]
    refine ⟨_, rfl, fun j u hu => ?_⟩
    obtain ⟨ad', e, hc⟩ := hr.2 (by omega)
    cases e
    rw [add_of_add]
    refine hc (t + j) u ?_
    rw [bv_get] at hu ⊢
    have hj : j < h - t := by
      rcases Nat.lt_or_ge j (h - t) with h1 | h1
      · exact h1
      · rw [List.getElem?_eq_none (by rw [List.length_take, List.length_drop]; omega)] at hu
        cases hu
    rw [List.getElem?_take_of_lt hj, List.getElem?_drop] at hu
    exact hu
  · split
    · rfl
    · exact block_of_add _ _
theorem row_rest {ad : Addr} {m c t : Nat} {b : List UInt8} (hr : RowAt w (some ad) m 1 (bv b)) (ht : t ≤ m) (hmc : m ≤ c) :
    RowAt w (some (if c = t then ad else ad.add t)) (m - t) 1 (bv (b.drop t)) ∧ (if c = t then ad else ad.add t).block = ad.block := by
  have hbm : b.length = m := by have := hr.1; rw [bv_length] at this; omega
  have := row_part hr ht (Nat.le_refl m) hmc
  rwa [List.take_of_length_le (by rw [List.length_drop]; omega)] at this

section
variable {ops : Array Oper} {a : Act} {rest : List Oper} {o : Oper} {Q : Exit → Act → World → Prop}
theorem elem_bytes : Try.prog.elem 23 = 5 := by kernel_rfl
theorem size_u8 (w : World) : (sizeOf 5).run Try.prog w = .ok 1 w := by kernel_rfl
theorem run_cut (ad : Addr) (m c t h : Nat) (ht : t ≤ h) (hh : h ≤ m) (hmc : m ≤ c) (w : World) :
    (Instr.sliceAt 23 (.slice (some ad) m c) (some (.int .i64 (t : Int))) (some (.int .i64 (h : Int))) none).run Try.prog w = .ok (.slice (some (if c = t then ad else ad.add t)) (h - t) (c - t)) w := by
  have e : Try.prog.underlying 23 = some (.slice (Try.prog.elem 23)) := by rw [elem_bytes]; exact und_bytes
  rw [run_sliceAt_slice _ _ _ _ _ _ e, run_slice_lh _ _ _ _ _ e _ _ _ _ (by omega) (by omega) (by omega), elem_bytes, size_u8]
  simp only [Result.andThen_ok, sliced, Int.toNat_natCast, Nat.mul_one, Option.map_some]
  split <;> rfl
theorem run_cut_from (ad : Addr) (m c t : Nat) (ht : t ≤ m) (w : World) :
    (Instr.sliceAt 23 (.slice (some ad) m c) (some (.int .i64 (t : Int))) none none).run Try.prog w = .ok (.slice (some (if c = t then ad else ad.add t)) (m - t) (c - t)) w := by
  have e : Try.prog.underlying 23 = some (.slice (Try.prog.elem 23)) := by rw [elem_bytes]; exact und_bytes
  rw [run_sliceAt_slice _ _ _ _ _ _ e, run_slice_l _ _ _ _ _ e _ _ (by omega) (by omega), elem_bytes, size_u8]
  simp only [Result.andThen_ok, sliced, Int.toNat_natCast, Nat.mul_one, Option.map_some]
  split <;> rfl
/-- b[t:]. -/
theorem wpl_from (hg : o.guard = none) (x y : Operand) (ho : o.op = .slice 23 x (some y) none none) {ad : Addr} {m c t : Nat} {b : List UInt8} (hx : a.eval x = .slice (some ad) m c) (hy : a.eval y = .int .i64 (t : Int))
    (hr : RowAt w (some ad) m 1 (bv b)) (ht : t ≤ m) (hmc : m ≤ c)
    (hK : ∀ ad', ad'.block = ad.block → RowAt w (some ad') (m - t) 1 (bv (b.drop t)) → wpList Try.prog ops Q rest (a.put o.dst (.slice (some ad') (m - t) (c - t))) w) : wpList Try.prog ops Q (o :: rest) a w := by
  refine wpl_run hg ?_ (hK _ (row_rest hr ht hmc).2 (row_rest hr ht hmc).1)
  have := run_cut_from ad m c t ht w
  simp [execOp, ho, hx, hy, this]
/-- b[t:h]. -/
theorem wpl_part (hg : o.guard = none) (x y z : Operand) (ho : o.op = .slice 23 x (some y) (some z) none) {ad : Addr} {m c t h : Nat} {b : List UInt8} (hx : a.eval x = .slice (some ad) m c) (hy : a.eval y = .int .i64 (t : Int)) (hz : a.eval z = .int .i64 (h : Int))
    (hr : RowAt w (some ad) m 1 (bv b)) (ht : t ≤ h) (hh : h ≤ m) (hmc : m ≤ c)
    (hK : ∀ ad', ad'.block = ad.block → RowAt w (some ad') (h - t) 1 (bv ((b.drop t).take (h - t))) → wpList Try.prog ops Q rest (a.put o.dst (.slice (some ad') (h - t) (c - t))) w) : wpList Try.prog ops Q (o :: rest) a w := by
  refine wpl_run hg ?_ (hK _ (row_part hr ht hh hmc).2 (row_part hr ht hh hmc).1)
  have := run_cut ad m c t h ht hh hmc w
  simp [execOp, ho, hx, hy, hz, this]
end
end
end Go.Proofs.Ytmclbechnfedmaa
