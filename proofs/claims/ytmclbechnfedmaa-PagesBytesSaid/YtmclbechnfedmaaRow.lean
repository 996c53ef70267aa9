/- What came in: a slice of bytes, a slice of slices of bytes, as the walks ask for them. -/
import Derived.Test.YtmclbechnfedmaaLeast
import Derived.ProofKit
import Derived.OpenShut
import Derived.ShutString
import Derived.ChangeOld
import Derived.Below
namespace Go.Proofs.Ytmclbechnfedmaa
open Go Go.RowKit Go.ChangeShapes Go.WideShapes Go.ChangeAt
section
variable {H : Type} {enc : TypeId × Value → H} {w : World} {base : Nat} {sp : Nat → Bool} {held : Bool}
theorem u8_of {n : Int} (h : (Lit.int .u8 n).wf = true) : 0 ≤ n ∧ n < 256 := by
  have h0 : IntKind.u8.min = 0 := rfl
  have h1 : IntKind.u8.max = 255 := rfl
  simp [Lit.wf, h0, h1] at h
  omega
theorem cells8 : Try.prog.cellsOf 5 = 1 := by kernel_rfl
theorem cells8s : Try.prog.cellsOf 23 = 1 := by kernel_rfl
theorem bytes_of_trod {fuel : Nat} {v : Value} {x : DataW H × List MemPlace} (h : DataW.trod enc Try.prog w base sp held fuel 23 [v] = some x) :
    ∃ (A : Option Addr) (c : Nat) (b : List UInt8), v = .slice A b.length c ∧ RowAt w A b.length 1 (bv b) ∧ b.length ≤ maxLen := by
  rcases open_ints und_bytes und_u8 cells8 h with ⟨hcs, _⟩ | ⟨a, l, c, zs, hcs, _, hl, hm, hz, _, hcell, hwz⟩
  · simp at hcs
    subst hcs
    exact ⟨none, 0, [], rfl, RowAt.none, Nat.zero_le _⟩
  · simp at hcs
    subst hcs
    have hzl : l ≤ zs.length := by rw [hz]; split <;> omega
    have hbl : ((zs.take l).map fun n => UInt8.ofNat n.toNat).length = l := by simp; omega
    refine ⟨some a, c, (zs.take l).map fun n => UInt8.ofNat n.toNat, by rw [hbl], ⟨by rw [bv_length]; omega, fun _ => ⟨a, rfl, fun j u hu => ?_⟩⟩, by rw [hbl]; omega⟩
    rw [bv_get] at hu
    have hj : j < l := by
      rcases Nat.lt_or_ge j l with h1 | h1
      · exact h1
      · rw [List.getElem?_eq_none (by omega)] at hu
        cases hu
    rw [hcell j (by omega), ← hu]
    have hmem : zs[j]'(by omega) ∈ zs := List.getElem_mem _
    obtain ⟨h1, h2⟩ := u8_of (hwz _ hmem)
    rw [List.getElem?_map, List.getElem?_take_of_lt hj, List.getElem?_eq_getElem (by omega : j < zs.length)]
    simp only [Option.map_some, List.getD, List.getElem?_eq_getElem (by omega : j < zs.length), Option.getD_some, u8v]
    congr 2
    generalize zs[j]'(by omega) = n at *
    obtain ⟨m, rfl⟩ := Int.eq_ofNat_of_zero_le h1
    simp
    omega

theorem one_of_cells? {a : Addr} {cs : List Value} (h : w.cells? base a 1 = some cs) : ∃ v, cs = [v] ∧ w.cell? a = some v := by
  obtain ⟨_, hl, hc⟩ := World.cells?_some h
  match cs, hl with
  | [v], _ => exact ⟨v, rfl, cell_of_cells?_one h⟩
theorem und_bytess : Try.prog.underlying 22 = some (.slice 23) := by kernel_rfl
theorem rows_of_trod {fuel : Nat} {v : Value} {x : DataW H × List MemPlace} (h : DataW.trod enc Try.prog w base sp held fuel 22 [v] = some x) :
    ∃ (A : Option Addr) (c : Nat) (l : List (List UInt8)), v = .slice A l.length c ∧ Rows2 w A l ∧ l.length ≤ maxLen := by
  rcases DataW.trod_slice und_bytess h with ⟨hcs, _⟩ | ⟨a, len, cap, elems, rest, n, _, hcs, _, _, hl, hm, hlen, hel, _, _⟩
  · simp at hcs
    subst hcs
    exact ⟨none, 0, [], rfl, fun i b hb => by simp at hb, Nat.zero_le _⟩
  · simp at hcs
    subst hcs
    have hall : ∀ i, i < len → ∃ b : List UInt8, ∃ A' c, w.cell? (a.add i) = some (.slice A' b.length c) ∧ RowAt w A' b.length 1 (bv b) ∧ b.length ≤ maxLen := by
      intro i hi
      have hE := hel i hi
      rw [cells8s, Nat.mul_one, List.getElem?_eq_getElem (by omega : i < elems.length), Option.bind_eq_some_iff] at hE
      obtain ⟨cs, hc1, hc2⟩ := hE
      obtain ⟨u, rfl, hu⟩ := one_of_cells? hc1
      obtain ⟨A', c, b, rfl, hr, hb⟩ := bytes_of_trod hc2
      exact ⟨b, A', c, hu, hr, hb⟩
    have hch : ∀ i : Fin len, _ := fun i => Classical.choose_spec (hall i.val i.isLt)
    refine ⟨some a, cap, List.ofFn fun i : Fin len => Classical.choose (hall i.val i.isLt), by rw [List.length_ofFn], fun i b hb => ?_, by rw [List.length_ofFn]; omega⟩
    have hi : i < len := by
      have := (List.getElem?_eq_some_iff.1 hb).1
      simpa using this
    have e : b = Classical.choose (hall i hi) := by
      rw [List.getElem?_ofFn, dif_pos hi] at hb
      exact (Option.some.inj hb).symm
    obtain ⟨A', c, h1, h2, h3⟩ := hch ⟨i, hi⟩
    rw [e]
    exact ⟨a, A', c, rfl, h1, h2, h3⟩
end
end Go.Proofs.Ytmclbechnfedmaa
