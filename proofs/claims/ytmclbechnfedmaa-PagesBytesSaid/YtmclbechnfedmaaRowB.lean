/- What came in: a slice of files, as the walk asks for them. -/
import Derived.Test.YtmclbechnfedmaaBytesW
import Derived.Test.YtmclbechnfedmaaRow
namespace Go.Proofs.Ytmclbechnfedmaa
open Go Go.RowKit Go.ChangeShapes Go.WideShapes Go.ChangeAt
section
variable {H : Type} {enc : TypeId × Value → H} {w : World} {base : Nat} {sp : Nat → Bool} {held : Bool}
theorem cells_file : Try.prog.cellsOf 46 = 2 := by kernel_rfl
theorem und_files : Try.prog.underlying 41 = some (.slice 46) := by kernel_rfl
theorem cells_string : Try.prog.cellsOf 9 = 1 := by kernel_rfl
theorem two_of_cells? {a : Addr} {cs : List Value} (h : w.cells? base a 2 = some cs) : ∃ u v, cs = [u, v] ∧ w.cell? a = some u ∧ w.cell? (a.add 1) = some v := by
  obtain ⟨_, hl, hc⟩ := World.cells?_some h
  match cs, hl with
  | [u, v], _ =>
    have h0 := hc 0 (by omega)
    have h1 := hc 1 (by omega)
    exact ⟨u, v, rfl, by simpa [Addr.add] using h0, by simpa using h1⟩
theorem files_of_trod {fuel : Nat} {v : Value} {x : DataW H × List MemPlace} (h : DataW.trod enc Try.prog w base sp held fuel 41 [v] = some x) :
    ∃ (A : Option Addr) (c : Nat) (l : List (ByteArray × List UInt8)), v = .slice A l.length c ∧ RowsF w A l ∧ l.length ≤ maxLen := by
  rcases DataW.trod_slice und_files h with ⟨hcs, _⟩ | ⟨a, len, cap, elems, rest, n, _, hcs, _, _, hl, hm, hlen, hel, _, _⟩
  · simp at hcs
    subst hcs
    exact ⟨none, 0, [], rfl, fun i b hb => by simp at hb, Nat.zero_le _⟩
  · simp at hcs
    subst hcs
    have hall : ∀ i, i < len → ∃ y : ByteArray × List UInt8, ∃ A' c, w.cell? (a.add (i * 2)) = some (.string y.1) ∧ w.cell? (a.add (i * 2 + 1)) = some (.slice A' y.2.length c) ∧ RowAt w A' y.2.length 1 (bv y.2) ∧ y.1.size ≤ maxLen ∧ y.2.length ≤ maxLen := by
      intro i hi
      have hE := hel i hi
      rw [cells_file, List.getElem?_eq_getElem (by omega : i < elems.length), Option.bind_eq_some_iff] at hE
      obtain ⟨cs, hc1, hc2⟩ := hE
      obtain ⟨u, v, rfl, hu1, hv1⟩ := two_of_cells? hc1
      obtain ⟨y0, y1, m, _, _, h0, h1⟩ := trod_struct2 Try.underlying46 hc2
      simp only [cells_string, cells8s] at h0 h1
      obtain ⟨s, es, _, hs⟩ := DataW.trod_string und_string h0
      simp at es
      subst es
      obtain ⟨A', c, b, rfl, hr, hb⟩ := bytes_of_trod h1
      refine ⟨(s, b), A', c, hu1, ?_, hr, hs, hb⟩
      rw [← add_of_add]
      exact hv1
    have hch : ∀ i : Fin len, _ := fun i => Classical.choose_spec (hall i.val i.isLt)
    refine ⟨some a, cap, List.ofFn fun i : Fin len => Classical.choose (hall i.val i.isLt), by rw [List.length_ofFn], fun i b hb => ?_, by rw [List.length_ofFn]; omega⟩
    have hi : i < len := by
      have := (List.getElem?_eq_some_iff.1 hb).1
      simpa using this
    have e : b = Classical.choose (hall i hi) := by
      rw [List.getElem?_ofFn, dif_pos hi] at hb
      exact (Option.some.inj hb).symm
    obtain ⟨A', c, h1, h2, h3, h4, h5⟩ := hch ⟨i, hi⟩
    rw [e]
    exact ⟨a, A', c, rfl, h1, h2, h3, h4, h5⟩
end
end Go.Proofs.Ytmclbechnfedmaa
