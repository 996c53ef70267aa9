/- What came in: a slice of acts, as the walk asks for them. -/
import Derived.Test.YtgillcppnpkkiaaGreatDoorActs
import Derived.ProofKit
import Derived.OpenShut
import Derived.ShutString
import Derived.ChangeOld
import Derived.Below
import Derived.SizedLaws
namespace Go.Proofs.YtgillcppnpkkiaaGreatDoor
open Go Go.RowKit Go.ChangeShapes Go.WideShapes Go.ChangeAt
theorem wt_each {H : Type} {P : Program} {e : TypeId} : ∀ {l : List (DataW H)} {d : DataW H}, d ∈ l → ∀ n ∈ d.weights P e, n ∈ DataW.weightsAll P e l
  | a :: r, d, hd, n, hn => by
    rw [DataW.weightsAll, List.mem_append]
    rcases List.mem_cons.1 hd with rfl | h
    · exact .inl hn
    · exact .inr (wt_each h n hn)
section
variable {H : Type} {enc : TypeId × Value → H} {w : World} {base : Nat} {sp : Nat → Bool} {held : Bool}
theorem u8_of {n : Int} (h : (Lit.int .u8 n).wf = true) : 0 ≤ n ∧ n < 256 := by
  have h0 : IntKind.u8.min = 0 := rfl
  have h1 : IntKind.u8.max = 255 := rfl
  simp [Lit.wf, h0, h1] at h
  omega
theorem cells8 : Tryz.prog.cellsOf 5 = 1 := by kernel_rfl
theorem cells8s : Tryz.prog.cellsOf 56 = 1 := by kernel_rfl
theorem und_u8x : Tryz.prog.underlying 5 = some (.int .u8) := by kernel_rfl
theorem bytes_of_trod {fuel : Nat} {v : Value} {x : DataW H × List MemPlace} (h : DataW.trod enc Tryz.prog w base sp held fuel 56 [v] = some x) :
    ∃ (A : Option Addr) (c : Nat) (b : List UInt8), v = .slice A b.length c ∧ RowAt w A b.length 1 (bv b) ∧ b.length ≤ maxLen := by
  rcases open_ints und_bytes und_u8x cells8 h with ⟨hcs, _⟩ | ⟨a, l, c, zs, hcs, _, hl, hm, hz, _, hcell, hwz⟩
  · simp at hcs
    subst hcs
    exact ⟨none, 0, [], rfl, RowAt.none, Nat.zero_le _⟩
  · simp at hcs
    subst hcs
    have hzl : l ≤ zs.length := by rw [hz]; split <;> omega
    have hbl : ((zs.take l).map fun n => UInt8.ofNat n.toNat).length = l := by simp; omega
    refine ⟨some a, c, (zs.take l).map fun n => UInt8.ofNat n.toNat, by rw [hbl], ⟨by rw [bv_length]; omega, fun _ => ⟨a, rfl, fun j u hu => ?_⟩⟩, by rw [hbl]; omega⟩
    rw [bv_get] at hu
    have hj : j < l := by
      rcases Nat.lt_or_ge j l with h1 | h1
      · exact h1
      · rw [List.getElem?_eq_none (by omega)] at hu
        cases hu
    rw [hcell j (by omega), ← hu]
    have hmem : zs[j]'(by omega) ∈ zs := List.getElem_mem _
    obtain ⟨h1, h2⟩ := u8_of (hwz _ hmem)
    rw [List.getElem?_map, List.getElem?_take_of_lt hj, List.getElem?_eq_getElem (by omega : j < zs.length)]
    simp only [Option.map_some, List.getD, List.getElem?_eq_getElem (by omega : j < zs.length), Option.getD_some, u8v]
    congr 2
    generalize zs[j]'(by omega) = n at *
    obtain ⟨m, rfl⟩ := Int.eq_ofNat_of_zero_le h1
    simp
    omega
theorem cells_act : Tryz.prog.cellsOf 58 = 5 := by kernel_rfl
theorem und_acts : Tryz.prog.underlying 22 = some (.slice 58) := by kernel_rfl
theorem cells_u32 : Tryz.prog.cellsOf 55 = 1 := by kernel_rfl
theorem cells_int : Tryz.prog.cellsOf 3 = 1 := by kernel_rfl
theorem cells_bool : Tryz.prog.cellsOf 4 = 1 := by kernel_rfl
theorem und_int3 : Tryz.prog.underlying 3 = some (.int .i64) := by kernel_rfl
theorem und_bool4 : Tryz.prog.underlying 4 = some .bool := by kernel_rfl
theorem bytes_u8 : Tryz.prog.bytesOf 5 = 1 := by kernel_rfl
theorem reach_is : reachBytes = 140737488351232 := rfl
theorem five_of_cells? {a : Addr} {cs : List Value} (h : w.cells? base a 5 = some cs) : ∃ v0 v1 v2 v3 v4, cs = [v0, v1, v2, v3, v4] ∧ w.cell? a = some v0 ∧ w.cell? (a.add 1) = some v1 ∧ w.cell? (a.add 2) = some v2 ∧ w.cell? (a.add 3) = some v3 ∧ w.cell? (a.add 4) = some v4 := by
  obtain ⟨_, hl, hc⟩ := World.cells?_some h
  match cs, hl with
  | [v0, v1, v2, v3, v4], _ =>
    have h0 := hc 0 (by omega)
    have h1 := hc 1 (by omega)
    have h2 := hc 2 (by omega)
    have h3 := hc 3 (by omega)
    have h4 := hc 4 (by omega)
    exact ⟨v0, v1, v2, v3, v4, rfl, by simpa [Addr.add] using h0, by simpa using h1, by simpa using h2, by simpa using h3, by simpa using h4⟩
theorem nat_of {k : IntKind} {n : Int} {b : Nat} (hmin : k.min = 0) (hmax : k.max = (b : Int) - 1) (h : (Lit.int k n).wf = true) : ∃ m : Nat, n = (m : Int) ∧ m < b := by
  simp [Lit.wf, hmin, hmax] at h
  exact ⟨n.toNat, by omega, by omega⟩
theorem trod_struct5 {P : Program} {t : TypeId} {f0 f1 f2 f3 f4 : Field} {fuel : Nat} {cs : List Value} {x : DataW H × List MemPlace} (ht : P.underlying t = some (.struct #[f0, f1, f2, f3, f4])) (h : DataW.trod enc P w base sp held fuel t cs = some x) :
    ∃ y0 y1 y2 y3 y4 n, x = (.agg [y0.1, y1.1, y2.1, y3.1, y4.1], y0.2 ++ (y1.2 ++ (y2.2 ++ (y3.2 ++ y4.2)))) ∧ cs.length = P.cellsOf t ∧ DataW.trod enc P w base sp held n f0.type ((cs.drop f0.offset).take (P.cellsOf f0.type)) = some y0 ∧
      DataW.trod enc P w base sp held n f1.type ((cs.drop f1.offset).take (P.cellsOf f1.type)) = some y1 ∧ DataW.trod enc P w base sp held n f2.type ((cs.drop f2.offset).take (P.cellsOf f2.type)) = some y2 ∧
      DataW.trod enc P w base sp held n f3.type ((cs.drop f3.offset).take (P.cellsOf f3.type)) = some y3 ∧ DataW.trod enc P w base sp held n f4.type ((cs.drop f4.offset).take (P.cellsOf f4.type)) = some y4 := by
  obtain ⟨xs, n, _, rfl, hl, hlen, hf⟩ := DataW.trod_struct ht h
  match xs, hlen with
  | [y0, y1, y2, y3, y4], _ => exact ⟨y0, y1, y2, y3, y4, n, by simp, hl, by simpa using hf 0 f0 rfl, by simpa using hf 1 f1 rfl, by simpa using hf 2 f2 rfl, by simpa using hf 3 f3 rfl, by simpa using hf 4 f4 rfl⟩
set_option maxRecDepth 100000 in
theorem act_of_trod {fuel : Nat} {cs : List Value} {y : DataW H × List MemPlace} (h : DataW.trod enc Tryz.prog w base sp held fuel 58 cs = some y) (hW : ∀ n ∈ y.1.weights Tryz.prog 58, n ≤ reachBytes) :
    ∃ x : AX, cs = [.int .u8 x.kind, .int .u32 x.n, .slice x.A x.b.length x.c, .int .i64 x.keep, .bool x.names] ∧ AxOk w x := by
  obtain ⟨y0, y1, y2, y3, y4, n, rfl, hl, g0, g1, g2, g3, g4⟩ := trod_struct5 Tryz.underlying58 h
  rw [cells_act] at hl
  match cs, hl with
  | [v0, v1, v2, v3, v4], _ =>
      simp only [cells8, cells8s, cells_u32, cells_int, cells_bool] at g0 g1 g2 g3 g4
      obtain ⟨k0, e0, _, w0⟩ := DataW.trod_int und_u8x g0
      obtain ⟨k1, e1, _, w1⟩ := DataW.trod_int und_u32 g1
      obtain ⟨k3, e3, _, w3⟩ := DataW.trod_int und_int3 g3
      obtain ⟨b4, e4, _⟩ := DataW.trod_bool und_bool4 g4
      simp at e0 e1 e3 e4
      subst e0 e1 e3 e4
      have g2' : DataW.trod enc Tryz.prog w base sp held n 56 [v2] = some y2 := g2
      obtain ⟨A, c, b, rfl, hr, hb⟩ := bytes_of_trod g2'
      obtain ⟨m0, rfl, hm0⟩ := nat_of (b := 256) rfl rfl w0
      obtain ⟨m1, rfl, hm1⟩ := nat_of (b := 4294967296) rfl rfl w1
      have h64 : -9223372036854775808 ≤ k3 ∧ k3 ≤ 9223372036854775807 := by
        have h0 : IntKind.i64.min = -9223372036854775808 := rfl
        have h1 : IntKind.i64.max = 9223372036854775807 := rfl
        simp [Lit.wf, h0, h1] at w3
        exact w3
      have hbl : b.length ≤ 140737488351232 := by
        rcases DataW.trod_slice und_bytes g2' with ⟨hcs, _⟩ | ⟨a, len, cap, elems, rest, _, _, hcs, hx, _, _, _, hle, _, _, _⟩
        · simp at hcs
          have hb0 : b.length = 0 := by simp [hcs]
          omega
        · simp at hcs
          have := hW ((elems.length + rest.length) * 1) (by
            simp only [List.map_cons, List.map_nil, DataW.weights, Tryz.underlying58, DataW.weightsEach, hx, und_bytes, bytes_u8, List.length_map, List.mem_append, List.mem_cons]
            simp)
          rw [reach_is] at this
          omega
      exact ⟨⟨m0, m1, A, c, b, k3, b4⟩, rfl, hr, hbl, hm0, hm1, h64.1, h64.2⟩
theorem acts_of_trod {fuel : Nat} {v : Value} {x : DataW H × List MemPlace} (h : DataW.trod enc Tryz.prog w base sp held fuel 22 [v] = some x) (hW : ∀ n ∈ x.1.weights Tryz.prog 22, n ≤ reachBytes) :
    ∃ (A : Option Addr) (c : Nat) (l : List AX), v = .slice A l.length c ∧ RowsA w A l ∧ l.length ≤ maxLen := by
  rcases DataW.trod_slice und_acts h with ⟨hcs, _⟩ | ⟨a, len, cap, elems, rest, n, _, hcs, hx, _, hl, hm, hlen, hel, _, _⟩
  · simp at hcs
    subst hcs
    exact ⟨none, 0, [], rfl, fun i b hb => by simp at hb, Nat.zero_le _⟩
  · simp at hcs
    subst hcs
    have hall : ∀ i, i < len → ∃ y : AX, w.cell? (a.add (i * 5)) = some (.int .u8 y.kind) ∧ w.cell? (a.add (i * 5 + 1)) = some (.int .u32 y.n) ∧ w.cell? (a.add (i * 5 + 2)) = some (.slice y.A y.b.length y.c) ∧ w.cell? (a.add (i * 5 + 3)) = some (.int .i64 y.keep) ∧ w.cell? (a.add (i * 5 + 4)) = some (.bool y.names) ∧ AxOk w y := by
      intro i hi
      have hE := hel i hi
      rw [cells_act, List.getElem?_eq_getElem (by omega : i < elems.length), Option.bind_eq_some_iff] at hE
      obtain ⟨cs, hc1, hc2⟩ := hE
      obtain ⟨v0, v1, v2, v3, v4, rfl, g0, g1, g2, g3, g4⟩ := five_of_cells? hc1
      obtain ⟨y, ey, hy⟩ := act_of_trod hc2 (fun m hm => hW m (by
        rw [hx]
        simp only [DataW.weights, und_acts, List.mem_cons, List.mem_append]
        exact .inr (.inl (wt_each (List.mem_map.2 ⟨_, List.getElem_mem _, rfl⟩) m hm))))
      simp only [List.cons.injEq, and_true] at ey
      obtain ⟨rfl, rfl, rfl, rfl, rfl⟩ := ey
      refine ⟨y, g0, ?_, ?_, ?_, ?_, hy⟩
      · rw [← add_of_add]; exact g1
      · rw [← add_of_add]; exact g2
      · rw [← add_of_add]; exact g3
      · rw [← add_of_add]; exact g4
    have hch : ∀ i : Fin len, _ := fun i => Classical.choose_spec (hall i.val i.isLt)
    refine ⟨some a, cap, List.ofFn fun i : Fin len => Classical.choose (hall i.val i.isLt), by rw [List.length_ofFn], fun i b hb => ?_, by rw [List.length_ofFn]; omega⟩
    have hi : i < len := by
      have := (List.getElem?_eq_some_iff.1 hb).1
      simpa using this
    have e : b = Classical.choose (hall i hi) := by
      rw [List.getElem?_ofFn, dif_pos hi] at hb
      exact (Option.some.inj hb).symm
    rw [e]
    exact ⟨a, rfl, hch ⟨i, hi⟩⟩
end
end Go.Proofs.YtgillcppnpkkiaaGreatDoor
