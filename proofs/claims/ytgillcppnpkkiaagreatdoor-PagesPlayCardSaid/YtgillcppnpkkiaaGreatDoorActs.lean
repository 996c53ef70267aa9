/- What came in: a list of acts; great. -/
import Derived.Test.YtgillcppnpkkiaaGreatDoorPagKeep
import Derived.Test.YtgillcppnpkkiaaGreatDoorDisks
namespace Go.Proofs.YtgillcppnpkkiaaGreatDoor
open Go Go.RowKit
structure AX where
  kind : Nat
  n : Nat
  A : Option Addr
  c : Nat
  b : List UInt8
  keep : Int
  names : Bool
structure AxOk (w : World) (x : AX) : Prop where
  row : RowAt w x.A x.b.length 1 (bv x.b)
  len : x.b.length ≤ 140737488351232
  kind : x.kind < 256
  n : x.n < 4294967296
  k1 : -9223372036854775808 ≤ x.keep
  k2 : x.keep ≤ 9223372036854775807
/-- Acts, as a slice of them leads to them. -/
def RowsA (w : World) (A : Option Addr) (l : List AX) : Prop := ∀ (i : Nat) (x : AX), l[i]? = some x → ∃ ad, A = some ad ∧ w.cell? (ad.add (i * 5)) = some (.int .u8 x.kind) ∧ w.cell? (ad.add (i * 5 + 1)) = some (.int .u32 x.n) ∧
  w.cell? (ad.add (i * 5 + 2)) = some (.slice x.A x.b.length x.c) ∧ w.cell? (ad.add (i * 5 + 3)) = some (.int .i64 x.keep) ∧ w.cell? (ad.add (i * 5 + 4)) = some (.bool x.names) ∧ AxOk w x
theorem RowsA.non {w w' : World} {A : Option Addr} {l : List AX} (h : RowsA w A l) (hm : Mod Non w w') : RowsA w' A l := by
  intro i x hx
  obtain ⟨ad, e, h0, h1, h2, h3, h4, h5⟩ := h i x hx
  have tr : ∀ {p : Addr} {v : Value}, w.cell? p = some v → w'.cell? p = some v := fun {p v} hc => (World.cell?_of_block (w := w) (hm.block _ (World.block_lt_of_cell? w _ hc) (fun x => x))).trans hc
  exact ⟨ad, e, tr h0, tr h1, tr h2, tr h3, tr h4, h5.row.non (by decide) hm, h5.len, h5.kind, h5.n, h5.k1, h5.k2⟩
def sumA (l : List AX) : Nat → Nat
  | 0 => 0
  | k + 1 => sumA l k + (match l[k]? with | some x => 1 + x.b.length / 8 | none => 0)
theorem sumA_le {l : List AX} (h : ∀ x ∈ l, x.b.length ≤ 140737488351232) (k : Nat) : sumA l k ≤ k * 17592186043905 := by
  generalize hB : 17592186043905 = B
  induction k with
  | zero => simp [sumA]
  | succ k ih =>
    have e : (match l[k]? with | some x => 1 + x.b.length / 8 | none => 0) ≤ B := by
      cases hx : l[k]? with
      | none => exact Nat.zero_le _
      | some x =>
        have := h x (List.mem_of_getElem? hx)
        show 1 + x.b.length / 8 ≤ B
        omega
    rw [sumA, Nat.add_mul, Nat.one_mul]
    exact Nat.add_le_add ih e
theorem sumA_ge {l : List AX} {i : Nat} {x : AX} (hx : l[i]? = some x) : ∀ k, i < k → x.b.length / 8 + 1 ≤ sumA l k
  | 0, h => by omega
  | k + 1, h => by
    rw [sumA]
    by_cases e : i = k
    · subst e
      rw [hx]
      simp only []
      omega
    · have := sumA_ge hx k (by omega)
      omega
def GreatSays (l : List AX) (e : Ending) : Prop := ∃ r, e = .returned (.bool r) ∧ (r = false → l.length ≤ 300 ∧ ∀ x ∈ l, x.b.length ≤ 24007)
section
variable {w : World}
set_option maxHeartbeats 400000 in
theorem great_ok {A : Option Addr} {c : Nat} {l : List AX} (h : RowsA w A l) (hl : l.length ≤ maxLen) :
    Calls Tryz.prog 4 #[.slice A l.length c] w fun e w' => GreatSays l e ∧ w = w' := by
  have hl' : l.length ≤ 9223372036854775807 := hl
  have HA := Lib.hid h
  have HL : Hid (∀ x ∈ l, x.b.length ≤ 140737488351232) := Lib.hid fun x hx => by
    obtain ⟨i, hi⟩ := List.mem_iff_getElem?.1 hx
    obtain ⟨ad, _, _, _, _, _, _, h5⟩ := h i x hi
    exact h5.len
  clear h hl
  go_enter Tryz.func4, Tryz.ntmps4
  go_wp2
  go_loop [3, 4] (fun v i => ∃ (k : Nat) (n : Int), k ≤ l.length ∧ v = .int .i64 n ∧ i = .int .i64 k ∧ Hid (l.length ≤ 300 → n = sumA l k)) (fun _ i => l.length - (intOf i).toNat)
  case atStart => exact ⟨0, 0, Nat.zero_le _, rfl, rfl, Lib.hid (fun _ => rfl)⟩
  case round =>
    obtain ⟨k, n, hk, rfl, rfl, HN⟩ := hrel
    by_cases hlt : k < l.length
    · obtain ⟨x, hx⟩ : ∃ x, l[k]? = some x := ⟨_, List.getElem?_eq_getElem hlt⟩
      obtain ⟨ad, rfl, _, _, h2, _, _, h5⟩ := HA.out k x hx
      rw [← add_of_add] at h2
      have c2 : w.cell? ⟨(ad.add (k * 5)).block, (ad.add (k * 5)).off + 2, none⟩ = some (.slice x.A x.b.length x.c) := h2
      have hxl := h5.len
      have HX := Lib.hid hx
      have HK : Hid (l.length ≤ 300 → k < 300) := Lib.hid (fun h => by omega)
      clear hx h2 h5
      go_wp2
      go_round
      case rel => exact ⟨k + 1, _, by omega, rfl, by go_num, Lib.hid (fun h => by
        have hk3 := HK.out h
        have e := HN.out h
        have hs := sumA_le HL.out k
        rw [sumA, HX.out]
        subst e
        unfold wrap64
        simp only []
        omega)⟩
      case measure => simp [intOf]; omega
    · have : k = l.length := by omega
      subst this
      clear hlt
      by_cases h3 : (3000 : Int) < n
      · go_wp2
        go_ret
        exact ⟨⟨true, by simp, fun h => by cases h⟩, rfl⟩
      · by_cases h4 : 300 < l.length
        · have hd : decide (3000 < n) = false := decide_eq_false h3
          go_wp2
          go_ret
          exact ⟨⟨true, by simp; omega, fun h => by cases h⟩, rfl⟩
        · have hd : decide (3000 < n) = false := decide_eq_false h3
          go_wp2
          go_ret
          refine ⟨⟨false, by simp; omega, fun _ => ⟨by omega, fun x hx => ?_⟩⟩, rfl⟩
          obtain ⟨i, hi⟩ := List.mem_iff_getElem?.1 hx
          have := sumA_ge hi l.length (List.getElem?_eq_some_iff.1 hi).1
          have e := HN.out (by omega)
          omega
end
end Go.Proofs.YtgillcppnpkkiaaGreatDoor
