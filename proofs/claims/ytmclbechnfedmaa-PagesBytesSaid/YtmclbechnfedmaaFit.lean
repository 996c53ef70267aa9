/- The law's own functions 'fit', 'laid' over rows of bytes that came in. -/
import Derived.Test.YtmclbechnfedmaaLives
namespace Go.Proofs.Ytmclbechnfedmaa
open Go Go.RowKit
/-- Rows of bytes, as a slice of slices leads to them. -/
def Rows2 (w : World) (A : Option Addr) (l : List (List UInt8)) : Prop := ∀ (i : Nat) (b : List UInt8), l[i]? = some b → ∃ ad A' c, A = some ad ∧ w.cell? (ad.add i) = some (.slice A' b.length c) ∧ RowAt w A' b.length 1 (bv b) ∧ b.length ≤ maxLen
theorem Rows2.non {w w' : World} {A : Option Addr} {l : List (List UInt8)} (h : Rows2 w A l) (hm : Mod Non w w') : Rows2 w' A l := by
  intro i b hb
  obtain ⟨ad, A', c, e, hc, hr, hl⟩ := h i b hb
  exact ⟨ad, A', c, e, (World.cell?_of_block (w := w) (hm.block _ (World.block_lt_of_cell? w _ hc) (fun x => x))).trans hc, hr.non (by decide) hm, hl⟩

def FitSays (l : List (List UInt8)) (e : Ending) : Prop := ∃ r, e = .returned (.bool r) ∧ (r = true → l.length ≤ 200 ∧ ∀ x ∈ l, x.length ≤ 256)
theorem FitSays.no (l : List (List UInt8)) : FitSays l (.returned (.bool false)) := ⟨false, rfl, fun e => by cases e⟩

section
variable {w : World} {p : Nat} {G : Pg}
set_option maxHeartbeats 1000000 in
set_option maxRecDepth 100000 in
theorem fit_ok {A : Option Addr} {c : Nat} {l : List (List UInt8)} (h : Rows2 w A l) (hl : l.length ≤ maxLen) :
    Calls Try.prog 6 #[.slice A l.length c] w fun e w' => FitSays l e ∧ w' = w := by
  have H := Lib.hid h
  have hl2 : l.length ≤ 9223372036854775807 := hl
  clear h
  go_enter Try.func6, Try.ntmps6
  go_wp2
  go_loopw [3, 4] (fun n i wr => ∃ (k : Nat) (s : Int), k ≤ l.length ∧ i = .int .i64 k ∧ n = .int .i64 s ∧ (∀ (j : Nat) (x : List UInt8), j < k → l[j]? = some x → x.length ≤ 256) ∧ wr = w) (fun _ i _ => l.length - (intOf i).toNat)
  case atStart => exact ⟨0, 0, by omega, rfl, rfl, fun j x hj => absurd hj (Nat.not_lt_zero _), rfl⟩
  case round =>
    obtain ⟨k, s, hk, rfl, rfl, hall, rfl⟩ := hrel
    have HALL := Lib.hid hall
    clear hall
    by_cases hlt : k < l.length
    · obtain ⟨b, hb⟩ : ∃ b, l[k]? = some b := ⟨_, List.getElem?_eq_getElem hlt⟩
      obtain ⟨ad, A', c', rfl, hc, hr, hbl⟩ := H.out k b hb
      have HB := Lib.hid hb
      have hbl2 : b.length ≤ 9223372036854775807 := hbl
      clear hb hr hbl
      by_cases hb6 : b.length ≤ 256
      · go_wp2
        go_roundw
        case rel =>
          refine ⟨k + 1, _, by omega, by go_num, rfl, fun j x hj hx => ?_, trivial⟩
          rcases Nat.lt_or_eq_of_le (Nat.le_of_lt_succ hj) with h1 | h1
          · exact HALL.out j x h1 hx
          · subst h1
            rw [HB.out] at hx
            cases hx
            exact hb6
        case measure => simp [intOf]; omega
      · have hb7 : 256 < b.length := by omega
        go_wp2
        go_ret
        exact ⟨FitSays.no l, rfl⟩
    · have hke : k = l.length := by omega
      by_cases h1 : s ≤ 20000
      · go_wp2
        go_ret
        refine ⟨⟨_, rfl, fun h => ⟨by have := of_decide_eq_true h; omega, fun x hx => ?_⟩⟩, rfl⟩
        obtain ⟨j, hj, e⟩ := List.mem_iff_getElem.1 hx
        exact HALL.out j x (by omega) (by rw [← e]; exact List.getElem?_eq_getElem hj)
      · have h3 : 20000 < s := by omega
        go_wp2
        go_ret
        exact ⟨FitSays.no l, rfl⟩

theorem put_next {k : Nat} (h : PagRep w p (G.newed (k + 1))) (A : Option Addr) (m c : Nat) (l : List UInt8) (hr : RowAt w A m 1 (bv l)) (hm : m ≤ 256) :
    Calls Try.prog 17 #[.pointer (some ⟨p, 0, none⟩), .int .u32 ((k : Int) + 1), .slice A m c] w fun e w' => e = .returned (.int .i64 0) ∧ PagRep w' p ((G.newed (k + 1)).puts (k + 1) l) ∧ Mod (PS p G) w w' :=
  put_ok h (k + 1) zero256 (upd_same _ _ _) A m c l hr hm
theorem newed_puts_now (k : Nat) (l : List UInt8) (hnow : ∀ m, (G.now m).isSome = true ↔ 1 ≤ m ∧ m ≤ k) (m : Nat) : ((((G.newed (k + 1)).puts (k + 1) l).now m).isSome = true) ↔ 1 ≤ m ∧ m ≤ k + 1 := by
  show (upd (upd G.now (k + 1) (some zero256)) (k + 1) (some (padded l)) m).isSome = true ↔ _
  by_cases hm : m = k + 1
  · subst hm
    rw [upd_same]
    simp
  · rw [upd_other _ _ hm, upd_other _ _ hm, hnow]
    omega
set_option maxHeartbeats 1000000 in
set_option maxRecDepth 100000 in
theorem laid_ok {w0 : World} {A : Option Addr} {c : Nat} {l : List (List UInt8)} (h : PagRep w p G) (hnone : ∀ k, G.now k = none) (hr : Rows2 w0 A l) (hm0 : Mod Non w0 w) (hps : ∀ b, PS p G b → w0.heap.size ≤ b) (hl : l.length ≤ 200) (hle : ∀ x ∈ l, x.length ≤ 256) :
    Calls Try.prog 8 #[.pointer (some ⟨p, 0, none⟩), .slice A l.length c] w fun e w' => e = .returned (.int .i64 l.length) ∧ ∃ G', PagRep w' p G' ∧ (∀ b, PS p G' b → w0.heap.size ≤ b) ∧
      (∀ k, (G'.now k).isSome = true ↔ 1 ≤ k ∧ k ≤ l.length) ∧ Mod Non w0 w' := by
  have H := Lib.hid h
  have HR := Lib.hid hr
  have HM := Lib.hid hm0
  clear h hr hm0
  go_enter Try.func8, Try.ntmps8
  go_wp2
  go_loopw [5] (fun i wr => ∃ (k : Nat) (G' : Pg), k ≤ l.length ∧ i = .int .i64 k ∧ PagRep wr p G' ∧ (∀ b, PS p G' b → w0.heap.size ≤ b) ∧ (∀ m, (G'.now m).isSome = true ↔ 1 ≤ m ∧ m ≤ k) ∧ Mod Non w0 wr) (fun i _ => l.length - (intOf i).toNat)
  case atStart => exact ⟨0, G, by omega, rfl, H.out, hps, fun m => by rw [hnone]; simp; omega, HM.out⟩
  case round =>
    obtain ⟨k, G', hk, rfl, hrep, hps', hnow, hm⟩ := hrel
    by_cases hlt : k < l.length
    · obtain ⟨b, hb⟩ : ∃ b, l[k]? = some b := ⟨_, List.getElem?_eq_getElem hlt⟩
      have hb6 : b.length ≤ 256 := hle b (List.mem_of_getElem? hb)
      have hnone' : G'.now (k + 1) = none := by
        cases hg : G'.now (k + 1) with
        | none => rfl
        | some x => have := (hnow (k + 1)).1 (by rw [hg]; rfl); omega
      have HN := Lib.hid (new_ok hrep k (by omega) (fun j hj => (hnow (j + 1)).2 ⟨by omega, by omega⟩) hnone')
      have HX := Lib.hid (And.intro hps' (And.intro hnow hm))
      have HB := Lib.hid hb
      have HP0 := Lib.hid hrep
      clear hps' hnow hm hb hnone' hrep
      go_wp2_with (first
        | (go_at_call 11; refine HN.out.mono ?_; rintro e w1 ⟨rfl, hrep1, hm1⟩
           have HM1 := Lib.hid (HX.out.2.2.andThen hm1 (fun b hb hlt => by have := HX.out.1 b hb; omega))
           have HP1 := Lib.hid hrep1
           clear hrep1 hm1
           obtain ⟨ad, A', c', rfl, hc, hrow, _⟩ := (HR.out.non HM1.out) k b HB.out
           have HRow := Lib.hid hrow
           clear hrow)
        | (go_at_call 17; refine (put_next HP1.out A' b.length c' b HRow.out hb6).mono ?_; rintro e w2 ⟨rfl, hrep2, hm2⟩))
      go_roundw
      case rel => exact ⟨k + 1, _, by omega, by go_num, hrep2, HX.out.1, newed_puts_now k b HX.out.2.1, HM1.out.andThen hm2 (fun b hb hlt => by have := HX.out.1 b hb; omega)⟩
      case measure => simp [intOf]; omega
    · have hke : k = l.length := by omega
      go_wp2
      go_ret
      exact ⟨rfl, G', hrep, hps', by rw [← hke]; exact hnow, hm⟩
end
end Go.Proofs.Ytmclbechnfedmaa
