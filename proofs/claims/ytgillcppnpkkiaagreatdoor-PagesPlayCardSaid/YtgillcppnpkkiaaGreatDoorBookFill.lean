/- A Book: fillByte. -/
import Derived.Test.YtgillcppnpkkiaaGreatDoorBookKeep
namespace Go.Proofs.YtgillcppnpkkiaaGreatDoor
open Go Go.RowKit
def mkv (n : Nat) : Value := .int .u8 ((1 + n % 250 : Nat) : Int)
theorem mark_ok (n : Nat) (hn : n ≤ 1000000) (w : World) : Calls Tryz.prog 129 #[.int .i64 n] w fun e w' => e = .returned (mkv n) ∧ w = w' := by
  have hc : IntKind.u8.wrap (1 + (n : Int) % 250) = 1 + (n : Int) % 250 := by rw [IntKind.wrap_u8]; omega
  go_enter Tryz.func129, Tryz.ntmps129
  go_wp2
  go_ret
  refine ⟨?_, rfl⟩
  unfold mkv
  congr 2
theorem is_ok (n : Nat) (hn : n ≤ 1000000) (w : World) : Calls Tryz.prog 148 #[mkv n, .int .i64 n] w fun e w' => e = .returned (.bool true) ∧ w = w' := by
  have hc : IntKind.u8.wrap (1 + (n : Int) % 250) = 1 + (n : Int) % 250 := by rw [IntKind.wrap_u8]; omega
  have he : (((1 + n % 250 : Nat) : Int) == 1 + (n : Int) % 250) = true := by simp
  unfold mkv
  generalize ((1 + n % 250 : Nat) : Int) = m at *
  go_enter Tryz.func148, Tryz.ntmps148
  go_wp2
  go_ret
  exact ⟨rfl, rfl⟩
/-- A block whose first cells all bear a mark. -/
def Marked (w : World) (g len cap n : Nat) : Prop := ∃ cur, Blk w g 5 cur ∧ cap ≤ cur.size ∧ ∀ j, j < len → cur[j]? = some (mkv n)
theorem Marked.mod {w w' : World} {S : Nat → Prop} {g len cap n : Nat} (h : Marked w g len cap n) (hm : Mod S w w') (hn : ¬ S g) : Marked w' g len cap n := by
  obtain ⟨cur, h1, h2⟩ := h
  exact ⟨cur, h1.mod hm hn, h2⟩
theorem Marked.none {w : World} {g cap n : Nat} {cur : Array Value} (h : Blk w g 5 cur) (hc : cap ≤ cur.size) : Marked w g 0 cap n := ⟨cur, h, hc, fun _ h => by omega⟩
theorem Marked.store {w : World} {g q cap n : Nat} (h : Marked w g q cap n) (hq : q < cap) : Marked (w.setCell ⟨g, q, Option.none⟩ (mkv n)) g (q + 1) cap n := by
  obtain ⟨cur, h1, h2, h3⟩ := h
  refine ⟨_, h1.set q (mkv n), by simpa using h2, fun j hj => ?_⟩
  by_cases e : j = q
  · subst e
    rw [Array.getElem?_setIfInBounds_self_of_lt (by omega)]
  · rw [Array.getElem?_setIfInBounds_ne (by omega)]
    exact h3 j (by omega)
theorem Marked.cell {w : World} {g q cap n : Nat} (h : Marked w g q cap n) {j : Nat} (hj : j < q) : w.cell? ⟨g, j, Option.none⟩ = some (mkv n) := by
  obtain ⟨cur, h1, _, h3⟩ := h
  rw [h1.cell]
  exact h3 j hj
section
variable {w w' : World} {k : Nat} {B : Bk} {S : Nat → Prop}
/-- Fill's state behind j lists. -/
structure FillSt (w : World) (k : Nat) (B : Bk) (j : Nat) (wr : World) : Prop where
  rep : BookRep wr k B
  done : ∀ i x g, i < j → B.l[i]? = some x → x.g = some g → Marked wr g x.len x.cap x.n
  mod : Mod (BS k B) w wr
theorem HB.in {i : Nat} {x : HB} (h : B.l[i]? = some x) {g : Nat} (e : x.g = some g) : BS k B g := .inr (.inr ⟨x, List.mem_of_getElem? h, e⟩)
theorem BookRep.apart (h : BookRep w k B) {i j : Nat} {x y : HB} (hx : B.l[i]? = some x) (hy : B.l[j]? = some y) (hij : i ≠ j) {g : Nat} (e : x.g = some g) : y.g ≠ some g := by
  have hs := List.pairwise_iff_getElem.1 h.sep
  obtain ⟨hi, rfl⟩ := List.getElem?_eq_some_iff.1 hx
  obtain ⟨hj, rfl⟩ := List.getElem?_eq_some_iff.1 hy
  intro e2
  rcases Nat.lt_or_ge i j with h1 | h1
  · exact hs i j hi hj h1 g e e2
  · exact hs j i hj hi (by omega) g e2 e
theorem BookRep.ne (h : BookRep w k B) {i : Nat} {x : HB} (hx : B.l[i]? = some x) {g : Nat} (e : x.g = some g) : g ≠ k ∧ B.v.ownBlock ≠ some g := by
  obtain ⟨cur, hb, _⟩ := (h.ok x (List.mem_of_getElem? hx)).blk g e
  exact ⟨hb.ne h.blk (by decide), own_blk_ne h.own hb (by decide)⟩
/-- What is written in the block of the list j. -/
theorem FillSt.next {j : Nat} {wr w2 : World} (h : FillSt w k B j wr) {x : HB} (hx : B.l[j]? = some x) (hm : ∀ S : Nat → Prop, (∀ g, x.g = some g → S g) → Mod S wr w2) (hd : ∀ g, x.g = some g → Marked w2 g x.len x.cap x.n) : FillSt w k B (j + 1) w2 := by
  have hm' := hm (fun b => x.g = some b) (fun g e => e)
  have hr := h.rep
  refine ⟨⟨hr.blk.mod hm' (fun e => (hr.ne hx e).1 rfl), owns_keep hr.own (fun b hb => hm'.block b (hr.own.lt b hb).2 (fun e => (hr.ne hx e).2 hb)), fun y hy => ?_, hr.sep, hr.len, hr.num⟩, fun i y g hi hy e => ?_, h.mod.trans (hm _ (fun g e => HB.in hx e))⟩
  · obtain ⟨i, hi⟩ := List.mem_iff_getElem?.1 hy
    by_cases e : i = j
    · subst e
      rw [hx] at hi
      cases hi
      have h0 := hr.ok x hy
      exact ⟨fun g e => by obtain ⟨cur, h1, h2, _⟩ := hd g e; exact ⟨cur, h1, h2⟩, h0.none, h0.le, h0.max⟩
    · exact (hr.ok y hy).mod hm' (fun g e2 e3 => hr.apart hi hx e e2 e3)
  · by_cases e2 : i = j
    · subst e2
      rw [hx] at hy
      cases hy
      exact hd g e
    · exact (h.done i y g (by omega) hy e).mod hm' (fun e3 => hr.apart hy hx e2 e e3)
theorem BookRep.items (h : BookRep w k B) : ∃ A c, B.v = .slice A B.l.length c ∧ ∀ i x, B.l[i]? = some x → ∃ ad, A = some ad ∧ w.cell? (ad.add (i * 3)) = some (.slice x.a x.len x.cap) ∧ w.cell? ((ad.add (i * 3)).add 1) = some x.long ∧ w.cell? ((ad.add (i * 3)).add 2) = some (.int .i64 x.n) := by
  obtain ⟨A, c, e, _, hr, _⟩ := owns_form h.own
  refine ⟨A, c, e, fun i x hx => ?_⟩
  have hil := (List.getElem?_eq_some_iff.1 hx).1
  obtain ⟨ad, ea, hc⟩ := hr.2 (by omega)
  refine ⟨ad, ea, hc _ _ ?_, ?_, ?_⟩
  · exact fm_get hbc_length hx (j := 0) (by omega)
  · rw [add_of_add]
    exact hc _ _ (fm_get hbc_length hx (j := 1) (by omega))
  · rw [add_of_add]
    exact hc _ _ (fm_get hbc_length hx (j := 2) (by omega))
end
end Go.Proofs.YtgillcppnpkkiaaGreatDoor
