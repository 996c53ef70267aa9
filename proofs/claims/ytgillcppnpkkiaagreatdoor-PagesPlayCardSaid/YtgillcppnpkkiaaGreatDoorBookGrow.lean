/- A Book: growByte: what one more byte does. -/
import Derived.Test.YtgillcppnpkkiaaGreatDoorBookFillW
import Derived.ArgAppend
namespace Go.Proofs.YtgillcppnpkkiaaGreatDoor
open Go Go.RowKit
section
variable {P : Program} {ops : Array Oper} {a : Act} {w w' : World} {rest : List Oper} {o : Oper} {Q : Exit → Act → World → Prop}
theorem wpl_append_run {v v' u : Value} (hg : o.guard = none) (s x : Operand) (ts : Array TypeId) (ho : o.op = .call { callee := .builtin .append, args := #[s, x], argTypes := ts }) (hs : a.eval s = v) (hx : a.eval x = u)
    (hr : (Builtin.append_ ts o.type #[v, u]).run P w = .ok v' w') (h : wpList P ops Q rest (a.put o.dst v') w') : wpList P ops Q (o :: rest) a w :=
  wpl_run hg (by simp [execOp, ho, hs, hx, hr, resolve, invoke, builtin]) h
end
section
variable {w0 w w' : World} {k : Nat} {B : Bk} {S : Nat → Prop}
theorem owns_down {base base' : Nat} {e : TypeId} {size : Nat} {v : Value} {n : Nat} {xs : List Value} (h : w.ownsRow base e size v n xs) (hB : base' ≤ base) : w.ownsRow base' e size v n xs :=
  ⟨h.1, h.2.imp id (fun ⟨g, cap, cur, e, hb, r⟩ => ⟨g, cap, cur, e, Nat.le_trans hB hb, r⟩)⟩
/-- The longer list, q more. -/
def GrowIn (w1 : World) (x : HB) (q : Nat) (w2 : World) (v : Value) : Prop :=
  ((∃ g, x.g = some g ∧ v = .slice (some ⟨g, 0, none⟩) (x.len + q) x.cap ∧ x.len + q ≤ x.cap ∧ Marked w2 g (x.len + q) x.cap x.n) ∨
   (w2.ownsRow w1.heap.size 5 1 v (x.len + q) (List.replicate (x.len + q) (mkv x.n)) ∧ ∀ g, x.g = some g → Marked w2 g x.len x.cap x.n)) ∧
  (∀ S : Nat → Prop, (∀ g, x.g = some g → S g) → Mod S w1 w2)
theorem Marked.less {g q q' cap n : Nat} (h : Marked w g q cap n) (hq : q' ≤ q) : Marked w g q' cap n := by
  obtain ⟨cur, h1, h2, h3⟩ := h
  exact ⟨cur, h1, h2, fun j hj => h3 j (by omega)⟩
theorem grow_step {w1 w2 : World} {x : HB} {q : Nat} {v : Value} {m : Int} (hm : mkv x.n = .int .u8 m) (h : GrowIn w1 x q w2 v) (hx : HbOk w1 x) (hq : q < 40) :
    ∃ v' w4, (Builtin.append_ #[56, 56] 56 #[v, .slice (some ⟨w2.heap.size, 0, none⟩) 1 1]).run Tryz.prog (w2.alloc (.cells #[.int .u8 m] 5)) = .ok v' w4 ∧ GrowIn w1 x (q + 1) w4 v' := by
  obtain ⟨i0, hi, hz0, hz1, hz2⟩ := info_parts info_u8
  obtain ⟨hs, hmod⟩ := h
  have hle := hx.le
  have hmax := hx.max
  have hma : Mod Non w2 (w2.alloc (.cells #[.int .u8 m] 5)) := (Mod.refl _ _).alloc _
  have hrow : RowAt (w2.alloc (.cells #[.int .u8 m] 5)) (some ⟨w2.heap.size, 0, none⟩) 1 1 [.int .u8 m] := ⟨rfl, fun _ => ⟨_, rfl, fun k u hu => by rw [add_lit, (Blk.new w2 _ _).cell]; simpa using hu⟩⟩
  have hs1 : w1.heap.size ≤ w2.heap.size := (hmod (fun b => x.g = some b) (fun g e => e)).size
  have hg1 : ∀ g, x.g = some g → g < w1.heap.size := fun g e => by obtain ⟨cur, h1, _⟩ := hx.blk g e; exact h1.lt
  have hnews : ∀ j u, ([Value.int .u8 m])[j]? = some u → (w2.alloc (.cells #[.int .u8 m] 5)).cell? ((⟨w2.heap.size, 0, none⟩ : Addr).add j) = some u := fun j u hu => by
    obtain ⟨ad, e, hc⟩ := hrow.2 (by omega)
    cases e
    exact hc j u hu
  rcases hs with ⟨g, hg, rfl, hlc, hmk⟩ | ⟨hown, hmk⟩
  · obtain ⟨cur, hb, hcs, hcm⟩ := hmk
    have hba := hb.mod hma (fun x => x)
    by_cases hroom : x.len + q + 1 ≤ x.cap
    · refine ⟨_, _, run_append_room (P := Tryz.prog) (w2.alloc (.cells #[.int .u8 m] 5)) 56 56 5 i0 und_bytes hi g (x.len + q) x.cap cur hba ⟨w2.heap.size, 0, none⟩ 1 1 [.int .u8 m] (by rw [hz1]; rfl) hnews (by simp [Value.oneCell']) hroom (by rw [hz1]; simp; omega), .inl ⟨g, hg, rfl, hroom, ?_⟩, fun S hS => ?_⟩
      · rw [hz1, Nat.mul_one]
        refine ⟨_, setRow_heap _ g cur _ _ _ hba, ?_, fun j hj => ?_⟩
        · simp only [List.size_toArray, List.length_append, List.length_take, List.length_drop, Array.length_toList, List.length_cons, List.length_nil]
          omega
        · simp only [List.getElem?_toArray]
          by_cases e : j = x.len + q
          · subst e
            rw [List.append_assoc, List.getElem?_append_right (by simp; omega)]
            have : (x.len + q) - (cur.toList.take (x.len + q)).length = 0 := by simp; omega
            rw [this, hm]
            rfl
          · rw [List.append_assoc, List.getElem?_append_left (by simp; omega), List.getElem?_take_of_lt (by omega), Array.getElem?_toList]
            exact hcm j (by omega)
      · refine ((hmod S hS).trans (hma.mono (fun _ x => x.elim))).trans ⟨rfl, rfl, rfl, by simp, fun b _ hb => setRow_other _ g b _ (fun e => hb (by rw [e]; exact hS g hg))⟩
    · obtain ⟨v', w4, hr, ho, hgr⟩ := run_append_arg_grows (P := Tryz.prog) (w2.alloc (.cells #[.int .u8 m] 5)) 56 56 5 i0 (.int .u8 0) 1 1 und_bytes hi hz0 hz1 hz2 rfl (by omega) ⟨g, 0, none⟩ (x.len + q) x.cap (List.replicate (x.len + q) (mkv x.n)) (by simp)
        (fun j u hu => by
          rw [List.getElem?_replicate] at hu
          split at hu
          · cases hu
            rw [add_lit, hba.cell]
            exact hcm j (by omega)
          · cases hu) ⟨w2.heap.size, 0, none⟩ 1 1 [.int .u8 m] rfl hnews (by omega) (by unfold maxLen; omega) (by omega)
      have hm4 : Mod Non (w2.alloc (.cells #[.int .u8 m] 5)) w4 := Mod.of_grown hgr (fun k hk => by cases hk)
      refine ⟨v', w4, hr, .inr ⟨?_, fun g' e => ?_⟩, fun S hS => ((hmod S hS).trans (hma.mono (fun _ x => x.elim))).trans (hm4.mono (fun _ x => x.elim))⟩
      · have h5 := owns_down ho (base' := w1.heap.size) (by simp; omega)
        rw [show x.len + (q + 1) = x.len + q + 1 by omega, List.replicate_succ', hm]
        rw [hm] at h5
        exact h5
      · rw [hg] at e
        cases e
        exact ((Marked.less ⟨cur, hb, hcs, hcm⟩ (by omega)).mod hma (fun x => x)).mod hm4 (fun x => x)
  · obtain ⟨v', w4, hr, ho, hgr, _⟩ := run_append_row (P := Tryz.prog) (w := w2.alloc (.cells #[.int .u8 m] 5)) w1.heap.size 56 56 5 i0 (.int .u8 0) 1 1 und_bytes hi hz0 hz1 hz2 rfl (by omega) (hown.alloc _) (c := 1) hrow (by simp [Value.oneCell']) (by unfold maxLen; omega) (by omega) (by simp; omega)
    have hm4 : Mod (fun b => v.ownBlock = some b) (w2.alloc (.cells #[.int .u8 m] 5)) w4 := Mod.of_grown hgr (fun k hk => hk)
    have hnb : ∀ g, x.g = some g → v.ownBlock ≠ some g := fun g e hv => by have := (hown.lt g hv).1; have := hg1 g e; omega
    refine ⟨v', w4, hr, .inr ⟨?_, fun g e => ((hmk g e).mod hma (fun x => x)).mod hm4 (fun hv => hnb g e hv)⟩, fun S hS => ((hmod S hS).trans (hma.mono (fun _ x => x.elim))).andThen hm4 (fun b hb hlt => by have := (hown.lt b hb).1; omega)⟩
    rw [show x.len + (q + 1) = x.len + q + 1 by omega, List.replicate_succ', hm]
    rw [hm] at ho
    exact ho
end
end Go.Proofs.YtgillcppnpkkiaaGreatDoor
