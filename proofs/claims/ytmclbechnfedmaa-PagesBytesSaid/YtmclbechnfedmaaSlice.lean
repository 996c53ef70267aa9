/- Slices: rows that are read; rows of bytes in new memory; slices.Clone and slices.Clip of bytes. -/
import Derived.Test.YtmclbechnfedmaaPage
namespace Go.Proofs.Ytmclbechnfedmaa
open Go Go.RowKit

theorem block_of_add (a : Addr) (n : Nat) : (a.add n).block = a.block := by unfold Addr.add; split <;> rfl
theorem add_lit (g j : Nat) : (⟨g, 0, none⟩ : Addr).add j = ⟨g, j, none⟩ := by unfold Addr.add; split <;> simp_all

/-- The cells of a slice of n elements, wherever they lie; nil is let in. -/
def RowAt (w : World) (A : Option Addr) (n size : Nat) (xs : List Value) : Prop :=
  xs.length = n * size ∧ (0 < n → ∃ ad, A = some ad ∧ ∀ (j : Nat) (u : Value), xs[j]? = some u → w.cell? (ad.add j) = some u)

/-- A row in a block of its own, from base on: v has n elements of it. -/
def Fresh (w : World) (base : Nat) (t : TypeId) (size : Nat) (v : Value) (n : Nat) (xs : List Value) : Prop :=
  ∃ g cap cur, v = .slice (some ⟨g, 0, none⟩) n cap ∧ base ≤ g ∧ Blk w g t cur ∧ n ≤ cap ∧ cap * size ≤ cur.size ∧ cap ≤ maxLen ∧ cur.toList.take (n * size) = xs ∧ xs.length = n * size

section
variable {w w' : World} {A : Option Addr} {n size : Nat} {xs : List Value} {S : Nat → Prop}
theorem RowAt.none : RowAt w none 0 size [] := ⟨by simp, fun h => absurd h (by omega)⟩
theorem RowAt.keep (h : RowAt w A n size xs) (hk : ∀ ad, A = some ad → 0 < n → ∀ j, w'.cell? (ad.add j) = w.cell? (ad.add j)) : RowAt w' A n size xs :=
  ⟨h.1, fun hn => by
    obtain ⟨ad, e, hc⟩ := h.2 hn
    exact ⟨ad, e, fun j u hu => (hk ad e hn j).trans (hc j u hu)⟩⟩
theorem RowAt.lt (h : RowAt w A n size xs) (hn : 0 < n) (hs : 0 < size) : ∃ ad, A = some ad ∧ ad.block < w.heap.size := by
  obtain ⟨ad, e, hc⟩ := h.2 hn
  have hl : 0 < xs.length := by rw [h.1]; exact Nat.mul_pos hn hs
  have := World.block_lt_of_cell? w _ (hc 0 _ (List.getElem?_eq_getElem hl))
  rw [block_of_add] at this
  exact ⟨ad, e, this⟩
theorem RowAt.mod (h : RowAt w A n size xs) (hs : 0 < size) (hm : Mod S w w') (hn : ∀ ad, A = some ad → 0 < n → ¬ S ad.block) : RowAt w' A n size xs := by
  refine ⟨h.1, fun hpos => ?_⟩
  obtain ⟨ad, e, hlt⟩ := h.lt hpos hs
  obtain ⟨ad', e', hc⟩ := h.2 hpos
  have : ad' = ad := by rw [e] at e'; exact (Option.some.inj e').symm
  subst this
  refine ⟨ad', e, fun j u hu => ?_⟩
  rw [← hc j u hu]
  exact World.cell?_of_block (w := w) (hm.block _ (by rw [block_of_add]; exact hlt) (by rw [block_of_add]; exact hn _ e hpos))
theorem RowAt.non (h : RowAt w A n size xs) (hs : 0 < size) (hm : Mod Non w w') : RowAt w' A n size xs := h.mod hs hm (fun _ _ _ x => x)
theorem RowAt.nil_of (h : RowAt w A 0 size xs) : xs = [] := List.eq_nil_of_length_eq_zero (by simpa using h.1)
theorem RowAt.at1 (h : RowAt w A n 1 xs) {j : Nat} (hj : j < n) : ∃ ad u, A = some ad ∧ xs[j]? = some u ∧ w.cell? (ad.add j) = some u := by
  obtain ⟨ad, e, hc⟩ := h.2 (by omega)
  have hl : j < xs.length := by rw [h.1]; omega
  exact ⟨ad, xs[j], e, List.getElem?_eq_getElem hl, hc j _ (List.getElem?_eq_getElem hl)⟩

theorem Fresh.row {base : Nat} {t : TypeId} {g cap : Nat} (h : Fresh w base t size (.slice (some ⟨g, 0, Option.none⟩) n cap) n xs) : RowAt w (some ⟨g, 0, Option.none⟩) n size xs := by
  obtain ⟨g', cap', cur, hv, _, hb, hnc, hcs, _, ht, hl⟩ := h
  injection hv with h1 _ _
  injection h1 with h1
  injection h1 with h1 _ _
  subst h1
  refine ⟨hl, fun _ => ⟨_, rfl, fun j u hu => ?_⟩⟩
  rw [add_lit, hb.cell]
  rw [← ht, List.getElem?_take] at hu
  split at hu
  · simpa using hu
  · cases hu
theorem Fresh.mod {base : Nat} {t : TypeId} {v : Value} (h : Fresh w base t size v n xs) (hm : Mod S w w') (hS : ∀ b, S b → b < base) : Fresh w' base t size v n xs := by
  obtain ⟨g, cap, cur, hv, hb, hk, r⟩ := h
  exact ⟨g, cap, cur, hv, hb, hk.mod hm (fun hs => by have := hS g hs; omega), r⟩
theorem Fresh.of_owns {base : Nat} {t : TypeId} {v : Value} (h : w.ownsRow base t size v n xs) (hn : v ≠ .slice Option.none 0 0) : Fresh w base t size v n xs := by
  rcases h.2 with ⟨e, _⟩ | ⟨g, cap, cur, hv, hb, hk, hnc, hm, hs, ht⟩
  · exact absurd e hn
  · exact ⟨g, cap, cur, hv, hb, hk, hnc, by rw [hs]; exact Nat.le_refl _, hm, ht, h.1⟩
end

section
variable {P : Program} {w : World}
/-- append onto a row of one's own, the source nil, empty or not. -/
theorem run_append_row (base : Nat) (t ty e : TypeId) (i : TypeInfo) (z : Value) (size bytes : Nat) (ht : P.underlying t = some (.slice e)) (hi : P.info? e = some i) (hz : i.zero = some z)
    (hsize : i.size = size) (hby : i.bytes = bytes) (hzs : z.cells.size = size) (hsz : 0 < size)
    {v : Value} {n : Nat} {xs : List Value} (hown : w.ownsRow base e size v n xs) {A : Option Addr} {m c : Nat} {news : List Value} (hr : RowAt w A m size news) (h1 : ∀ u ∈ news, u.oneCell' = true)
    (h63 : n + m ≤ maxLen) (hbytes : (n + m) * bytes ≤ 140737488355328) (hbase : base ≤ w.heap.size) :
    ∃ v' w', (Builtin.append_ #[t, t] ty #[v, .slice A m c]).run P w = .ok v' w' ∧ w'.ownsRow base e size v' (n + m) (xs ++ news) ∧ w.grownBy w' v.ownBlock ∧
      (v' = .slice none 0 0 ↔ v = .slice none 0 0 ∧ m = 0) := by
  by_cases hA : ∃ ad, A = some ad
  · obtain ⟨ad, rfl⟩ := hA
    refine run_append_own (P := P) w base t ty e i z size bytes ht hi hz hsize hby hzs hsz v n xs hown ad m c news hr.1 (fun j u hu => ?_) h1 h63 hbytes hbase
    have hm : 0 < m := by
      rcases Nat.eq_zero_or_pos m with h0 | h0
      · subst h0; rw [hr.nil_of] at hu; simp at hu
      · exact h0
    obtain ⟨ad', e', hc⟩ := hr.2 hm
    cases e'
    exact hc j u hu
  · have hA' : A = none := by
      cases A with
      | none => rfl
      | some ad => exact absurd ⟨ad, rfl⟩ hA
    subst hA'
    have hm : m = 0 := by
      rcases Nat.eq_zero_or_pos m with h0 | h0
      · exact h0
      · obtain ⟨ad, e', _⟩ := hr.2 h0; cases e'
    subst hm
    have hn : news = [] := hr.nil_of
    subst hn
    refine ⟨v, w, ?_, by simpa using hown, World.grownBy.refl w _, by simp⟩
    rcases hown.2 with ⟨rfl, rfl⟩ | ⟨g, cap, cur, rfl, _, _, hnc, _⟩
    · simp [Builtin.append_, run_underlying ht, sizeOf, typeInfo, hi, Builtin.lenOf, Builtin.firstCells]
    · simp [Builtin.append_, run_underlying ht, sizeOf, typeInfo, hi, Builtin.lenOf, Builtin.firstCells, hnc, storeCells]

theorem wpl_append {ops : Array Oper} {rest : List Oper} {o : Oper} {a : Act} {Q : Exit → Act → World → Prop} (hg : o.guard = none) (s x : Operand) (t : TypeId)
    (ho : o.op = .call { callee := .builtin .append, args := #[s, x], argTypes := #[t, t] })
    (base : Nat) (e : TypeId) (i : TypeInfo) (z : Value) (size bytes : Nat) (ht : P.underlying t = some (.slice e)) (hi : P.info? e = some i) (hz : i.zero = some z)
    (hsize : i.size = size) (hby : i.bytes = bytes) (hzs : z.cells.size = size) (hsz : 0 < size)
    {v : Value} {n : Nat} {xs : List Value} (hs : a.eval s = v) (hown : w.ownsRow base e size v n xs) {A : Option Addr} {m c : Nat} {news : List Value} (hx : a.eval x = .slice A m c) (hr : RowAt w A m size news) (h1 : ∀ u ∈ news, u.oneCell' = true)
    (h63 : n + m ≤ maxLen) (hbytes : (n + m) * bytes ≤ 140737488355328) (hbase : base ≤ w.heap.size)
    (h : ∀ v' w', w'.ownsRow base e size v' (n + m) (xs ++ news) → w.grownBy w' v.ownBlock → (v' = .slice none 0 0 ↔ v = .slice none 0 0 ∧ m = 0) → wpList P ops Q rest (a.put o.dst v') w') : wpList P ops Q (o :: rest) a w := by
  obtain ⟨v', w', hrun, h2, h3, h4⟩ := run_append_row (P := P) base t o.type e i z size bytes ht hi hz hsize hby hzs hsz hown (c := c) hr h1 h63 hbytes hbase
  refine wpl_run hg ?_ (h v' w' h2 h3 h4)
  simp [execOp, ho, hs, hx, hrun, resolve, invoke, builtin]
end

theorem und_bytes : Try.prog.underlying 23 = some (.slice 5) := by kernel_rfl
theorem info_u8 : (Try.prog.info? 5).map (fun i => (i.zero, i.size, i.bytes)) = some (some (.int .u8 0), 1, 1) := by kernel_rfl

section
variable {w : World}
theorem clone_nil : Calls Try.prog 26 #[.slice none 0 0] w fun e w' => e = .returned (.slice none 0 0) ∧ w' = w := by
  have hq := fun (W : World) a n c n' c' => Lib.run_eql_slice_nil (P := Try.prog) W 23 5 a n c n' c' und_bytes
  go_enter Try.func26, Try.ntmps26
  go_wp2
  go_ret
  exact ⟨rfl, rfl⟩

set_option maxHeartbeats 400000 in
theorem clone_some (ad : Addr) (n c : Nat) (l : List UInt8) (h : RowAt w (some ad) n 1 (bv l)) (hn : n ≤ 1048576) :
    Calls Try.prog 26 #[.slice (some ad) n c] w fun e w' => ∃ v, e = .returned v ∧ Fresh w' w.heap.size 5 1 v n (bv l) ∧ Mod Non w w' := by
  have hq := fun (W : World) a n c n' c' => Lib.run_eql_slice_nil (P := Try.prog) W 23 5 a n c n' c' und_bytes
  obtain ⟨i0, hi, hz0, hz1, hz2⟩ := info_parts info_u8
  have hown : (w.alloc (.cells #[] 5)).ownsRow w.heap.size 5 1 (.slice (some ⟨w.heap.size, 0, none⟩) 0 0) 0 [] := World.ownsRow_made w #[] 0 (Nat.le_refl _) (Nat.zero_le _) (by simp)
  have hm1 : Mod Non w (w.alloc (.cells #[] 5)) := (Mod.refl _ _).alloc _
  have hr1 := h.non (by omega) hm1
  have hml : (0 + n) ≤ maxLen := by unfold maxLen; omega
  go_enter Try.func26, Try.ntmps26
  go_wp2_with (at_builtin; refine wpl_append rfl (.tmp 5) (.tmp 6) _ rfl w.heap.size 5 i0 (.int .u8 0) 1 1 und_bytes hi hz0 hz1 hz2 rfl (by omega) (v := .slice (some ⟨w.heap.size, 0, none⟩) 0 0) rfl hown rfl hr1 (bv_one l) hml (by omega) hm1.size ?_; intro v' w1 ho1 hg1 hnil)
  go_ret
  have hne : v' ≠ .slice none 0 0 := fun e => by have := hnil.1 e; simp at this
  have ho2 : w1.ownsRow w.heap.size 5 1 v' n (bv l) := by simpa using ho1
  refine ⟨v', rfl, Fresh.of_owns ho2 hne, hm1.andThen (Mod.of_grown (S := One w.heap.size) hg1 (fun k hk => by simp [Value.ownBlock] at hk; exact hk.symm)) (fun b hb hlt => by cases hb; omega)⟩

/-- s[:len(s):len(s)]: the same row. -/
theorem clip_row (A : Option Addr) (n c : Nat) (w : World) (hc : n ≤ c) :
    Calls Try.prog 25 #[.slice A n c] w fun e w' => e = .returned (.slice A n n) ∧ w' = w := by
  go_enter Try.func25, Try.ntmps25
  go_wp2
  go_ret
  exact ⟨rfl, rfl⟩
end
end Go.Proofs.Ytmclbechnfedmaa
