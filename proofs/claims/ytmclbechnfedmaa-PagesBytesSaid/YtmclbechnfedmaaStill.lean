/- Regions that draw their order and only read ahead of one last operation: two laws more. -/
import Derived.Test.YtmclbechnfedmaaSlice
import Derived.StillTailTactics
namespace Go.Proofs.Ytmclbechnfedmaa
open Go Go.RowKit
section
variable {P : Program} {ops : Array Oper} {a : Act} {w : World} {rest : List Oper} {o : Oper} {Q : Act → Prop}
theorem wps_run {v : Value} (hg : o.guard = none) (hrun : (execOp a.eval o).run P w = .ok (.value v) w) (h : wpStill P ops w Q rest (a.put o.dst v)) : wpStill P ops w Q (o :: rest) a :=
  wpStill_step fun K hK => by
    rw [if_pos (by simp [Region.wanted, hg])]
    unfold Oper.still
    rw [hrun]
    first | exact ⟨rfl, hK _ h⟩ | exact hK _ h
end
/-- A region that draws its order: n operations that read alone, then the others. The world behind the draw has a name of its own. -/
theorem wp_tail {P : Program} {id : Nat} {Q : Exit → Act → World → Prop} {a : Act} {w : World} {l : List Oper} (n : Nat) (hm : P.follows .mixedOrders = true) (hB : Region.lexTailB .any l.toArray n = true)
    (h : ∀ w', Mod Non w w' → wpStill P l.toArray w' (fun a' => wpList P l.toArray Q (l.drop n) a' w') (l.take n) a) : (Code.region id l.toArray true).wp P Q a w :=
  wp_region_still_tail n hm hB (h _ ⟨rfl, rfl, rfl, Nat.le_refl _, fun _ _ _ => rfl⟩)

section
variable {ops : Array Oper} {a : Act} {w : World} {rest : List Oper} {o : Oper} {Q : Act → Prop}
theorem wps_load_page (hg : o.guard = none) (x : Operand) (ho : o.op = .load 55 x) {g : Nat} {t : TypeId} {l : List UInt8} (hx : a.eval x = .pointer (some ⟨g, 0, none⟩)) (hb : Blk w g t (bv l).toArray) (hl : l.length = 256)
    (hK : wpStill Try.prog ops w Q rest (a.put o.dst (pv l))) : wpStill Try.prog ops w Q (o :: rest) a := by
  refine wps_run hg ?_ hK
  have := run_loadVar_row (P := Try.prog) w g t 55 (bv l).toArray _ _ hb page_und rfl (by rw [page_size]; simp [bv_length, hl])
  simp only [execOp, ho, hx, Instr.loadAt, Instr.sureAddr, Sem.run_bind, Sem.run_pure, Result.andThen_ok, this]
  rfl
end

section
variable {P : Program} {ops : Array Oper} {Q : Exit → Act → World → Prop} {a : Act} {w w' : World} {rest : List Oper} {o : Oper}
/-- copy(dst, src) where dst is a row of a block known whole, and src a row, or nil, no longer than dst. -/
theorem wpl_copy_row (hg : o.guard = none) (d s : Operand) (dT sT : TypeId) (ho : o.op = .call { callee := .builtin .copy, args := #[d, s], argTypes := #[dT, sT] }) {elem : TypeId}
    (hu : P.underlying dT = some (.slice elem)) (hs : (P.info? elem).map (·.size) = some 1) {g dl dc : Nat} {t : TypeId} {cur : Array Value} (hd : a.eval d = .slice (some ⟨g, 0, none⟩) dl dc) (hb : Blk w g t cur)
    {A : Option Addr} {m c : Nat} {news : List Value} (hx : a.eval s = .slice A m c) (hr : RowAt w A m 1 news) (h1 : ∀ u ∈ news, u.oneCell' = true) (hm : m ≤ dl) (hfit : m ≤ cur.size)
    (hK : ∀ w', Blk w' g t (news ++ cur.toList.drop m).toArray → Mod (One g) w w' → Hid (w'.heap.size = w.heap.size) → wpList P ops Q rest (a.put o.dst (.int .i64 m)) w') : wpList P ops Q (o :: rest) a w := by
  have hl : news.length = m := by simpa using hr.1
  by_cases hA : ∃ ad, A = some ad
  · obtain ⟨ad, rfl⟩ := hA
    have hsrc : ∀ (j : Nat) (v : Value), news[j]? = some v → w.cell? (ad.add j) = some v := by
      intro j v hj
      have hlt : j < news.length := (List.getElem?_eq_some_iff.1 hj).1
      obtain ⟨ad', e, hc⟩ := hr.2 (by omega)
      cases e
      exact hc j v hj
    have hrun := run_copy_row (P := P) w dT sT o.type elem g 0 dl dc ad m c cur t news hu hs hb (by rw [hl]; exact (Nat.min_eq_left hm).symm) hsrc (by omega) h1
    simp only [List.take_zero, List.nil_append, Nat.zero_add, hl] at hrun
    refine wpl_run hg ?_ (hK (w.setRow g (news ++ cur.toList.drop m).toArray) (setRow_heap w g _ _ t _ hb) ⟨rfl, rfl, rfl, by simp [World.setRow], fun k _ hk => setRow_other w g k _ (fun e => hk e)⟩ (Lib.hid (by simp [World.setRow])))
    simp [execOp, ho, hd, hx, hrun, resolve, invoke, builtin, goInt]
  · have hA' : A = none := by
      cases A with
      | none => rfl
      | some ad => exact absurd ⟨ad, rfl⟩ hA
    subst hA'
    have hm0 : m = 0 := by
      rcases Nat.eq_zero_or_pos m with h0 | h0
      · exact h0
      · obtain ⟨ad, e', _⟩ := hr.2 h0; cases e'
    subst hm0
    have hn : news = [] := hr.nil_of
    subst hn
    refine wpl_run hg ?_ (hK w (by simpa using hb) (Mod.refl _ _) (Lib.hid rfl))
    cases hq : P.info? elem with
    | none => simp [hq] at hs
    | some i => simp [execOp, ho, hd, hx, resolve, invoke, builtin, Builtin.copy_, run_underlying hu, Builtin.lenOf, Builtin.firstCells, sizeOf, typeInfo, hq, storeCells, goInt]
end
end Go.Proofs.Ytmclbechnfedmaa
