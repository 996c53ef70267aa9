/- slices.Clone and slices.Delete at lists of entries. -/
import Derived.Test.YtmclbechnfedmaaCreate
namespace Go.Proofs.Ytmclbechnfedmaa
open Go Go.RowKit

section
variable {P : Program} {ops : Array Oper} {a : Act} {w w' : World} {rest : List Oper} {o : Oper} {Q : Exit → Act → World → Prop}
theorem wpo_run {v : Value} {K : Act → World → Prop} (hrun : (execOp a.eval o).run P w = .ok (.value v) w') (h : K (a.put o.dst v) w') : o.wp P a w K Q := by
  unfold Oper.wp; rw [hrun]; exact h

theorem wpo_append {v v' u : Value} {K : Act → World → Prop} (s x : Operand) (ts : Array TypeId) (ho : o.op = .call { callee := .builtin .append, args := #[s, x], argTypes := ts }) (hs : a.eval s = v) (hx : a.eval x = u)
    (hr : (Builtin.append_ ts o.type #[v, u]).run P w = .ok v' w') (h : K (a.put o.dst v') w') : o.wp P a w K Q :=
  wpo_run (by simp [execOp, ho, hs, hx, hr, resolve, invoke, builtin]) h

/-- clear(s[k:k+1]). -/
theorem wpl_clear_one (hg : o.guard = none) (x : Operand) (t e : TypeId) (i : TypeInfo) (z : Value) (ho : o.op = .call { callee := .builtin .clear, args := #[x], argTypes := #[t] }) (ht : P.underlying t = some (.slice e)) (hi : P.info? e = some i) (hz : i.zero = some z)
    (h1 : ∀ u ∈ z.cells, u.oneCell' = true) {g off k : Nat} (hx : a.eval x = .slice (some ⟨g, off, none⟩) 1 k) {cur : Array Value} (hb : w.heap[g]? = some (.cells cur e (0, 0))) (hfit : off + z.cells.size ≤ cur.size)
    (h : ∀ cur' : Array Value, cur'.size = cur.size → cur'.toList.take off = cur.toList.take off → wpList P ops Q rest (a.put o.dst (.tuple #[])) (w.setRow g cur')) : wpList P ops Q (o :: rest) a w := by
  have hzc : (Builtin.zeroCells z.cells 1).toList = z.cells.toList := by
    apply List.ext_getElem (by simp [Builtin.zeroCells])
    intro j h1 h2
    have hj : j < z.cells.size := by simpa using h2
    simp [Builtin.zeroCells, Nat.mod_eq_of_lt hj, hj]
  have hst := run_storeCells_at P g off e z.cells.toList 0 cur w hb (by simpa using hfit) (by simpa using h1)
  simp only [Nat.add_zero] at hst
  have hl : off ≤ cur.toList.length := by simp; omega
  refine wpl_run hg ?_ (h (cur.toList.take off ++ z.cells.toList ++ cur.toList.drop (off + z.cells.toList.length)).toArray ?_ ?_)
  · simp [execOp, ho, hx, resolve, invoke, builtin, Builtin.clear_, run_underlying ht, zeroValue, typeInfo, hi, hz, hzc, hst]
  · simp; omega
  · have hl2 : (cur.toList.take off).length = off := by rw [List.length_take, Nat.min_eq_left hl]
    show (cur.toList.take off ++ z.cells.toList ++ cur.toList.drop (off + z.cells.toList.length)).take off = _
    rw [List.append_assoc]
    conv => lhs; arg 1; rw [← hl2]
    rw [List.take_left]
end

theorem info_ones : (Try.prog.info? 73).map (fun i => i.zero.map (fun z => z.cells.toList.all (fun u => u.oneCell'))) = some (some true) := by kernel_rfl
theorem entry_ones {i : TypeInfo} {z : Value} (hi : Try.prog.info? 73 = some i) (hz : i.zero = some z) : ∀ u ∈ z.cells, u.oneCell' = true := by
  have h := info_ones
  rw [hi] at h
  simp only [Option.map_some, hz, Option.some.injEq, List.all_eq_true] at h
  exact fun u hu => h u (by simpa using hu)
theorem ents_take {l : List (ByteArray × Nat)} {k : Nat} (hk : k ≤ l.length) : ents (l.take k) = (ents l).take (k * 2) := by
  have h : ents l = ents (l.take k) ++ ents (l.drop k) := by rw [← ents_append, List.take_append_drop]
  rw [h]
  have hl : (ents (l.take k)).length = k * 2 := by rw [ents_length, List.length_take, Nat.min_eq_left hk]
  rw [← hl, List.take_left]
theorem ents_drop {l : List (ByteArray × Nat)} {k : Nat} (hk : k ≤ l.length) : ents (l.drop k) = (ents l).drop (k * 2) := by
  have h : ents l = ents (l.take k) ++ ents (l.drop k) := by rw [← ents_append, List.take_append_drop]
  have hl : (ents (l.take k)).length = k * 2 := by rw [ents_length, List.length_take, Nat.min_eq_left hk]
  conv => rhs; rw [h]
  rw [← hl, List.drop_left]

section
variable {w w' : World}
set_option maxHeartbeats 400000 in
set_option maxRecDepth 100000 in
theorem clone_list {v : Value} {l : List (ByteArray × Nat)} (h : w.ownsRow 0 73 2 v l.length (ents l)) (hlen : l.length ≤ 64) :
    Calls Try.prog 43 #[v] w fun e w' => ∃ v', e = .returned v' ∧ w'.ownsRow w.heap.size 73 2 v' l.length (ents l) ∧ Mod Non w w' := by
  have hq := fun (W : World) a n c n' c' => Lib.run_eql_slice_nil (P := Try.prog) W 64 73 a n c n' c' und_list
  obtain ⟨i0, z0, hi, hz0, hz3, hz1, hz2⟩ := entry_info
  have hone := ents_one l
  have hn0 : v = .slice none 0 0 → l = [] := fun e => by
    rcases h.2 with ⟨_, h0⟩ | ⟨g, cap, cur, e', _⟩
    · exact List.length_eq_zero_iff.1 h0
    · rw [e] at e'; cases e'
  obtain ⟨A, c, ev, hc, hr, _⟩ := owns_form h
  clear h
  cases A with
  | none =>
    have hl0 : l = [] := by
      by_cases h0 : l.length = 0
      · exact List.length_eq_zero_iff.1 h0
      · obtain ⟨ad, e, _⟩ := hr.2 (by omega); cases e
    subst hl0 ev
    clear hr hn0
    go_enter Try.func43, Try.ntmps43
    go_wp2
    go_ret
    exact ⟨_, rfl, World.ownsRow_nil _ _ _ _, Mod.refl _ _⟩
  | some ad =>
    subst ev
    clear hn0
    have hown : (w.alloc (.cells #[] 73)).ownsRow w.heap.size 73 2 (.slice (some ⟨w.heap.size, 0, none⟩) 0 0) 0 [] := World.ownsRow_made w #[] 0 (Nat.le_refl _) (Nat.zero_le _) (by simp)
    have hm1 : Mod Non w (w.alloc (.cells #[] 73)) := (Mod.refl _ _).alloc _
    have hr1 := hr.non (by omega) hm1
    have hml : (0 + l.length) ≤ maxLen := by unfold maxLen; omega
    clear hr
    go_enter Try.func43, Try.ntmps43
    go_wp2_with (at_builtin; refine wpl_append_two rfl (.tmp 5) (.tmp 6) _ _ rfl w.heap.size 73 i0 z0 2 24 und_list und_list hi hz0 hz1 hz2 hz3 (by omega) (v := .slice (some ⟨w.heap.size, 0, none⟩) 0 0) rfl hown rfl hr1 hone hml (by omega) hm1.size ?_; intro v' w1 ho1 hg1 hnil hat1)
    go_ret
    refine ⟨v', rfl, by simpa using ho1, hm1.andThen (Mod.of_grown (S := One w.heap.size) hg1 (fun k hk => by simp [Value.ownBlock] at hk; exact hk.symm)) (fun b hb hlt => by cases hb; omega)⟩

set_option maxHeartbeats 800000 in
set_option maxRecDepth 100000 in
theorem delete_ok {base g c : Nat} {l : List (ByteArray × Nat)} (h : w.ownsRow base 73 2 (.slice (some ⟨g, 0, none⟩) l.length c) l.length (ents l)) (hlen : l.length ≤ 64) (i : Nat) (hi' : i < l.length) :
    Calls Try.prog 55 #[.slice (some ⟨g, 0, none⟩) l.length c, .int .i64 i, .int .i64 (i + 1)] w fun e w' => e = .returned (.slice (some ⟨g, 0, none⟩) (l.length - 1) c) ∧ w'.ownsRow base 73 2 (.slice (some ⟨g, 0, none⟩) (l.length - 1) c) (l.length - 1) (ents (l.eraseIdx i)) ∧ Mod (One g) w w' := by
  obtain ⟨i0, z0, hi, hz0, hz3, hz1, hz2⟩ := entry_info
  have hone0 : ∀ u ∈ z0.cells, u.oneCell' = true := entry_ones hi hz0
  rcases h.2 with ⟨e, _⟩ | ⟨g', cap, cur, e, hb, hg, hnc, hcm, hcs, ht⟩
  · cases e
  cases e
  have HG := Lib.hid hg
  have HT := Lib.hid ht
  have HS := Lib.hid hcs
  clear h hg ht hcs
  go_enter Try.func55, Try.ntmps55
  go_wp2
  refine wp_plan [(0, false), (1, false), (2, false), (3, false), (4, false), (5, false), (6, true), (7, false)] (One g) (by kernel_rfl) (by kernel_rfl) (fun c d v a w h => by cases d <;> exact h) (fun w2 hm2 => ?_)
  refine wpp_read _ rfl rfl (fun W hW => by first | (go_simp; done) | (go_simp; rfl) | rfl) ?_
  simp only [List.getElem_toArray, List.getElem_cons_zero]
  go_frame
  refine wpp_read _ rfl rfl (fun W hW => by first | (go_simp; done) | (go_simp; rfl) | rfl) ?_
  simp only [List.getElem_toArray, List.getElem_cons_succ, List.getElem_cons_zero]
  go_frame
  refine wpp_read (.slice (some ⟨g, 0, none⟩) i c) rfl rfl (fun W hW => by go_simp; intro hh; omega) ?_
  simp only [List.getElem_toArray, List.getElem_cons_succ, List.getElem_cons_zero]
  go_frame
  refine wpp_read _ rfl rfl (fun W hW => by first | (go_simp; done) | (go_simp; rfl) | rfl) ?_
  simp only [List.getElem_toArray, List.getElem_cons_succ, List.getElem_cons_zero]
  go_frame
  refine wpp_read _ rfl rfl (fun W hW => by first | (go_simp; done) | (go_simp; rfl) | rfl) ?_
  simp only [List.getElem_toArray, List.getElem_cons_succ, List.getElem_cons_zero]
  go_frame
  refine wpp_read (.slice (some (if c = i + 1 then ⟨g, 0, none⟩ else ⟨g, (i + 1) * 2, none⟩)) (l.length - (i + 1)) (c - (i + 1))) rfl rfl (fun W hW => by go_simp; rw [if_pos ⟨by omega, by omega⟩]; by_cases hc' : c = i + 1 <;> simp [hc']) ?_
  simp only [List.getElem_toArray, List.getElem_cons_succ, List.getElem_cons_zero]
  go_frame
  refine wpp_act rfl rfl ?_
  have hg2 : w2.heap[g]? = some (.cells cur 73 (0, 0)) := by
    have hlt : g < w.heap.size := (Array.getElem?_eq_some_iff.1 HG.out).1
    rw [hm2.block g hlt (fun x => x)]; exact HG.out
  have hel : (ents (l.drop (i + 1))).length = (l.length - (i + 1)) * i0.size := by rw [ents_length, hz1, List.length_drop]
  have hnews : ∀ j u, (ents (l.drop (i + 1)))[j]? = some u → w2.cell? ((if c = i + 1 then (⟨g, 0, none⟩ : Addr) else ⟨g, (i + 1) * 2, none⟩).add j) = some u := fun j u hu => by
    have hj : j < (ents (l.drop (i + 1))).length := (List.getElem?_eq_some_iff.1 hu).1
    rw [hel, hz1] at hj
    rw [if_neg (by omega), ents_drop (by omega), ← HT.out, List.getElem?_drop, List.getElem?_take_of_lt (by omega)] at *
    rw [show (⟨g, (i + 1) * 2, none⟩ : Addr).add j = ⟨g, (i + 1) * 2 + j, none⟩ from by unfold Addr.add; split <;> simp_all]
    rw [cell_of_row w2 g _ cur _ (0, 0) hg2]
    simpa using hu
  have hr := run_append_room (P := Try.prog) w2 64 64 73 i0 und_list hi g i c cur hg2 (if c = i + 1 then ⟨g, 0, none⟩ else ⟨g, (i + 1) * 2, none⟩) (l.length - (i + 1)) (c - (i + 1)) (ents (l.drop (i + 1))) hel hnews (ents_one _) (by omega) (by rw [hel, hz1, HS.out]; omega)
  rw [show i + (l.length - (i + 1)) = l.length - 1 by omega] at hr
  refine wpo_append _ _ _ rfl rfl rfl hr ?_
  have hel2 : (ents (l.drop (i + 1))).length = (l.length - (i + 1)) * 2 := by rw [hel, hz1]
  rw [hz1, hel2]
  obtain ⟨w3, hw3⟩ : ∃ w3, w3 = w2.setRow g (cur.toList.take (i * 2) ++ ents (l.drop (i + 1)) ++ cur.toList.drop (i * 2 + (l.length - (i + 1)) * 2)).toArray := ⟨_, rfl⟩
  have hl1 : (cur.toList.take (i * 2)).length = i * 2 := by rw [List.length_take, Array.length_toList, HS.out, Nat.min_eq_left (by omega)]
  have hg3 : ∃ cur3 : Array Value, w3.heap[g]? = some (.cells cur3 73 (0, 0)) ∧ cur3.size = c * 2 ∧ cur3.toList.take ((l.length - 1) * 2) = ents (l.eraseIdx i) := by
    refine ⟨_, by rw [hw3]; exact setRow_heap w2 g cur _ _ _ hg2, ?_, ?_⟩
    · simp only [List.size_toArray, List.length_append, hl1, hel2, List.length_drop, Array.length_toList, HS.out]
      omega
    · show (cur.toList.take (i * 2) ++ ents (l.drop (i + 1)) ++ cur.toList.drop (i * 2 + (l.length - (i + 1)) * 2)).take ((l.length - 1) * 2) = _
      have hl2 : (cur.toList.take (i * 2) ++ ents (l.drop (i + 1))).length = (l.length - 1) * 2 := by rw [List.length_append, hl1, hel2]; omega
      rw [← hl2, List.take_left, List.eraseIdx_eq_take_drop_succ, ents_append, ents_take (by omega), ← HT.out, List.take_take, Nat.min_eq_left (by omega)]
  have hm3 : Mod (One g) w2 w3 := by
    rw [hw3]
    exact ⟨rfl, rfl, rfl, by simp, fun k _ hk => setRow_other w2 g k _ (fun e => hk e)⟩
  rw [← hw3]
  refine ⟨hm3, ?_⟩
  clear hw3 hr hnews hel hl1 hg2 hel2
  generalize (if c = i + 1 then (⟨g, 0, none⟩ : Addr) else ⟨g, (i + 1) * 2, none⟩) = X
  obtain ⟨cur3, hc3, hs3, ht3⟩ := hg3
  have HC3 := Lib.hid hc3
  have HS3 := Lib.hid hs3
  have HT3 := Lib.hid ht3
  clear hc3 hs3 ht3
  simp only [List.getElem_toArray, List.getElem_cons_succ, List.getElem_cons_zero]
  go_frame
  refine wpp_read _ rfl rfl (fun W hW => by first | (go_simp; done) | (go_simp; rfl) | rfl) ?_
  simp only [List.getElem_toArray, List.getElem_cons_succ, List.getElem_cons_zero]
  go_frame
  refine wpp_nil ?_
  go_wp2_with (refine wpl_clear_one rfl (.tmp 31) 64 73 i0 z0 rfl und_list hi hz0 hone0 (g := g) (off := (l.length - 1) * 2) (k := c - (l.length - 1)) (by go_simp; omega) HC3.out (by rw [HS3.out, hz3]; omega) ?_
               intro cur4 hs4 ht4
               have HS4 := Lib.hid hs4
               have HT4 := Lib.hid ht4
               clear hs4 ht4)
  go_ret
  refine ⟨rfl, ⟨?_, .inr ⟨g, c, cur4, rfl, hb, setRow_heap w3 g cur3 _ _ _ HC3.out, by omega, hcm, by rw [HS4.out, HS3.out], by rw [HT4.out, HT3.out]⟩⟩, ?_⟩
  · rw [ents_length, List.length_eraseIdx_of_lt hi']
  · exact ((hm2.mono (fun _ x => x.elim)).trans hm3).trans ⟨rfl, rfl, rfl, by simp, fun k _ hk => setRow_other w3 g k _ (fun e => hk e)⟩
end
end Go.Proofs.Ytmclbechnfedmaa
