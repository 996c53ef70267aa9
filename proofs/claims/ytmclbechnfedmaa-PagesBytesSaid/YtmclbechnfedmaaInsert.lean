/- slices.Insert of one entry ahead of others. -/
import Derived.Test.YtmclbechnfedmaaFileOps
import Derived.Lib.Overlaps
import Derived.Lib.AppendZeros
import Derived.Laws.Externs
namespace Go.Proofs.Ytmclbechnfedmaa
open Go Go.RowKit
section
variable {P : Program} {ops : Array Oper} {a : Act} {w w' : World} {rest : List Oper} {o : Oper} {Q : Exit → Act → World → Prop}
/-- copy of n elements of k cells each into a row. -/
theorem run_copy_many (w : World) (dT sT ty elem : TypeId) (g off dLen dCap : Nat) (ad : Addr) (sLen sCap k : Nat) (cur : Array Value) (t : TypeId) (cs : List Value)
    (hu : P.underlying dT = some (.slice elem)) {i : TypeInfo} (hi : P.info? elem = some i) (hk : i.size = k)
    (hg : w.heap[g]? = some (.cells cur t (0, 0))) (hn : cs.length = Nat.min sLen dLen * k)
    (hsrc : ∀ j v, cs[j]? = some v → w.cell? (ad.add j) = some v) (hfit : off + cs.length ≤ cur.size) (h1 : ∀ v ∈ cs, v.oneCell' = true) :
    (Builtin.copy_ #[dT, sT] ty #[.slice (some ⟨g, off, none⟩) dLen dCap, .slice (some ad) sLen sCap]).run P w =
      .ok (goInt (Nat.min sLen dLen)) (w.setRow g (cur.toList.take off ++ cs ++ cur.toList.drop (off + cs.length)).toArray) := by
  have hl := run_loadCells_list (P := P) w ad cs hsrc
  have hst := run_storeCells_at P g off t cs 0 cur w hg (by simpa using hfit) h1
  simp [Builtin.copy_, run_underlying hu, Builtin.lenOf, Builtin.firstCells, sizeOf, typeInfo, hi, hk, ← hn, hl, hst]

theorem run_append_zeros (w : World) (t tn ty e : TypeId) (i : TypeInfo) (z : Value) (k kn : IntKind) (ht : P.underlying t = some (.slice e)) (htn : P.underlying tn = some (.int kn)) (hi : P.info? e = some i) (hz : i.zero = some z)
    (b : Addr) (sLen sCap : Nat) (olds : List Value) (hlo : olds.length = sLen * i.size) (holds : ∀ j v, olds[j]? = some v → w.cell? (b.add j) = some v)
    (n : Nat) (h0 : 0 < n) (hs : 0 < i.size) (hg : sCap < sLen + n) (h63 : ((sLen + n : Nat) : Int) ≤ 9223372036854775807) (h48 : n * i.bytes ≤ 281474976710656) (hfit : Builtin.nextslicecap (sLen + n) sCap * i.bytes ≤ 281474976710656) :
    (Builtin.append_ #[t, tn] ty #[.slice (some b) sLen sCap, .int k n]).run P w =
      .ok (.slice (some ⟨w.heap.size, 0, none⟩) (sLen + n) (grownCap w (sLen + n) sCap e)) (w.drew.alloc (.cells (olds.toArray ++ Builtin.zeroCells z.cells n ++ Builtin.zeroCells z.cells (grownCap w (sLen + n) sCap e - (sLen + n))) e)) := by
  have hw : IntKind.i64.wrap (n : Int) = n := by rw [IntKind.wrap_i64]; omega
  have hn2 : ¬ (sLen + n ≤ sCap) := by omega
  have h63' : ¬ (9223372036854775807 < ((sLen : Int) + (n : Int))) := by omega
  have h48' : ¬ (281474976710656 < Builtin.nextslicecap (sLen + n) sCap * i.bytes) := by omega
  have h48i : ¬ (281474976710656 < (n : Int) * (i.bytes : Int)) := by
    rw [← Int.natCast_mul]
    omega
  have hneg : ¬ ((n : Int) < 0) := by omega
  have hns : ¬ (n * i.size = 0) := Nat.mul_ne_zero (by omega) (by omega)
  have hfo := run_firstCells_some (P := P) w.drew i.size sLen b sLen sCap olds hlo (by simpa using holds)
  simp [Builtin.append_, run_underlying ht, run_underlying htn, sizeOf, typeInfo, zeroValue, hi, hz, asInt, asIntOf, hw, hn2, hneg, hns, h63', h48', h48i, Question.forced, hfo, newRow, grownCap]
end

section
variable {P : Program} {ops : Array Oper} {a : Act} {w w' : World} {rest : List Oper} {o : Oper} {Q : Exit → Act → World → Prop}
theorem wpo_copy {v v' u : Value} {K : Act → World → Prop} (d s : Operand) (ts : Array TypeId) (ho : o.op = .call { callee := .builtin .copy, args := #[d, s], argTypes := ts }) (hd : a.eval d = v) (hs : a.eval s = u)
    (hr : (Builtin.copy_ ts o.type #[v, u]).run P w = .ok v' w') (h : K (a.put o.dst v') w') : o.wp P a w K Q :=
  wpo_run (by simp [execOp, ho, hd, hs, hr, resolve, invoke, builtin]) h
theorem wpl_copy {v v' u : Value} (hg : o.guard = none) (d s : Operand) (ts : Array TypeId) (ho : o.op = .call { callee := .builtin .copy, args := #[d, s], argTypes := ts }) (hd : a.eval d = v) (hs : a.eval s = u)
    (hr : (Builtin.copy_ ts o.type #[v, u]).run P w = .ok v' w') (h : wpList P ops Q rest (a.put o.dst v') w') : wpList P ops Q (o :: rest) a w :=
  wpl_run hg (by simp [execOp, ho, hd, hs, hr, resolve, invoke, builtin]) h
theorem drop_at {α : Type} {A B : List α} {k : Nat} (h : A.length = k) : (A ++ B).drop k = B := by rw [← h, List.drop_left]
theorem shift_list {α : Type} {C E X : List α} {i2 n2 x2 : Nat} (hx : X.length = x2) (hE : E = (C.take n2).drop i2) (hi : i2 ≤ n2) (hn : n2 + x2 ≤ C.length) :
    let C1 := C.take (i2 + x2) ++ E ++ C.drop (i2 + x2 + E.length)
    C1.length = C.length ∧ (C1.take i2 ++ X ++ C1.drop (i2 + X.length)).length = C.length ∧ (C1.take i2 ++ X ++ C1.drop (i2 + X.length)).take (n2 + x2) = C.take i2 ++ X ++ E := by
  have hEl : E.length = n2 - i2 := by rw [hE, List.length_drop, List.length_take]; omega
  have h1 : (C.take (i2 + x2)).length = i2 + x2 := by rw [List.length_take]; omega
  intro C1
  have hC1 : C1 = C.take (i2 + x2) ++ (E ++ C.drop (i2 + x2 + E.length)) := by simp [C1]
  have ht : C1.take i2 = C.take i2 := by
    rw [hC1, List.take_append_of_le_length (by omega), List.take_take]
    congr 1
    omega
  have hd : C1.drop (i2 + X.length) = E ++ C.drop (i2 + x2 + E.length) := by
    rw [hC1, hx]
    exact drop_at h1
  have hl1 : C1.length = C.length := by
    rw [hC1]
    simp only [List.length_append, List.length_drop, h1, hEl]
    omega
  refine ⟨hl1, ?_, ?_⟩
  · simp only [List.length_append, List.length_drop, List.length_take, hl1]
    omega
  · rw [ht, hd, ← List.append_assoc]
    have h2 : (C.take i2 ++ X ++ E).length = n2 + x2 := by
      simp only [List.length_append, List.length_take, hEl]
      omega
    rw [← h2, List.take_left]
end
section
variable {w w' : World}
theorem und_int : Try.prog.underlying 3 = some (.int .i64) := by kernel_rfl
set_option maxHeartbeats 1000000 in
set_option maxRecDepth 100000 in
/-- There is room: in place. -/
theorem insert_shift {g c : Nat} {l : List (ByteArray × Nat)} (hown : w.ownsRow 0 73 2 (.slice (some ⟨g, 0, none⟩) l.length c) l.length (ents l)) (hlen : l.length ≤ 64) (x : ByteArray × Nat) (vb : Nat)
    (hx : Blk w vb 73 (ent x).toArray) (hvb : vb ≠ g) (i : Nat) (hi' : i < l.length) (hroom : l.length < c) :
    Calls Try.prog 29 #[.slice (some ⟨g, 0, none⟩) l.length c, .int .i64 i, .slice (some ⟨vb, 0, none⟩) 1 1] w fun e w' => e = .returned (.slice (some ⟨g, 0, none⟩) (l.length + 1 : Nat) c) ∧
      w'.ownsRow 0 73 2 (.slice (some ⟨g, 0, none⟩) (l.length + 1) c) (l.length + 1) (ents (l.take i ++ x :: l.drop i)) ∧ Mod (One g) w w' := by
  obtain ⟨i0, z0, hi, hz0, hz3, hz1, hz2⟩ := entry_info
  rcases hown.2 with ⟨e, _⟩ | ⟨g', cap, cur, e, hb, hg, hnc, hcm, hcs, ht⟩
  · cases e
  cases e
  have hc63 : c ≤ 9223372036854775807 := hcm
  have hov : ∀ lb cb, (callFunc 48 #[.slice (some ⟨vb, 0, none⟩) 1 1, .slice (some ⟨g, (i + 1) * 2, none⟩) lb cb]).run Try.prog w = .ok (.value (.bool false)) w := fun lb cb => by
    rw [run_callFunc_extern Try.func48 (by kernel_rfl) (by kernel_rfl) (by kernel_rfl) (e := Extern.SlicesOverlaps.overlaps #[63, 63] #[4]) (by kernel_rfl),
      Lib.run_overlaps_apart w 63 4 73 und_entries 2 (fun W => by simp [sizeOf, typeInfo, hi, hz1]) ⟨vb, 0, none⟩ ⟨g, (i + 1) * 2, none⟩ 1 1 lb cb hvb 73 73 2 (c * 2)
        (by unfold World.shape?; rw [hx]; rfl) (by unfold World.shape?; rw [hg, ← hcs]) (by omega) (hx.frozen 0) (hx.frozen 2)]
    rfl
  have HG := Lib.hid hg
  have HT := Lib.hid ht
  have HS := Lib.hid hcs
  have HX := Lib.hid hx
  clear hown hg ht hcs hx
  go_enter Try.func29, Try.ntmps29
  have hb2 : ¬ (c = i + 1) := by omega
  have hb4 : ¬ (c = i) := by omega
  have hw1 : IntKind.i64.wrap ((i : Int) + 1) = (i : Int) + 1 := by rw [IntKind.wrap_i64]; omega
  go_wp2_with (simp only [hov])
  refine wp_plan [(0, false), (1, false), (2, false), (3, false), (4, false), (5, false), (6, false), (7, false), (8, true)] (One g) (by kernel_rfl) (by kernel_rfl) (fun c d v a w h => by cases d <;> exact h) (fun w2 hm2 => ?_)
  refine wpp_read _ rfl rfl (fun W hW => by first | (go_simp; done) | (go_simp; rfl) | rfl) ?_
  simp only [List.getElem_toArray, List.getElem_cons_zero]
  go_frame
  refine wpp_read _ rfl rfl (fun W hW => by first | (go_simp; done) | (go_simp; rfl) | rfl) ?_
  simp only [List.getElem_toArray, List.getElem_cons_succ, List.getElem_cons_zero]
  go_frame
  refine wpp_read _ rfl rfl (fun W hW => by first | (go_simp; done) | (go_simp; rfl) | rfl) ?_
  simp only [List.getElem_toArray, List.getElem_cons_succ, List.getElem_cons_zero]
  go_frame
  refine wpp_read _ rfl rfl (fun W hW => by first | (go_simp; done) | (go_simp; rfl) | rfl) ?_
  simp only [List.getElem_toArray, List.getElem_cons_succ, List.getElem_cons_zero]
  go_frame
  refine wpp_read (.slice (some ⟨g, (i + 1) * 2, none⟩) (l.length - i) (c - (i + 1))) rfl rfl (fun W hW => by go_simp; intro h1; omega) ?_
  simp only [List.getElem_toArray, List.getElem_cons_succ, List.getElem_cons_zero]
  go_frame
  refine wpp_read _ rfl rfl (fun W hW => by first | (go_simp; done) | (go_simp; rfl) | rfl) ?_
  simp only [List.getElem_toArray, List.getElem_cons_succ, List.getElem_cons_zero]
  go_frame
  refine wpp_read _ rfl rfl (fun W hW => by first | (go_simp; done) | (go_simp; rfl) | rfl) ?_
  simp only [List.getElem_toArray, List.getElem_cons_succ, List.getElem_cons_zero]
  go_frame
  refine wpp_read (.slice (some ⟨g, i * 2, none⟩) (l.length + 1 - i) (c - i)) rfl rfl (fun W hW => by go_simp; intro h1; omega) ?_
  simp only [List.getElem_toArray, List.getElem_cons_succ, List.getElem_cons_zero]
  go_frame
  refine wpp_act rfl rfl ?_
  have hg2 : w2.heap[g]? = some (.cells cur 73 (0, 0)) := by
    have hlt : g < w.heap.size := (Array.getElem?_eq_some_iff.1 HG.out).1
    rw [hm2.block g hlt (fun x => x)]; exact HG.out
  have hEl : (ents (l.drop i)).length = (l.length - i) * 2 := by rw [ents_length, List.length_drop]
  have hE : ents (l.drop i) = (cur.toList.take (l.length * 2)).drop (i * 2) := by rw [ents_drop (by omega), HT.out]
  have hcl : cur.toList.length = c * 2 := by rw [Array.length_toList]; exact HS.out
  have hr := run_copy_many (P := Try.prog) w2 64 64 3 73 g ((i + 1) * 2) (l.length - i) (c - (i + 1)) ⟨g, i * 2, none⟩ (l.length + 1 - i) (c - i) 2 cur 73 (ents (l.drop i)) und_list hi hz1 hg2 (by
      rw [hEl, show (l.length + 1 - i).min (l.length - i) = l.length - i from Nat.min_eq_right (by omega)]) (fun j v hj => by
      rw [show (⟨g, i * 2, none⟩ : Addr).add j = ⟨g, i * 2 + j, none⟩ from by unfold Addr.add; split <;> simp_all, cell_of_row w2 g _ cur _ (0, 0) hg2]
      rw [hE, List.getElem?_drop] at hj
      rw [← Array.getElem?_toList, ← hj]
      have hlt : i * 2 + j < l.length * 2 := by
        have := (List.getElem?_eq_some_iff.1 hj).1
        simp only [List.length_take] at this
        omega
      rw [List.getElem?_take_of_lt hlt]) (by rw [hEl, HS.out]; omega) (ents_one _)
  obtain ⟨hs1, hs2, hs3⟩ := shift_list (C := cur.toList) (E := ents (l.drop i)) (X := ent x) (i2 := i * 2) (n2 := l.length * 2) (x2 := 2) rfl hE (by omega) (by rw [hcl]; omega)
  rw [show i * 2 + 2 = (i + 1) * 2 by omega] at hs1 hs2 hs3
  generalize hC1 : cur.toList.take ((i + 1) * 2) ++ ents (l.drop i) ++ cur.toList.drop ((i + 1) * 2 + (ents (l.drop i)).length) = C1 at *
  obtain ⟨w3, hw3⟩ : ∃ w3, w3 = w2.setRow g C1.toArray := ⟨_, rfl⟩
  rw [← hw3] at hr
  refine wpo_copy _ _ _ rfl rfl rfl hr ?_
  have hm3 : Mod (One g) w2 w3 := by
    rw [hw3]
    exact ⟨rfl, rfl, rfl, by simp, fun k _ hk => setRow_other w2 g k _ (fun e => hk e)⟩
  have HG3 : Hid (w3.heap[g]? = some (.cells C1.toArray 73 (0, 0))) := by
    rw [hw3]; exact setRow_heap w2 g cur _ _ _ hg2
  have HS1 := Lib.hid hs1
  have HS2 := Lib.hid hs2
  have HS3 := Lib.hid hs3
  have HCL := Lib.hid hcl
  clear hw3 hr hEl hE hg2 hC1 hs1 hs2 hs3 hcl
  refine ⟨hm3, ?_⟩
  simp only [List.getElem_toArray, List.getElem_cons_succ, List.getElem_cons_zero]
  go_frame
  refine wpp_nil ?_
  have hvx : ∀ j v, (ent x)[j]? = some v → w3.cell? ((⟨vb, 0, none⟩ : Addr).add j) = some v := fun j v hj => by
    rw [add_lit, ((HX.out.mod hm2 (fun x => x)).mod hm3 hvb).cell]
    simpa using hj
  have hr2 := run_copy_many (P := Try.prog) w3 64 63 3 73 g (i * 2) (l.length + 1 - i) (c - i) ⟨vb, 0, none⟩ 1 1 2 C1.toArray 73 (ent x) und_list hi hz1 HG3.out (by
      rw [show (1 : Nat).min (l.length + 1 - i) = 1 from Nat.min_eq_left (by omega)]; rfl) hvx (by
      show i * 2 + 2 ≤ C1.toArray.size
      rw [List.size_toArray, HS1.out, HCL.out]
      omega) (fun u hu => ents_one [x] u (by simpa [ents] using hu))
  have HR2 := Lib.hid hr2
  clear hr2 hvx
  go_wp2_with (refine wpl_copy rfl (.tmp 80) (.tmp 81) _ rfl rfl rfl HR2.out ?_)
  go_ret
  refine ⟨rfl, ⟨?_, .inr ⟨g, c, _, rfl, hb, setRow_heap w3 g C1.toArray _ _ _ HG3.out, by omega, hcm, ?_, ?_⟩⟩, ((hm2.mono (fun _ x => x.elim)).trans hm3).trans ⟨rfl, rfl, rfl, by simp, fun k _ hk => setRow_other w3 g k _ (fun e => hk e)⟩⟩
  · rw [ents_length, List.length_append, List.length_cons, List.length_take, List.length_drop]
    omega
  · rw [List.size_toArray, ← List.append_assoc]
    exact HS2.out.trans HCL.out
  · have h3 := HS3.out
    rw [show l.length * 2 + 2 = (l.length + 1) * 2 by omega] at h3
    show (C1.take (i * 2) ++ (ent x ++ C1.drop (i * 2 + (ent x).length))).take ((l.length + 1) * 2) = _
    rw [← List.append_assoc, h3, ents_append, ents_cons, ents_take (by omega), ← HT.out, List.take_take, Nat.min_eq_left (by omega), List.append_assoc]

set_option maxHeartbeats 1000000 in
set_option maxRecDepth 100000 in
/-- There is no room: a new row. -/
theorem insert_grow {g : Nat} {l : List (ByteArray × Nat)} (hown : w.ownsRow 0 73 2 (.slice (some ⟨g, 0, none⟩) l.length l.length) l.length (ents l)) (hlen : l.length ≤ 64) (x : ByteArray × Nat) (vb : Nat)
    (hx : Blk w vb 73 (ent x).toArray) (i : Nat) (hi' : i < l.length) :
    Calls Try.prog 29 #[.slice (some ⟨g, 0, none⟩) l.length l.length, .int .i64 i, .slice (some ⟨vb, 0, none⟩) 1 1] w fun e w' => ∃ c, e = .returned (.slice (some ⟨w.heap.size, 0, none⟩) (l.length + 1 : Nat) c) ∧
      w'.ownsRow 0 73 2 (.slice (some ⟨w.heap.size, 0, none⟩) (l.length + 1) c) (l.length + 1) (ents (l.take i ++ x :: l.drop i)) ∧ Mod Non w w' := by
  obtain ⟨i0, z0, hi, hz0, hz3, hz1, hz2⟩ := entry_info
  rcases hown.2 with ⟨e, _⟩ | ⟨g', cap, cur, e, hb, hg, hnc, hcm, hcs, ht⟩
  · cases e
  cases e
  have hol : ((ents l).take (i * 2)).length = i * i0.size := by rw [List.length_take, ents_length, hz1]; omega
  have hsrc : ∀ (W : World), Mod Non w W → ∀ j v, (ents l)[j]? = some v → W.cell? ⟨g, j, none⟩ = some v := fun W hW j v hj => by
    have hgW : W.heap[g]? = some (.cells cur 73 (0, 0)) := (hW.block g (Array.getElem?_eq_some_iff.1 hg).1 (fun x => x)).trans hg
    rw [cell_of_row W g _ cur _ (0, 0) hgW, ← Array.getElem?_toList, ← hj, ← ht]
    have hlt : j < l.length * 2 := by
      have := (List.getElem?_eq_some_iff.1 hj).1
      rw [ents_length] at this
      exact this
    rw [List.getElem?_take_of_lt hlt]
  have hrA := run_append_zeros (P := Try.prog) w 64 3 64 73 i0 z0 .i64 .i64 und_list und_int hi hz0 ⟨g, 0, none⟩ i l.length ((ents l).take (i * 2)) hol (fun j v hj => by
      rw [add_lit]
      refine hsrc w (Mod.refl _ _) j v ?_
      have hlt : j < i * 2 := by
        have := (List.getElem?_eq_some_iff.1 hj).1
        rw [hol, hz1] at this
        exact this
      rwa [List.getElem?_take_of_lt hlt] at hj) (l.length + 1 - i) (by omega) (by omega) (by omega) (by omega) (by rw [hz2]; omega) (by rw [hz2]; exact growslice_fits (by omega) (by omega))
  rw [show i + (l.length + 1 - i) = l.length + 1 by omega] at hrA
  have hcap := grownCap_ge w (l.length + 1) l.length 73
  have hcap2 := grownCap_le_maxLen w (l.length + 1) l.length 73 (by unfold maxLen; omega)
  generalize grownCap w (l.length + 1) l.length 73 = c at *
  have hm1 : Mod Non w (w.drew.alloc (.cells (((ents l).take (i * 2)).toArray ++ Builtin.zeroCells z0.cells (l.length + 1 - i) ++ Builtin.zeroCells z0.cells (c - (l.length + 1))) 73)) := (Mod.refl _ _).drew.alloc _
  have hb1 : Blk (w.drew.alloc (.cells (((ents l).take (i * 2)).toArray ++ Builtin.zeroCells z0.cells (l.length + 1 - i) ++ Builtin.zeroCells z0.cells (c - (l.length + 1))) 73)) w.heap.size 73 (((ents l).take (i * 2)).toArray ++ Builtin.zeroCells z0.cells (l.length + 1 - i) ++ Builtin.zeroCells z0.cells (c - (l.length + 1))) := Blk.new w.drew _ _
  obtain ⟨C0, hC0⟩ : ∃ C0, C0 = ((ents l).take (i * 2)).toArray ++ Builtin.zeroCells z0.cells (l.length + 1 - i) ++ Builtin.zeroCells z0.cells (c - (l.length + 1)) := ⟨_, rfl⟩
  have hs0 : C0.size = c * 2 := by
    rw [hC0]
    simp only [Array.size_append, List.size_toArray, size_zeroCells, hz3, hol, hz1]
    omega
  have ht0 : C0.toList.take (i * 2) = (ents l).take (i * 2) := by
    rw [hC0]
    simp only [Array.toList_append, List.append_assoc]
    rw [List.take_append_of_le_length (by rw [hol, hz1]; exact Nat.le_refl _), List.take_take, Nat.min_self]
  rw [← hC0] at hrA hm1 hb1
  have hwn : (l.length : Int) + 1 - (i : Int) = ((l.length + 1 - i : Nat) : Int) := by omega
  rw [← hwn] at hrA
  clear hC0 hol hwn
  generalize w.drew.alloc (.cells C0 73) = w1 at *
  have HA := Lib.hid hrA
  have HB := Lib.hid hb1
  have HM := Lib.hid hm1
  have HSrc := Lib.hid hsrc
  have HT0 := Lib.hid ht0
  have HS0 := Lib.hid hs0
  have HX := Lib.hid hx
  clear hrA hb1 hm1 hsrc ht0 hs0 hx hown hg ht hcs
  go_enter Try.func29, Try.ntmps29
  have hb4 : ¬ (l.length = i) := by omega
  have hb5 : ¬ (c = i) := by omega
  have hb6 : ¬ (c = i + 1) := by omega
  have hw1 : IntKind.i64.wrap ((i : Int) + 1) = (i : Int) + 1 := by rw [IntKind.wrap_i64]; omega
  have hvx : ∀ j v, (ent x)[j]? = some v → w1.cell? ((⟨vb, 0, none⟩ : Addr).add j) = some v := fun j v hj => by
    rw [add_lit, (HX.out.mod HM.out (fun x => x)).cell]
    simpa using hj
  have hr1 := run_copy_many (P := Try.prog) w1 64 63 3 73 w.heap.size (i * 2) (l.length + 1 - i) (c - i) ⟨vb, 0, none⟩ 1 1 2 C0 73 (ent x) und_list hi hz1 HB.out (by
      rw [show (1 : Nat).min (l.length + 1 - i) = 1 from Nat.min_eq_left (by omega)]; rfl) hvx (by
      show i * 2 + 2 ≤ C0.size
      rw [HS0.out]
      omega) (fun u hu => ents_one [x] u (by simpa [ents] using hu))
  obtain ⟨C1, hC1⟩ : ∃ C1, C1 = C0.toList.take (i * 2) ++ ent x ++ C0.toList.drop (i * 2 + (ent x).length) := ⟨_, rfl⟩
  rw [← hC1] at hr1
  have hC1l : C1.length = c * 2 := by
    rw [hC1]
    simp only [List.length_append, List.length_take, List.length_drop, Array.length_toList, HS0.out]
    show min (i * 2) (c * 2) + 2 + (c * 2 - (i * 2 + 2)) = c * 2
    omega
  have hC1t : C1.take ((i + 1) * 2) = (ents l).take (i * 2) ++ ent x := by
    rw [hC1, HT0.out]
    have h2 : ((ents l).take (i * 2) ++ ent x).length = (i + 1) * 2 := by
      rw [List.length_append, List.length_take, ents_length]
      show min (i * 2) (l.length * 2) + 2 = _
      omega
    rw [← h2, List.take_left]
  obtain ⟨w2, hw2⟩ : ∃ w2, w2 = w1.setRow w.heap.size C1.toArray := ⟨_, rfl⟩
  rw [← hw2] at hr1
  have hm2 : Mod Non w w2 := by
    rw [hw2]
    exact HM.out.andThen (T := One w.heap.size) ⟨rfl, rfl, rfl, by simp, fun k _ hk => setRow_other w1 _ k _ (fun e => hk e)⟩ (fun b hb hlt => by cases hb; omega)
  have hg2 : w2.heap[w.heap.size]? = some (.cells C1.toArray 73 (0, 0)) := by
    rw [hw2]; exact setRow_heap w1 _ C0 _ _ _ HB.out
  have HR1 := Lib.hid hr1
  have HM2 := Lib.hid hm2
  have HG2 := Lib.hid hg2
  have HL1 := Lib.hid hC1l
  have HT1 := Lib.hid hC1t
  clear hr1 hm2 hg2 hC1l hC1t hC1 hw2 hvx
  go_wp2_with (first
    | (at_builtin; refine Lib.wpList_append_run _ rfl (.tmp 34) (.tmp 39) 64 3 rfl _ _ rfl rfl _ _ HA.out ?_)
    | (refine wpl_copy rfl (.tmp 43) (.tmp 44) _ rfl rfl rfl HR1.out ?_))
  refine wp_plan [(0, false), (1, false), (2, false), (3, false), (4, false), (5, false), (6, false), (7, false), (8, true)] (One w.heap.size) (by kernel_rfl) (by kernel_rfl) (fun c d v a w h => by cases d <;> exact h) (fun w3 hm3 => ?_)
  refine wpp_read _ rfl rfl (fun W hW => by first | (go_simp; done) | (go_simp; rfl) | rfl) ?_
  simp only [List.getElem_toArray, List.getElem_cons_zero]
  go_frame
  refine wpp_read _ rfl rfl (fun W hW => by first | (go_simp; done) | (go_simp; rfl) | rfl) ?_
  simp only [List.getElem_toArray, List.getElem_cons_succ, List.getElem_cons_zero]
  go_frame
  refine wpp_read _ rfl rfl (fun W hW => by first | (go_simp; done) | (go_simp; rfl) | rfl) ?_
  simp only [List.getElem_toArray, List.getElem_cons_succ, List.getElem_cons_zero]
  go_frame
  refine wpp_read _ rfl rfl (fun W hW => by first | (go_simp; done) | (go_simp; rfl) | rfl) ?_
  simp only [List.getElem_toArray, List.getElem_cons_succ, List.getElem_cons_zero]
  go_frame
  refine wpp_read (.slice (some ⟨w.heap.size, (i + 1) * 2, none⟩) (l.length - i) (c - (i + 1))) rfl rfl (fun W hW => by go_simp; intro h1; omega) ?_
  simp only [List.getElem_toArray, List.getElem_cons_succ, List.getElem_cons_zero]
  go_frame
  refine wpp_read _ rfl rfl (fun W hW => by first | (go_simp; done) | (go_simp; rfl) | rfl) ?_
  simp only [List.getElem_toArray, List.getElem_cons_succ, List.getElem_cons_zero]
  go_frame
  refine wpp_read _ rfl rfl (fun W hW => by first | (go_simp; done) | (go_simp; rfl) | rfl) ?_
  simp only [List.getElem_toArray, List.getElem_cons_succ, List.getElem_cons_zero]
  go_frame
  refine wpp_read (.slice (some ⟨g, i * 2, none⟩) (l.length - i) (l.length - i)) rfl rfl (fun W hW => by go_simp; intro h1; omega) ?_
  simp only [List.getElem_toArray, List.getElem_cons_succ, List.getElem_cons_zero]
  go_frame
  refine wpp_act rfl rfl ?_
  have hm3w := HM2.out.trans hm3
  have hg3 : w3.heap[w.heap.size]? = some (.cells C1.toArray 73 (0, 0)) := by
    have hlt : w.heap.size < w2.heap.size := (Array.getElem?_eq_some_iff.1 HG2.out).1
    rw [hm3.block _ hlt (fun x => x)]; exact HG2.out
  have hEl : (ents (l.drop i)).length = (l.length - i) * 2 := by rw [ents_length, List.length_drop]
  have hr := run_copy_many (P := Try.prog) w3 64 64 3 73 w.heap.size ((i + 1) * 2) (l.length - i) (c - (i + 1)) ⟨g, i * 2, none⟩ (l.length - i) (l.length - i) 2 C1.toArray 73 (ents (l.drop i)) und_list hi hz1 hg3 (by
      rw [hEl, show (l.length - i).min (l.length - i) = l.length - i from Nat.min_self _]) (fun j v hj => by
      rw [show (⟨g, i * 2, none⟩ : Addr).add j = ⟨g, i * 2 + j, none⟩ from by unfold Addr.add; split <;> simp_all]
      rw [ents_drop (by omega), List.getElem?_drop] at hj
      exact HSrc.out w3 hm3w _ v hj) (by rw [hEl, List.size_toArray, HL1.out]; omega) (ents_one _)
  refine wpo_copy _ _ _ rfl rfl rfl hr ?_
  obtain ⟨w4, hw4⟩ : ∃ w4, w4 = w3.setRow w.heap.size (C1.toArray.toList.take ((i + 1) * 2) ++ ents (l.drop i) ++ C1.toArray.toList.drop ((i + 1) * 2 + (ents (l.drop i)).length)).toArray := ⟨_, rfl⟩
  rw [← hw4]
  have hm4 : Mod (One w.heap.size) w3 w4 := by
    rw [hw4]
    exact ⟨rfl, rfl, rfl, by simp, fun k _ hk => setRow_other w3 _ k _ (fun e => hk e)⟩
  have hfin : w4.ownsRow 0 73 2 (.slice (some ⟨w.heap.size, 0, none⟩) (l.length + 1) c) (l.length + 1) (ents (l.take i ++ x :: l.drop i)) := by
    refine ⟨?_, .inr ⟨w.heap.size, c, _, rfl, Nat.zero_le _, by rw [hw4]; exact setRow_heap w3 _ C1.toArray _ _ _ hg3, hcap, hcap2, ?_, ?_⟩⟩
    · rw [ents_length, List.length_append, List.length_cons, List.length_take, List.length_drop]
      omega
    · simp only [List.size_toArray, List.length_append, List.length_take, List.length_drop, HL1.out, hEl]
      omega
    · show (C1.take ((i + 1) * 2) ++ ents (l.drop i) ++ C1.drop ((i + 1) * 2 + (ents (l.drop i)).length)).take ((l.length + 1) * 2) = _
      rw [HT1.out]
      have h2 : ((ents l).take (i * 2) ++ ent x ++ ents (l.drop i)).length = (l.length + 1) * 2 := by
        simp only [List.length_append, List.length_take, ents_length, hEl]
        show min (i * 2) (l.length * 2) + 2 + (l.length - i) * 2 = _
        omega
      rw [← h2, List.take_left, ents_append, ents_cons, ents_take (by omega), List.append_assoc]
  have hmf : Mod Non w w4 := hm3w.andThen hm4 (fun b hb hlt => by cases hb; omega)
  have HF := Lib.hid hfin
  have HMF := Lib.hid hmf
  clear hw4 hr hg3 hfin hmf hEl
  refine ⟨hm4, ?_⟩
  clear hm3 hm4 hm3w
  simp only [List.getElem_toArray, List.getElem_cons_succ, List.getElem_cons_zero]
  go_frame
  refine wpp_nil ?_
  go_wp2
  go_ret
  exact ⟨c, rfl, HF.out, HMF.out⟩
end
end Go.Proofs.Ytmclbechnfedmaa
