/- slices.Insert of one entry ahead of others. Insert, Create at any place of the list. Append, Remove, Create, Rename, whatever the names are. Rename: the new name is there, or not. -/
import Derived.Test.YtgillcppnpkkiaaGreatDoorFileOps
import Derived.Lib.Overlaps
import Derived.Lib.AppendZeros
import Derived.Laws.Externs
namespace Go.Proofs.YtgillcppnpkkiaaGreatDoor
open Go Go.RowKit
section
variable {P : Program} {ops : Array Oper} {a : Act} {w w' : World} {rest : List Oper} {o : Oper} {Q : Exit → Act → World → Prop}
/-- copy of n elements of k cells each into a row. -/
theorem run_copy_many (w : World) (dT sT ty elem : TypeId) (g off dLen dCap : Nat) (ad : Addr) (sLen sCap k : Nat) (cur : Array Value) (t : TypeId) (cs : List Value)
    (hu : P.underlying dT = some (.slice elem)) {i : TypeInfo} (hi : P.info? elem = some i) (hk : i.size = k)
    (hg : w.heap[g]? = some (.cells cur t (0, 0))) (hn : cs.length = Nat.min sLen dLen * k)
    (hsrc : ∀ j v, cs[j]? = some v → w.cell? (ad.add j) = some v) (hfit : off + cs.length ≤ cur.size) (h1 : ∀ v ∈ cs, v.oneCell' = true) :
    (Builtin.copy_ #[dT, sT] ty #[.slice (some ⟨g, off, none⟩) dLen dCap, .slice (some ad) sLen sCap]).run P w =
      .ok (goInt (Nat.min sLen dLen)) (w.setRow g (cur.toList.take off ++ cs ++ cur.toList.drop (off + cs.length)).toArray) := by
  have hl := run_loadCells_list (P := P) w ad cs hsrc
  have hst := run_storeCells_at P g off t cs 0 cur w hg (by simpa using hfit) h1
  simp [Builtin.copy_, run_underlying hu, Builtin.lenOf, Builtin.firstCells, sizeOf, typeInfo, hi, hk, ← hn, hl, hst]

theorem run_append_zeros (w : World) (t tn ty e : TypeId) (i : TypeInfo) (z : Value) (k kn : IntKind) (ht : P.underlying t = some (.slice e)) (htn : P.underlying tn = some (.int kn)) (hi : P.info? e = some i) (hz : i.zero = some z)
    (b : Addr) (sLen sCap : Nat) (olds : List Value) (hlo : olds.length = sLen * i.size) (holds : ∀ j v, olds[j]? = some v → w.cell? (b.add j) = some v)
    (n : Nat) (h0 : 0 < n) (hs : 0 < i.size) (hg : sCap < sLen + n) (h63 : ((sLen + n : Nat) : Int) ≤ 9223372036854775807) (h48 : n * i.bytes ≤ 281474976710656) (hfit : Builtin.nextslicecap (sLen + n) sCap * i.bytes ≤ 281474976710656) :
    (Builtin.append_ #[t, tn] ty #[.slice (some b) sLen sCap, .int k n]).run P w =
      .ok (.slice (some ⟨w.heap.size, 0, none⟩) (sLen + n) (grownCap w (sLen + n) sCap e)) (w.drew.alloc (.cells (olds.toArray ++ Builtin.zeroCells z.cells n ++ Builtin.zeroCells z.cells (grownCap w (sLen + n) sCap e - (sLen + n))) e)) := by
  have hw : IntKind.i64.wrap (n : Int) = n := by rw [IntKind.wrap_i64]; omega
  have hn2 : ¬ (sLen + n ≤ sCap) := by omega
  have h63' : ¬ (9223372036854775807 < ((sLen : Int) + (n : Int))) := by omega
  have h48' : ¬ (281474976710656 < Builtin.nextslicecap (sLen + n) sCap * i.bytes) := by omega
  have h48i : ¬ (281474976710656 < (n : Int) * (i.bytes : Int)) := by
    rw [← Int.natCast_mul]
    omega
  have hneg : ¬ ((n : Int) < 0) := by omega
  have hns : ¬ (n * i.size = 0) := Nat.mul_ne_zero (by omega) (by omega)
  have hfo := run_firstCells_some (P := P) w.drew i.size sLen b sLen sCap olds hlo (by simpa using holds)
  simp [Builtin.append_, run_underlying ht, run_underlying htn, sizeOf, typeInfo, zeroValue, hi, hz, asInt, asIntOf, hw, hn2, hneg, hns, h63', h48', h48i, Question.forced, hfo, newRow, grownCap]
end

section
variable {P : Program} {ops : Array Oper} {a : Act} {w w' : World} {rest : List Oper} {o : Oper} {Q : Exit → Act → World → Prop}
theorem wpo_copy {v v' u : Value} {K : Act → World → Prop} (d s : Operand) (ts : Array TypeId) (ho : o.op = .call { callee := .builtin .copy, args := #[d, s], argTypes := ts }) (hd : a.eval d = v) (hs : a.eval s = u)
    (hr : (Builtin.copy_ ts o.type #[v, u]).run P w = .ok v' w') (h : K (a.put o.dst v') w') : o.wp P a w K Q :=
  wpo_run (by simp [execOp, ho, hd, hs, hr, resolve, invoke, builtin]) h
theorem wpl_copy {v v' u : Value} (hg : o.guard = none) (d s : Operand) (ts : Array TypeId) (ho : o.op = .call { callee := .builtin .copy, args := #[d, s], argTypes := ts }) (hd : a.eval d = v) (hs : a.eval s = u)
    (hr : (Builtin.copy_ ts o.type #[v, u]).run P w = .ok v' w') (h : wpList P ops Q rest (a.put o.dst v') w') : wpList P ops Q (o :: rest) a w :=
  wpl_run hg (by simp [execOp, ho, hd, hs, hr, resolve, invoke, builtin]) h
theorem drop_at {α : Type} {A B : List α} {k : Nat} (h : A.length = k) : (A ++ B).drop k = B := by rw [← h, List.drop_left]
theorem shift_list {α : Type} {C E X : List α} {i2 n2 x2 : Nat} (hx : X.length = x2) (hE : E = (C.take n2).drop i2) (hi : i2 ≤ n2) (hn : n2 + x2 ≤ C.length) :
    let C1 := C.take (i2 + x2) ++ E ++ C.drop (i2 + x2 + E.length)
    C1.length = C.length ∧ (C1.take i2 ++ X ++ C1.drop (i2 + X.length)).length = C.length ∧ (C1.take i2 ++ X ++ C1.drop (i2 + X.length)).take (n2 + x2) = C.take i2 ++ X ++ E := by
  have hEl : E.length = n2 - i2 := by rw [hE, List.length_drop, List.length_take]; omega
  have h1 : (C.take (i2 + x2)).length = i2 + x2 := by rw [List.length_take]; omega
  intro C1
  have hC1 : C1 = C.take (i2 + x2) ++ (E ++ C.drop (i2 + x2 + E.length)) := by simp [C1]
  have ht : C1.take i2 = C.take i2 := by
    rw [hC1, List.take_append_of_le_length (by omega), List.take_take]
    congr 1
    omega
  have hd : C1.drop (i2 + X.length) = E ++ C.drop (i2 + x2 + E.length) := by
    rw [hC1, hx]
    exact drop_at h1
  have hl1 : C1.length = C.length := by
    rw [hC1]
    simp only [List.length_append, List.length_drop, h1, hEl]
    omega
  refine ⟨hl1, ?_, ?_⟩
  · simp only [List.length_append, List.length_drop, List.length_take, hl1]
    omega
  · rw [ht, hd, ← List.append_assoc]
    have h2 : (C.take i2 ++ X ++ E).length = n2 + x2 := by
      simp only [List.length_append, List.length_take, hEl]
      omega
    rw [← h2, List.take_left]
end
section
variable {w w' : World}
theorem und_int : Tryz.prog.underlying 3 = some (.int .i64) := by kernel_rfl
set_option maxHeartbeats 1000000 in
set_option maxRecDepth 100000 in
/-- There is room: in place. -/
theorem insert_shift {g c : Nat} {l : List (ByteArray × Nat)} (hown : w.ownsRow 0 112 2 (.slice (some ⟨g, 0, none⟩) l.length c) l.length (ents l)) (hlen : l.length ≤ 64) (x : ByteArray × Nat) (vb : Nat)
    (hx : Blk w vb 112 (ent x).toArray) (hvb : vb ≠ g) (i : Nat) (hi' : i < l.length) (hroom : l.length < c) :
    Calls Tryz.prog 167 #[.slice (some ⟨g, 0, none⟩) l.length c, .int .i64 i, .slice (some ⟨vb, 0, none⟩) 1 1] w fun e w' => e = .returned (.slice (some ⟨g, 0, none⟩) (l.length + 1 : Nat) c) ∧
      w'.ownsRow 0 112 2 (.slice (some ⟨g, 0, none⟩) (l.length + 1) c) (l.length + 1) (ents (l.take i ++ x :: l.drop i)) ∧ Mod (One g) w w' := by
  obtain ⟨i0, z0, hi, hz0, hz3, hz1, hz2⟩ := entry_info
  rcases hown.2 with ⟨e, _⟩ | ⟨g', cap, cur, e, hb, hg, hnc, hcm, hcs, ht⟩
  · cases e
  cases e
  have hc63 : c ≤ 9223372036854775807 := hcm
  have hov : ∀ lb cb, (callFunc 184 #[.slice (some ⟨vb, 0, none⟩) 1 1, .slice (some ⟨g, (i + 1) * 2, none⟩) lb cb]).run Tryz.prog w = .ok (.value (.bool false)) w := fun lb cb => by
    rw [run_callFunc_extern Tryz.func184 (by kernel_rfl) (by kernel_rfl) (by kernel_rfl) (e := Extern.SlicesOverlaps.overlaps #[77, 77] #[4]) (by kernel_rfl),
      Lib.run_overlaps_apart w 77 4 112 und_entries 2 (fun W => by simp [sizeOf, typeInfo, hi, hz1]) ⟨vb, 0, none⟩ ⟨g, (i + 1) * 2, none⟩ 1 1 lb cb hvb 112 112 2 (c * 2)
        (by unfold World.shape?; rw [hx]; rfl) (by unfold World.shape?; rw [hg, ← hcs]) (by omega) (hx.frozen 0) (hx.frozen 2)]
    rfl
  have HG := Lib.hid hg
  have HT := Lib.hid ht
  have HS := Lib.hid hcs
  have HX := Lib.hid hx
  clear hown hg ht hcs hx
  go_enter Tryz.func167, Tryz.ntmps167
  have hb2 : ¬ (c = i + 1) := by omega
  have hb4 : ¬ (c = i) := by omega
  have hw1 : IntKind.i64.wrap ((i : Int) + 1) = (i : Int) + 1 := by rw [IntKind.wrap_i64]; omega
  go_wp2_with (simp only [hov])
  refine wp_plan [(0, false), (1, false), (2, false), (3, false), (4, false), (5, false), (6, false), (7, false), (8, true)] (One g) (by kernel_rfl) (by kernel_rfl) (fun c d v a w h => by cases d <;> exact h) (fun w2 hm2 => ?_)
  refine wpp_read _ rfl rfl (fun W hW => by first | (go_simp; done) | (go_simp; rfl) | rfl) ?_
  simp only [List.getElem_toArray, List.getElem_cons_zero]
  go_frame
  refine wpp_read _ rfl rfl (fun W hW => by first | (go_simp; done) | (go_simp; rfl) | rfl) ?_
  simp only [List.getElem_toArray, List.getElem_cons_succ, List.getElem_cons_zero]
  go_frame
  refine wpp_read _ rfl rfl (fun W hW => by first | (go_simp; done) | (go_simp; rfl) | rfl) ?_
  simp only [List.getElem_toArray, List.getElem_cons_succ, List.getElem_cons_zero]
  go_frame
  refine wpp_read _ rfl rfl (fun W hW => by first | (go_simp; done) | (go_simp; rfl) | rfl) ?_
  simp only [List.getElem_toArray, List.getElem_cons_succ, List.getElem_cons_zero]
  go_frame
  refine wpp_read (.slice (some ⟨g, (i + 1) * 2, none⟩) (l.length - i) (c - (i + 1))) rfl rfl (fun W hW => by go_simp; intro h1; omega) ?_
  simp only [List.getElem_toArray, List.getElem_cons_succ, List.getElem_cons_zero]
  go_frame
  refine wpp_read _ rfl rfl (fun W hW => by first | (go_simp; done) | (go_simp; rfl) | rfl) ?_
  simp only [List.getElem_toArray, List.getElem_cons_succ, List.getElem_cons_zero]
  go_frame
  refine wpp_read _ rfl rfl (fun W hW => by first | (go_simp; done) | (go_simp; rfl) | rfl) ?_
  simp only [List.getElem_toArray, List.getElem_cons_succ, List.getElem_cons_zero]
  go_frame
  refine wpp_read (.slice (some ⟨g, i * 2, none⟩) (l.length + 1 - i) (c - i)) rfl rfl (fun W hW => by go_simp; intro h1; omega) ?_
  simp only [List.getElem_toArray, List.getElem_cons_succ, List.getElem_cons_zero]
  go_frame
  refine wpp_act rfl rfl ?_
  have hg2 : w2.heap[g]? = some (.cells cur 112 (0, 0)) := by
    have hlt : g < w.heap.size := (Array.getElem?_eq_some_iff.1 HG.out).1
    rw [hm2.block g hlt (fun x => x)]; exact HG.out
  have hEl : (ents (l.drop i)).length = (l.length - i) * 2 := by rw [ents_length, List.length_drop]
  have hE : ents (l.drop i) = (cur.toList.take (l.length * 2)).drop (i * 2) := by rw [ents_drop (by omega), HT.out]
  have hcl : cur.toList.length = c * 2 := by rw [Array.length_toList]; exact HS.out
  have hr := run_copy_many (P := Tryz.prog) w2 78 78 3 112 g ((i + 1) * 2) (l.length - i) (c - (i + 1)) ⟨g, i * 2, none⟩ (l.length + 1 - i) (c - i) 2 cur 112 (ents (l.drop i)) und_list hi hz1 hg2 (by
      rw [hEl, show (l.length + 1 - i).min (l.length - i) = l.length - i from Nat.min_eq_right (by omega)]) (fun j v hj => by
      rw [show (⟨g, i * 2, none⟩ : Addr).add j = ⟨g, i * 2 + j, none⟩ from by unfold Addr.add; split <;> simp_all, cell_of_row w2 g _ cur _ (0, 0) hg2]
      rw [hE, List.getElem?_drop] at hj
      rw [← Array.getElem?_toList, ← hj]
      have hlt : i * 2 + j < l.length * 2 := by
        have := (List.getElem?_eq_some_iff.1 hj).1
        simp only [List.length_take] at this
        omega
      rw [List.getElem?_take_of_lt hlt]) (by rw [hEl, HS.out]; omega) (ents_one _)
  obtain ⟨hs1, hs2, hs3⟩ := shift_list (C := cur.toList) (E := ents (l.drop i)) (X := ent x) (i2 := i * 2) (n2 := l.length * 2) (x2 := 2) rfl hE (by omega) (by rw [hcl]; omega)
  rw [show i * 2 + 2 = (i + 1) * 2 by omega] at hs1 hs2 hs3
  generalize hC1 : cur.toList.take ((i + 1) * 2) ++ ents (l.drop i) ++ cur.toList.drop ((i + 1) * 2 + (ents (l.drop i)).length) = C1 at *
  obtain ⟨w3, hw3⟩ : ∃ w3, w3 = w2.setRow g C1.toArray := ⟨_, rfl⟩
  rw [← hw3] at hr
  refine wpo_copy _ _ _ rfl rfl rfl hr ?_
  have hm3 : Mod (One g) w2 w3 := by
    rw [hw3]
    exact ⟨rfl, rfl, rfl, by simp, fun k _ hk => setRow_other w2 g k _ (fun e => hk e)⟩
  have HG3 : Hid (w3.heap[g]? = some (.cells C1.toArray 112 (0, 0))) := by
    rw [hw3]; exact setRow_heap w2 g cur _ _ _ hg2
  have HS1 := Lib.hid hs1
  have HS2 := Lib.hid hs2
  have HS3 := Lib.hid hs3
  have HCL := Lib.hid hcl
  clear hw3 hr hEl hE hg2 hC1 hs1 hs2 hs3 hcl
  refine ⟨hm3, ?_⟩
  simp only [List.getElem_toArray, List.getElem_cons_succ, List.getElem_cons_zero]
  go_frame
  refine wpp_nil ?_
  have hvx : ∀ j v, (ent x)[j]? = some v → w3.cell? ((⟨vb, 0, none⟩ : Addr).add j) = some v := fun j v hj => by
    rw [add_lit, ((HX.out.mod hm2 (fun x => x)).mod hm3 hvb).cell]
    simpa using hj
  have hr2 := run_copy_many (P := Tryz.prog) w3 78 77 3 112 g (i * 2) (l.length + 1 - i) (c - i) ⟨vb, 0, none⟩ 1 1 2 C1.toArray 112 (ent x) und_list hi hz1 HG3.out (by
      rw [show (1 : Nat).min (l.length + 1 - i) = 1 from Nat.min_eq_left (by omega)]; rfl) hvx (by
      show i * 2 + 2 ≤ C1.toArray.size
      rw [List.size_toArray, HS1.out, HCL.out]
      omega) (fun u hu => ents_one [x] u (by simpa [ents] using hu))
  have HR2 := Lib.hid hr2
  clear hr2 hvx
  go_wp2_with (refine wpl_copy rfl (.tmp 80) (.tmp 81) _ rfl rfl rfl HR2.out ?_)
  go_ret
  refine ⟨rfl, ⟨?_, .inr ⟨g, c, _, rfl, hb, setRow_heap w3 g C1.toArray _ _ _ HG3.out, by omega, hcm, ?_, ?_⟩⟩, ((hm2.mono (fun _ x => x.elim)).trans hm3).trans ⟨rfl, rfl, rfl, by simp, fun k _ hk => setRow_other w3 g k _ (fun e => hk e)⟩⟩
  · rw [ents_length, List.length_append, List.length_cons, List.length_take, List.length_drop]
    omega
  · rw [List.size_toArray, ← List.append_assoc]
    exact HS2.out.trans HCL.out
  · have h3 := HS3.out
    rw [show l.length * 2 + 2 = (l.length + 1) * 2 by omega] at h3
    show (C1.take (i * 2) ++ (ent x ++ C1.drop (i * 2 + (ent x).length))).take ((l.length + 1) * 2) = _
    rw [← List.append_assoc, h3, ents_append, ents_cons, ents_take (by omega), ← HT.out, List.take_take, Nat.min_eq_left (by omega), List.append_assoc]

set_option maxHeartbeats 1000000 in
set_option maxRecDepth 100000 in
/-- There is no room: a new row. -/
theorem insert_grow {g : Nat} {l : List (ByteArray × Nat)} (hown : w.ownsRow 0 112 2 (.slice (some ⟨g, 0, none⟩) l.length l.length) l.length (ents l)) (hlen : l.length ≤ 64) (x : ByteArray × Nat) (vb : Nat)
    (hx : Blk w vb 112 (ent x).toArray) (i : Nat) (hi' : i < l.length) :
    Calls Tryz.prog 167 #[.slice (some ⟨g, 0, none⟩) l.length l.length, .int .i64 i, .slice (some ⟨vb, 0, none⟩) 1 1] w fun e w' => ∃ c, e = .returned (.slice (some ⟨w.heap.size, 0, none⟩) (l.length + 1 : Nat) c) ∧
      w'.ownsRow 0 112 2 (.slice (some ⟨w.heap.size, 0, none⟩) (l.length + 1) c) (l.length + 1) (ents (l.take i ++ x :: l.drop i)) ∧ Mod Non w w' := by
  obtain ⟨i0, z0, hi, hz0, hz3, hz1, hz2⟩ := entry_info
  rcases hown.2 with ⟨e, _⟩ | ⟨g', cap, cur, e, hb, hg, hnc, hcm, hcs, ht⟩
  · cases e
  cases e
  have hol : ((ents l).take (i * 2)).length = i * i0.size := by rw [List.length_take, ents_length, hz1]; omega
  have hsrc : ∀ (W : World), Mod Non w W → ∀ j v, (ents l)[j]? = some v → W.cell? ⟨g, j, none⟩ = some v := fun W hW j v hj => by
    have hgW : W.heap[g]? = some (.cells cur 112 (0, 0)) := (hW.block g (Array.getElem?_eq_some_iff.1 hg).1 (fun x => x)).trans hg
    rw [cell_of_row W g _ cur _ (0, 0) hgW, ← Array.getElem?_toList, ← hj, ← ht]
    have hlt : j < l.length * 2 := by
      have := (List.getElem?_eq_some_iff.1 hj).1
      rw [ents_length] at this
      exact this
    rw [List.getElem?_take_of_lt hlt]
  have hrA := run_append_zeros (P := Tryz.prog) w 78 3 78 112 i0 z0 .i64 .i64 und_list und_int hi hz0 ⟨g, 0, none⟩ i l.length ((ents l).take (i * 2)) hol (fun j v hj => by
      rw [add_lit]
      refine hsrc w (Mod.refl _ _) j v ?_
      have hlt : j < i * 2 := by
        have := (List.getElem?_eq_some_iff.1 hj).1
        rw [hol, hz1] at this
        exact this
      rwa [List.getElem?_take_of_lt hlt] at hj) (l.length + 1 - i) (by omega) (by omega) (by omega) (by omega) (by rw [hz2]; omega) (by rw [hz2]; exact growslice_fits (by omega) (by omega))
  rw [show i + (l.length + 1 - i) = l.length + 1 by omega] at hrA
  have hcap := grownCap_ge w (l.length + 1) l.length 112
  have hcap2 := grownCap_le_maxLen w (l.length + 1) l.length 112 (by unfold maxLen; omega)
  generalize grownCap w (l.length + 1) l.length 112 = c at *
  have hm1 : Mod Non w (w.drew.alloc (.cells (((ents l).take (i * 2)).toArray ++ Builtin.zeroCells z0.cells (l.length + 1 - i) ++ Builtin.zeroCells z0.cells (c - (l.length + 1))) 112)) := (Mod.refl _ _).drew.alloc _
  have hb1 : Blk (w.drew.alloc (.cells (((ents l).take (i * 2)).toArray ++ Builtin.zeroCells z0.cells (l.length + 1 - i) ++ Builtin.zeroCells z0.cells (c - (l.length + 1))) 112)) w.heap.size 112 (((ents l).take (i * 2)).toArray ++ Builtin.zeroCells z0.cells (l.length + 1 - i) ++ Builtin.zeroCells z0.cells (c - (l.length + 1))) := Blk.new w.drew _ _
  obtain ⟨C0, hC0⟩ : ∃ C0, C0 = ((ents l).take (i * 2)).toArray ++ Builtin.zeroCells z0.cells (l.length + 1 - i) ++ Builtin.zeroCells z0.cells (c - (l.length + 1)) := ⟨_, rfl⟩
  have hs0 : C0.size = c * 2 := by
    rw [hC0]
    simp only [Array.size_append, List.size_toArray, size_zeroCells, hz3, hol, hz1]
    omega
  have ht0 : C0.toList.take (i * 2) = (ents l).take (i * 2) := by
    rw [hC0]
    simp only [Array.toList_append, List.append_assoc]
    rw [List.take_append_of_le_length (by rw [hol, hz1]; exact Nat.le_refl _), List.take_take, Nat.min_self]
  rw [← hC0] at hrA hm1 hb1
  have hwn : (l.length : Int) + 1 - (i : Int) = ((l.length + 1 - i : Nat) : Int) := by omega
  rw [← hwn] at hrA
  clear hC0 hol hwn
  generalize w.drew.alloc (.cells C0 112) = w1 at *
  have HA := Lib.hid hrA
  have HB := Lib.hid hb1
  have HM := Lib.hid hm1
  have HSrc := Lib.hid hsrc
  have HT0 := Lib.hid ht0
  have HS0 := Lib.hid hs0
  have HX := Lib.hid hx
  clear hrA hb1 hm1 hsrc ht0 hs0 hx hown hg ht hcs
  go_enter Tryz.func167, Tryz.ntmps167
  have hb4 : ¬ (l.length = i) := by omega
  have hb5 : ¬ (c = i) := by omega
  have hb6 : ¬ (c = i + 1) := by omega
  have hw1 : IntKind.i64.wrap ((i : Int) + 1) = (i : Int) + 1 := by rw [IntKind.wrap_i64]; omega
  have hvx : ∀ j v, (ent x)[j]? = some v → w1.cell? ((⟨vb, 0, none⟩ : Addr).add j) = some v := fun j v hj => by
    rw [add_lit, (HX.out.mod HM.out (fun x => x)).cell]
    simpa using hj
  have hr1 := run_copy_many (P := Tryz.prog) w1 78 77 3 112 w.heap.size (i * 2) (l.length + 1 - i) (c - i) ⟨vb, 0, none⟩ 1 1 2 C0 112 (ent x) und_list hi hz1 HB.out (by
      rw [show (1 : Nat).min (l.length + 1 - i) = 1 from Nat.min_eq_left (by omega)]; rfl) hvx (by
      show i * 2 + 2 ≤ C0.size
      rw [HS0.out]
      omega) (fun u hu => ents_one [x] u (by simpa [ents] using hu))
  obtain ⟨C1, hC1⟩ : ∃ C1, C1 = C0.toList.take (i * 2) ++ ent x ++ C0.toList.drop (i * 2 + (ent x).length) := ⟨_, rfl⟩
  rw [← hC1] at hr1
  have hC1l : C1.length = c * 2 := by
    rw [hC1]
    simp only [List.length_append, List.length_take, List.length_drop, Array.length_toList, HS0.out]
    show min (i * 2) (c * 2) + 2 + (c * 2 - (i * 2 + 2)) = c * 2
    omega
  have hC1t : C1.take ((i + 1) * 2) = (ents l).take (i * 2) ++ ent x := by
    rw [hC1, HT0.out]
    have h2 : ((ents l).take (i * 2) ++ ent x).length = (i + 1) * 2 := by
      rw [List.length_append, List.length_take, ents_length]
      show min (i * 2) (l.length * 2) + 2 = _
      omega
    rw [← h2, List.take_left]
  obtain ⟨w2, hw2⟩ : ∃ w2, w2 = w1.setRow w.heap.size C1.toArray := ⟨_, rfl⟩
  rw [← hw2] at hr1
  have hm2 : Mod Non w w2 := by
    rw [hw2]
    exact HM.out.andThen (T := One w.heap.size) ⟨rfl, rfl, rfl, by simp, fun k _ hk => setRow_other w1 _ k _ (fun e => hk e)⟩ (fun b hb hlt => by cases hb; omega)
  have hg2 : w2.heap[w.heap.size]? = some (.cells C1.toArray 112 (0, 0)) := by
    rw [hw2]; exact setRow_heap w1 _ C0 _ _ _ HB.out
  have HR1 := Lib.hid hr1
  have HM2 := Lib.hid hm2
  have HG2 := Lib.hid hg2
  have HL1 := Lib.hid hC1l
  have HT1 := Lib.hid hC1t
  clear hr1 hm2 hg2 hC1l hC1t hC1 hw2 hvx
  go_wp2_with (first
    | (at_builtin; refine Lib.wpList_append_run _ rfl (.tmp 34) (.tmp 39) 78 3 rfl _ _ rfl rfl _ _ HA.out ?_)
    | (refine wpl_copy rfl (.tmp 43) (.tmp 44) _ rfl rfl rfl HR1.out ?_))
  refine wp_plan [(0, false), (1, false), (2, false), (3, false), (4, false), (5, false), (6, false), (7, false), (8, true)] (One w.heap.size) (by kernel_rfl) (by kernel_rfl) (fun c d v a w h => by cases d <;> exact h) (fun w3 hm3 => ?_)
  refine wpp_read _ rfl rfl (fun W hW => by first | (go_simp; done) | (go_simp; rfl) | rfl) ?_
  simp only [List.getElem_toArray, List.getElem_cons_zero]
  go_frame
  refine wpp_read _ rfl rfl (fun W hW => by first | (go_simp; done) | (go_simp; rfl) | rfl) ?_
  simp only [List.getElem_toArray, List.getElem_cons_succ, List.getElem_cons_zero]
  go_frame
  refine wpp_read _ rfl rfl (fun W hW => by first | (go_simp; done) | (go_simp; rfl) | rfl) ?_
  simp only [List.getElem_toArray, List.getElem_cons_succ, List.getElem_cons_zero]
  go_frame
  refine wpp_read _ rfl rfl (fun W hW => by first | (go_simp; done) | (go_simp; rfl) | rfl) ?_
  simp only [List.getElem_toArray, List.getElem_cons_succ, List.getElem_cons_zero]
  go_frame
  refine wpp_read (.slice (some ⟨w.heap.size, (i + 1) * 2, none⟩) (l.length - i) (c - (i + 1))) rfl rfl (fun W hW => by go_simp; intro h1; omega) ?_
  simp only [List.getElem_toArray, List.getElem_cons_succ, List.getElem_cons_zero]
  go_frame
  refine wpp_read _ rfl rfl (fun W hW => by first | (go_simp; done) | (go_simp; rfl) | rfl) ?_
  simp only [List.getElem_toArray, List.getElem_cons_succ, List.getElem_cons_zero]
  go_frame
  refine wpp_read _ rfl rfl (fun W hW => by first | (go_simp; done) | (go_simp; rfl) | rfl) ?_
  simp only [List.getElem_toArray, List.getElem_cons_succ, List.getElem_cons_zero]
  go_frame
  refine wpp_read (.slice (some ⟨g, i * 2, none⟩) (l.length - i) (l.length - i)) rfl rfl (fun W hW => by go_simp; intro h1; omega) ?_
  simp only [List.getElem_toArray, List.getElem_cons_succ, List.getElem_cons_zero]
  go_frame
  refine wpp_act rfl rfl ?_
  have hm3w := HM2.out.trans hm3
  have hg3 : w3.heap[w.heap.size]? = some (.cells C1.toArray 112 (0, 0)) := by
    have hlt : w.heap.size < w2.heap.size := (Array.getElem?_eq_some_iff.1 HG2.out).1
    rw [hm3.block _ hlt (fun x => x)]; exact HG2.out
  have hEl : (ents (l.drop i)).length = (l.length - i) * 2 := by rw [ents_length, List.length_drop]
  have hr := run_copy_many (P := Tryz.prog) w3 78 78 3 112 w.heap.size ((i + 1) * 2) (l.length - i) (c - (i + 1)) ⟨g, i * 2, none⟩ (l.length - i) (l.length - i) 2 C1.toArray 112 (ents (l.drop i)) und_list hi hz1 hg3 (by
      rw [hEl, show (l.length - i).min (l.length - i) = l.length - i from Nat.min_self _]) (fun j v hj => by
      rw [show (⟨g, i * 2, none⟩ : Addr).add j = ⟨g, i * 2 + j, none⟩ from by unfold Addr.add; split <;> simp_all]
      rw [ents_drop (by omega), List.getElem?_drop] at hj
      exact HSrc.out w3 hm3w _ v hj) (by rw [hEl, List.size_toArray, HL1.out]; omega) (ents_one _)
  refine wpo_copy _ _ _ rfl rfl rfl hr ?_
  obtain ⟨w4, hw4⟩ : ∃ w4, w4 = w3.setRow w.heap.size (C1.toArray.toList.take ((i + 1) * 2) ++ ents (l.drop i) ++ C1.toArray.toList.drop ((i + 1) * 2 + (ents (l.drop i)).length)).toArray := ⟨_, rfl⟩
  rw [← hw4]
  have hm4 : Mod (One w.heap.size) w3 w4 := by
    rw [hw4]
    exact ⟨rfl, rfl, rfl, by simp, fun k _ hk => setRow_other w3 _ k _ (fun e => hk e)⟩
  have hfin : w4.ownsRow 0 112 2 (.slice (some ⟨w.heap.size, 0, none⟩) (l.length + 1) c) (l.length + 1) (ents (l.take i ++ x :: l.drop i)) := by
    refine ⟨?_, .inr ⟨w.heap.size, c, _, rfl, Nat.zero_le _, by rw [hw4]; exact setRow_heap w3 _ C1.toArray _ _ _ hg3, hcap, hcap2, ?_, ?_⟩⟩
    · rw [ents_length, List.length_append, List.length_cons, List.length_take, List.length_drop]
      omega
    · simp only [List.size_toArray, List.length_append, List.length_take, List.length_drop, HL1.out, hEl]
      omega
    · show (C1.take ((i + 1) * 2) ++ ents (l.drop i) ++ C1.drop ((i + 1) * 2 + (ents (l.drop i)).length)).take ((l.length + 1) * 2) = _
      rw [HT1.out]
      have h2 : ((ents l).take (i * 2) ++ ent x ++ ents (l.drop i)).length = (l.length + 1) * 2 := by
        simp only [List.length_append, List.length_take, ents_length, hEl]
        show min (i * 2) (l.length * 2) + 2 + (l.length - i) * 2 = _
        omega
      rw [← h2, List.take_left, ents_append, ents_cons, ents_take (by omega), List.append_assoc]
  have hmf : Mod Non w w4 := hm3w.andThen hm4 (fun b hb hlt => by cases hb; omega)
  have HF := Lib.hid hfin
  have HMF := Lib.hid hmf
  clear hw4 hr hg3 hfin hmf hEl
  refine ⟨hm4, ?_⟩
  clear hm3 hm4 hm3w
  simp only [List.getElem_toArray, List.getElem_cons_succ, List.getElem_cons_zero]
  go_frame
  refine wpp_nil ?_
  go_wp2
  go_ret
  exact ⟨c, rfl, HF.out, HMF.out⟩
end
end Go.Proofs.YtgillcppnpkkiaaGreatDoor

namespace Go.Proofs.YtgillcppnpkkiaaGreatDoor
open Go Go.RowKit
def putAt {α : Type} (l : List α) (p : Nat) (x : α) : List α := l.take p ++ x :: l.drop p
theorem put_length {α : Type} {l : List α} {p : Nat} {x : α} (hp : p ≤ l.length) : (putAt l p x).length = l.length + 1 := by
  unfold putAt
  rw [List.length_append, List.length_cons, List.length_take, List.length_drop]
  omega
theorem mem_put {α : Type} {l : List α} {p : Nat} {x y : α} (h : y ∈ putAt l p x) : y = x ∨ y ∈ l := by
  rcases List.mem_append.1 h with h | h
  · exact .inr (List.mem_of_mem_take h)
  · rcases List.mem_cons.1 h with h | h
    · exact .inl h
    · exact .inr (List.mem_of_mem_drop h)
theorem pairwise_put {α : Type} {R : α → α → Prop} {l : List α} {p : Nat} {x : α} (h : l.Pairwise R) (h1 : ∀ a, a ∈ l.take p → a ∈ l → R a x) (h2 : ∀ a, a ∈ l.drop p → a ∈ l → R x a) : (putAt l p x).Pairwise R := by
  have h0 : (l.take p ++ l.drop p).Pairwise R := by rw [List.take_append_drop]; exact h
  obtain ⟨ha, hb, hc⟩ := List.pairwise_append.1 h0
  refine List.pairwise_append.2 ⟨ha, List.pairwise_cons.2 ⟨fun b hb' => h2 b hb' (List.mem_of_mem_drop hb'), hb⟩, fun a ha' b hb' => ?_⟩
  rcases List.mem_cons.1 hb' with rfl | hb'
  · exact h1 a ha' (List.mem_of_mem_take ha')
  · exact hc a ha' b hb'
theorem look_none {l : List (ByteArray × Nat)} {s : ByteArray} (h : look l s = none) : ∀ x ∈ l, x.1 ≠ s := by
  intro x hx e
  unfold look at h
  rw [Option.map_eq_none_iff, List.find?_eq_none] at h
  exact h x hx (by simp [e])
theorem not_found {l : List (ByteArray × Nat)} {s : ByteArray} {p : Nat} (_ : Rising l) (_ : IsPos l s p) (h : look l s = none) : foundAt l s p = false := by
  unfold foundAt
  cases hx : l[p]? with
  | none => rfl
  | some x =>
    have := look_none h x (List.mem_of_getElem? hx)
    simp [this]
theorem rising_put {l : List (ByteArray × Nat)} {s : ByteArray} {p f : Nat} (h : Rising l) (hp : IsPos l s p) (hno : look l s = none) : Rising (putAt l p (s, f)) := by
  refine pairwise_put h (fun a ha _ => ?_) (fun a ha hal => ?_)
  · obtain ⟨k, hk⟩ := List.mem_iff_getElem?.1 ha
    have hkp : k < p := by
      have := (List.getElem?_eq_some_iff.1 hk).1
      rw [List.length_take] at this
      omega
    rw [List.getElem?_take_of_lt hkp] at hk
    exact hp.2.1 k a hk hkp
  · obtain ⟨k, hk⟩ := List.mem_iff_getElem?.1 ha
    rw [List.getElem?_drop] at hk
    have h1 := hp.2.2 _ a hk (Nat.le_add_right _ _)
    cases h2 : nlt s a.1 with
    | true => rfl
    | false => exact absurd (nlt_tri h1 h2) (look_none hno a hal)
theorem look_append (l k : List (ByteArray × Nat)) (s : ByteArray) : look (l ++ k) s = (look l s).or (look k s) := by
  unfold look
  rw [List.find?_append]
  cases l.find? (fun x => decide (x.1 = s)) <;> simp
theorem look_cons (x : ByteArray × Nat) (l : List (ByteArray × Nat)) (s : ByteArray) : look (x :: l) s = if x.1 = s then some x.2 else look l s := by
  unfold look
  by_cases h : x.1 = s <;> simp [h]
theorem look_put_same {l : List (ByteArray × Nat)} {s : ByteArray} {p f : Nat} (hno : look l s = none) : look (putAt l p (s, f)) s = some f := by
  have h0 : look (l.take p ++ l.drop p) s = none := by rw [List.take_append_drop]; exact hno
  rw [look_append, Option.or_eq_none_iff] at h0
  unfold putAt
  rw [look_append, h0.1, look_cons]
  simp
theorem look_put_other {l : List (ByteArray × Nat)} {s t : ByteArray} {p f : Nat} (hne : s ≠ t) : look (putAt l p (s, f)) t = look l t := by
  conv => rhs; rw [← List.take_append_drop p l]
  unfold putAt
  rw [look_append, look_append, look_cons]
  simp [hne]

section
variable {w w' : World}
theorem ent_row {W : World} {vb : Nat} {x : ByteArray × Nat} (hx : Blk W vb 112 (ent x).toArray) : RowAt W (some ⟨vb, 0, none⟩) 1 2 (ent x) := ⟨rfl, fun _ => ⟨_, rfl, fun j u hu => by
  rw [add_lit, hx.cell]
  simpa using hu⟩⟩
theorem insert_any {v : Value} {l : List (ByteArray × Nat)} (hown : w.ownsRow 0 112 2 v l.length (ents l)) (hlen : l.length ≤ 64) (x : ByteArray × Nat) (vb : Nat)
    (hx : Blk w vb 112 (ent x).toArray) (hvb : v.ownBlock ≠ some vb) (p : Nat) (hp : p ≤ l.length) :
    Calls Tryz.prog 167 #[v, .int .i64 p, .slice (some ⟨vb, 0, none⟩) 1 1] w fun e w' => ∃ v', e = .returned v' ∧ w'.ownsRow 0 112 2 v' (l.length + 1) (ents (putAt l p x)) ∧
      Mod (fun k => v.ownBlock = some k) w w' ∧ (v'.ownBlock = v.ownBlock ∨ v'.ownBlock = some w.heap.size) := by
  by_cases hpl : p = l.length
  · subst hpl
    refine (insert_end hown hlen x _ 1 (ent_row hx)).mono ?_
    rintro e w' ⟨v', he, ho, hg, ha⟩
    refine ⟨v', he, ?_, Mod.of_grown hg (fun k hk => hk), ha⟩
    unfold putAt
    rw [List.take_length, List.drop_length]
    exact ho
  · have hlt : p < l.length := by omega
    rcases hown.2 with ⟨_, h0⟩ | ⟨g, cap, cur, rfl, hb, hg, hnc, r⟩
    · omega
    · by_cases hroom : l.length < cap
      · refine (insert_shift hown hlen x vb hx (fun e => hvb (by rw [e]; rfl)) p hlt hroom).mono ?_
        rintro e w' ⟨he, ho, hm⟩
        exact ⟨_, he, ho, hm.mono (fun b hb => by cases hb; rfl), .inl rfl⟩
      · obtain rfl : cap = l.length := by omega
        refine (insert_grow hown hlen x vb hx p hlt).mono ?_
        rintro e w' ⟨c, he, ho, hm⟩
        exact ⟨_, he, ho, hm.mono (fun _ hb => hb.elim), .inr rfl⟩
end

section
variable {w w' : World} {d : Nat} {D : Dk} {S : Nat → Prop}
def Dk.add (D : Dk) (p : Nat) (s : ByteArray) (vn : Value) (f : Nat) : Dk :=
  { D with vn := vn, now := putAt D.now p (s, f), fv := upd D.fv f (.slice none 0 0), by_ := upd D.by_ f [], sure := upd D.sure f 0 }

theorem DiskRep.add (h : DiskRep w d D) {p : Nat} {s : ByteArray} {f : Nat} {vn : Value} (hm : Mod S w w') (hS : ∀ b, S b → b = d ∨ D.vn.ownBlock = some b) (hf : w.heap.size ≤ f)
    (hb : Blk w' d 80 #[.int .i64 D.size, vn, D.vk]) (hfb : Blk w' f 118 #[.slice none 0 0, .int .i64 0])
    (hv : w'.ownsRow 0 112 2 vn (D.now.length + 1) (ents (putAt D.now p (s, f)))) (hvn : ∀ b, vn.ownBlock = some b → D.vn.ownBlock = some b ∨ w.heap.size ≤ b)
    (hp : IsPos D.now s p) (hno : look D.now s = none) (hlen : D.now.length < 64) : DiskRep w' d (D.add p s vn f) := by
  have hnf := h.not_new hf
  have hkeep : ∀ b, b < w.heap.size → b ≠ d → D.vn.ownBlock ≠ some b → w'.heap[b]? = w.heap[b]? := fun b hlt h1 h2 => hm.block b hlt (fun hs => (hS b hs).elim h1 h2)
  have hvk : ∀ b, D.vk.ownBlock = some b → w'.heap[b]? = w.heap[b]? := fun b hb' => by
    obtain ⟨cur, hc⟩ := own_blk h.kept hb'
    exact hkeep b hc.lt (hc.ne h.blk (by decide)) (fun e => h.rows b e hb')
  have old : ∀ g, D.isFile g → g ≠ f := fun g hg e => hnf (e ▸ hg)
  have hold : ∀ g, (D.add p s vn f).isFile g → g = f ∨ D.isFile g := by
    rintro g ⟨x, hx | hx, rfl⟩
    · rcases mem_put hx with rfl | hx
      · exact .inl rfl
      · exact .inr ⟨x, .inl hx, rfl⟩
    · exact .inr ⟨x, .inr hx, rfl⟩
  refine ⟨hb, by rw [show (D.add p s vn f).now.length = D.now.length + 1 from put_length hp.1]; exact hv, owns_keep h.kept hvk, fun b hb' hk => ?_, fun g hg => ?_, fun g k b hg hk hgk hb' => ?_, ?_, h.risingK, ?_, h.distinctK, ?_, h.lenK, h.s1, h.s2⟩
  · rcases hvn b hb' with e | e
    · exact h.rows b e hk
    · have := (h.kept.lt b hk).2
      omega
  · rcases hold g hg with rfl | hg
    · simp only [Dk.add, upd_same]
      exact ⟨hfb, World.ownsRow_nil _ _ _ _, Nat.le_refl _, Nat.zero_le _⟩
    · simp only [Dk.add, upd_other _ _ (old g hg)]
      obtain ⟨gb, gr, gs⟩ := h.file g hg
      refine ⟨(hkeep g gb.lt (gb.ne h.blk (by decide)) (own_blk_ne h.now gb (by decide))).trans gb, owns_keep gr (fun b hb' => ?_), gs⟩
      obtain ⟨cur, hc⟩ := own_blk gr hb'
      exact hkeep b hc.lt (hc.ne h.blk (by decide)) (own_blk_ne h.now hc (by decide))
  · simp only [Dk.add] at hb' ⊢
    rcases hold g hg with rfl | hg
    · rw [upd_same] at hb'
      simp [Value.ownBlock] at hb'
    · rw [upd_other _ _ (old g hg)] at hb'
      rcases hold k hk with rfl | hk
      · rw [upd_same]
        simp [Value.ownBlock]
      · rw [upd_other _ _ (old k hk)]
        exact h.sep g k b hg hk hgk hb'
  · exact rising_put h.rising hp hno
  · exact pairwise_put (R := fun a b => a.2 ≠ b.2) (p := p) (x := (s, f)) h.distinct (fun a _ ha => old _ ⟨a, .inl ha, rfl⟩) (fun a _ ha (e : f = a.2) => old _ ⟨a, .inl ha, rfl⟩ e.symm)
  · rw [show (D.add p s vn f).now.length = D.now.length + 1 from put_length hp.1]
    omega

theorem add_DS {p : Nat} {s : ByteArray} {f : Nat} {vn : Value} (hf : w.heap.size ≤ f) (hvn : ∀ b, vn.ownBlock = some b → D.vn.ownBlock = some b ∨ w.heap.size ≤ b) {b : Nat} (hb : DS d (D.add p s vn f) b) : DS d D b ∨ w.heap.size ≤ b := by
  rcases hb with h | h | h | ⟨g, ⟨x, hx, hg⟩, h⟩
  · exact .inl (.inl h)
  · exact (hvn b h).imp (fun e => .inr (.inl e)) id
  · exact .inl (.inr (.inr (.inl h)))
  · by_cases hgf : g = f
    · subst hgf
      rcases h with h | h
      · exact .inr (h ▸ hf)
      · simp only [Dk.add, upd_same] at h
        simp [Value.ownBlock] at h
    · have hg' : D.isFile g := by
        rcases hx with hx | hx
        · rcases mem_put hx with rfl | hx
          · exact absurd hg.symm hgf
          · exact ⟨x, .inl hx, hg⟩
        · exact ⟨x, .inr hx, hg⟩
      simp only [Dk.add, upd_other _ _ hgf] at h
      exact .inl (.inr (.inr (.inr ⟨g, hg', h⟩)))

set_option maxHeartbeats 800000 in
set_option maxRecDepth 100000 in
theorem create_any (h : DiskRep w d D) (s : ByteArray) (hm : mayB s = true) (p : Nat) (hp : IsPos D.now s p) (hno : look D.now s = none) (hlen : D.now.length < 64) :
    Calls Tryz.prog 117 #[.pointer (some ⟨d, 0, none⟩), .string s] w fun e w' => e = .returned (.int .i64 0) ∧ ∃ vn f, w.heap.size ≤ f ∧ DStep w d D w' (D.add p s vn f) := by
  have HA := Lib.hid (asked_ok h)
  have HT := Lib.hid (at_ok h s hm _ hp)
  have hfo : foundAt D.now s p = false := not_found h.rising hp hno
  rw [hfo] at HT
  have H := Lib.hid h
  have HPos := Lib.hid hp
  have HNo := Lib.hid hno
  have hpl := hp.1
  clear h hp hno hfo
  go_enter Tryz.func117, Tryz.ntmps117
  go_wp2_with (first
    | (go_at_call 53; refine HA.out.mono ?_; rintro e w1 ⟨rfl, rfl⟩)
    | (go_at_call 122; refine HT.out.mono ?_; rintro e w1 ⟨rfl, hm1⟩
       obtain ⟨A1, c1, A2, c2, e1, e2, l1, l2, r1, r2⟩ := (H.out.non hm1).opens
       have hb := (H.out.non hm1).blk
       rw [e1, e2] at hb
       have cb := hb.cell
       have Hb := Lib.hid hb
       clear hb r1 r2
       have E1 := Lib.hid e1
       have hnow := (H.out.non hm1).now
       rw [e1] at hnow
       have E1 := Lib.hid e1
       have E2 := Lib.hid e2
       clear e1 e2
       have hmW : Mod Non w1 ((w1.alloc (.cells #[.slice none 0 0, .int .i64 0] 118)).alloc (.cells #[.string s, .pointer (some ⟨w1.heap.size, 0, none⟩)] 112)) := ((Mod.refl _ _).alloc _).alloc _
       have hfW := (Blk.new w1 118 #[.slice none 0 0, .int .i64 0]).alloc (.cells #[.string s, .pointer (some ⟨w1.heap.size, 0, none⟩)] 112)
       have heW := Blk.new (w1.alloc (.cells #[.slice none 0 0, .int .i64 0] 118)) 112 #[.string s, .pointer (some ⟨w1.heap.size, 0, none⟩)]
       have hsz1 : (w1.alloc (.cells #[.slice none 0 0, .int .i64 0] 118)).heap.size = w1.heap.size + 1 := by simp
       rw [hsz1] at heW
       have hvbW : D.vn.ownBlock ≠ some (w1.heap.size + 1) := fun e => by have := ((H.out.non hm1).now.lt _ e).2; omega
       have HI := Lib.hid (insert_any (((H.out.non hm1).non hmW).now) (by omega) (s, w1.heap.size) (w1.heap.size + 1) heW hvbW p hpl)
       rw [E1.out] at HI
       have HW := Lib.hid hmW
       have FW := Lib.hid hfW
       clear hmW hfW heW hvbW hnow hsz1)
    | (go_at_call 167; refine HI.out.mono ?_; rintro e w3 ⟨v3, rfl, ho3, hg3, ha3⟩
       obtain ⟨A3, c3, rfl, hc3, _, _⟩ := owns_form ho3
       have hm3 : Mod (fun k => D.vn.ownBlock = some k) w1 w3 := (HW.out.mono (fun _ x => x.elim)).trans ((E1.out ▸ hg3))
       have hb3 := Hb.out.mod hm3 (own_blk_ne (H.out.non hm1).now Hb.out (by decide))
       have cb3 := hb3.cell
       have fb3 := hb3.frozen
       have HB3 := Lib.hid hb3
       clear hb3))
  go_ret
  have h1 := H.out.non hm1
  have hszW : w1.heap.size ≤ ((w1.alloc (.cells #[.slice none 0 0, .int .i64 0] 118)).alloc (.cells #[.string s, .pointer (some ⟨w1.heap.size, 0, none⟩)] 112)).heap.size := HW.out.size
  have hvn : ∀ b, (Value.slice A3 (D.now.length + 1) c3).ownBlock = some b → D.vn.ownBlock = some b ∨ w1.heap.size ≤ b := fun b hb => by
    rcases ha3 with e | e
    · exact .inl (by rw [E1.out, ← e]; exact hb)
    · rw [e] at hb; cases hb; exact .inr hszW
  have hf3 : Blk w3 w1.heap.size 118 #[.slice none 0 0, .int .i64 0] := FW.out.mod ((E1.out ▸ hg3)) (own_blk_ne (h1.non HW.out).now FW.out (by decide))
  have hlt : d < w1.heap.size := h1.blk.lt
  refine ⟨rfl, .slice A3 (D.now.length + 1) c3, w1.heap.size, hm1.size, DStep.after hm1 ⟨h1.add (S := fun b => b = d ∨ D.vn.ownBlock = some b) ((hm3.mono (fun b x => .inr x)).setCell (p := ⟨d, 1, none⟩) (.inl (.inl rfl)) _) (fun b x => x) (Nat.le_refl _) ?_ (hf3.far (fun e => by simp at e; omega) _) (owns_keep ho3 (fun b hb => Below.heap_setCell _ _ _ _ (fun e => own_blk_ne ho3 HB3.out (by decide) (by rw [hb, e])))) hvn HPos.out HNo.out hlen, (hm3.mono (T := DS d D) (fun b x => .inr (.inl x))).setCell (p := ⟨d, 1, none⟩) (.inl (.inl rfl)) _, fun b hb => add_DS (Nat.le_refl _) hvn hb⟩⟩
  have := HB3.out.set 1 (.slice A3 (D.now.length + 1) c3)
  rw [E2.out]
  exact this
end
end Go.Proofs.YtgillcppnpkkiaaGreatDoor

namespace Go.Proofs.YtgillcppnpkkiaaGreatDoor
open Go Go.RowKit
section
variable {w w' : World} {d : Nat} {D : Dk}
set_option maxHeartbeats 800000 in
set_option maxRecDepth 100000 in
theorem append_full (h : DiskRep w d D) (s : ByteArray) (hm : mayB s = true) (f : Nat) (hl : look D.now s = some f) (A : Option Addr) (m c : Nat) (hfull : ¬ (m ≤ D.left ∧ m + (D.by_ f).length ≤ 1048576)) (hm63 : m ≤ maxLen) :
    Calls Tryz.prog 48 #[.pointer (some ⟨d, 0, none⟩), .string s, .slice A m c] w fun e w' => e = .returned (.int .i64 6) ∧ Mod Non w w' := by
  have hfile : D.isFile f := ⟨_, .inl (look_some hl), rfl⟩
  have HG := Lib.hid (got_some h s hm f hl _ (asked_okM h))
  have hs2 := h.s2
  have hleft : D.left ≤ 8388608 := by unfold Dk.left; omega
  have H := Lib.hid h
  have hby := (h.file f hfile).2.2.2
  have hm64 : m ≤ 9223372036854775807 := hm63
  clear h hl
  go_enter Tryz.func48, Tryz.ntmps48
  go_wp2_with (go_at_call 115; refine HG.out.mono ?_; rintro e w1 ⟨rfl, hm1⟩)
  refine wp_plan [(0, false), (1, false), (2, false), (4, false), (5, false), (6, false), (7, false), (8, false), (9, false), (3, true), (10, false), (11, false)] Non (by kernel_rfl) (by kernel_rfl) (fun c d v a w h => by cases d <;> exact h) (fun w2 hm2 => ?_)
  have h2 := (H.out.non hm1).non hm2
  obtain ⟨fb, fr, fs, fl⟩ := h2.file f hfile
  obtain ⟨A', c', ev, hcc, hrow, _⟩ := owns_form fr
  rw [ev] at fb
  have hwr : IntKind.i64.wrap (1048576 - ((D.by_ f).length : Int)) = 1048576 - ((D.by_ f).length : Int) := by rw [IntKind.wrap_i64]; omega
  have hcell : ∀ W, Mod Non w2 W → ∀ i, W.cell? ⟨f, i, none⟩ = #[Value.slice A' (D.by_ f).length c', Value.int .i64 (D.sure f)][i]? := fun W hW => (fb.mod hW (fun x => x)).cell
  refine wpp_read _ rfl rfl (fun W hW => by have cW := hcell W hW; first | (go_simp; done) | (go_simp; rfl) | rfl) ?_
  go_frame
  refine wpp_read _ rfl rfl (fun W hW => by have cW := hcell W hW; first | (go_simp; done) | (go_simp; rfl) | rfl) ?_
  go_frame
  refine wpp_read _ rfl rfl (fun W hW => by have cW := hcell W hW; first | (go_simp; done) | (go_simp; rfl) | rfl) ?_
  go_frame
  refine wpp_read _ rfl rfl (fun W hW => by have cW := hcell W hW; first | (go_simp; done) | (go_simp; rfl) | rfl) ?_
  go_frame
  refine wpp_read _ rfl rfl (fun W hW => by have cW := hcell W hW; first | (go_simp; done) | (go_simp; rfl) | rfl) ?_
  go_frame
  refine wpp_read _ rfl rfl (fun W hW => by have cW := hcell W hW; first | (go_simp; done) | (go_simp; rfl) | rfl) ?_
  go_frame
  refine wpp_read _ rfl rfl (fun W hW => by have cW := hcell W hW; first | (go_simp; done) | (go_simp; rfl) | rfl) ?_
  go_frame
  refine wpp_read _ rfl rfl (fun W hW => by have cW := hcell W hW; first | (go_simp; done) | (go_simp; rfl) | rfl) ?_
  go_frame
  refine wpp_read _ rfl rfl (fun W hW => by have cW := hcell W hW; first | (go_simp; done) | (go_simp; rfl) | rfl) ?_
  go_frame
  refine wpp_act rfl rfl ?_
  go_simp
  refine (left_ok h2).mono ?_
  rintro e w3 ⟨rfl, hm3⟩
  refine ⟨hm3, ?_⟩
  try go_frame
  refine wpp_read _ rfl rfl (fun W hW => by first | (go_simp; done) | (go_simp; rfl) | rfl) ?_
  go_frame
  refine wpp_read _ rfl rfl (fun W hW => by first | (go_simp; done) | (go_simp; rfl) | rfl) ?_
  go_frame
  refine wpp_nil ?_
  clear hcell h2 fb fr hrow hcc ev
  have hlt : min (D.left : Int) (1048576 - ((D.by_ f).length : Int)) < (m : Int) := by omega
  go_wp2
  go_ret
  exact ⟨rfl, (hm1.trans hm2).trans hm3⟩

set_option maxRecDepth 100000 in
theorem append_none (h : DiskRep w d D) (s : ByteArray) (hm : mayB s = true) (hl : look D.now s = none) (v : Value) :
    Calls Tryz.prog 48 #[.pointer (some ⟨d, 0, none⟩), .string s, v] w fun e w' => e = .returned (.int .i64 7) ∧ Mod Non w w' := by
  have HG := Lib.hid (got_none h s hm hl _ (asked_okM h))
  clear h hl
  go_enter Tryz.func48, Tryz.ntmps48
  go_wp2_with (go_at_call 115; refine HG.out.mono ?_; rintro e w1 ⟨rfl, hm1⟩)
  go_ret
  exact ⟨rfl, hm1⟩
set_option maxRecDepth 100000 in
theorem append_bad (h : DiskRep w d D) (s : ByteArray) (hs : s.size ≤ maxLen) (hm : mayB s = false) (v : Value) :
    Calls Tryz.prog 48 #[.pointer (some ⟨d, 0, none⟩), .string s, v] w fun e w' => e = .returned (.int .i64 1) ∧ Mod Non w w' := by
  have HG := Lib.hid (got_bad s hs hm _ _ (asked_okM h))
  clear h
  go_enter Tryz.func48, Tryz.ntmps48
  go_wp2_with (go_at_call 115; refine HG.out.mono ?_; rintro e w1 ⟨rfl, hm1⟩)
  go_ret
  exact ⟨rfl, hm1⟩
/-- What a step of the law's own loop comes to. -/
structure Grown (w : World) (d : Nat) (D : Dk) (w' : World) (D' : Dk) (n : Nat) : Prop where
  step : DStep w d D w' D'
  size : D'.size = D.size
  len : D'.now.length ≤ D.now.length + n
theorem Grown.same (h : DiskRep w d D) (hm : Mod Non w w') (n : Nat) : Grown w d D w' D n := ⟨.of_non h hm, rfl, Nat.le_add_right _ _⟩
theorem append_any (h : DiskRep w d D) (s : ByteArray) (hs : s.size ≤ maxLen) (A : Option Addr) (m c : Nat) (l : List UInt8) (hr : RowAt w A m 1 (bv l)) (hm63 : m ≤ maxLen) :
    Calls Tryz.prog 48 #[.pointer (some ⟨d, 0, none⟩), .string s, .slice A m c] w fun e w' => (∃ r, e = .returned (.int .i64 r)) ∧ ∃ D', Grown w d D w' D' 0 := by
  cases hm : mayB s with
  | false => exact (append_bad h s hs hm _).mono fun e w' ⟨h1, h2⟩ => ⟨⟨_, h1⟩, D, Grown.same h h2 0⟩
  | true =>
    cases hl : look D.now s with
    | none => exact (append_none h s hm hl _).mono fun e w' ⟨h1, h2⟩ => ⟨⟨_, h1⟩, D, Grown.same h h2 0⟩
    | some f =>
      by_cases hroom : m ≤ D.left ∧ m + (D.by_ f).length ≤ 1048576
      · exact (append_ok h s hm f hl A m c l hr hroom).mono fun e w' ⟨h1, v, h2⟩ => ⟨⟨_, h1⟩, _, h2, rfl, Nat.le_refl _⟩
      · exact (append_full h s hm f hl A m c hroom hm63).mono fun e w' ⟨h1, h2⟩ => ⟨⟨_, h1⟩, D, Grown.same h h2 0⟩

set_option maxRecDepth 100000 in
theorem create_bad (h : DiskRep w d D) (s : ByteArray) (hs : s.size ≤ maxLen) (hm : mayB s = false) :
    Calls Tryz.prog 117 #[.pointer (some ⟨d, 0, none⟩), .string s] w fun e w' => e = .returned (.int .i64 1) ∧ Mod Non w w' := by
  have HA := Lib.hid (asked_ok h)
  clear h
  go_enter Tryz.func117, Tryz.ntmps117
  go_wp2_with (first
    | (go_at_call 53; refine HA.out.mono ?_; rintro e w1 ⟨rfl, rfl⟩)
    | (go_at_call 122; refine (at_bad s hs hm _).mono ?_; rintro e w2 ⟨rfl, rfl⟩))
  go_ret
  exact ⟨rfl, Mod.refl _ _⟩
set_option maxRecDepth 100000 in
theorem create_there (h : DiskRep w d D) (s : ByteArray) (hm : mayB s = true) (p : Nat) (hp : IsPos D.now s p) (hf : foundAt D.now s p = true) :
    Calls Tryz.prog 117 #[.pointer (some ⟨d, 0, none⟩), .string s] w fun e w' => (∃ r, e = .returned (.int .i64 r)) ∧ Mod Non w w' := by
  have HA := Lib.hid (asked_ok h)
  have ha := at_ok h s hm p hp
  rw [if_pos hf] at ha
  have HT := Lib.hid ha
  clear h hp hf ha
  go_enter Tryz.func117, Tryz.ntmps117
  go_wp2_with (first
    | (go_at_call 53; refine HA.out.mono ?_; rintro e w1 ⟨rfl, rfl⟩)
    | (go_at_call 122; refine HT.out.mono ?_; rintro e w2 ⟨rfl, hm2⟩))
  go_ret
  exact ⟨⟨_, rfl⟩, hm2⟩
theorem create_gen (h : DiskRep w d D) (s : ByteArray) (hs : s.size ≤ maxLen) (hlen : D.now.length < 64) :
    Calls Tryz.prog 117 #[.pointer (some ⟨d, 0, none⟩), .string s] w fun e w' => (∃ r, e = .returned (.int .i64 r)) ∧ ∃ D', Grown w d D w' D' 1 := by
  cases hm : mayB s with
  | false => exact (create_bad h s hs hm).mono fun e w' ⟨h1, h2⟩ => ⟨⟨_, h1⟩, D, Grown.same h h2 1⟩
  | true =>
    obtain ⟨p, hp⟩ := h.rising.pos s
    by_cases hf : foundAt D.now s p = true
    · exact (create_there h s hm p hp hf).mono fun e w' ⟨h1, h2⟩ => ⟨h1, D, Grown.same h h2 1⟩
    · have hl := look_pos h.rising hp
      rw [if_neg hf] at hl
      exact (create_any h s hm p hp hl hlen).mono fun e w' ⟨h1, vn, f, _, h3⟩ => ⟨⟨_, h1⟩, _, h3, rfl, by rw [show (D.add p s vn f).now.length = D.now.length + 1 from put_length hp.1]; exact Nat.le_refl _⟩

theorem look_erase_other {l : List (ByteArray × Nat)} {s t : ByteArray} {p f : Nat} (hx : l[p]? = some (s, f)) (hne : s ≠ t) : look (l.eraseIdx p) t = look l t := by
  have hp := (List.getElem?_eq_some_iff.1 hx).1
  have e : l = l.take p ++ (s, f) :: l.drop (p + 1) := by
    conv => lhs; rw [← List.take_append_drop p l]
    congr 1
    rw [List.drop_eq_getElem_cons hp, (List.getElem?_eq_some_iff.1 hx).2]
  rw [List.eraseIdx_eq_take_drop_succ]
  conv => rhs; rw [e]
  rw [look_append, look_append, look_cons]
  simp [hne]
theorem rising_once {l : List (ByteArray × Nat)} {s : ByteArray} {p f : Nat} (h : Rising l) (hx : l[p]? = some (s, f)) : look (l.eraseIdx p) s = none := by
  unfold look
  rw [Option.map_eq_none_iff, List.find?_eq_none]
  intro y hy
  simp only [decide_eq_true_eq]
  intro e
  obtain ⟨k, hk, he⟩ := List.mem_eraseIdx_iff_getElem?.1 hy
  obtain ⟨hp, ep⟩ := List.getElem?_eq_some_iff.1 hx
  obtain ⟨hkl, ek⟩ := List.getElem?_eq_some_iff.1 he
  have hpw := List.pairwise_iff_getElem.1 h
  rcases Nat.lt_or_gt_of_ne hk with h1 | h1
  · have := hpw k p hkl hp h1
    rw [ek, ep, e, nlt_irrefl] at this
    cases this
  · have := hpw p k hp hkl h1
    rw [ek, ep, e, nlt_irrefl] at this
    cases this
theorem pos_at {l : List (ByteArray × Nat)} {s : ByteArray} {f : Nat} (h : Rising l) (hl : look l s = some f) : ∃ p, IsPos l s p ∧ foundAt l s p = true ∧ l[p]? = some (s, f) := by
  obtain ⟨p, hp⟩ := h.pos s
  have hlp := look_pos h hp
  by_cases hf : foundAt l s p = true
  · refine ⟨p, hp, hf, ?_⟩
    rw [if_pos hf, hl] at hlp
    unfold foundAt at hf
    cases hx : l[p]? with
    | none => rw [hx] at hf; cases hf
    | some x =>
      rw [hx] at hf hlp
      simp at hf hlp
      rw [← hf, hlp]
  · rw [if_neg hf, hl] at hlp
    cases hlp
/-- Remove of a name that may be, there or not: it is not there; the others are as they were. -/
theorem remove_gen (h : DiskRep w d D) (s : ByteArray) (hm : mayB s = true) :
    Calls Tryz.prog 41 #[.pointer (some ⟨d, 0, none⟩), .string s] w fun e w' => (∃ r, e = .returned (.int .i64 r)) ∧ ∃ vn l, DStep w d D w' (D.setNow vn l) ∧ look l s = none ∧ (∀ t, s ≠ t → look l t = look D.now t) ∧ l.length ≤ D.now.length := by
  cases hl : look D.now s with
  | none => exact (remove_none h s hm hl).mono fun e w' ⟨h1, h2⟩ => ⟨⟨_, h1⟩, D.vn, D.now, DStep.of_non h h2, hl, fun _ _ => rfl, Nat.le_refl _⟩
  | some f =>
    obtain ⟨p, hp, hf, hx⟩ := pos_at h.rising hl
    exact (remove_ok h s hm f hl p hp hf).mono fun e w' ⟨h1, vn, h2, _, _⟩ => ⟨⟨_, h1⟩, vn, _, h2, rising_once h.rising hx, fun t ht => look_erase_other hx ht, List.length_eraseIdx_le _ _⟩
end
end Go.Proofs.YtgillcppnpkkiaaGreatDoor

namespace Go.Proofs.YtgillcppnpkkiaaGreatDoor
open Go Go.RowKit
section
variable {w w' : World} {d : Nat} {D : Dk} {S : Nat → Prop}
set_option maxHeartbeats 800000 in
set_option maxRecDepth 100000 in
theorem rename_new (h : DiskRep w d D) (s t : ByteArray) (hm : mayB s = true) (hmt : mayB t = true) (f : Nat) (hl : look D.now s = some f) (p : Nat) (hp : IsPos D.now s p) (hf : foundAt D.now s p = true)
    (hx : D.now[p]? = some (s, f)) (q : Nat) (hq : IsPos (D.now.eraseIdx p) t q) (hno : look (D.now.eraseIdx p) t = none) :
    Calls Tryz.prog 121 #[.pointer (some ⟨d, 0, none⟩), .string s, .string t] w fun e w' => e = .returned (.int .i64 0) ∧ ∃ vn, DStep w d D w' (D.setNow vn (putAt (D.now.eraseIdx p) q (t, f))) := by
  have HA := Lib.hid (asked_ok h)
  have HG := Lib.hid (got_some h s hm f hl _ (asked_okM h))
  have hsz : t.size ≤ maxLen := by
    unfold mayB at hmt; simp at hmt; unfold maxLen; omega
  have HM : ∀ W, Hid (Calls Tryz.prog 168 #[.string t] W fun e w' => e = .returned (.bool true) ∧ W = w') := fun W => by
    have := may_any t W hsz
    rw [hmt] at this
    exact Lib.hid this
  have hlen := h.len
  have hpl : p < D.now.length := (List.getElem?_eq_some_iff.1 hx).1
  have HR : ∀ W, Mod Non w W → Hid (Calls Tryz.prog 41 #[.pointer (some ⟨d, 0, none⟩), .string s] W fun e w' => e = .returned (.int .i64 0) ∧ ∃ vn, DStep W d D w' (D.setNow vn (D.now.eraseIdx p)) ∧ Mod (One d) W w' ∧ ∀ b, vn.ownBlock = some b → W.heap.size ≤ b) := fun W hW =>
    Lib.hid (remove_ok (h.non hW) s hm f hl p hp hf)
  have hle : (D.now.eraseIdx p).length = D.now.length - 1 := List.length_eraseIdx_of_lt hpl
  have hfo : foundAt (D.now.eraseIdx p) t q = false := not_found (List.Pairwise.sublist (List.eraseIdx_sublist _ _) h.rising) hq hno
  have hpt := hq
  have hql := hq.1
  have HPT := Lib.hid hpt
  have hll : (D.now.eraseIdx p).length ≤ 64 := by omega
  have HL := Lib.hid hle
  have HFO := Lib.hid hfo
  have HMT := Lib.hid hmt
  have HX := Lib.hid hx
  have H := Lib.hid h
  have HNo := Lib.hid hno
  clear h hp hf hl hpt hle hx hmt hfo hq hno
  go_enter Tryz.func121, Tryz.ntmps121
  go_wp2_with (first
    | (go_at_call 53; refine HA.out.mono ?_; rintro e w1 ⟨rfl, rfl⟩)
    | (go_at_call 115; refine HG.out.mono ?_; rintro e w1 ⟨rfl, hm1⟩)
    | (go_at_call 168; refine (HM _).out.mono ?_; rintro e w2 ⟨rfl, rfl⟩)
    | (go_at_call 41; refine (HR _ hm1).out.mono ?_; rintro e w3 ⟨rfl, vn, hst, hm3, hnew⟩)
    | (go_at_call 122
       have ha := at_ok hst.rep t HMT.out q HPT.out
       rw [if_neg (by have := HFO.out; simp only [Dk.setNow, this]; decide)] at ha
       refine ha.mono ?_
       rintro e w4 ⟨rfl, hm4⟩
       have h4 := hst.rep.non hm4
       obtain ⟨A1, c1, A2, c2, e1, e2, l1, l2, r1, r2⟩ := h4.opens
       have hb := h4.blk
       have hmW : Mod Non w4 (w4.alloc (.cells #[.string t, .pointer (some ⟨f, 0, none⟩)] 112)) := (Mod.refl _ _).alloc _
       have heW := Blk.new w4 112 #[.string t, .pointer (some ⟨f, 0, none⟩)]
       have hvbW : (D.setNow vn (D.now.eraseIdx p)).vn.ownBlock ≠ some w4.heap.size := fun e => by have := (h4.now.lt _ e).2; omega
       have hi := insert_any (h4.non hmW).now hll (t, f) w4.heap.size heW hvbW q hql
       simp only [Dk.setNow] at e1 e2 hb l1 l2 hi
       have HN := Lib.hid (h4.non hmW).now
       rw [e1] at hi
       rw [e1, e2] at hb
       have cb := hb.cell
       have Hb := Lib.hid hb
       have HI := Lib.hid hi
       have HW := Lib.hid hmW
       have E1 := Lib.hid e1
       have E2 := Lib.hid e2
       clear hb hi e1 e2 r1 r2 hmW heW hvbW ha h4)
    | (go_at_call 167; refine HI.out.mono ?_; rintro e w5 ⟨v5, rfl, ho5, hg5, ha5⟩
       obtain ⟨A5, c5, rfl, hc5, _, _⟩ := owns_form ho5
       have hm5 : Mod (fun k => vn.ownBlock = some k) w4 w5 := (HW.out.mono (fun _ x => x.elim)).trans ((E1.out ▸ hg5))
       have hb5 := Hb.out.mod hm5 (fun e => by have h1 := hnew d e; have h2 := (H.out.non hm1).blk.lt; omega)
       have cb5 := hb5.cell
       have fb5 := hb5.frozen
       have HB5 := Lib.hid hb5
       have HO5 := Lib.hid ho5
       clear hb5 ho5))
  go_ret
  have h1 := H.out.non hm1
  have hvn : ∀ b, (Value.slice A5 ((D.now.eraseIdx p).length + 1) c5).ownBlock = some b → w1.heap.size ≤ b := fun b hb => by
    rcases ha5 with e | e
    · exact hnew b (by rw [E1.out, ← e]; exact hb)
    · rw [e] at hb
      cases hb
      exact Nat.le_trans hm3.size (Nat.le_trans hm4.size HW.out.size)
  have hm15 : Mod (One d) w1 w5 := (hm3.trans (hm4.mono (fun _ x => x.elim))).andThen hm5 (fun b hb hlt => absurd (hnew b hb) (by omega))
  have hmd : Mod (One d) w1 (w5.setCell ⟨d, 1, none⟩ (.slice A5 ((D.now.eraseIdx p).length + 1) c5)) := hm15.setCell (p := ⟨d, 1, none⟩) (.inl rfl) _
  have hsub : ∀ x ∈ putAt (D.now.eraseIdx p) q (t, f), D.isFile x.2 := fun x hx => by
    rcases mem_put hx with rfl | h
    · exact ⟨(s, f), .inl (List.mem_of_getElem? HX.out), rfl⟩
    · exact ⟨x, .inl (List.mem_of_mem_eraseIdx h), rfl⟩
  have hrise : Rising (putAt (D.now.eraseIdx p) q (t, f)) := rising_put (List.Pairwise.sublist (List.eraseIdx_sublist _ _) H.out.rising) HPT.out HNo.out
  have hdis : (putAt (D.now.eraseIdx p) q (t, f)).Pairwise (fun a b => a.2 ≠ b.2) := pairwise_put (R := fun a b => a.2 ≠ b.2) (List.Pairwise.sublist (List.eraseIdx_sublist _ _) H.out.distinct) (fun a _ ha => other_ne H.out.distinct HX.out ha) (fun a _ ha e => other_ne H.out.distinct HX.out ha e.symm)
  have hlt := h1.blk.lt
  refine ⟨rfl, .slice A5 ((D.now.eraseIdx p).length + 1) c5, DStep.after hm1 ⟨h1.setNow hmd ?_ (by
    rw [put_length hql]
    exact owns_keep HO5.out (fun b hb => Below.heap_setCell _ _ _ _ (fun e => by have := hvn b hb; simp at e; omega))) hvn hsub hrise hdis (by have := HL.out; rw [put_length hql]; omega), hmd.mono (fun b x => .inl x), fun b hb => setNow_DS hvn hsub hb⟩⟩
  have := HB5.out.set 1 (.slice A5 ((D.now.eraseIdx p).length + 1) c5)
  rw [E2.out]
  exact this
theorem ents_set {l : List (ByteArray × Nat)} {q f f0 : Nat} {t : ByteArray} (h : l[q]? = some (t, f0)) : ents (l.set q (t, f)) = (ents l).set (q * 2 + 1) (.pointer (some ⟨f, 0, none⟩)) := by
  induction l generalizing q with
  | nil => simp at h
  | cons x l ih =>
    cases q with
    | zero =>
      simp at h
      subst h
      rw [List.set_cons_zero, ents_cons, ents_cons]
      rfl
    | succ q =>
      simp at h
      rw [List.set_cons_succ, ents_cons, ents_cons, ih h]
      show ent x ++ _ = _
      rw [List.set_append_right _ _ (by show 2 ≤ _; omega)]
      congr 2
      show q * 2 + 1 = (q + 1) * 2 + 1 - 2
      omega
theorem set_self_of {α : Type} {l : List α} {q : Nat} {x : α} (h : l[q]? = some x) : l.set q x = l := by
  obtain ⟨hq, e⟩ := List.getElem?_eq_some_iff.1 h
  rw [← e, List.set_getElem_self]
theorem owns_open {w : World} {base : Nat} {e : TypeId} {size : Nat} {v : Value} {n : Nat} {xs : List Value} (h : w.ownsRow base e size v n xs) (hn : 0 < n) : ∃ g c cur, v = .slice (some ⟨g, 0, none⟩) n c ∧ Blk w g e cur ∧ n ≤ c ∧ c ≤ maxLen ∧ cur.size = c * size ∧ cur.toList.take (n * size) = xs := by
  rcases h.2 with ⟨_, h0⟩ | ⟨g, cap, cur, e1, hb, hg, h1, h2, h3, h4⟩
  · omega
  · exact ⟨g, cap, cur, e1, hg, h1, h2, h3, h4⟩
theorem row_ptr {cur : Array Value} {l : List (ByteArray × Nat)} {q f0 : Nat} {t : ByteArray} (hct : cur.toList.take (l.length * 2) = ents l) (h : l[q]? = some (t, f0)) : cur[q * 2 + 1]? = some (.pointer (some ⟨f0, 0, none⟩)) := by
  have hq := (List.getElem?_eq_some_iff.1 h).1
  have h1 := (ents_get h).2
  rw [← hct, List.getElem?_take_of_lt (by omega)] at h1
  simpa using h1
set_option maxHeartbeats 800000 in
set_option maxRecDepth 100000 in
theorem rename_over (h : DiskRep w d D) (s t : ByteArray) (hm : mayB s = true) (hmt : mayB t = true) (f : Nat) (hl : look D.now s = some f) (p : Nat) (hp : IsPos D.now s p) (hf : foundAt D.now s p = true)
    (hx : D.now[p]? = some (s, f)) (q f0 : Nat) (hq : IsPos (D.now.eraseIdx p) t q) (hfq : foundAt (D.now.eraseIdx p) t q = true) (hxq : (D.now.eraseIdx p)[q]? = some (t, f0)) :
    Calls Tryz.prog 121 #[.pointer (some ⟨d, 0, none⟩), .string s, .string t] w fun e w' => e = .returned (.int .i64 0) ∧ ∃ vn, DStep w d D w' (D.setNow vn ((D.now.eraseIdx p).set q (t, f))) := by
  have HA := Lib.hid (asked_ok h)
  have HG := Lib.hid (got_some h s hm f hl _ (asked_okM h))
  have hsz : t.size ≤ maxLen := by
    unfold mayB at hmt; simp at hmt; unfold maxLen; omega
  have HM : ∀ W, Hid (Calls Tryz.prog 168 #[.string t] W fun e w' => e = .returned (.bool true) ∧ W = w') := fun W => by
    have := may_any t W hsz
    rw [hmt] at this
    exact Lib.hid this
  have hlen := h.len
  have hpl : p < D.now.length := (List.getElem?_eq_some_iff.1 hx).1
  have HR : ∀ W, Mod Non w W → Hid (Calls Tryz.prog 41 #[.pointer (some ⟨d, 0, none⟩), .string s] W fun e w' => e = .returned (.int .i64 0) ∧ ∃ vn, DStep W d D w' (D.setNow vn (D.now.eraseIdx p)) ∧ Mod (One d) W w' ∧ ∀ b, vn.ownBlock = some b → W.heap.size ≤ b) := fun W hW =>
    Lib.hid (remove_ok (h.non hW) s hm f hl p hp hf)
  have hle : (D.now.eraseIdx p).length = D.now.length - 1 := List.length_eraseIdx_of_lt hpl
  have hfo := hfq
  have hpt := hq
  have hql := hq.1
  have HPT := Lib.hid hpt
  have hll : (D.now.eraseIdx p).length ≤ 64 := by omega
  have HL := Lib.hid hle
  have HFO := Lib.hid hfo
  have HMT := Lib.hid hmt
  have HX := Lib.hid hx
  have H := Lib.hid h
  have HXQ := Lib.hid hxq
  have hqlt : q < (D.now.eraseIdx p).length := (List.getElem?_eq_some_iff.1 hxq).1
  clear h hp hf hl hpt hle hx hmt hfo hfq hq hxq
  go_enter Tryz.func121, Tryz.ntmps121
  go_wp2_with (first
    | (go_at_call 53; refine HA.out.mono ?_; rintro e w1 ⟨rfl, rfl⟩)
    | (go_at_call 115; refine HG.out.mono ?_; rintro e w1 ⟨rfl, hm1⟩)
    | (go_at_call 168; refine (HM _).out.mono ?_; rintro e w2 ⟨rfl, rfl⟩)
    | (go_at_call 41; refine (HR _ hm1).out.mono ?_; rintro e w3 ⟨rfl, vn, hst, hm3, hnew⟩)
    | (go_at_call 122
       have ha := at_ok hst.rep t HMT.out q HPT.out
       rw [if_pos (show foundAt (D.setNow vn (D.now.eraseIdx p)).now t q = true from HFO.out)] at ha
       refine ha.mono ?_
       rintro e w4 ⟨rfl, hm4⟩
       have h4 := hst.rep.non hm4
       obtain ⟨A1, c1, A2, c2, e1, e2, l1, l2, r1, r2⟩ := h4.opens
       have hb := h4.blk
       have hn4 : w4.ownsRow 0 112 2 vn (D.now.eraseIdx p).length (ents (D.now.eraseIdx p)) := h4.now
       obtain ⟨g, cv, cur, hvg, hgb, hcn, hcm, hcs, hct⟩ := owns_open hn4 (by omega)
       simp only [Dk.setNow] at e2 hb
       rw [hvg, e2] at hb
       have cb := hb.cell
       have cg := hgb.cell
       have fg := hgb.frozen
       have hgc := row_ptr hct HXQ.out
       have Hb := Lib.hid hb
       have HGB := Lib.hid hgb
       have HCT := Lib.hid hct
       have HCS := Lib.hid hcs
       have E2 := Lib.hid e2
       have HV := Lib.hid hvg
       clear hb e1 e2 r1 r2 ha h4 hn4 hgb hct hcs hvg))
  go_ret
  have h1 := H.out.non hm1
  have hlt := h1.blk.lt
  have hgn : w1.heap.size ≤ g := hnew g (by rw [HV.out]; rfl)
  have hmd : Mod (One d) w1 (w4.setCell ⟨g, q * 2 + 1, none⟩ (.pointer (some ⟨f, 0, none⟩))) := (hm3.trans (hm4.mono (fun _ x => x.elim))).setCell (p := ⟨g, q * 2 + 1, none⟩) (.inr hgn) _
  have hsub : ∀ x ∈ (D.now.eraseIdx p).set q (t, f), D.isFile x.2 := fun x hx => by
    rcases List.mem_or_eq_of_mem_set hx with h | rfl
    · exact ⟨x, .inl (List.mem_of_mem_eraseIdx h), rfl⟩
    · exact ⟨(s, f), .inl (List.mem_of_getElem? HX.out), rfl⟩
  have hname : ((D.now.eraseIdx p).set q (t, f)).map (·.1) = (D.now.eraseIdx p).map (·.1) := by
    rw [List.map_set]
    apply set_self_of
    rw [List.getElem?_map, HXQ.out]
    rfl
  have hrise : Rising ((D.now.eraseIdx p).set q (t, f)) := by
    have h0 : Rising (D.now.eraseIdx p) := List.Pairwise.sublist (List.eraseIdx_sublist _ _) H.out.rising
    unfold Rising at h0 ⊢
    have e : ∀ l : List (ByteArray × Nat), l.Pairwise (fun a b => nlt a.1 b.1 = true) ↔ (l.map (·.1)).Pairwise (fun a b => nlt a b = true) := fun l => (List.pairwise_map (f := fun x : ByteArray × Nat => x.1) (R := fun a b => nlt a b = true)).symm
    rw [e] at h0 ⊢
    rw [hname]
    exact h0
  have hdis : ((D.now.eraseIdx p).set q (t, f)).Pairwise (fun a b => a.2 ≠ b.2) := by
    have h0 : (D.now.eraseIdx p).Pairwise (fun a b => a.2 ≠ b.2) := List.Pairwise.sublist (List.eraseIdx_sublist _ _) H.out.distinct
    have hno : ∀ a ∈ D.now.eraseIdx p, a.2 ≠ f := fun a ha => other_ne H.out.distinct HX.out ha
    rw [List.pairwise_iff_getElem] at h0 ⊢
    intro i j hi hj hij
    rw [List.getElem_set, List.getElem_set]
    rw [List.length_set] at hi hj
    by_cases e1 : q = i
    · rw [if_pos e1, if_neg (by omega)]
      exact fun e => hno _ (List.getElem_mem hj) e.symm
    · rw [if_neg e1]
      by_cases e2 : q = j
      · rw [if_pos e2]
        exact hno _ (List.getElem_mem hi)
      · rw [if_neg e2]
        exact h0 i j hi hj hij
  have hrow : (w4.setCell ⟨g, q * 2 + 1, none⟩ (.pointer (some ⟨f, 0, none⟩))).ownsRow 0 112 2 (.slice (some ⟨g, 0, none⟩) (D.now.eraseIdx p).length cv) ((D.now.eraseIdx p).set q (t, f)).length (ents ((D.now.eraseIdx p).set q (t, f))) := by
    rw [List.length_set, ents_set HXQ.out]
    refine ⟨by rw [List.length_set, ents_length], .inr ⟨g, cv, _, rfl, Nat.zero_le _, HGB.out.set (q * 2 + 1) (.pointer (some ⟨f, 0, none⟩)), hcn, hcm, ?_, ?_⟩⟩
    · rw [Array.size_setIfInBounds]
      exact HCS.out
    · rw [Array.toList_setIfInBounds, ← HCT.out, List.take_set]
  refine ⟨rfl, .slice (some ⟨g, 0, none⟩) (D.now.eraseIdx p).length cv, DStep.after hm1 ⟨h1.setNow hmd ?_ hrow (fun b hb => by cases hb; exact hgn) hsub hrise hdis (by rw [List.length_set]; omega), hmd.mono (fun b x => .inl x), fun b hb => setNow_DS (fun b hb => by cases hb; exact hgn) hsub hb⟩⟩
  rw [E2.out]
  exact Hb.out.far (fun e => by simp at e; omega) _
theorem look_set {l : List (ByteArray × Nat)} {q f f0 : Nat} {t : ByteArray} (hq : IsPos l t q) (hx : l[q]? = some (t, f0)) : look (l.set q (t, f)) t = some f := by
  have hlt := (List.getElem?_eq_some_iff.1 hx).1
  rw [List.set_eq_take_append_cons_drop, if_pos hlt, look_append, look_cons]
  have h0 : look (l.take q) t = none := by
    unfold look
    rw [Option.map_eq_none_iff, List.find?_eq_none]
    intro y hy
    simp only [decide_eq_true_eq]
    intro e
    obtain ⟨k, hk⟩ := List.mem_iff_getElem?.1 hy
    have hkq : k < q := by
      have := (List.getElem?_eq_some_iff.1 hk).1
      rw [List.length_take] at this
      omega
    rw [List.getElem?_take_of_lt hkq] at hk
    have := hq.2.1 k y hk hkq
    rw [e, nlt_irrefl] at this
    cases this
  rw [h0]
  simp
/-- Rename: the name has the file. -/
theorem rename_gen (h : DiskRep w d D) (s t : ByteArray) (hm : mayB s = true) (hmt : mayB t = true) (f : Nat) (hl : look D.now s = some f) :
    Calls Tryz.prog 121 #[.pointer (some ⟨d, 0, none⟩), .string s, .string t] w fun e w' => e = .returned (.int .i64 0) ∧ ∃ vn l, DStep w d D w' (D.setNow vn l) ∧ look l t = some f ∧ l.length ≤ D.now.length := by
  obtain ⟨p, hp, hf, hx⟩ := pos_at h.rising hl
  have hpl := (List.getElem?_eq_some_iff.1 hx).1
  have hr : Rising (D.now.eraseIdx p) := List.Pairwise.sublist (List.eraseIdx_sublist _ _) h.rising
  have hle : (D.now.eraseIdx p).length = D.now.length - 1 := List.length_eraseIdx_of_lt hpl
  cases hlt : look (D.now.eraseIdx p) t with
  | none =>
    obtain ⟨q, hq⟩ := hr.pos t
    refine (rename_new h s t hm hmt f hl p hp hf hx q hq hlt).mono ?_
    rintro e w' ⟨he, vn, hst⟩
    exact ⟨he, vn, _, hst, look_put_same hlt, by rw [put_length hq.1]; omega⟩
  | some f0 =>
    obtain ⟨q, hq, hfq, hxq⟩ := pos_at hr hlt
    refine (rename_over h s t hm hmt f hl p hp hf hx q f0 hq hfq hxq).mono ?_
    rintro e w' ⟨he, vn, hst⟩
    exact ⟨he, vn, _, hst, look_set hq hxq, by rw [List.length_set]; omega⟩
end
end Go.Proofs.YtgillcppnpkkiaaGreatDoor
