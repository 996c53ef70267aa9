/- The operations on maps, as laws at the operation; ranging over a map that stays as it is. No program is named here. -/
import Derived.Test.YtmclbechnfedmaaMap
namespace Go.Proofs.Ytmclbechnfedmaa
open Go Go.RowKit

section
variable {P : Program} {ops : Array Oper} {Q : Exit → Act → World → Prop} {a : Act} {w w' : World} {rest : List Oper} {o : Oper} {m : Nat} {f : Nat → Option Value} {t kt et : TypeId}

theorem wpl_lookup_ok (hg : o.guard = none) (x y : Operand) (ho : o.op = .lookup t x y true) (ht : P.underlying t = some (.map kt et)) (hk : P.underlying kt = some (.int .u32)) {z : Value} (hz : ∀ w, (zeroValue et).run P w = .ok z w)
    (hx : a.eval x = .map (some m)) (h : MapRep w m f) (k : Nat) (hy : a.eval y = .int .u32 k)
    (hK : wpList P ops Q rest (a.put o.dst (.tuple #[(f k).getD z, .bool (f k).isSome])) w) : wpList P ops Q (o :: rest) a w := by
  refine wpl_run (v := .tuple #[(f k).getD z, .bool (f k).isSome]) hg ?_ hK
  have hr := run_lookup_rep (P := P) ht hk hz h k true
  simp only [if_true] at hr
  simp [execOp, ho, hx, hy, hr]

theorem wpl_lookup (hg : o.guard = none) (x y : Operand) (ho : o.op = .lookup t x y false) (ht : P.underlying t = some (.map kt et)) (hk : P.underlying kt = some (.int .u32)) {z : Value} (hz : ∀ w, (zeroValue et).run P w = .ok z w)
    (hx : a.eval x = .map (some m)) (h : MapRep w m f) (k : Nat) (hy : a.eval y = .int .u32 k)
    (hK : wpList P ops Q rest (a.put o.dst ((f k).getD z)) w) : wpList P ops Q (o :: rest) a w := by
  refine wpl_run (v := (f k).getD z) hg ?_ hK
  have hr := run_lookup_rep (P := P) ht hk hz h k false
  simp only [Bool.false_eq_true, if_false] at hr
  simp [execOp, ho, hx, hy, hr]

theorem wpl_lookup_val (hg : o.guard = none) (x y : Operand) (ho : o.op = .lookup t x y false) (ht : P.underlying t = some (.map kt et)) (hk : P.underlying kt = some (.int .u32)) {z : Value} (hz : ∀ w, (zeroValue et).run P w = .ok z w)
    (hx : a.eval x = .map (some m)) (h : MapRep w m f) (k : Nat) (hy : a.eval y = .int .u32 k) {v : Value} (hf : (f k).getD z = v)
    (hK : wpList P ops Q rest (a.put o.dst v) w) : wpList P ops Q (o :: rest) a w :=
  wpl_lookup hg x y ho ht hk hz hx h k hy (by rw [hf]; exact hK)

theorem wpl_lookup_some (hg : o.guard = none) (x y : Operand) (ho : o.op = .lookup t x y true) (ht : P.underlying t = some (.map kt et)) (hk : P.underlying kt = some (.int .u32)) {z : Value} (hz : ∀ w, (zeroValue et).run P w = .ok z w)
    (hx : a.eval x = .map (some m)) (h : MapRep w m f) (k : Nat) (hy : a.eval y = .int .u32 k) {v : Value} (hf : f k = some v)
    (hK : wpList P ops Q rest (a.put o.dst (.tuple #[v, .bool true])) w) : wpList P ops Q (o :: rest) a w :=
  wpl_lookup_ok hg x y ho ht hk hz hx h k hy (by rw [hf]; exact hK)

theorem wpl_lookup_none (hg : o.guard = none) (x y : Operand) (ho : o.op = .lookup t x y true) (ht : P.underlying t = some (.map kt et)) (hk : P.underlying kt = some (.int .u32)) {z : Value} (hz : ∀ w, (zeroValue et).run P w = .ok z w)
    (hx : a.eval x = .map (some m)) (h : MapRep w m f) (k : Nat) (hy : a.eval y = .int .u32 k) (hf : f k = none)
    (hK : wpList P ops Q rest (a.put o.dst (.tuple #[z, .bool false])) w) : wpList P ops Q (o :: rest) a w :=
  wpl_lookup_ok hg x y ho ht hk hz hx h k hy (by rw [hf]; exact hK)

theorem wpl_mapUpdate (hg : o.guard = none) (x y v : Operand) (ho : o.op = .mapUpdate t x y v) (ht : P.underlying t = some (.map kt et)) (hk : P.underlying kt = some (.int .u32))
    (hx : a.eval x = .map (some m)) (h : MapRep w m f) (k : Nat) (hy : a.eval y = .int .u32 k) {u : Value} (hv : a.eval v = u)
    (hK : ∀ w', MapRep w' m (upd f k (some u)) → Mod (One m) w w' → wpList P ops Q rest (a.put o.dst undef) w') : wpList P ops Q (o :: rest) a w := by
  obtain ⟨w', hr, h1, h2⟩ := run_mapUpdate_rep (P := P) ht hk h k u
  refine wpl_skip hg ?_ (hK w' h1 h2)
  simp [execOp, ho, hx, hy, hv, hr]

theorem wpl_delete (hg : o.guard = none) (x y : Operand) {ts : Array TypeId} (ho : o.op = .call { callee := .builtin .delete, args := #[x, y], argTypes := ts }) (h0 : ts[0]? = some t) (ht : P.underlying t = some (.map kt et)) (hk : P.underlying kt = some (.int .u32))
    (hx : a.eval x = .map (some m)) (h : MapRep w m f) (k : Nat) (hy : a.eval y = .int .u32 k)
    (hK : ∀ w', MapRep w' m (upd f k none) → Mod (One m) w w' → wpList P ops Q rest (a.put o.dst (.tuple #[])) w') : wpList P ops Q (o :: rest) a w := by
  obtain ⟨w', hr, h1, h2⟩ := run_delete_rep (P := P) ht hk h k o.type ts h0
  refine wpl_run hg ?_ (hK w' h1 h2)
  simp [execOp, ho, hx, hy, hr, resolve, invoke, builtin]

theorem wpl_clear (hg : o.guard = none) (x : Operand) {ts : Array TypeId} (ho : o.op = .call { callee := .builtin .clear, args := #[x], argTypes := ts }) (h0 : ts[0]? = some t) (ht : P.underlying t = some (.map kt et))
    (hx : a.eval x = .map (some m)) (h : MapRep w m f)
    (hK : ∀ w', MapRep w' m (fun _ => none) → Mod (One m) w w' → wpList P ops Q rest (a.put o.dst (.tuple #[])) w') : wpList P ops Q (o :: rest) a w := by
  obtain ⟨w', hr, h1, h2⟩ := run_clear_rep (P := P) ht h o.type ts h0
  refine wpl_run hg ?_ (hK w' h1 h2)
  simp [execOp, ho, hx, hr, resolve, invoke, builtin]

/-- How many entries a map has. -/
def MapLen (w : World) (m : Nat) (n : Nat) : Prop := ∃ es clock, w.heap[m]? = some (.map es clock) ∧ es.size = n
theorem MapRep.len (h : MapRep w m f) : ∃ n, MapLen w m n := by obtain ⟨es, c, hh, _⟩ := h; exact ⟨_, es, c, hh, rfl⟩

theorem wpl_lenMap (hg : o.guard = none) (x : Operand) {ts : Array TypeId} (ho : o.op = .call { callee := .builtin .len, args := #[x], argTypes := ts }) (h0 : ts[0]? = some t) (ht : P.underlying t = some (.map kt et))
    (hx : a.eval x = .map (some m)) {n : Nat} (h : MapLen w m n)
    (hK : wpList P ops Q rest (a.put o.dst (.int .i64 n)) w) : wpList P ops Q (o :: rest) a w := by
  obtain ⟨es, c, hh, rfl⟩ := h
  refine wpl_run (v := .int .i64 es.size) hg ?_ hK
  simp [execOp, ho, hx, resolve, invoke, builtin, Builtin.len_, h0, run_underlying ht, getObj_map hh, goInt]

/-- An iterator in block r over the map in block m, which reads as f: the keys in vis were told; left: how many are to come. -/
def IterRep (w : World) (r m : Nat) (f : Nat → Option Value) (vis : List Nat) (left : Nat) : Prop :=
  ∃ es clock seen, w.heap[m]? = some (.map es clock) ∧ w.heap[r]? = some (.mapIter (some m) clock seen clock) ∧ MapOk es.toList clock f ∧
    (∀ e ∈ es.toList, (e.born ∈ seen ↔ ∃ k ∈ vis, kOf e = (k : Int))) ∧ left = (es.toList.filter fun e => !seen.contains e.born).length ∧ vis.Nodup ∧ (∀ k ∈ vis, (f k).isSome = true)

theorem IterRep.rep {r : Nat} {vis : List Nat} {left : Nat} (h : IterRep w r m f vis left) : MapRep w m f := by
  obtain ⟨es, c, seen, hh, _, ho, _⟩ := h
  exact ⟨es, c, hh, ho⟩
theorem IterRep.of_block {r : Nat} {vis : List Nat} {left : Nat} (h : IterRep w r m f vis left) (hm : w'.heap[m]? = w.heap[m]?) (hr : w'.heap[r]? = w.heap[r]?) : IterRep w' r m f vis left := by
  obtain ⟨es, c, seen, hh, hi, rest⟩ := h
  exact ⟨es, c, seen, hm.trans hh, hr.trans hi, rest⟩
theorem IterRep.lt {r : Nat} {vis : List Nat} {left : Nat} (h : IterRep w r m f vis left) : r < w.heap.size := by
  obtain ⟨es, c, seen, _, hi, _⟩ := h
  exact (Array.getElem?_eq_some_iff.1 hi).1
theorem IterRep.mod {S : Nat → Prop} {r : Nat} {vis : List Nat} {left : Nat} (h : IterRep w r m f vis left) (hm : Mod S w w') (h1 : ¬ S m) (h2 : ¬ S r) : IterRep w' r m f vis left :=
  h.of_block (hm.block m h.rep.lt h1) (hm.block r h.lt h2)

/-- How many keys are to come: a number of the world's. -/
def iterLeft (w : World) (m r : Nat) : Nat :=
  match w.heap[m]?, w.heap[r]? with
  | some (.map es _), some (.mapIter _ _ seen _) => (es.toList.filter fun e => !seen.contains e.born).length
  | _, _ => 0
theorem IterRep.left_eq {r : Nat} {vis : List Nat} {left : Nat} (h : IterRep w r m f vis left) : iterLeft w m r = left := by
  obtain ⟨es, c, seen, hh, hi, _, _, hl, _⟩ := h
  unfold iterLeft
  rw [hh, hi]
  exact hl.symm

theorem wpl_range (hg : o.guard = none) (x : Operand) (ho : o.op = .range t x) (ht : P.underlying t = some (.map kt et)) (hx : a.eval x = .map (some m)) (h : MapRep w m f)
    (hK : ∀ w' left, IterRep w' w.heap.size m f [] left → Mod Non w w' → Hid (w'.heap.size = w.heap.size + 1) → wpList P ops Q rest (a.put o.dst (.pointer (some ⟨w.heap.size, 0, none⟩))) w') : wpList P ops Q (o :: rest) a w := by
  have hlt := h.lt
  obtain ⟨es, clock, hh, hok⟩ := h
  refine wpl_run (v := .pointer (some ⟨w.heap.size, 0, none⟩)) (w' := w.alloc (.mapIter (some m) clock #[] clock)) hg ?_ (hK _ _ ⟨es, clock, #[], ?_, heap_alloc_new w _, hok, ?_, rfl, .nil, by simp⟩ ((Mod.refl _ _).alloc _) (Lib.hid (by simp)))
  · simp [execOp, ho, hx, Instr.range, run_underlying ht, getObj_map hh, newObj, Sem.run]
  · rw [Below.heap_alloc w _ m hlt]; exact hh
  · intro e _; simp

theorem filter_push {l : List MapEntry} {seen : Array Nat} {e : MapEntry} (he : e ∈ l) (hs : seen.contains e.born = false) :
    (l.filter fun x => !(seen.push e.born).contains x.born).length < (l.filter fun x => !seen.contains x.born).length := by
  have h1 : (l.filter fun x => !(seen.push e.born).contains x.born) = (l.filter fun x => !seen.contains x.born).filter (fun x => !(x.born == e.born)) := by
    rw [List.filter_filter]
    apply List.filter_congr
    intro x _
    cases hx : (x.born == e.born) <;> simp_all
  rw [h1, List.length_filter_lt_length_iff_exists]
  exact ⟨e, List.mem_filter.2 ⟨he, by simpa using hs⟩, by simp⟩

/-- A step of the iterator: at the end all keys were told; else one more. -/
theorem run_next_rep {r : Nat} {vis : List Nat} {left : Nat} (h : IterRep w r m f vis left) (ty : TypeId) :
    (∃ w', (Instr.next (.pointer (some ⟨r, 0, none⟩)) false ty).run P w = .ok (.tuple #[.bool false]) w' ∧ Mod Non w w' ∧ ∀ k : Nat, (f k).isSome = true → k ∈ vis) ∨
    (∃ (w' : World) (k : Nat) (v : Value) (left' : Nat), (Instr.next (.pointer (some ⟨r, 0, none⟩)) false ty).run P w = .ok (.tuple #[.bool true, .int .u32 k, v]) w' ∧ Mod (One r) w w' ∧ f k = some v ∧ k ∉ vis ∧ left' < left ∧ IterRep w' r m f (k :: vis) left' ∧
      (Instr.entry (.pointer (some ⟨r, 0, none⟩))).run P w' = .ok (.tuple #[.int .u32 k, v]) w') := by
  obtain ⟨es, clock, seen, hh, hi, hok, hseen, hleft, hvn, hvs⟩ := h
  have hg : (getObj r).run P w = .ok (.mapIter (some m) clock seen clock) w := by simp [getObj, Sem.run, hi]
  have hold : (es.filter fun e => !seen.contains e.born).filter (·.born < clock) = es.filter fun e => !seen.contains e.born := by
    rw [Array.filter_filter, ← Array.toList_inj, Array.toList_filter, Array.toList_filter]
    apply List.filter_congr
    intro e he
    have := hok.born e he
    simp [this]
  have hnew : (es.filter fun e => !seen.contains e.born).filter (·.born ≥ clock) = #[] := by
    rw [Array.filter_eq_empty_iff]
    intro e he
    have := hok.born e (by simpa using (Array.mem_filter.1 he).1)
    simp; omega
  have hstale : (!seen.isEmpty && !es.isEmpty && es.all (·.born ≥ clock)) = false := by
    cases hes : es.isEmpty with
    | true => simp
    | false =>
      have hpos : 0 < es.size := by
        rcases Nat.eq_zero_or_pos es.size with h0 | h0
        · simp [Array.isEmpty, h0] at hes
        · exact h0
      have hb := hok.born es[0] (by simp)
      have : es.all (·.born ≥ clock) = false := by
        rw [Bool.eq_false_iff]
        intro hall
        rw [Array.all_eq_true] at hall
        have := hall 0 hpos
        simp at this
        omega
      simp [this]
  obtain ⟨said, hnx⟩ : ∃ said : String, (Instr.next (.pointer (some ⟨r, 0, none⟩)) false ty).run P w =
      ((do
        let candidates := (if (es.filter fun e => !seen.contains e.born).isEmpty then #[none] else #[]) ++ (es.filter fun e => !seen.contains e.born).map some
        match candidates[← choose (.mapNext candidates.size)]? with
        | some (some e) =>
          setObj r (.mapIter (some m) clock (seen.push e.born) clock)
          pure (.tuple #[.bool true, e.key, e.val])
        | some none => pure (.tuple #[.bool false])
        | none => stuck said) : Sem Value).run P w := by
    apply Exists.intro
    simp only [Instr.next, Sem.run_bind, hg, Result.andThen_ok, getObj_map hh, hstale, Bool.false_eq_true, if_false, hold, hnew, Array.append_empty]
    rfl
  have hch : ∀ n : Nat, 0 < n → ∃ i w1, (choose (.mapNext n)).run P w = .ok i w1 ∧ i < n ∧ w1.heap = w.heap ∧ w1.os = w.os ∧ w1.tape = w.tape ∧ w1.output = w.output := by
    intro n hn
    by_cases h1 : n ≤ 1
    · exact ⟨0, w, by simp [choose, Sem.run, Question.forced, h1], hn, rfl, rfl, rfl, rfl⟩
    · refine ⟨w.tape w.drawn (.mapNext n) % n, w.drew, ?_, Nat.mod_lt _ hn, rfl, rfl, rfl, rfl⟩
      have : (Question.mapNext n).forced = false := by simp [Question.forced]; omega
      simp only [choose, Sem.run, this, Bool.false_eq_true, if_false]
      rfl
  by_cases hem : (es.filter fun e => !seen.contains e.born) = #[]
  · left
    obtain ⟨i, w1, hc, hlt, e1, e2, e3, e4⟩ := hch 1 (by omega)
    have hi0 : i = 0 := by omega
    subst hi0
    refine ⟨w1, ?_, ⟨e2, e3, e4, by rw [e1]; exact Nat.le_refl _, fun k _ _ => by rw [e1]⟩, fun k hk => ?_⟩
    · have hcand : ((if (#[] : Array MapEntry).isEmpty then #[none] else #[]) ++ (#[] : Array MapEntry).map some) = #[(none : Option MapEntry)] := by simp
      rw [hnx]
      simp only [hem, hcand, Sem.run_bind, List.size_toArray, List.length_cons, List.length_nil, Nat.zero_add, hc, Result.andThen_ok]
      rfl
    · obtain ⟨v, hv⟩ := Option.isSome_iff_exists.1 hk
      obtain ⟨e, he, hek, _⟩ := (hok.spec k v).1 hv
      rw [Array.filter_eq_empty_iff] at hem
      have := hem e (by simpa using he)
      simp at this
      obtain ⟨k', hk', hek'⟩ := (hseen e he).1 this
      have : k' = k := by omega
      exact this ▸ hk'
  · right
    have hpos : 0 < (es.filter fun e => !seen.contains e.born).size := by
      rcases Nat.eq_zero_or_pos (es.filter fun e => !seen.contains e.born).size with h0 | h0
      · exact absurd (Array.eq_empty_of_size_eq_zero h0) hem
      · exact h0
    obtain ⟨i, w1, hc, hlt, e1, e2, e3, e4⟩ := hch _ hpos
    have hisE : (es.filter fun e => !seen.contains e.born).isEmpty = false := by simpa [Array.isEmpty] using hpos
    obtain ⟨e, hei⟩ : ∃ e, (es.filter fun e => !seen.contains e.born)[i]? = some e := ⟨_, Array.getElem?_eq_getElem hlt⟩
    have hmem : e ∈ es.filter fun e => !seen.contains e.born := Array.mem_of_getElem? hei
    obtain ⟨hein, hnot⟩ := Array.mem_filter.1 hmem
    have hel : e ∈ es.toList := by simpa using hein
    have hcn : seen.contains e.born = false := by simpa using hnot
    obtain ⟨k, hk⟩ := hok.key e hel
    have hkk := kOf_of hk
    have hfk : f k = some e.val := (hok.spec k e.val).2 ⟨e, hel, hkk, rfl⟩
    have hi1 : w1.heap[r]? = some (.mapIter (some m) clock seen clock) := by rw [e1]; exact hi
    let w2 : World := { w1 with heap := w1.heap.setIfInBounds r (.mapIter (some m) clock (seen.push e.born) clock) }
    have hmr : m ≠ r := by rintro rfl; rw [hh] at hi; cases hi
    have hrm : ¬ r = m := fun e => hmr e.symm
    have hm2 : w2.heap[m]? = some (.map es clock) := by
      show (w1.heap.setIfInBounds r _)[m]? = _
      simp [hrm, e1, hh]
    have hr2 : w2.heap[r]? = some (.mapIter (some m) clock (seen.push e.born) clock) := by
      show (w1.heap.setIfInBounds r _)[r]? = _
      have := (Array.getElem?_eq_some_iff.1 hi1).1
      simp [this]
    have hvis : k ∉ vis := by
      intro hin
      have := (hseen e hel).2 ⟨k, hin, hkk⟩
      have hc' : seen.contains e.born = true := by simpa using this
      rw [hcn] at hc'
      cases hc'
    refine ⟨w2, k, e.val, _, ?_, ⟨e2, e3, e4, by show _ ≤ (w1.heap.setIfInBounds r _).size; simp [e1], fun n _ hn => ?_⟩, hfk, hvis, ?_, ⟨es, clock, seen.push e.born, hm2, hr2, hok, ?_, rfl, ?_, ?_⟩, ?_⟩
    · rw [hnx]
      simp only [hisE, Bool.false_eq_true, if_false, Array.empty_append, Array.size_map, Sem.run_bind, hc, Result.andThen_ok, Array.getElem?_map, hei, Option.map_some]
      simp [setObj, Sem.run, hi1, hk, w2]
    · show (w1.heap.setIfInBounds r _)[n]? = _
      have hn' : ¬ r = n := fun e => hn e.symm
      simp [hn', e1]
    · rw [hleft]; exact filter_push hel hcn
    · intro e' he'
      simp only [Array.mem_push, List.mem_cons, exists_eq_or_imp, hseen e' he']
      constructor
      · rintro (h | h)
        · exact .inr h
        · left
          have : e' = e := by
            obtain ⟨i1, h1⟩ := List.mem_iff_getElem?.1 he'
            obtain ⟨i2, h2⟩ := List.mem_iff_getElem?.1 hel
            have := pair_ne MapEntry.born hok.bornNodup h1 h2 h
            subst this
            rw [h1] at h2
            exact Option.some.inj h2
          rw [this]; exact hkk
      · rintro (h | h)
        · right
          have : e' = e := by
            obtain ⟨i1, h1⟩ := List.mem_iff_getElem?.1 he'
            obtain ⟨i2, h2⟩ := List.mem_iff_getElem?.1 hel
            have := pair_ne kOf hok.nodup h1 h2 (h.trans hkk.symm)
            subst this
            rw [h1] at h2
            exact Option.some.inj h2
          rw [this]
        · exact .inl h
    · exact List.nodup_cons.2 ⟨hvis, hvn⟩
    · intro k' hk'
      rcases List.mem_cons.1 hk' with rfl | hk'
      · simp [hfk]
      · exact hvs k' hk'
    · have hgr : (getObj r).run P w2 = .ok (.mapIter (some m) clock (seen.push e.born) clock) w2 := by simp [getObj, Sem.run, hr2]
      have hfind : es.find? (fun x => x.born == e.born) = some e := by
        rw [← Array.find?_toList]
        rw [List.find?_eq_some_iff_getElem]
        obtain ⟨j, hj⟩ := List.mem_iff_getElem?.1 hel
        obtain ⟨hjl, hje⟩ := List.getElem?_eq_some_iff.1 hj
        refine ⟨by simp, j, hjl, hje, fun j' hj' => ?_⟩
        simp only [Bool.not_eq_true', beq_eq_false_iff_ne]
        intro hb
        have := pair_ne MapEntry.born hok.bornNodup (List.getElem?_eq_getElem (Nat.lt_trans hj' hjl)) hj hb
        omega
      simp [Instr.entry, hgr, getObj_map hm2, hfind, hk]

theorem wpl_next (hg : o.guard = none) (x : Operand) (ho : o.op = .next x false) {r : Nat} {vis : List Nat} {left : Nat} (hx : a.eval x = .pointer (some ⟨r, 0, none⟩)) (h : IterRep w r m f vis left)
    (hEnd : ∀ w', Mod Non w w' → (∀ k, (f k).isSome = true → k ∈ vis) → wpList P ops Q rest (a.put o.dst (.tuple #[.bool false])) w')
    (hK : ∀ w' k v left', Mod (One r) w w' → f k = some v → k ∉ vis → left' < left → IterRep w' r m f (k :: vis) left' →
      (Instr.entry (.pointer (some ⟨r, 0, none⟩))).run P w' = .ok (.tuple #[.int .u32 (k : Int), v]) w' → wpList P ops Q rest (a.put o.dst (.tuple #[.bool true, .int .u32 k, v])) w') : wpList P ops Q (o :: rest) a w := by
  rcases run_next_rep (P := P) h o.type with ⟨w', hr, hm, he⟩ | ⟨w', k, v, left', hr, hm, hf, hv, hl, hi, hen⟩
  · refine wpl_run hg ?_ (hEnd w' hm he)
    simp [execOp, ho, hx, hr]
  · refine wpl_run hg ?_ (hK w' k v left' hm hf hv hl hi hen)
    simp [execOp, ho, hx, hr]
end
end Go.Proofs.Ytmclbechnfedmaa
