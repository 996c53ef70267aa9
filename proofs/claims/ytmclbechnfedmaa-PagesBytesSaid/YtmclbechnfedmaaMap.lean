/- Maps keyed by uint32: what a block reads as (a function of the keys), and what each operation on it does. No program is named here. -/
import Derived.Test.YtmclbechnfedmaaBase
namespace Go.Proofs.Ytmclbechnfedmaa
open Go Go.RowKit

/-- An entry's key, as a number. -/
def kOf (e : MapEntry) : Int := match e.key with | .int _ q => q | _ => 0
theorem kOf_of {e : MapEntry} {n : Int} (h : e.key = .int .u32 n) : kOf e = n := by unfold kOf; rw [h]

/-- The entries, as a function of the keys. -/
structure MapOk (l : List MapEntry) (clock : Nat) (f : Nat → Option Value) : Prop where
  key : ∀ e ∈ l, ∃ k : Nat, e.key = .int .u32 k
  nodup : l.Pairwise (fun a b => kOf a ≠ kOf b)
  born : ∀ e ∈ l, e.born < clock
  bornNodup : l.Pairwise (fun a b => a.born ≠ b.born)
  spec : ∀ (k : Nat) (v : Value), f k = some v ↔ ∃ e ∈ l, kOf e = (k : Int) ∧ e.val = v

def MapRep (w : World) (m : Nat) (f : Nat → Option Value) : Prop := ∃ es clock, w.heap[m]? = some (.map es clock) ∧ MapOk es.toList clock f

/-- A function at one key turned. -/
def upd {α : Type} (f : Nat → α) (k : Nat) (v : α) : Nat → α := fun n => if n = k then v else f n
theorem upd_same {α : Type} (f : Nat → α) (k : Nat) (v : α) : upd f k v k = v := if_pos rfl
theorem upd_other {α : Type} (f : Nat → α) {k n : Nat} (v : α) (h : n ≠ k) : upd f k v n = f n := if_neg h

theorem MapOk.nil (c : Nat) : MapOk [] c (fun _ => none) := ⟨by simp, .nil, by simp, .nil, by simp⟩

section
variable {l : List MapEntry} {clock : Nat} {f : Nat → Option Value}

theorem findNow_int (k : Nat) : ∀ (l : List MapEntry) (i : Nat), (∀ e ∈ l, ∃ k : Nat, e.key = .int .u32 k) →
    Instr.findNow (.int .u32) (.int .u32 k) l i = some ((l.findIdx? (fun e => kOf e == (k : Int))).bind fun j => (l[j]?).map fun e => (i + j, e.val))
  | [], i, _ => by simp [Instr.findNow]
  | e :: es, i, h => by
    obtain ⟨n, hn⟩ := h e (by simp)
    have ih := findNow_int k es (i + 1) (fun e he => h e (by simp [he]))
    rw [Instr.findNow, hn]
    simp only [Instr.sameNow, if_true]
    by_cases hk : (k : Int) = n
    · simp [List.findIdx?_cons, kOf_of hn, hk]
    · have h1 : ((k : Int) == n) = false := by simpa using hk
      have h2 : ((n : Int) == k) = false := by simpa using fun e => hk e.symm
      simp only [h1]
      rw [ih, List.findIdx?_cons, kOf_of hn, h2]
      cases hfi : List.findIdx? (fun e => kOf e == (k : Int)) es with
      | none => simp
      | some j => simp; cases es[j]? <;> simp; omega

theorem MapOk.look (h : MapOk l clock f) (k : Nat) : f k = (l.findIdx? (fun e => kOf e == (k : Int))).bind fun j => (l[j]?).map (·.val) := by
  cases hi : l.findIdx? (fun e => kOf e == (k : Int)) with
  | none =>
    rw [List.findIdx?_eq_none_iff] at hi
    cases hf : f k with
    | none => rfl
    | some v =>
      obtain ⟨e, he, hk, _⟩ := (h.spec k v).1 hf
      have := hi e he
      simp [hk] at this
  | some j =>
    rw [List.findIdx?_eq_some_iff_getElem] at hi
    obtain ⟨hj, hp, _⟩ := hi
    simp only [Option.bind_some, List.getElem?_eq_getElem hj, Option.map_some]
    exact (h.spec k _).2 ⟨l[j], List.getElem_mem hj, by simpa using hp, rfl⟩

theorem pair_ne {α β : Type} (g : α → β) {l : List α} (h : l.Pairwise (fun a b => g a ≠ g b)) {i j : Nat} {a b : α} (hi : l[i]? = some a) (hj : l[j]? = some b) (hab : g a = g b) : i = j := by
  rw [List.pairwise_iff_getElem] at h
  obtain ⟨hil, rfl⟩ := List.getElem?_eq_some_iff.1 hi
  obtain ⟨hjl, rfl⟩ := List.getElem?_eq_some_iff.1 hj
  rcases Nat.lt_trichotomy i j with hlt | heq | hgt
  · exact absurd hab (h i j hil hjl hlt)
  · exact heq
  · exact absurd hab.symm (h j i hjl hil hgt)

theorem pair_modify {α β : Type} (g : α → β) (u : α → α) {l : List α} (h : l.Pairwise (fun a b => g a ≠ g b)) (j : Nat) (hu : ∀ a, l[j]? = some a → g (u a) = g a) :
    (l.modify j u).Pairwise (fun a b => g a ≠ g b) := by
  rw [List.pairwise_iff_getElem] at h ⊢
  intro i k hi hk hik
  have hi' : i < l.length := by simpa using hi
  have hk' : k < l.length := by simpa using hk
  have e : ∀ n (hn : n < (l.modify j u).length) (hn' : n < l.length), g ((l.modify j u)[n]) = g l[n] := by
    intro n hn hn'
    rw [List.getElem_modify]
    split
    · rename_i hjn
      subst hjn
      exact hu _ (List.getElem?_eq_getElem hn')
    · rfl
  rw [e i hi hi', e k hk hk']
  exact h i k hi' hk' hik

/-- An entry that is there is turned. -/
theorem MapOk.modify (h : MapOk l clock f) (k : Nat) (v : Value) {j : Nat} (hj : l.findIdx? (fun e => kOf e == (k : Int)) = some j) :
    MapOk (l.modify j fun e => { e with key := .int .u32 k, val := v }) clock (upd f k (some v)) := by
  rw [List.findIdx?_eq_some_iff_getElem] at hj
  obtain ⟨hjl, hp, _⟩ := hj
  have hkj : kOf l[j] = k := by simpa using hp
  have hmem : ∀ e, e ∈ (l.modify j fun e => { e with key := .int .u32 k, val := v }) ↔ (∃ i, i ≠ j ∧ l[i]? = some e) ∨ e = { l[j] with key := .int .u32 k, val := v } := by
    intro e
    rw [List.mem_iff_getElem?]
    constructor
    · rintro ⟨i, hi⟩
      rw [List.getElem?_modify] at hi
      by_cases hij : j = i
      · subst hij
        simp [List.getElem?_eq_getElem hjl] at hi
        exact .inr hi.symm
      · simp [hij] at hi
        exact .inl ⟨i, fun e => hij e.symm, hi⟩
    · rintro (⟨i, hij, hi⟩ | rfl)
      · exact ⟨i, by rw [List.getElem?_modify, hi]; have : ¬ j = i := fun e => hij e.symm
                     simp [this]⟩
      · exact ⟨j, by rw [List.getElem?_modify]; simp [List.getElem?_eq_getElem hjl]⟩
  refine ⟨?_, ?_, ?_, ?_, ?_⟩
  · intro e he
    rcases (hmem e).1 he with ⟨i, _, hi⟩ | rfl
    · exact h.key e (List.mem_iff_getElem?.2 ⟨i, hi⟩)
    · exact ⟨k, rfl⟩
  · refine pair_modify kOf _ h.nodup j fun a ha => ?_
    rw [List.getElem?_eq_getElem hjl] at ha
    cases ha
    rw [hkj]
    exact kOf_of rfl
  · intro e he
    rcases (hmem e).1 he with ⟨i, _, hi⟩ | rfl
    · exact h.born e (List.mem_iff_getElem?.2 ⟨i, hi⟩)
    · exact h.born l[j] (List.getElem_mem hjl)
  · exact pair_modify MapEntry.born _ h.bornNodup j fun a _ => rfl
  · intro n u
    unfold upd
    by_cases hn : n = k
    · subst hn
      rw [if_pos rfl]
      constructor
      · intro hu
        cases hu
        exact ⟨_, (hmem _).2 (.inr rfl), kOf_of rfl, rfl⟩
      · rintro ⟨e, he, hek, rfl⟩
        rcases (hmem e).1 he with ⟨i, hij, hi⟩ | rfl
        · exact absurd (pair_ne kOf h.nodup hi (List.getElem?_eq_getElem hjl) (hek.trans hkj.symm)) hij
        · rfl
    · rw [if_neg hn, h.spec]
      constructor
      · rintro ⟨e, he, hek, hv⟩
        obtain ⟨i, hi⟩ := List.mem_iff_getElem?.1 he
        refine ⟨e, (hmem e).2 (.inl ⟨i, ?_, hi⟩), hek, hv⟩
        rintro rfl
        rw [List.getElem?_eq_getElem hjl] at hi
        cases hi
        omega
      · rintro ⟨e, he, hek, hv⟩
        rcases (hmem e).1 he with ⟨i, _, hi⟩ | rfl
        · exact ⟨e, List.mem_iff_getElem?.2 ⟨i, hi⟩, hek, hv⟩
        · exact absurd ((kOf_of (e := { l[j] with key := .int .u32 k, val := v }) rfl).symm.trans hek) (by omega)

/-- An entry more. -/
theorem MapOk.push (h : MapOk l clock f) (k : Nat) (v : Value) (hj : l.findIdx? (fun e => kOf e == (k : Int)) = none) :
    MapOk (l ++ [{ key := .int .u32 k, val := v, born := clock }]) (clock + 1) (upd f k (some v)) := by
  rw [List.findIdx?_eq_none_iff] at hj
  have hne : ∀ e ∈ l, kOf e ≠ (k : Int) := fun e he hk => by have := hj e he; simp [hk] at this
  refine ⟨?_, ?_, ?_, ?_, ?_⟩
  · intro e he
    rcases List.mem_append.1 he with he | he
    · exact h.key e he
    · simp at he; subst he; exact ⟨k, rfl⟩
  · rw [List.pairwise_append]
    refine ⟨h.nodup, by simp, fun a ha b hb => ?_⟩
    simp at hb
    subst hb
    rw [kOf_of (e := { key := .int .u32 k, val := v, born := clock }) rfl]
    exact hne a ha
  · intro e he
    rcases List.mem_append.1 he with he | he
    · have := h.born e he; omega
    · simp at he; subst he; exact Nat.lt_succ_self _
  · rw [List.pairwise_append]
    refine ⟨h.bornNodup, by simp, fun a ha b hb => ?_⟩
    simp at hb
    subst hb
    have := h.born a ha
    show a.born ≠ clock
    omega
  · intro n u
    unfold upd
    by_cases hn : n = k
    · subst hn
      rw [if_pos rfl]
      constructor
      · intro hu
        cases hu
        exact ⟨{ key := .int .u32 n, val := v, born := clock }, List.mem_append.2 (.inr (by simp)), kOf_of rfl, rfl⟩
      · rintro ⟨e, he, hek, rfl⟩
        rcases List.mem_append.1 he with he | he
        · exact absurd hek (hne e he)
        · simp at he; subst he; rfl
    · rw [if_neg hn, h.spec]
      constructor
      · rintro ⟨e, he, hek, hv⟩
        exact ⟨e, List.mem_append.2 (.inl he), hek, hv⟩
      · rintro ⟨e, he, hek, hv⟩
        rcases List.mem_append.1 he with he | he
        · exact ⟨e, he, hek, hv⟩
        · simp at he; subst he; rw [kOf_of rfl] at hek; omega

/-- An entry is struck. -/
theorem MapOk.erase (h : MapOk l clock f) (k : Nat) {j : Nat} (hj : l.findIdx? (fun e => kOf e == (k : Int)) = some j) :
    MapOk (l.eraseIdx j) clock (upd f k none) := by
  rw [List.findIdx?_eq_some_iff_getElem] at hj
  obtain ⟨hjl, hp, _⟩ := hj
  have hkj : kOf l[j] = k := by simpa using hp
  have hs : (l.eraseIdx j).Sublist l := List.eraseIdx_sublist l j
  refine ⟨fun e he => h.key e (hs.subset he), h.nodup.sublist hs, fun e he => h.born e (hs.subset he), h.bornNodup.sublist hs, ?_⟩
  intro n u
  unfold upd
  by_cases hn : n = k
  · subst hn
    rw [if_pos rfl]
    constructor
    · intro hu; cases hu
    · rintro ⟨e, he, hek, _⟩
      obtain ⟨i, hij, hi⟩ := List.mem_eraseIdx_iff_getElem?.1 he
      exact absurd (pair_ne kOf h.nodup hi (List.getElem?_eq_getElem hjl) (hek.trans hkj.symm)) hij
  · rw [if_neg hn, h.spec]
    constructor
    · rintro ⟨e, he, hek, hv⟩
      obtain ⟨i, hi⟩ := List.mem_iff_getElem?.1 he
      refine ⟨e, List.mem_eraseIdx_iff_getElem?.2 ⟨i, ?_, hi⟩, hek, hv⟩
      rintro rfl
      rw [List.getElem?_eq_getElem hjl] at hi
      cases hi
      omega
    · rintro ⟨e, he, hek, hv⟩
      exact ⟨e, hs.subset he, hek, hv⟩

theorem MapOk.gone (h : MapOk l clock f) (k : Nat) (hj : l.findIdx? (fun e => kOf e == (k : Int)) = none) : MapOk l clock (upd f k none) := by
  have hk : upd f k none = f := by
    funext n
    unfold upd
    split
    · rename_i e; subst e
      have := h.look n
      rw [hj] at this
      exact this.symm
    · rfl
  rw [hk]; exact h
end

section
variable {P : Program} {w w' : World} {m : Nat} {f : Nat → Option Value} {t kt et : TypeId}

theorem MapRep.lt (h : MapRep w m f) : m < w.heap.size := by
  obtain ⟨es, c, hh, _⟩ := h
  exact (Array.getElem?_eq_some_iff.1 hh).1
theorem MapRep.of_block (h : MapRep w m f) (hb : w'.heap[m]? = w.heap[m]?) : MapRep w' m f := by
  obtain ⟨es, c, hh, ho⟩ := h
  exact ⟨es, c, hb.trans hh, ho⟩
theorem MapRep.mod {S : Nat → Prop} (h : MapRep w m f) (hm : Mod S w w') (hn : ¬ S m) : MapRep w' m f := h.of_block (hm.block m h.lt hn)
theorem MapRep.alloc (h : MapRep w m f) (o : Obj) : MapRep (w.alloc o) m f := h.of_block (Below.heap_alloc w o m h.lt)
theorem MapRep.drew (h : MapRep w m f) : MapRep w.drew m f := h
theorem MapRep.far (h : MapRep w m f) {p : Addr} (hp : m ≠ p.block) (u : Value) : MapRep (w.setCell p u) m f := h.of_block (Below.heap_setCell w p u m hp)
theorem MapRep.new (w : World) : MapRep (w.alloc (.map #[] 0)) w.heap.size (fun _ => none) := ⟨#[], 0, heap_alloc_new w _, MapOk.nil 0⟩
theorem MapRep.blk_ne {g : Nat} {t : TypeId} {cs : Array Value} (h : MapRep w m f) (hb : Blk w g t cs) : m ≠ g := by
  rintro rfl
  obtain ⟨es, c, hh, _⟩ := h
  unfold Blk at hb
  rw [hh] at hb
  cases hb

/-- What a lookup finds. -/
theorem run_findKey {l : List MapEntry} {clock : Nat} (hk : P.underlying kt = some (.int .u32)) (h : MapOk l clock f) (k : Nat) (w : World) :
    (Instr.findKey kt (.int .u32 k) l).run P w = .ok ((l.findIdx? (fun e => kOf e == (k : Int))).bind fun j => (l[j]?).map fun e => (j, e.val)) w := by
  have := findNow_int k l 0 h.key
  simp only [Nat.zero_add] at this
  simp [Instr.findKey, run_underlying hk, this]

theorem run_checkKey_u32 (b : Bool) (n : Nat) (hk : P.underlying kt = some (.int .u32)) (k : Int) (w : World) :
    (Instr.checkKey b (n + 1) kt (.int .u32 k)).run P w = .ok () w := by
  simp [Instr.checkKey, run_underlying hk]

theorem run_lookup_rep (ht : P.underlying t = some (.map kt et)) (hk : P.underlying kt = some (.int .u32)) {z : Value} (hz : ∀ w, (zeroValue et).run P w = .ok z w)
    (h : MapRep w m f) (k : Nat) (c : Bool) :
    (Instr.lookup t (.map (some m)) (.int .u32 k) c).run P w = .ok (if c then .tuple #[(f k).getD z, .bool (f k).isSome] else (f k).getD z) w := by
  obtain ⟨es, clock, hh, ho⟩ := h
  have hg : (getObj m).run P w = .ok (.map es clock) w := by simp [getObj, Sem.run, hh]
  have hf := run_findKey (P := P) hk ho k w
  have hl := ho.look k
  simp only [Instr.lookup, Sem.run_bind, run_underlying ht, Result.andThen_ok, hg, Sem.run_pure, run_checkKey_u32 _ 9999 hk, hf]
  cases hi : List.findIdx? (fun e => kOf e == (k : Int)) es.toList with
  | none => rw [hi] at hl; simp at hl; simp [hl, hz]
  | some j =>
    rw [hi] at hl
    simp only [Option.bind_some] at hl ⊢
    cases hj : es.toList[j]? with
    | none => rw [hj] at hl; simp only [Option.map_none] at hl ⊢; simp [hl, hz]
    | some e => rw [hj] at hl; simp only [Option.map_some] at hl ⊢; simp [hl]

theorem getObj_map {es : Array MapEntry} {clock : Nat} (hh : w.heap[m]? = some (.map es clock)) : (getObj m).run P w = .ok (.map es clock) w := by simp [getObj, Sem.run, hh]
theorem setObj_map {es es' : Array MapEntry} {clock clock' : Nat} (hh : w.heap[m]? = some (.map es clock)) :
    ∃ w', (setObj m (.map es' clock')).run P w = .ok () w' ∧ w'.heap[m]? = some (.map es' clock') ∧ Mod (One m) w w' := by
  refine ⟨{ w with heap := w.heap.setIfInBounds m (.map es' clock') }, by simp [setObj, Sem.run, hh], ?_, ⟨rfl, rfl, rfl, by simp, fun k _ hk => ?_⟩⟩
  · have := (Array.getElem?_eq_some_iff.1 hh).1
    simp [this]
  · have hk' : ¬ m = k := fun e => hk e.symm
    simp [hk']

theorem run_mapUpdate_rep (ht : P.underlying t = some (.map kt et)) (hk : P.underlying kt = some (.int .u32)) (h : MapRep w m f) (k : Nat) (v : Value) :
    ∃ w', (Instr.mapUpdate t (.map (some m)) (.int .u32 k) v).run P w = .ok () w' ∧ MapRep w' m (upd f k (some v)) ∧ Mod (One m) w w' := by
  obtain ⟨es, clock, hh, ho⟩ := h
  have hf := run_findKey (P := P) hk ho k w
  simp only [Instr.mapUpdate, Sem.run_bind, run_underlying ht, Result.andThen_ok, getObj_map hh, run_checkKey_u32 _ 9999 hk, hf]
  cases hi : List.findIdx? (fun e => kOf e == (k : Int)) es.toList with
  | none =>
    obtain ⟨w', hr, hh', hm⟩ := setObj_map (P := P) (es' := es.push { key := .int .u32 k, val := v, born := clock }) (clock' := clock + 1) hh
    exact ⟨w', hr, ⟨_, _, hh', by simpa using ho.push k v hi⟩, hm⟩
  | some j =>
    have hi' := hi
    rw [List.findIdx?_eq_some_iff_getElem] at hi'
    obtain ⟨hjl, hp, _⟩ := hi'
    have hjl' : j < es.size := by simpa using hjl
    obtain ⟨kk, hkk⟩ := ho.key es.toList[j] (List.getElem_mem hjl)
    have hkk' : kk = k := by have h1 := kOf_of hkk; have h2 : kOf es.toList[j] = k := by simpa using hp
                             omega
    subst hkk'
    have hkey : (es[j]).key = .int .u32 kk := by simpa using hkk
    obtain ⟨w', hr, hh', hm⟩ := setObj_map (P := P) (es' := es.modify j fun e => { e with key := .int .u32 kk, val := v }) (clock' := clock) hh
    refine ⟨w', ?_, ⟨_, _, hh', by simpa using ho.modify kk v hi⟩, hm⟩
    simp only [Option.bind_some, List.getElem?_eq_getElem hjl, Option.map_some, Sem.run_bind]
    simp [Instr.keyThatStays, Instr.sameBits, hjl', hkey, hr]

theorem run_delete_rep (ht : P.underlying t = some (.map kt et)) (hk : P.underlying kt = some (.int .u32)) (h : MapRep w m f) (k : Nat) (ty : TypeId) (ts : Array TypeId) (h0 : ts[0]? = some t) :
    ∃ w', (Builtin.delete_ ts ty #[.map (some m), .int .u32 k]).run P w = .ok (.tuple #[]) w' ∧ MapRep w' m (upd f k none) ∧ Mod (One m) w w' := by
  obtain ⟨es, clock, hh, ho⟩ := h
  have hf := run_findKey (P := P) hk ho k w
  have e0 : (#[Value.map (some m), Value.int .u32 (k : Int)] : Array Value)[0]? = some (.map (some m)) := rfl
  have e1 : (#[Value.map (some m), Value.int .u32 (k : Int)] : Array Value)[1]? = some (.int .u32 k) := rfl
  simp only [Builtin.delete_, h0, e0, e1, Sem.run_bind, run_underlying ht, Result.andThen_ok, getObj_map hh, run_checkKey_u32 _ 9999 hk, hf]
  cases hi : List.findIdx? (fun e => kOf e == (k : Int)) es.toList with
  | none =>
    obtain ⟨w', hr, hh', hm⟩ := setObj_map (P := P) (es' := es) (clock' := clock) hh
    exact ⟨w', by simp [hr], ⟨_, _, hh', ho.gone k hi⟩, hm⟩
  | some j =>
    have hi' := hi
    rw [List.findIdx?_eq_some_iff_getElem] at hi'
    obtain ⟨hjl, _, _⟩ := hi'
    have hjl' : j < es.size := by simpa using hjl
    obtain ⟨w', hr, hh', hm⟩ := setObj_map (P := P) (es' := es.eraseIdxIfInBounds j) (clock' := clock) hh
    refine ⟨w', ?_, ⟨_, _, hh', ?_⟩, hm⟩
    · simp only [Option.bind_some, List.getElem?_eq_getElem hjl, Option.map_some, Sem.run_bind]
      simp [hr]
    · have : (es.eraseIdxIfInBounds j).toList = es.toList.eraseIdx j := by simp [Array.eraseIdxIfInBounds, hjl']
      rw [this]; exact ho.erase k hi

theorem run_clear_rep (ht : P.underlying t = some (.map kt et)) (h : MapRep w m f) (ty : TypeId) (ts : Array TypeId) (h0 : ts[0]? = some t) :
    ∃ w', (Builtin.clear_ ts ty #[.map (some m)]).run P w = .ok (.tuple #[]) w' ∧ MapRep w' m (fun _ => none) ∧ Mod (One m) w w' := by
  obtain ⟨es, clock, hh, ho⟩ := h
  obtain ⟨w', hr, hh', hm⟩ := setObj_map (P := P) (es' := #[]) (clock' := clock) hh
  have e0 : (#[Value.map (some m)] : Array Value)[0]? = some (.map (some m)) := rfl
  refine ⟨w', ?_, ⟨_, _, hh', MapOk.nil _⟩, hm⟩
  simp only [Builtin.clear_, h0, e0, Sem.run_bind, run_underlying ht, Result.andThen_ok, getObj_map hh, hr, Sem.run_pure]
end
end Go.Proofs.Ytmclbechnfedmaa
