/- Maps keyed by uint32: what a block reads as (a function of the keys), and what each operation on it does. No program is named here. The operations on maps, as laws at the operation; ranging over a map that stays as it is. No program is named here. -/
import Derived.Test.YtgillcppnpkkiaaGreatDoorBase
namespace Go.Proofs.YtgillcppnpkkiaaGreatDoor
open Go Go.RowKit

/-- An entry's key, as a number. -/
def kOf (e : MapEntry) : Int := match e.key with | .int _ q => q | _ => 0
theorem kOf_of {e : MapEntry} {n : Int} (h : e.key = .int .u32 n) : kOf e = n := by unfold kOf; rw [h]

/-- The entries, as a function of the keys. -/
structure MapOk (l : List MapEntry) (clock : Nat) (f : Nat → Option Value) : Prop where
  key : ∀ e ∈ l, ∃ k : Nat, e.key = .int .u32 k
  nodup : l.Pairwise (fun a b => kOf a ≠ kOf b)
  born : ∀ e ∈ l, e.born < clock
  bornNodup : l.Pairwise (fun a b => a.born ≠ b.born)
  spec : ∀ (k : Nat) (v : Value), f k = some v ↔ ∃ e ∈ l, kOf e = (k : Int) ∧ e.val = v

def MapRep (w : World) (m : Nat) (f : Nat → Option Value) : Prop := ∃ es clock, w.heap[m]? = some (.map es clock) ∧ MapOk es.toList clock f

/-- A function at one key turned. -/
def upd {α : Type} (f : Nat → α) (k : Nat) (v : α) : Nat → α := fun n => if n = k then v else f n
theorem upd_same {α : Type} (f : Nat → α) (k : Nat) (v : α) : upd f k v k = v := if_pos rfl
theorem upd_other {α : Type} (f : Nat → α) {k n : Nat} (v : α) (h : n ≠ k) : upd f k v n = f n := if_neg h

theorem MapOk.nil (c : Nat) : MapOk [] c (fun _ => none) := ⟨by simp, .nil, by simp, .nil, by simp⟩

section
variable {l : List MapEntry} {clock : Nat} {f : Nat → Option Value}

theorem findNow_int (k : Nat) : ∀ (l : List MapEntry) (i : Nat), (∀ e ∈ l, ∃ k : Nat, e.key = .int .u32 k) →
    Instr.findNow (.int .u32) (.int .u32 k) l i = some ((l.findIdx? (fun e => kOf e == (k : Int))).bind fun j => (l[j]?).map fun e => (i + j, e.val))
  | [], i, _ => by simp [Instr.findNow]
  | e :: es, i, h => by
    obtain ⟨n, hn⟩ := h e (by simp)
    have ih := findNow_int k es (i + 1) (fun e he => h e (by simp [he]))
    rw [Instr.findNow, hn]
    simp only [Instr.sameNow, if_true]
    by_cases hk : (k : Int) = n
    · simp [List.findIdx?_cons, kOf_of hn, hk]
    · have h1 : ((k : Int) == n) = false := by simpa using hk
      have h2 : ((n : Int) == k) = false := by simpa using fun e => hk e.symm
      simp only [h1]
      rw [ih, List.findIdx?_cons, kOf_of hn, h2]
      cases hfi : List.findIdx? (fun e => kOf e == (k : Int)) es with
      | none => simp
      | some j => simp; cases es[j]? <;> simp; omega

theorem MapOk.look (h : MapOk l clock f) (k : Nat) : f k = (l.findIdx? (fun e => kOf e == (k : Int))).bind fun j => (l[j]?).map (·.val) := by
  cases hi : l.findIdx? (fun e => kOf e == (k : Int)) with
  | none =>
    rw [List.findIdx?_eq_none_iff] at hi
    cases hf : f k with
    | none => rfl
    | some v =>
      obtain ⟨e, he, hk, _⟩ := (h.spec k v).1 hf
      have := hi e he
      simp [hk] at this
  | some j =>
    rw [List.findIdx?_eq_some_iff_getElem] at hi
    obtain ⟨hj, hp, _⟩ := hi
    simp only [Option.bind_some, List.getElem?_eq_getElem hj, Option.map_some]
    exact (h.spec k _).2 ⟨l[j], List.getElem_mem hj, by simpa using hp, rfl⟩

theorem pair_ne {α β : Type} (g : α → β) {l : List α} (h : l.Pairwise (fun a b => g a ≠ g b)) {i j : Nat} {a b : α} (hi : l[i]? = some a) (hj : l[j]? = some b) (hab : g a = g b) : i = j := by
  rw [List.pairwise_iff_getElem] at h
  obtain ⟨hil, rfl⟩ := List.getElem?_eq_some_iff.1 hi
  obtain ⟨hjl, rfl⟩ := List.getElem?_eq_some_iff.1 hj
  rcases Nat.lt_trichotomy i j with hlt | heq | hgt
  · exact absurd hab (h i j hil hjl hlt)
  · exact heq
  · exact absurd hab.symm (h j i hjl hil hgt)

theorem pair_modify {α β : Type} (g : α → β) (u : α → α) {l : List α} (h : l.Pairwise (fun a b => g a ≠ g b)) (j : Nat) (hu : ∀ a, l[j]? = some a → g (u a) = g a) :
    (l.modify j u).Pairwise (fun a b => g a ≠ g b) := by
  rw [List.pairwise_iff_getElem] at h ⊢
  intro i k hi hk hik
  have hi' : i < l.length := by simpa using hi
  have hk' : k < l.length := by simpa using hk
  have e : ∀ n (hn : n < (l.modify j u).length) (hn' : n < l.length), g ((l.modify j u)[n]) = g l[n] := by
    intro n hn hn'
    rw [List.getElem_modify]
    split
    · rename_i hjn
      subst hjn
      exact hu _ (List.getElem?_eq_getElem hn')
    · rfl
  rw [e i hi hi', e k hk hk']
  exact h i k hi' hk' hik

/-- An entry that is there is turned. -/
theorem MapOk.modify (h : MapOk l clock f) (k : Nat) (v : Value) {j : Nat} (hj : l.findIdx? (fun e => kOf e == (k : Int)) = some j) :
    MapOk (l.modify j fun e => { e with key := .int .u32 k, val := v }) clock (upd f k (some v)) := by
  rw [List.findIdx?_eq_some_iff_getElem] at hj
  obtain ⟨hjl, hp, _⟩ := hj
  have hkj : kOf l[j] = k := by simpa using hp
  have hmem : ∀ e, e ∈ (l.modify j fun e => { e with key := .int .u32 k, val := v }) ↔ (∃ i, i ≠ j ∧ l[i]? = some e) ∨ e = { l[j] with key := .int .u32 k, val := v } := by
    intro e
    rw [List.mem_iff_getElem?]
    constructor
    · rintro ⟨i, hi⟩
      rw [List.getElem?_modify] at hi
      by_cases hij : j = i
      · subst hij
        simp [List.getElem?_eq_getElem hjl] at hi
        exact .inr hi.symm
      · simp [hij] at hi
        exact .inl ⟨i, fun e => hij e.symm, hi⟩
    · rintro (⟨i, hij, hi⟩ | rfl)
      · exact ⟨i, by rw [List.getElem?_modify, hi]; have : ¬ j = i := fun e => hij e.symm
                     simp [this]⟩
      · exact ⟨j, by rw [List.getElem?_modify]; simp [List.getElem?_eq_getElem hjl]⟩
  refine ⟨?_, ?_, ?_, ?_, ?_⟩
  · intro e he
    rcases (hmem e).1 he with ⟨i, _, hi⟩ | rfl
    · exact h.key e (List.mem_iff_getElem?.2 ⟨i, hi⟩)
    · exact ⟨k, rfl⟩
  · refine pair_modify kOf _ h.nodup j fun a ha => ?_
    rw [List.getElem?_eq_getElem hjl] at ha
    cases ha
    rw [hkj]
    exact kOf_of rfl
  · intro e he
    rcases (hmem e).1 he with ⟨i, _, hi⟩ | rfl
    · exact h.born e (List.mem_iff_getElem?.2 ⟨i, hi⟩)
    · exact h.born l[j] (List.getElem_mem hjl)
  · exact pair_modify MapEntry.born _ h.bornNodup j fun a _ => rfl
  · intro n u
    unfold upd
    by_cases hn : n = k
    · subst hn
      rw [if_pos rfl]
      constructor
      · intro hu
        cases hu
        exact ⟨_, (hmem _).2 (.inr rfl), kOf_of rfl, rfl⟩
      · rintro ⟨e, he, hek, rfl⟩
        rcases (hmem e).1 he with ⟨i, hij, hi⟩ | rfl
        · exact absurd (pair_ne kOf h.nodup hi (List.getElem?_eq_getElem hjl) (hek.trans hkj.symm)) hij
        · rfl
    · rw [if_neg hn, h.spec]
      constructor
      · rintro ⟨e, he, hek, hv⟩
        obtain ⟨i, hi⟩ := List.mem_iff_getElem?.1 he
        refine ⟨e, (hmem e).2 (.inl ⟨i, ?_, hi⟩), hek, hv⟩
        rintro rfl
        rw [List.getElem?_eq_getElem hjl] at hi
        cases hi
        omega
      · rintro ⟨e, he, hek, hv⟩
        rcases (hmem e).1 he with ⟨i, _, hi⟩ | rfl
        · exact ⟨e, List.mem_iff_getElem?.2 ⟨i, hi⟩, hek, hv⟩
        · exact absurd ((kOf_of (e := { l[j] with key := .int .u32 k, val := v }) rfl).symm.trans hek) (by omega)

/-- An entry more. -/
theorem MapOk.push (h : MapOk l clock f) (k : Nat) (v : Value) (hj : l.findIdx? (fun e => kOf e == (k : Int)) = none) :
    MapOk (l ++ [{ key := .int .u32 k, val := v, born := clock }]) (clock + 1) (upd f k (some v)) := by
  rw [List.findIdx?_eq_none_iff] at hj
  have hne : ∀ e ∈ l, kOf e ≠ (k : Int) := fun e he hk => by have := hj e he; simp [hk] at this
  refine ⟨?_, ?_, ?_, ?_, ?_⟩
  · intro e he
    rcases List.mem_append.1 he with he | he
    · exact h.key e he
    · simp at he; subst he; exact ⟨k, rfl⟩
  · rw [List.pairwise_append]
    refine ⟨h.nodup, by simp, fun a ha b hb => ?_⟩
    simp at hb
    subst hb
    rw [kOf_of (e := { key := .int .u32 k, val := v, born := clock }) rfl]
    exact hne a ha
  · intro e he
    rcases List.mem_append.1 he with he | he
    · have := h.born e he; omega
    · simp at he; subst he; exact Nat.lt_succ_self _
  · rw [List.pairwise_append]
    refine ⟨h.bornNodup, by simp, fun a ha b hb => ?_⟩
    simp at hb
    subst hb
    have := h.born a ha
    show a.born ≠ clock
    omega
  · intro n u
    unfold upd
    by_cases hn : n = k
    · subst hn
      rw [if_pos rfl]
      constructor
      · intro hu
        cases hu
        exact ⟨{ key := .int .u32 n, val := v, born := clock }, List.mem_append.2 (.inr (by simp)), kOf_of rfl, rfl⟩
      · rintro ⟨e, he, hek, rfl⟩
        rcases List.mem_append.1 he with he | he
        · exact absurd hek (hne e he)
        · simp at he; subst he; rfl
    · rw [if_neg hn, h.spec]
      constructor
      · rintro ⟨e, he, hek, hv⟩
        exact ⟨e, List.mem_append.2 (.inl he), hek, hv⟩
      · rintro ⟨e, he, hek, hv⟩
        rcases List.mem_append.1 he with he | he
        · exact ⟨e, he, hek, hv⟩
        · simp at he; subst he; rw [kOf_of rfl] at hek; omega

/-- An entry is struck. -/
theorem MapOk.erase (h : MapOk l clock f) (k : Nat) {j : Nat} (hj : l.findIdx? (fun e => kOf e == (k : Int)) = some j) :
    MapOk (l.eraseIdx j) clock (upd f k none) := by
  rw [List.findIdx?_eq_some_iff_getElem] at hj
  obtain ⟨hjl, hp, _⟩ := hj
  have hkj : kOf l[j] = k := by simpa using hp
  have hs : (l.eraseIdx j).Sublist l := List.eraseIdx_sublist l j
  refine ⟨fun e he => h.key e (hs.subset he), h.nodup.sublist hs, fun e he => h.born e (hs.subset he), h.bornNodup.sublist hs, ?_⟩
  intro n u
  unfold upd
  by_cases hn : n = k
  · subst hn
    rw [if_pos rfl]
    constructor
    · intro hu; cases hu
    · rintro ⟨e, he, hek, _⟩
      obtain ⟨i, hij, hi⟩ := List.mem_eraseIdx_iff_getElem?.1 he
      exact absurd (pair_ne kOf h.nodup hi (List.getElem?_eq_getElem hjl) (hek.trans hkj.symm)) hij
  · rw [if_neg hn, h.spec]
    constructor
    · rintro ⟨e, he, hek, hv⟩
      obtain ⟨i, hi⟩ := List.mem_iff_getElem?.1 he
      refine ⟨e, List.mem_eraseIdx_iff_getElem?.2 ⟨i, ?_, hi⟩, hek, hv⟩
      rintro rfl
      rw [List.getElem?_eq_getElem hjl] at hi
      cases hi
      omega
    · rintro ⟨e, he, hek, hv⟩
      exact ⟨e, hs.subset he, hek, hv⟩

theorem MapOk.gone (h : MapOk l clock f) (k : Nat) (hj : l.findIdx? (fun e => kOf e == (k : Int)) = none) : MapOk l clock (upd f k none) := by
  have hk : upd f k none = f := by
    funext n
    unfold upd
    split
    · rename_i e; subst e
      have := h.look n
      rw [hj] at this
      exact this.symm
    · rfl
  rw [hk]; exact h
end

section
variable {P : Program} {w w' : World} {m : Nat} {f : Nat → Option Value} {t kt et : TypeId}

theorem MapRep.lt (h : MapRep w m f) : m < w.heap.size := by
  obtain ⟨es, c, hh, _⟩ := h
  exact (Array.getElem?_eq_some_iff.1 hh).1
theorem MapRep.of_block (h : MapRep w m f) (hb : w'.heap[m]? = w.heap[m]?) : MapRep w' m f := by
  obtain ⟨es, c, hh, ho⟩ := h
  exact ⟨es, c, hb.trans hh, ho⟩
theorem MapRep.mod {S : Nat → Prop} (h : MapRep w m f) (hm : Mod S w w') (hn : ¬ S m) : MapRep w' m f := h.of_block (hm.block m h.lt hn)
theorem MapRep.alloc (h : MapRep w m f) (o : Obj) : MapRep (w.alloc o) m f := h.of_block (Below.heap_alloc w o m h.lt)
theorem MapRep.drew (h : MapRep w m f) : MapRep w.drew m f := h
theorem MapRep.far (h : MapRep w m f) {p : Addr} (hp : m ≠ p.block) (u : Value) : MapRep (w.setCell p u) m f := h.of_block (Below.heap_setCell w p u m hp)
theorem MapRep.new (w : World) : MapRep (w.alloc (.map #[] 0)) w.heap.size (fun _ => none) := ⟨#[], 0, heap_alloc_new w _, MapOk.nil 0⟩
theorem MapRep.blk_ne {g : Nat} {t : TypeId} {cs : Array Value} (h : MapRep w m f) (hb : Blk w g t cs) : m ≠ g := by
  rintro rfl
  obtain ⟨es, c, hh, _⟩ := h
  unfold Blk at hb
  rw [hh] at hb
  cases hb

/-- What a lookup finds. -/
theorem run_findKey {l : List MapEntry} {clock : Nat} (hk : P.underlying kt = some (.int .u32)) (h : MapOk l clock f) (k : Nat) (w : World) :
    (Instr.findKey kt (.int .u32 k) l).run P w = .ok ((l.findIdx? (fun e => kOf e == (k : Int))).bind fun j => (l[j]?).map fun e => (j, e.val)) w := by
  have := findNow_int k l 0 h.key
  simp only [Nat.zero_add] at this
  simp [Instr.findKey, run_underlying hk, this]

theorem run_checkKey_u32 (b : Bool) (n : Nat) (hk : P.underlying kt = some (.int .u32)) (k : Int) (w : World) :
    (Instr.checkKey b (n + 1) kt (.int .u32 k)).run P w = .ok () w := by
  simp [Instr.checkKey, run_underlying hk]

theorem run_lookup_rep (ht : P.underlying t = some (.map kt et)) (hk : P.underlying kt = some (.int .u32)) {z : Value} (hz : ∀ w, (zeroValue et).run P w = .ok z w)
    (h : MapRep w m f) (k : Nat) (c : Bool) :
    (Instr.lookup t (.map (some m)) (.int .u32 k) c).run P w = .ok (if c then .tuple #[(f k).getD z, .bool (f k).isSome] else (f k).getD z) w := by
  obtain ⟨es, clock, hh, ho⟩ := h
  have hg : (getObj m).run P w = .ok (.map es clock) w := by simp [getObj, Sem.run, hh]
  have hf := run_findKey (P := P) hk ho k w
  have hl := ho.look k
  simp only [Instr.lookup, Sem.run_bind, run_underlying ht, Result.andThen_ok, hg, Sem.run_pure, run_checkKey_u32 _ 9999 hk, hf]
  cases hi : List.findIdx? (fun e => kOf e == (k : Int)) es.toList with
  | none => rw [hi] at hl; simp at hl; simp [hl, hz]
  | some j =>
    rw [hi] at hl
    simp only [Option.bind_some] at hl ⊢
    cases hj : es.toList[j]? with
    | none => rw [hj] at hl; simp only [Option.map_none] at hl ⊢; simp [hl, hz]
    | some e => rw [hj] at hl; simp only [Option.map_some] at hl ⊢; simp [hl]

theorem getObj_map {es : Array MapEntry} {clock : Nat} (hh : w.heap[m]? = some (.map es clock)) : (getObj m).run P w = .ok (.map es clock) w := by simp [getObj, Sem.run, hh]
theorem setObj_map {es es' : Array MapEntry} {clock clock' : Nat} (hh : w.heap[m]? = some (.map es clock)) :
    ∃ w', (setObj m (.map es' clock')).run P w = .ok () w' ∧ w'.heap[m]? = some (.map es' clock') ∧ Mod (One m) w w' := by
  refine ⟨{ w with heap := w.heap.setIfInBounds m (.map es' clock') }, by simp [setObj, Sem.run, hh], ?_, ⟨rfl, rfl, rfl, by simp, fun k _ hk => ?_⟩⟩
  · have := (Array.getElem?_eq_some_iff.1 hh).1
    simp [this]
  · have hk' : ¬ m = k := fun e => hk e.symm
    simp [hk']

theorem run_mapUpdate_rep (ht : P.underlying t = some (.map kt et)) (hk : P.underlying kt = some (.int .u32)) (h : MapRep w m f) (k : Nat) (v : Value) :
    ∃ w', (Instr.mapUpdate t (.map (some m)) (.int .u32 k) v).run P w = .ok () w' ∧ MapRep w' m (upd f k (some v)) ∧ Mod (One m) w w' := by
  obtain ⟨es, clock, hh, ho⟩ := h
  have hf := run_findKey (P := P) hk ho k w
  simp only [Instr.mapUpdate, Sem.run_bind, run_underlying ht, Result.andThen_ok, getObj_map hh, run_checkKey_u32 _ 9999 hk, hf]
  cases hi : List.findIdx? (fun e => kOf e == (k : Int)) es.toList with
  | none =>
    obtain ⟨w', hr, hh', hm⟩ := setObj_map (P := P) (es' := es.push { key := .int .u32 k, val := v, born := clock }) (clock' := clock + 1) hh
    exact ⟨w', hr, ⟨_, _, hh', by simpa using ho.push k v hi⟩, hm⟩
  | some j =>
    have hi' := hi
    rw [List.findIdx?_eq_some_iff_getElem] at hi'
    obtain ⟨hjl, hp, _⟩ := hi'
    have hjl' : j < es.size := by simpa using hjl
    obtain ⟨kk, hkk⟩ := ho.key es.toList[j] (List.getElem_mem hjl)
    have hkk' : kk = k := by have h1 := kOf_of hkk; have h2 : kOf es.toList[j] = k := by simpa using hp
                             omega
    subst hkk'
    have hkey : (es[j]).key = .int .u32 kk := by simpa using hkk
    obtain ⟨w', hr, hh', hm⟩ := setObj_map (P := P) (es' := es.modify j fun e => { e with key := .int .u32 kk, val := v }) (clock' := clock) hh
    refine ⟨w', ?_, ⟨_, _, hh', by simpa using ho.modify kk v hi⟩, hm⟩
    simp only [Option.bind_some, List.getElem?_eq_getElem hjl, Option.map_some, Sem.run_bind]
    simp [Instr.keyThatStays, Instr.sameBits, hjl', hkey, hr]

theorem run_delete_rep (ht : P.underlying t = some (.map kt et)) (hk : P.underlying kt = some (.int .u32)) (h : MapRep w m f) (k : Nat) (ty : TypeId) (ts : Array TypeId) (h0 : ts[0]? = some t) :
    ∃ w', (Builtin.delete_ ts ty #[.map (some m), .int .u32 k]).run P w = .ok (.tuple #[]) w' ∧ MapRep w' m (upd f k none) ∧ Mod (One m) w w' := by
  obtain ⟨es, clock, hh, ho⟩ := h
  have hf := run_findKey (P := P) hk ho k w
  have e0 : (#[Value.map (some m), Value.int .u32 (k : Int)] : Array Value)[0]? = some (.map (some m)) := rfl
  have e1 : (#[Value.map (some m), Value.int .u32 (k : Int)] : Array Value)[1]? = some (.int .u32 k) := rfl
  simp only [Builtin.delete_, h0, e0, e1, Sem.run_bind, run_underlying ht, Result.andThen_ok, getObj_map hh, run_checkKey_u32 _ 9999 hk, hf]
  cases hi : List.findIdx? (fun e => kOf e == (k : Int)) es.toList with
  | none =>
    obtain ⟨w', hr, hh', hm⟩ := setObj_map (P := P) (es' := es) (clock' := clock) hh
    exact ⟨w', by simp [hr], ⟨_, _, hh', ho.gone k hi⟩, hm⟩
  | some j =>
    have hi' := hi
    rw [List.findIdx?_eq_some_iff_getElem] at hi'
    obtain ⟨hjl, _, _⟩ := hi'
    have hjl' : j < es.size := by simpa using hjl
    obtain ⟨w', hr, hh', hm⟩ := setObj_map (P := P) (es' := es.eraseIdxIfInBounds j) (clock' := clock) hh
    refine ⟨w', ?_, ⟨_, _, hh', ?_⟩, hm⟩
    · simp only [Option.bind_some, List.getElem?_eq_getElem hjl, Option.map_some, Sem.run_bind]
      simp [hr]
    · have : (es.eraseIdxIfInBounds j).toList = es.toList.eraseIdx j := by simp [Array.eraseIdxIfInBounds, hjl']
      rw [this]; exact ho.erase k hi

theorem run_clear_rep (ht : P.underlying t = some (.map kt et)) (h : MapRep w m f) (ty : TypeId) (ts : Array TypeId) (h0 : ts[0]? = some t) :
    ∃ w', (Builtin.clear_ ts ty #[.map (some m)]).run P w = .ok (.tuple #[]) w' ∧ MapRep w' m (fun _ => none) ∧ Mod (One m) w w' := by
  obtain ⟨es, clock, hh, ho⟩ := h
  obtain ⟨w', hr, hh', hm⟩ := setObj_map (P := P) (es' := #[]) (clock' := clock) hh
  have e0 : (#[Value.map (some m)] : Array Value)[0]? = some (.map (some m)) := rfl
  refine ⟨w', ?_, ⟨_, _, hh', MapOk.nil _⟩, hm⟩
  simp only [Builtin.clear_, h0, e0, Sem.run_bind, run_underlying ht, Result.andThen_ok, getObj_map hh, hr, Sem.run_pure]
end
end Go.Proofs.YtgillcppnpkkiaaGreatDoor

namespace Go.Proofs.YtgillcppnpkkiaaGreatDoor
open Go Go.RowKit

section
variable {P : Program} {ops : Array Oper} {Q : Exit → Act → World → Prop} {a : Act} {w w' : World} {rest : List Oper} {o : Oper} {m : Nat} {f : Nat → Option Value} {t kt et : TypeId}

theorem wpl_lookup_ok (hg : o.guard = none) (x y : Operand) (ho : o.op = .lookup t x y true) (ht : P.underlying t = some (.map kt et)) (hk : P.underlying kt = some (.int .u32)) {z : Value} (hz : ∀ w, (zeroValue et).run P w = .ok z w)
    (hx : a.eval x = .map (some m)) (h : MapRep w m f) (k : Nat) (hy : a.eval y = .int .u32 k)
    (hK : wpList P ops Q rest (a.put o.dst (.tuple #[(f k).getD z, .bool (f k).isSome])) w) : wpList P ops Q (o :: rest) a w := by
  refine wpl_run (v := .tuple #[(f k).getD z, .bool (f k).isSome]) hg ?_ hK
  have hr := run_lookup_rep (P := P) ht hk hz h k true
  simp only [if_true] at hr
  simp [execOp, ho, hx, hy, hr]

theorem wpl_lookup (hg : o.guard = none) (x y : Operand) (ho : o.op = .lookup t x y false) (ht : P.underlying t = some (.map kt et)) (hk : P.underlying kt = some (.int .u32)) {z : Value} (hz : ∀ w, (zeroValue et).run P w = .ok z w)
    (hx : a.eval x = .map (some m)) (h : MapRep w m f) (k : Nat) (hy : a.eval y = .int .u32 k)
    (hK : wpList P ops Q rest (a.put o.dst ((f k).getD z)) w) : wpList P ops Q (o :: rest) a w := by
  refine wpl_run (v := (f k).getD z) hg ?_ hK
  have hr := run_lookup_rep (P := P) ht hk hz h k false
  simp only [Bool.false_eq_true, if_false] at hr
  simp [execOp, ho, hx, hy, hr]

theorem wpl_lookup_val (hg : o.guard = none) (x y : Operand) (ho : o.op = .lookup t x y false) (ht : P.underlying t = some (.map kt et)) (hk : P.underlying kt = some (.int .u32)) {z : Value} (hz : ∀ w, (zeroValue et).run P w = .ok z w)
    (hx : a.eval x = .map (some m)) (h : MapRep w m f) (k : Nat) (hy : a.eval y = .int .u32 k) {v : Value} (hf : (f k).getD z = v)
    (hK : wpList P ops Q rest (a.put o.dst v) w) : wpList P ops Q (o :: rest) a w :=
  wpl_lookup hg x y ho ht hk hz hx h k hy (by rw [hf]; exact hK)

theorem wpl_lookup_some (hg : o.guard = none) (x y : Operand) (ho : o.op = .lookup t x y true) (ht : P.underlying t = some (.map kt et)) (hk : P.underlying kt = some (.int .u32)) {z : Value} (hz : ∀ w, (zeroValue et).run P w = .ok z w)
    (hx : a.eval x = .map (some m)) (h : MapRep w m f) (k : Nat) (hy : a.eval y = .int .u32 k) {v : Value} (hf : f k = some v)
    (hK : wpList P ops Q rest (a.put o.dst (.tuple #[v, .bool true])) w) : wpList P ops Q (o :: rest) a w :=
  wpl_lookup_ok hg x y ho ht hk hz hx h k hy (by rw [hf]; exact hK)

theorem wpl_lookup_none (hg : o.guard = none) (x y : Operand) (ho : o.op = .lookup t x y true) (ht : P.underlying t = some (.map kt et)) (hk : P.underlying kt = some (.int .u32)) {z : Value} (hz : ∀ w, (zeroValue et).run P w = .ok z w)
    (hx : a.eval x = .map (some m)) (h : MapRep w m f) (k : Nat) (hy : a.eval y = .int .u32 k) (hf : f k = none)
    (hK : wpList P ops Q rest (a.put o.dst (.tuple #[z, .bool false])) w) : wpList P ops Q (o :: rest) a w :=
  wpl_lookup_ok hg x y ho ht hk hz hx h k hy (by rw [hf]; exact hK)

theorem wpl_mapUpdate (hg : o.guard = none) (x y v : Operand) (ho : o.op = .mapUpdate t x y v) (ht : P.underlying t = some (.map kt et)) (hk : P.underlying kt = some (.int .u32))
    (hx : a.eval x = .map (some m)) (h : MapRep w m f) (k : Nat) (hy : a.eval y = .int .u32 k) {u : Value} (hv : a.eval v = u)
    (hK : ∀ w', MapRep w' m (upd f k (some u)) → Mod (One m) w w' → wpList P ops Q rest (a.put o.dst undef) w') : wpList P ops Q (o :: rest) a w := by
  obtain ⟨w', hr, h1, h2⟩ := run_mapUpdate_rep (P := P) ht hk h k u
  refine wpl_skip hg ?_ (hK w' h1 h2)
  simp [execOp, ho, hx, hy, hv, hr]

theorem wpl_delete (hg : o.guard = none) (x y : Operand) {ts : Array TypeId} (ho : o.op = .call { callee := .builtin .delete, args := #[x, y], argTypes := ts }) (h0 : ts[0]? = some t) (ht : P.underlying t = some (.map kt et)) (hk : P.underlying kt = some (.int .u32))
    (hx : a.eval x = .map (some m)) (h : MapRep w m f) (k : Nat) (hy : a.eval y = .int .u32 k)
    (hK : ∀ w', MapRep w' m (upd f k none) → Mod (One m) w w' → wpList P ops Q rest (a.put o.dst (.tuple #[])) w') : wpList P ops Q (o :: rest) a w := by
  obtain ⟨w', hr, h1, h2⟩ := run_delete_rep (P := P) ht hk h k o.type ts h0
  refine wpl_run hg ?_ (hK w' h1 h2)
  simp [execOp, ho, hx, hy, hr, resolve, invoke, builtin]

theorem wpl_clear (hg : o.guard = none) (x : Operand) {ts : Array TypeId} (ho : o.op = .call { callee := .builtin .clear, args := #[x], argTypes := ts }) (h0 : ts[0]? = some t) (ht : P.underlying t = some (.map kt et))
    (hx : a.eval x = .map (some m)) (h : MapRep w m f)
    (hK : ∀ w', MapRep w' m (fun _ => none) → Mod (One m) w w' → wpList P ops Q rest (a.put o.dst (.tuple #[])) w') : wpList P ops Q (o :: rest) a w := by
  obtain ⟨w', hr, h1, h2⟩ := run_clear_rep (P := P) ht h o.type ts h0
  refine wpl_run hg ?_ (hK w' h1 h2)
  simp [execOp, ho, hx, hr, resolve, invoke, builtin]

/-- How many entries a map has. -/
def MapLen (w : World) (m : Nat) (n : Nat) : Prop := ∃ es clock, w.heap[m]? = some (.map es clock) ∧ es.size = n
theorem MapRep.len (h : MapRep w m f) : ∃ n, MapLen w m n := by obtain ⟨es, c, hh, _⟩ := h; exact ⟨_, es, c, hh, rfl⟩

theorem wpl_lenMap (hg : o.guard = none) (x : Operand) {ts : Array TypeId} (ho : o.op = .call { callee := .builtin .len, args := #[x], argTypes := ts }) (h0 : ts[0]? = some t) (ht : P.underlying t = some (.map kt et))
    (hx : a.eval x = .map (some m)) {n : Nat} (h : MapLen w m n)
    (hK : wpList P ops Q rest (a.put o.dst (.int .i64 n)) w) : wpList P ops Q (o :: rest) a w := by
  obtain ⟨es, c, hh, rfl⟩ := h
  refine wpl_run (v := .int .i64 es.size) hg ?_ hK
  simp [execOp, ho, hx, resolve, invoke, builtin, Builtin.len_, h0, run_underlying ht, getObj_map hh, goInt]

/-- An iterator in block r over the map in block m, which reads as f: the keys in vis were told; left: how many are to come. -/
def IterRep (w : World) (r m : Nat) (f : Nat → Option Value) (vis : List Nat) (left : Nat) : Prop :=
  ∃ es clock seen, w.heap[m]? = some (.map es clock) ∧ w.heap[r]? = some (.mapIter (some m) clock seen clock) ∧ MapOk es.toList clock f ∧
    (∀ e ∈ es.toList, (e.born ∈ seen ↔ ∃ k ∈ vis, kOf e = (k : Int))) ∧ left = (es.toList.filter fun e => !seen.contains e.born).length ∧ vis.Nodup ∧ (∀ k ∈ vis, (f k).isSome = true)

theorem IterRep.rep {r : Nat} {vis : List Nat} {left : Nat} (h : IterRep w r m f vis left) : MapRep w m f := by
  obtain ⟨es, c, seen, hh, _, ho, _⟩ := h
  exact ⟨es, c, hh, ho⟩
theorem IterRep.of_block {r : Nat} {vis : List Nat} {left : Nat} (h : IterRep w r m f vis left) (hm : w'.heap[m]? = w.heap[m]?) (hr : w'.heap[r]? = w.heap[r]?) : IterRep w' r m f vis left := by
  obtain ⟨es, c, seen, hh, hi, rest⟩ := h
  exact ⟨es, c, seen, hm.trans hh, hr.trans hi, rest⟩
theorem IterRep.lt {r : Nat} {vis : List Nat} {left : Nat} (h : IterRep w r m f vis left) : r < w.heap.size := by
  obtain ⟨es, c, seen, _, hi, _⟩ := h
  exact (Array.getElem?_eq_some_iff.1 hi).1
theorem IterRep.mod {S : Nat → Prop} {r : Nat} {vis : List Nat} {left : Nat} (h : IterRep w r m f vis left) (hm : Mod S w w') (h1 : ¬ S m) (h2 : ¬ S r) : IterRep w' r m f vis left :=
  h.of_block (hm.block m h.rep.lt h1) (hm.block r h.lt h2)

/-- How many keys are to come: a number of the world's. -/
def iterLeft (w : World) (m r : Nat) : Nat :=
  match w.heap[m]?, w.heap[r]? with
  | some (.map es _), some (.mapIter _ _ seen _) => (es.toList.filter fun e => !seen.contains e.born).length
  | _, _ => 0
theorem IterRep.left_eq {r : Nat} {vis : List Nat} {left : Nat} (h : IterRep w r m f vis left) : iterLeft w m r = left := by
  obtain ⟨es, c, seen, hh, hi, _, _, hl, _⟩ := h
  unfold iterLeft
  rw [hh, hi]
  exact hl.symm

theorem wpl_range (hg : o.guard = none) (x : Operand) (ho : o.op = .range t x) (ht : P.underlying t = some (.map kt et)) (hx : a.eval x = .map (some m)) (h : MapRep w m f)
    (hK : ∀ w' left, IterRep w' w.heap.size m f [] left → Mod Non w w' → Hid (w'.heap.size = w.heap.size + 1) → wpList P ops Q rest (a.put o.dst (.pointer (some ⟨w.heap.size, 0, none⟩))) w') : wpList P ops Q (o :: rest) a w := by
  have hlt := h.lt
  obtain ⟨es, clock, hh, hok⟩ := h
  refine wpl_run (v := .pointer (some ⟨w.heap.size, 0, none⟩)) (w' := w.alloc (.mapIter (some m) clock #[] clock)) hg ?_ (hK _ _ ⟨es, clock, #[], ?_, heap_alloc_new w _, hok, ?_, rfl, .nil, by simp⟩ ((Mod.refl _ _).alloc _) (Lib.hid (by simp)))
  · simp [execOp, ho, hx, Instr.range, run_underlying ht, getObj_map hh, newObj, Sem.run]
  · rw [Below.heap_alloc w _ m hlt]; exact hh
  · intro e _; simp

theorem filter_push {l : List MapEntry} {seen : Array Nat} {e : MapEntry} (he : e ∈ l) (hs : seen.contains e.born = false) :
    (l.filter fun x => !(seen.push e.born).contains x.born).length < (l.filter fun x => !seen.contains x.born).length := by
  have h1 : (l.filter fun x => !(seen.push e.born).contains x.born) = (l.filter fun x => !seen.contains x.born).filter (fun x => !(x.born == e.born)) := by
    rw [List.filter_filter]
    apply List.filter_congr
    intro x _
    cases hx : (x.born == e.born) <;> simp_all
  rw [h1, List.length_filter_lt_length_iff_exists]
  exact ⟨e, List.mem_filter.2 ⟨he, by simpa using hs⟩, by simp⟩

/-- A step of the iterator: at the end all keys were told; else one more. -/
theorem run_next_rep {r : Nat} {vis : List Nat} {left : Nat} (h : IterRep w r m f vis left) (ty : TypeId) :
    (∃ w', (Instr.next (.pointer (some ⟨r, 0, none⟩)) false ty).run P w = .ok (.tuple #[.bool false]) w' ∧ Mod Non w w' ∧ ∀ k : Nat, (f k).isSome = true → k ∈ vis) ∨
    (∃ (w' : World) (k : Nat) (v : Value) (left' : Nat), (Instr.next (.pointer (some ⟨r, 0, none⟩)) false ty).run P w = .ok (.tuple #[.bool true, .int .u32 k, v]) w' ∧ Mod (One r) w w' ∧ f k = some v ∧ k ∉ vis ∧ left' < left ∧ IterRep w' r m f (k :: vis) left' ∧
      (Instr.entry (.pointer (some ⟨r, 0, none⟩))).run P w' = .ok (.tuple #[.int .u32 k, v]) w') := by
  obtain ⟨es, clock, seen, hh, hi, hok, hseen, hleft, hvn, hvs⟩ := h
  have hg : (getObj r).run P w = .ok (.mapIter (some m) clock seen clock) w := by simp [getObj, Sem.run, hi]
  have hold : (es.filter fun e => !seen.contains e.born).filter (·.born < clock) = es.filter fun e => !seen.contains e.born := by
    rw [Array.filter_filter, ← Array.toList_inj, Array.toList_filter, Array.toList_filter]
    apply List.filter_congr
    intro e he
    have := hok.born e he
    simp [this]
  have hnew : (es.filter fun e => !seen.contains e.born).filter (·.born ≥ clock) = #[] := by
    rw [Array.filter_eq_empty_iff]
    intro e he
    have := hok.born e (by simpa using (Array.mem_filter.1 he).1)
    simp; omega
  have hstale : (!seen.isEmpty && !es.isEmpty && es.all (·.born ≥ clock)) = false := by
    cases hes : es.isEmpty with
    | true => simp
    | false =>
      have hpos : 0 < es.size := by
        rcases Nat.eq_zero_or_pos es.size with h0 | h0
        · simp [Array.isEmpty, h0] at hes
        · exact h0
      have hb := hok.born es[0] (by simp)
      have : es.all (·.born ≥ clock) = false := by
        rw [Bool.eq_false_iff]
        intro hall
        rw [Array.all_eq_true] at hall
        have := hall 0 hpos
        simp at this
        omega
      simp [this]
  obtain ⟨said, hnx⟩ : ∃ said : String, (Instr.next (.pointer (some ⟨r, 0, none⟩)) false ty).run P w =
      ((do
        let candidates := (if (es.filter fun e => !seen.contains e.born).isEmpty then #[none] else #[]) ++ (es.filter fun e => !seen.contains e.born).map some
        match candidates[← choose (.mapNext candidates.size)]? with
        | some (some e) =>
          setObj r (.mapIter (some m) clock (seen.push e.born) clock)
          pure (.tuple #[.bool true, e.key, e.val])
        | some none => pure (.tuple #[.bool false])
        | none => stuck said) : Sem Value).run P w := by
    apply Exists.intro
    simp only [Instr.next, Sem.run_bind, hg, Result.andThen_ok, getObj_map hh, hstale, Bool.false_eq_true, if_false, hold, hnew, Array.append_empty]
    rfl
  have hch : ∀ n : Nat, 0 < n → ∃ i w1, (choose (.mapNext n)).run P w = .ok i w1 ∧ i < n ∧ w1.heap = w.heap ∧ w1.os = w.os ∧ w1.tape = w.tape ∧ w1.output = w.output := by
    intro n hn
    by_cases h1 : n ≤ 1
    · exact ⟨0, w, by simp [choose, Sem.run, Question.forced, h1], hn, rfl, rfl, rfl, rfl⟩
    · refine ⟨w.tape w.drawn (.mapNext n) % n, w.drew, ?_, Nat.mod_lt _ hn, rfl, rfl, rfl, rfl⟩
      have : (Question.mapNext n).forced = false := by simp [Question.forced]; omega
      simp only [choose, Sem.run, this, Bool.false_eq_true, if_false]
      rfl
  by_cases hem : (es.filter fun e => !seen.contains e.born) = #[]
  · left
    obtain ⟨i, w1, hc, hlt, e1, e2, e3, e4⟩ := hch 1 (by omega)
    have hi0 : i = 0 := by omega
    subst hi0
    refine ⟨w1, ?_, ⟨e2, e3, e4, by rw [e1]; exact Nat.le_refl _, fun k _ _ => by rw [e1]⟩, fun k hk => ?_⟩
    · have hcand : ((if (#[] : Array MapEntry).isEmpty then #[none] else #[]) ++ (#[] : Array MapEntry).map some) = #[(none : Option MapEntry)] := by simp
      rw [hnx]
      simp only [hem, hcand, Sem.run_bind, List.size_toArray, List.length_cons, List.length_nil, Nat.zero_add, hc, Result.andThen_ok]
      rfl
    · obtain ⟨v, hv⟩ := Option.isSome_iff_exists.1 hk
      obtain ⟨e, he, hek, _⟩ := (hok.spec k v).1 hv
      rw [Array.filter_eq_empty_iff] at hem
      have := hem e (by simpa using he)
      simp at this
      obtain ⟨k', hk', hek'⟩ := (hseen e he).1 this
      have : k' = k := by omega
      exact this ▸ hk'
  · right
    have hpos : 0 < (es.filter fun e => !seen.contains e.born).size := by
      rcases Nat.eq_zero_or_pos (es.filter fun e => !seen.contains e.born).size with h0 | h0
      · exact absurd (Array.eq_empty_of_size_eq_zero h0) hem
      · exact h0
    obtain ⟨i, w1, hc, hlt, e1, e2, e3, e4⟩ := hch _ hpos
    have hisE : (es.filter fun e => !seen.contains e.born).isEmpty = false := by simpa [Array.isEmpty] using hpos
    obtain ⟨e, hei⟩ : ∃ e, (es.filter fun e => !seen.contains e.born)[i]? = some e := ⟨_, Array.getElem?_eq_getElem hlt⟩
    have hmem : e ∈ es.filter fun e => !seen.contains e.born := Array.mem_of_getElem? hei
    obtain ⟨hein, hnot⟩ := Array.mem_filter.1 hmem
    have hel : e ∈ es.toList := by simpa using hein
    have hcn : seen.contains e.born = false := by simpa using hnot
    obtain ⟨k, hk⟩ := hok.key e hel
    have hkk := kOf_of hk
    have hfk : f k = some e.val := (hok.spec k e.val).2 ⟨e, hel, hkk, rfl⟩
    have hi1 : w1.heap[r]? = some (.mapIter (some m) clock seen clock) := by rw [e1]; exact hi
    let w2 : World := { w1 with heap := w1.heap.setIfInBounds r (.mapIter (some m) clock (seen.push e.born) clock) }
    have hmr : m ≠ r := by rintro rfl; rw [hh] at hi; cases hi
    have hrm : ¬ r = m := fun e => hmr e.symm
    have hm2 : w2.heap[m]? = some (.map es clock) := by
      show (w1.heap.setIfInBounds r _)[m]? = _
      simp [hrm, e1, hh]
    have hr2 : w2.heap[r]? = some (.mapIter (some m) clock (seen.push e.born) clock) := by
      show (w1.heap.setIfInBounds r _)[r]? = _
      have := (Array.getElem?_eq_some_iff.1 hi1).1
      simp [this]
    have hvis : k ∉ vis := by
      intro hin
      have := (hseen e hel).2 ⟨k, hin, hkk⟩
      have hc' : seen.contains e.born = true := by simpa using this
      rw [hcn] at hc'
      cases hc'
    refine ⟨w2, k, e.val, _, ?_, ⟨e2, e3, e4, by show _ ≤ (w1.heap.setIfInBounds r _).size; simp [e1], fun n _ hn => ?_⟩, hfk, hvis, ?_, ⟨es, clock, seen.push e.born, hm2, hr2, hok, ?_, rfl, ?_, ?_⟩, ?_⟩
    · rw [hnx]
      simp only [hisE, Bool.false_eq_true, if_false, Array.empty_append, Array.size_map, Sem.run_bind, hc, Result.andThen_ok, Array.getElem?_map, hei, Option.map_some]
      simp [setObj, Sem.run, hi1, hk, w2]
    · show (w1.heap.setIfInBounds r _)[n]? = _
      have hn' : ¬ r = n := fun e => hn e.symm
      simp [hn', e1]
    · rw [hleft]; exact filter_push hel hcn
    · intro e' he'
      simp only [Array.mem_push, List.mem_cons, exists_eq_or_imp, hseen e' he']
      constructor
      · rintro (h | h)
        · exact .inr h
        · left
          have : e' = e := by
            obtain ⟨i1, h1⟩ := List.mem_iff_getElem?.1 he'
            obtain ⟨i2, h2⟩ := List.mem_iff_getElem?.1 hel
            have := pair_ne MapEntry.born hok.bornNodup h1 h2 h
            subst this
            rw [h1] at h2
            exact Option.some.inj h2
          rw [this]; exact hkk
      · rintro (h | h)
        · right
          have : e' = e := by
            obtain ⟨i1, h1⟩ := List.mem_iff_getElem?.1 he'
            obtain ⟨i2, h2⟩ := List.mem_iff_getElem?.1 hel
            have := pair_ne kOf hok.nodup h1 h2 (h.trans hkk.symm)
            subst this
            rw [h1] at h2
            exact Option.some.inj h2
          rw [this]
        · exact .inl h
    · exact List.nodup_cons.2 ⟨hvis, hvn⟩
    · intro k' hk'
      rcases List.mem_cons.1 hk' with rfl | hk'
      · simp [hfk]
      · exact hvs k' hk'
    · have hgr : (getObj r).run P w2 = .ok (.mapIter (some m) clock (seen.push e.born) clock) w2 := by simp [getObj, Sem.run, hr2]
      have hfind : es.find? (fun x => x.born == e.born) = some e := by
        rw [← Array.find?_toList]
        rw [List.find?_eq_some_iff_getElem]
        obtain ⟨j, hj⟩ := List.mem_iff_getElem?.1 hel
        obtain ⟨hjl, hje⟩ := List.getElem?_eq_some_iff.1 hj
        refine ⟨by simp, j, hjl, hje, fun j' hj' => ?_⟩
        simp only [Bool.not_eq_true', beq_eq_false_iff_ne]
        intro hb
        have := pair_ne MapEntry.born hok.bornNodup (List.getElem?_eq_getElem (Nat.lt_trans hj' hjl)) hj hb
        omega
      simp [Instr.entry, hgr, getObj_map hm2, hfind, hk]

theorem wpl_next (hg : o.guard = none) (x : Operand) (ho : o.op = .next x false) {r : Nat} {vis : List Nat} {left : Nat} (hx : a.eval x = .pointer (some ⟨r, 0, none⟩)) (h : IterRep w r m f vis left)
    (hEnd : ∀ w', Mod Non w w' → (∀ k, (f k).isSome = true → k ∈ vis) → wpList P ops Q rest (a.put o.dst (.tuple #[.bool false])) w')
    (hK : ∀ w' k v left', Mod (One r) w w' → f k = some v → k ∉ vis → left' < left → IterRep w' r m f (k :: vis) left' →
      (Instr.entry (.pointer (some ⟨r, 0, none⟩))).run P w' = .ok (.tuple #[.int .u32 (k : Int), v]) w' → wpList P ops Q rest (a.put o.dst (.tuple #[.bool true, .int .u32 k, v])) w') : wpList P ops Q (o :: rest) a w := by
  rcases run_next_rep (P := P) h o.type with ⟨w', hr, hm, he⟩ | ⟨w', k, v, left', hr, hm, hf, hv, hl, hi, hen⟩
  · refine wpl_run hg ?_ (hEnd w' hm he)
    simp [execOp, ho, hx, hr]
  · refine wpl_run hg ?_ (hK w' k v left' hm hf hv hl hi hen)
    simp [execOp, ho, hx, hr]
end
end Go.Proofs.YtgillcppnpkkiaaGreatDoor
