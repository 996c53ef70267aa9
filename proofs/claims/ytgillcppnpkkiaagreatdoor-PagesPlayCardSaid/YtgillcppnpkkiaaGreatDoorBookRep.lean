/- A Book of lists of bytes: what its memory reads as; a list more. -/
import Derived.Test.YtgillcppnpkkiaaGreatDoorBookNone
import Derived.Test.YtgillcppnpkkiaaGreatDoorFileOps
namespace Go.Proofs.YtgillcppnpkkiaaGreatDoor
open Go Go.RowKit
section
variable {α β : Type} {f : α → List β} {c : Nat}
theorem fm_length (hf : ∀ x, (f x).length = c) (l : List α) : (l.flatMap f).length = l.length * c := by
  induction l with
  | nil => simp
  | cons x l ih => rw [List.flatMap_cons, List.length_append, hf, ih, List.length_cons, Nat.add_mul, Nat.one_mul, Nat.add_comm]
theorem fm_get (hf : ∀ x, (f x).length = c) {l : List α} {i : Nat} {x : α} (h : l[i]? = some x) {j : Nat} (hj : j < c) : (l.flatMap f)[i * c + j]? = (f x)[j]? := by
  induction l generalizing i with
  | nil => simp at h
  | cons y l ih =>
    rw [List.flatMap_cons]
    cases i with
    | zero =>
      simp at h
      subst h
      rw [Nat.zero_mul, Nat.zero_add, List.getElem?_append_left (by rw [hf]; exact hj)]
    | succ i =>
      simp at h
      have e : (i + 1) * c + j = c + (i * c + j) := by rw [Nat.add_mul, Nat.one_mul]; omega
      rw [e, List.getElem?_append_right (by rw [hf]; omega), hf, Nat.add_sub_cancel_left]
      exact ih h
theorem fm_set (hf : ∀ x, (f x).length = c) {l : List α} {i : Nat} {x y : α} (h : l[i]? = some x) {j : Nat} (hj : j < c) (u : β) (hy : f y = (f x).set j u) : (l.set i y).flatMap f = (l.flatMap f).set (i * c + j) u := by
  induction l generalizing i with
  | nil => simp at h
  | cons z l ih =>
    cases i with
    | zero =>
      simp at h
      subst h
      rw [List.set_cons_zero, List.flatMap_cons, List.flatMap_cons, Nat.zero_mul, Nat.zero_add, List.set_append_left _ _ (by rw [hf]; exact hj), hy]
    | succ i =>
      simp at h
      have e : (i + 1) * c + j = c + (i * c + j) := by rw [Nat.add_mul, Nat.one_mul]; omega
      rw [List.set_cons_succ, List.flatMap_cons, List.flatMap_cons, ih h, e, List.set_append_right _ _ (by rw [hf]; omega), hf, Nat.add_sub_cancel_left]
end
/-- A list that is held: its block, its length and room, the longer one, its number. -/
structure HB where
  g : Option Nat
  len : Nat
  cap : Nat
  long : Value
  n : Nat
def HB.a (x : HB) : Option Addr := x.g.map fun g => ⟨g, 0, none⟩
def hbc (x : HB) : List Value := [.slice x.a x.len x.cap, x.long, .int .i64 x.n]
def hbs (l : List HB) : List Value := l.flatMap hbc
theorem hbc_length (x : HB) : (hbc x).length = 3 := rfl
theorem hbs_length (l : List HB) : (hbs l).length = l.length * 3 := fm_length hbc_length l
structure Bk where
  n : Nat
  v : Value
  l : List HB
/-- What is asked of a list that is held. -/
structure HbOk (w : World) (x : HB) : Prop where
  blk : ∀ g, x.g = some g → ∃ cur, Blk w g 5 cur ∧ x.cap ≤ cur.size
  none : x.g = none → x.len = 0 ∧ x.cap = 0
  le : x.len ≤ x.cap
  max : x.len ≤ 2097152 ∧ x.cap ≤ 9223372036854775807
def BS (k : Nat) (B : Bk) : Nat → Prop := fun b => b = k ∨ B.v.ownBlock = some b ∨ ∃ x, x ∈ B.l ∧ x.g = some b
structure BookRep (w : World) (k : Nat) (B : Bk) : Prop where
  blk : Blk w k 54 (bkc B.n B.v)
  own : w.ownsRow 0 128 3 B.v B.l.length (hbs B.l)
  ok : ∀ x ∈ B.l, HbOk w x
  sep : B.l.Pairwise (fun a b => ∀ g, a.g = some g → b.g ≠ some g)
  len : B.l.length ≤ B.n
  num : ∀ x ∈ B.l, x.n ≤ B.n ∧ x.long = .slice Option.none 0 0
section
variable {w w' : World} {k : Nat} {B : Bk} {S : Nat → Prop}
theorem HbOk.mod {x : HB} (h : HbOk w x) (hm : Mod S w w') (hn : ∀ g, x.g = some g → ¬ S g) : HbOk w' x :=
  ⟨fun g e => by obtain ⟨cur, h1, h2⟩ := h.blk g e; exact ⟨cur, h1.mod hm (hn g e), h2⟩, h.none, h.le, h.max⟩
theorem BookRep.lt (h : BookRep w k B) {b : Nat} (hb : BS k B b) : b < w.heap.size := by
  rcases hb with rfl | hb | ⟨x, hx, e⟩
  · exact h.blk.lt
  · exact (h.own.lt b hb).2
  · obtain ⟨cur, h1, _⟩ := (h.ok x hx).blk b e
    exact h1.lt
theorem BookRep.mod (h : BookRep w k B) (hm : Mod S w w') (hn : ∀ b, BS k B b → ¬ S b) : BookRep w' k B :=
  ⟨h.blk.mod hm (hn k (.inl rfl)), owns_keep h.own (fun b hb => hm.block b (h.own.lt b hb).2 (hn b (.inr (.inl hb)))), fun x hx => (h.ok x hx).mod hm (fun g e => hn g (.inr (.inr ⟨x, hx, e⟩))), h.sep, h.len, h.num⟩
theorem BookRep.non (h : BookRep w k B) (hm : Mod Non w w') : BookRep w' k B := h.mod hm (fun _ _ x => x)
theorem und_hbs : Tryz.prog.underlying 34 = some (.slice 128) := by kernel_rfl
theorem info_hb : (Tryz.prog.info? 128).map (fun i => (i.zero.map (fun z => z.cells.size), i.size, i.bytes)) = some (some 3, 3, 56) := by kernel_rfl
theorem hb_info : ∃ i z, Tryz.prog.info? 128 = some i ∧ i.zero = some z ∧ z.cells.size = 3 ∧ i.size = 3 ∧ i.bytes = 56 := by
  have h := info_hb
  cases hi : Tryz.prog.info? 128 with
  | none => rw [hi] at h; simp at h
  | some i =>
    rw [hi] at h
    cases hz : i.zero with
    | none => simp [hz] at h
    | some z =>
      simp [hz] at h
      exact ⟨i, z, rfl, hz, h.1, h.2.1, h.2.2⟩
theorem hbs_one (l : List HB) (h : ∀ x ∈ l, x.long.oneCell' = true) : ∀ u ∈ hbs l, u.oneCell' = true := by
  intro u hu
  obtain ⟨x, hx, hu⟩ := List.mem_flatMap.1 hu
  simp only [hbc, List.mem_cons, List.not_mem_nil, or_false] at hu
  rcases hu with rfl | rfl | rfl
  · rfl
  · exact h x hx
  · rfl
end
end Go.Proofs.YtgillcppnpkkiaaGreatDoor
