/- What a pager's memory reads as; 'there'. -/
import Derived.Test.YtmclbechnfedmaaPage
namespace Go.Proofs.Ytmclbechnfedmaa
open Go Go.RowKit

/-- A pager as it is: where its parts lie, and what they hold. -/
structure Pg where
  d : Nat
  m1 : Nat
  m2 : Nat
  m3 : Nat
  root : Nat
  was : Nat
  size : Nat
  now : Nat → Option (List UInt8)
  kept : Nat → Option (List UInt8)
  dirty : Nat → Bool

def mapV (f : Nat → Option (List UInt8)) : Nat → Option Value := fun n => (f n).map pv
theorem mapV_some {f : Nat → Option (List UInt8)} {n : Nat} {l : List UInt8} (h : f n = some l) : mapV f n = some (pv l) := by unfold mapV; rw [h]; rfl
theorem mapV_none {f : Nat → Option (List UInt8)} {n : Nat} (h : f n = none) : mapV f n = none := by unfold mapV; rw [h]; rfl
theorem mapV_upd (f : Nat → Option (List UInt8)) (k : Nat) (o : Option (List UInt8)) : mapV (upd f k o) = upd (mapV f) k (o.map pv) := by
  funext n; unfold mapV upd; split <;> rfl

/-- A set of numbers, each with some count. -/
def DirtyRep (w : World) (m : Nat) (s : Nat → Bool) : Prop := ∃ f, MapRep w m f ∧ (∀ n, (f n).isSome = s n) ∧ ∀ n v, f n = some v → ∃ c : Int, v = .int .i64 c

def Pg.cells (G : Pg) : Array Value := #[.pointer (some ⟨G.d, 0, none⟩), .map (some G.m1), .map (some G.m2), .map (some G.m3), .int .u32 G.root, .int .u32 G.was, .int .i64 G.size]

structure PagRep (w : World) (p : Nat) (G : Pg) : Prop where
  blk : Blk w p 60 G.cells
  now : MapRep w G.m1 (mapV G.now)
  kept : MapRep w G.m2 (mapV G.kept)
  dirty : DirtyRep w G.m3 G.dirty
  ne12 : G.m1 ≠ G.m2
  ne13 : G.m1 ≠ G.m3
  ne23 : G.m2 ≠ G.m3
  len : ∀ n l, G.now n = some l → l.length = 256
  lenK : ∀ n l, G.kept n = some l → l.length = 256

/-- The blocks of a pager. -/
def PS (p : Nat) (G : Pg) : Nat → Prop := fun b => b = p ∨ b = G.m1 ∨ b = G.m2 ∨ b = G.m3

section
variable {w w' : World} {p : Nat} {G : Pg} {S : Nat → Prop}
theorem DirtyRep.mod {m : Nat} {s : Nat → Bool} (h : DirtyRep w m s) (hm : Mod S w w') (hn : ¬ S m) : DirtyRep w' m s := by
  obtain ⟨f, h1, h2⟩ := h
  exact ⟨f, h1.mod hm hn, h2⟩
/-- The count at a key, there or not; and the set with that key. -/
theorem DirtyRep.get {m : Nat} {s : Nat → Bool} (h : DirtyRep w m s) (k : Nat) : ∃ f c, MapRep w m f ∧ (f k).getD (.int .i64 0) = .int .i64 c ∧
    ∀ (w' : World) (c' : Int), MapRep w' m (upd f k (some (.int .i64 c'))) → DirtyRep w' m (upd s k true) := by
  obtain ⟨f, h1, h2, h3⟩ := h
  obtain ⟨c, hc⟩ : ∃ c : Int, (f k).getD (.int .i64 0) = .int .i64 c := by
    cases hf : f k with
    | none => exact ⟨0, rfl⟩
    | some v => exact h3 _ _ hf
  refine ⟨f, c, h1, hc, fun w' c' h' => ⟨_, h', fun n => ?_, fun n v hv => ?_⟩⟩
  · unfold upd; split
    · rfl
    · exact h2 n
  · unfold upd at hv; split at hv
    · cases hv; exact ⟨_, rfl⟩
    · exact h3 n v hv

theorem PagRep.mod (h : PagRep w p G) (hm : Mod S w w') (hn : ∀ b, PS p G b → ¬ S b) : PagRep w' p G :=
  ⟨h.blk.mod hm (hn _ (.inl rfl)), h.now.mod hm (hn _ (.inr (.inl rfl))), h.kept.mod hm (hn _ (.inr (.inr (.inl rfl)))), h.dirty.mod hm (hn _ (.inr (.inr (.inr rfl)))), h.ne12, h.ne13, h.ne23, h.len, h.lenK⟩
theorem PagRep.non (h : PagRep w p G) (hm : Mod Non w w') : PagRep w' p G := h.mod hm (fun _ _ x => x)
theorem PagRep.lt (h : PagRep w p G) {b : Nat} (hb : PS p G b) : b < w.heap.size := by
  rcases hb with rfl | rfl | rfl | rfl
  · exact h.blk.lt
  · exact h.now.lt
  · exact h.kept.lt
  · obtain ⟨f, hf, _⟩ := h.dirty; exact hf.lt
theorem DirtyRep.blk_ne {m g : Nat} {t : TypeId} {cs : Array Value} {s : Nat → Bool} (h : DirtyRep w m s) (hb : Blk w g t cs) : m ≠ g := by
  obtain ⟨f, hf, _⟩ := h
  exact hf.blk_ne hb

theorem there_ok (h : PagRep w p G) : Calls Try.prog 22 #[.pointer (some ⟨p, 0, none⟩)] w fun e w' => e = .returned (.bool true) ∧ w' = w := by
  have c := h.blk.cell
  unfold Pg.cells at c
  go_enter Try.func22, Try.ntmps22
  go_wp2
  go_ret
  exact ⟨rfl, rfl⟩
theorem there_nil : Calls Try.prog 22 #[.pointer none] w fun e w' => e = .returned (.bool false) ∧ w' = w := by
  go_enter Try.func22, Try.ntmps22
  go_wp2
  go_ret
  exact ⟨rfl, rfl⟩
end
end Go.Proofs.Ytmclbechnfedmaa
