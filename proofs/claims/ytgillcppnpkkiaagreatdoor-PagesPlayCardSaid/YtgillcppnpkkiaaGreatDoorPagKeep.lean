/- Pages as values: 256 bytes; variables that hold one. What a pager's memory reads as; 'there'. Slices: rows that are read; rows of bytes in new memory; slices.Clone and slices.Clip of bytes. Pager.Get and Pager.Free. Regions that draw their order and only read ahead of one last operation: two laws more. Pager.Put. Pager.all and Pager.Used: the pages that are used, rising. Pager.Undo and Pager.keep. Pager.keep. Names: their order; cmp.Compare of strings; 'may'. -/
import Derived.Test.YtgillcppnpkkiaaGreatDoorProg
import Derived.Test.YtgillcppnpkkiaaGreatDoorMap
import Derived.StillTailTactics
import Derived.Sort.Walk0
namespace Go.Proofs.YtgillcppnpkkiaaGreatDoor
open Go Go.RowKit

def u8v (b : UInt8) : Value := .int .u8 (b.toNat : Int)
/-- The cells of bytes. -/
def bv (l : List UInt8) : List Value := l.map u8v
/-- A page, as a value. -/
def pv (l : List UInt8) : Value := .agg (bv l).toArray
def zero256 : List UInt8 := List.replicate 256 0
theorem bv_length (l : List UInt8) : (bv l).length = l.length := by simp [bv]
theorem bv_append (l k : List UInt8) : bv (l ++ k) = bv l ++ bv k := by simp [bv]
theorem bv_one (l : List UInt8) : ∀ u ∈ bv l, u.oneCell' = true := by
  intro u hu
  obtain ⟨b, _, rfl⟩ := List.mem_map.1 hu
  rfl
theorem bv_get (l : List UInt8) (i : Nat) : (bv l)[i]? = (l[i]?).map u8v := by simp [bv]
theorem zero256_length : zero256.length = 256 := List.length_replicate
theorem pv_zero : pv zero256 = .agg (Array.replicate 256 (.int .u8 0)) := by
  unfold pv bv zero256
  rw [List.map_replicate, List.toArray_replicate]
  rfl

theorem page_info : (Tryz.prog.info? 98).map (fun i => (i.zero, i.size)) = some (some (.agg (Array.replicate 256 (.int .u8 0))), 256) := by kernel_rfl
theorem page_und : Tryz.prog.underlying 98 = some (.array 256 5) := by kernel_rfl
theorem page_size : (Tryz.prog.info? 98).map (·.size) = some 256 := by
  have := page_info
  cases h : Tryz.prog.info? 98 with
  | none => rw [h] at this; cases this
  | some i => rw [h] at this; simp at this ⊢; exact this.2
theorem page_zero (w : World) : (zeroValue 98).run Tryz.prog w = .ok (pv zero256) w := by
  have := page_info
  rw [pv_zero]
  cases h : Tryz.prog.info? 98 with
  | none => rw [h] at this; cases this
  | some i => rw [h] at this; simp at this; simp [zeroValue, typeInfo, h, this.1]

theorem zeroCells_page : Tryz.zeroCells98 = (bv zero256).toArray := by kernel_rfl
theorem und_mapPage : Tryz.prog.underlying 83 = some (.map 55 98) := by kernel_rfl
theorem und_mapInt : Tryz.prog.underlying 84 = some (.map 55 3) := by kernel_rfl
theorem und_u32 : Tryz.prog.underlying 55 = some (.int .u32) := by kernel_rfl
theorem zero_int (w : World) : (zeroValue 3).run Tryz.prog w = .ok (.int .i64 0) w := by kernel_rfl

section
variable {ops : Array Oper} {Q : Exit → Act → World → Prop} {a : Act} {w w' : World} {rest : List Oper} {o : Oper}

/-- A new variable that holds a page. -/
theorem wpl_alloc_page (hg : o.guard = none) (ho : o.op = .alloc 98)
    (hK : ∀ w', Blk w' w.heap.size 98 (bv zero256).toArray → Mod Non w w' → Hid (w'.heap.size = w.heap.size + 1) → wpList Tryz.prog ops Q rest (a.put o.dst (.pointer (some ⟨w.heap.size, 0, none⟩))) w') : wpList Tryz.prog ops Q (o :: rest) a w := by
  refine wpl_run (v := .pointer (some ⟨w.heap.size, 0, none⟩)) (w' := w.alloc (.cells (bv zero256).toArray 98)) hg ?_ (hK _ (Blk.new _ _ _) ((Mod.refl _ _).alloc _) (Lib.hid (by simp)))
  simp [execOp, ho, Instr.alloc, newVar, newRow, newObj, Value.cells, Sem.run, zeroCells_page]

/-- A page is stored in a variable. -/
theorem wpl_store_page (hg : o.guard = none) (x y : Operand) (ho : o.op = .store 98 x y) {g : Nat} {t : TypeId} {cur : Array Value} {l : List UInt8} (hx : a.eval x = .pointer (some ⟨g, 0, none⟩)) (hb : Blk w g t cur) (hc : cur.size = 256)
    (hy : a.eval y = pv l) (hl : l.length = 256)
    (hK : ∀ w', Blk w' g t (bv l).toArray → Mod (One g) w w' → Hid (w'.heap.size = w.heap.size) → wpList Tryz.prog ops Q rest (a.put o.dst undef) w') : wpList Tryz.prog ops Q (o :: rest) a w := by
  have hst := run_storeCells_at Tryz.prog g 0 t (bv l) 0 cur w hb (by rw [bv_length]; omega) (bv_one l)
  have e1 : (cur.toList.take (0 + 0) ++ bv l ++ cur.toList.drop (0 + 0 + (bv l).length)).toArray = (bv l).toArray := by
    rw [bv_length]
    simp
    omega
  rw [e1] at hst
  have hsz := page_size
  refine wpl_skip (w' := w.setRow g (bv l).toArray) hg ?_ (hK _ (setRow_heap w g _ _ t _ hb) ⟨rfl, rfl, rfl, by simp [World.setRow], fun k _ hk => setRow_other w g k _ (fun e => hk e)⟩ (Lib.hid (by simp [World.setRow])))
  cases h : Tryz.prog.info? 98 with
  | none => rw [h] at hsz; cases hsz
  | some i =>
    rw [h] at hsz
    simp at hsz
    simp [execOp, ho, hx, hy, Instr.storeAt, Instr.sureAddr, storeVar, pv, Value.cells, sizeOf, typeInfo, h, hsz, bv_length, hl, hst]

theorem wpl_load_page (hg : o.guard = none) (x : Operand) (ho : o.op = .load 98 x) {g : Nat} {t : TypeId} {l : List UInt8} (hx : a.eval x = .pointer (some ⟨g, 0, none⟩)) (hb : Blk w g t (bv l).toArray) (hl : l.length = 256)
    (hK : wpList Tryz.prog ops Q rest (a.put o.dst (pv l)) w) : wpList Tryz.prog ops Q (o :: rest) a w :=
  wpList_load_row hg 98 x ho g hx t _ _ _ hb page_und rfl (by rw [page_size]; simp [bv_length, hl]) hK
end
end Go.Proofs.YtgillcppnpkkiaaGreatDoor

namespace Go.Proofs.YtgillcppnpkkiaaGreatDoor
open Go Go.RowKit

/-- A pager as it is: where its parts lie, and what they hold. -/
structure Pg where
  d : Nat
  m1 : Nat
  m2 : Nat
  m3 : Nat
  root : Nat
  was : Nat
  size : Nat
  now : Nat → Option (List UInt8)
  kept : Nat → Option (List UInt8)
  dirty : Nat → Bool

def mapV (f : Nat → Option (List UInt8)) : Nat → Option Value := fun n => (f n).map pv
theorem mapV_some {f : Nat → Option (List UInt8)} {n : Nat} {l : List UInt8} (h : f n = some l) : mapV f n = some (pv l) := by unfold mapV; rw [h]; rfl
theorem mapV_none {f : Nat → Option (List UInt8)} {n : Nat} (h : f n = none) : mapV f n = none := by unfold mapV; rw [h]; rfl
theorem mapV_upd (f : Nat → Option (List UInt8)) (k : Nat) (o : Option (List UInt8)) : mapV (upd f k o) = upd (mapV f) k (o.map pv) := by
  funext n; unfold mapV upd; split <;> rfl

/-- A set of numbers, each with some count. -/
def DirtyRep (w : World) (m : Nat) (s : Nat → Bool) : Prop := ∃ f, MapRep w m f ∧ (∀ n, (f n).isSome = s n) ∧ ∀ n v, f n = some v → ∃ c : Int, v = .int .i64 c

def Pg.cells (G : Pg) : Array Value := #[.pointer (some ⟨G.d, 0, none⟩), .map (some G.m1), .map (some G.m2), .map (some G.m3), .int .u32 G.root, .int .u32 G.was, .int .i64 G.size]

structure PagRep (w : World) (p : Nat) (G : Pg) : Prop where
  blk : Blk w p 86 G.cells
  now : MapRep w G.m1 (mapV G.now)
  kept : MapRep w G.m2 (mapV G.kept)
  dirty : DirtyRep w G.m3 G.dirty
  ne12 : G.m1 ≠ G.m2
  ne13 : G.m1 ≠ G.m3
  ne23 : G.m2 ≠ G.m3
  len : ∀ n l, G.now n = some l → l.length = 256
  lenK : ∀ n l, G.kept n = some l → l.length = 256

/-- The blocks of a pager. -/
def PS (p : Nat) (G : Pg) : Nat → Prop := fun b => b = p ∨ b = G.m1 ∨ b = G.m2 ∨ b = G.m3

section
variable {w w' : World} {p : Nat} {G : Pg} {S : Nat → Prop}
theorem DirtyRep.mod {m : Nat} {s : Nat → Bool} (h : DirtyRep w m s) (hm : Mod S w w') (hn : ¬ S m) : DirtyRep w' m s := by
  obtain ⟨f, h1, h2⟩ := h
  exact ⟨f, h1.mod hm hn, h2⟩
/-- The count at a key, there or not; and the set with that key. -/
theorem DirtyRep.get {m : Nat} {s : Nat → Bool} (h : DirtyRep w m s) (k : Nat) : ∃ f c, MapRep w m f ∧ (f k).getD (.int .i64 0) = .int .i64 c ∧
    ∀ (w' : World) (c' : Int), MapRep w' m (upd f k (some (.int .i64 c'))) → DirtyRep w' m (upd s k true) := by
  obtain ⟨f, h1, h2, h3⟩ := h
  obtain ⟨c, hc⟩ : ∃ c : Int, (f k).getD (.int .i64 0) = .int .i64 c := by
    cases hf : f k with
    | none => exact ⟨0, rfl⟩
    | some v => exact h3 _ _ hf
  refine ⟨f, c, h1, hc, fun w' c' h' => ⟨_, h', fun n => ?_, fun n v hv => ?_⟩⟩
  · unfold upd; split
    · rfl
    · exact h2 n
  · unfold upd at hv; split at hv
    · cases hv; exact ⟨_, rfl⟩
    · exact h3 n v hv

theorem PagRep.mod (h : PagRep w p G) (hm : Mod S w w') (hn : ∀ b, PS p G b → ¬ S b) : PagRep w' p G :=
  ⟨h.blk.mod hm (hn _ (.inl rfl)), h.now.mod hm (hn _ (.inr (.inl rfl))), h.kept.mod hm (hn _ (.inr (.inr (.inl rfl)))), h.dirty.mod hm (hn _ (.inr (.inr (.inr rfl)))), h.ne12, h.ne13, h.ne23, h.len, h.lenK⟩
theorem PagRep.non (h : PagRep w p G) (hm : Mod Non w w') : PagRep w' p G := h.mod hm (fun _ _ x => x)
theorem PagRep.lt (h : PagRep w p G) {b : Nat} (hb : PS p G b) : b < w.heap.size := by
  rcases hb with rfl | rfl | rfl | rfl
  · exact h.blk.lt
  · exact h.now.lt
  · exact h.kept.lt
  · obtain ⟨f, hf, _⟩ := h.dirty; exact hf.lt
theorem DirtyRep.blk_ne {m g : Nat} {t : TypeId} {cs : Array Value} {s : Nat → Bool} (h : DirtyRep w m s) (hb : Blk w g t cs) : m ≠ g := by
  obtain ⟨f, hf, _⟩ := h
  exact hf.blk_ne hb

theorem there_ok (h : PagRep w p G) : Calls Tryz.prog 44 #[.pointer (some ⟨p, 0, none⟩)] w fun e w' => e = .returned (.bool true) ∧ w' = w := by
  have c := h.blk.cell
  unfold Pg.cells at c
  go_enter Tryz.func44, Tryz.ntmps44
  go_wp2
  go_ret
  exact ⟨rfl, rfl⟩
theorem there_nil : Calls Tryz.prog 44 #[.pointer none] w fun e w' => e = .returned (.bool false) ∧ w' = w := by
  go_enter Tryz.func44, Tryz.ntmps44
  go_wp2
  go_ret
  exact ⟨rfl, rfl⟩
end
end Go.Proofs.YtgillcppnpkkiaaGreatDoor

namespace Go.Proofs.YtgillcppnpkkiaaGreatDoor
open Go Go.RowKit

theorem block_of_add (a : Addr) (n : Nat) : (a.add n).block = a.block := by unfold Addr.add; split <;> rfl
theorem add_lit (g j : Nat) : (⟨g, 0, none⟩ : Addr).add j = ⟨g, j, none⟩ := by unfold Addr.add; split <;> simp_all

/-- The cells of a slice of n elements, wherever they lie; nil is let in. -/
def RowAt (w : World) (A : Option Addr) (n size : Nat) (xs : List Value) : Prop :=
  xs.length = n * size ∧ (0 < n → ∃ ad, A = some ad ∧ ∀ (j : Nat) (u : Value), xs[j]? = some u → w.cell? (ad.add j) = some u)

/-- A row in a block of its own, from base on: v has n elements of it. -/
def Fresh (w : World) (base : Nat) (t : TypeId) (size : Nat) (v : Value) (n : Nat) (xs : List Value) : Prop :=
  ∃ g cap cur, v = .slice (some ⟨g, 0, none⟩) n cap ∧ base ≤ g ∧ Blk w g t cur ∧ n ≤ cap ∧ cap * size ≤ cur.size ∧ cap ≤ maxLen ∧ cur.toList.take (n * size) = xs ∧ xs.length = n * size

section
variable {w w' : World} {A : Option Addr} {n size : Nat} {xs : List Value} {S : Nat → Prop}
theorem RowAt.none : RowAt w none 0 size [] := ⟨by simp, fun h => absurd h (by omega)⟩
theorem RowAt.keep (h : RowAt w A n size xs) (hk : ∀ ad, A = some ad → 0 < n → ∀ j, w'.cell? (ad.add j) = w.cell? (ad.add j)) : RowAt w' A n size xs :=
  ⟨h.1, fun hn => by
    obtain ⟨ad, e, hc⟩ := h.2 hn
    exact ⟨ad, e, fun j u hu => (hk ad e hn j).trans (hc j u hu)⟩⟩
theorem RowAt.lt (h : RowAt w A n size xs) (hn : 0 < n) (hs : 0 < size) : ∃ ad, A = some ad ∧ ad.block < w.heap.size := by
  obtain ⟨ad, e, hc⟩ := h.2 hn
  have hl : 0 < xs.length := by rw [h.1]; exact Nat.mul_pos hn hs
  have := World.block_lt_of_cell? w _ (hc 0 _ (List.getElem?_eq_getElem hl))
  rw [block_of_add] at this
  exact ⟨ad, e, this⟩
theorem RowAt.mod (h : RowAt w A n size xs) (hs : 0 < size) (hm : Mod S w w') (hn : ∀ ad, A = some ad → 0 < n → ¬ S ad.block) : RowAt w' A n size xs := by
  refine ⟨h.1, fun hpos => ?_⟩
  obtain ⟨ad, e, hlt⟩ := h.lt hpos hs
  obtain ⟨ad', e', hc⟩ := h.2 hpos
  have : ad' = ad := by rw [e] at e'; exact (Option.some.inj e').symm
  subst this
  refine ⟨ad', e, fun j u hu => ?_⟩
  rw [← hc j u hu]
  exact World.cell?_of_block (w := w) (hm.block _ (by rw [block_of_add]; exact hlt) (by rw [block_of_add]; exact hn _ e hpos))
theorem RowAt.non (h : RowAt w A n size xs) (hs : 0 < size) (hm : Mod Non w w') : RowAt w' A n size xs := h.mod hs hm (fun _ _ _ x => x)
theorem RowAt.nil_of (h : RowAt w A 0 size xs) : xs = [] := List.eq_nil_of_length_eq_zero (by simpa using h.1)
theorem RowAt.at1 (h : RowAt w A n 1 xs) {j : Nat} (hj : j < n) : ∃ ad u, A = some ad ∧ xs[j]? = some u ∧ w.cell? (ad.add j) = some u := by
  obtain ⟨ad, e, hc⟩ := h.2 (by omega)
  have hl : j < xs.length := by rw [h.1]; omega
  exact ⟨ad, xs[j], e, List.getElem?_eq_getElem hl, hc j _ (List.getElem?_eq_getElem hl)⟩

theorem Fresh.row {base : Nat} {t : TypeId} {g cap : Nat} (h : Fresh w base t size (.slice (some ⟨g, 0, Option.none⟩) n cap) n xs) : RowAt w (some ⟨g, 0, Option.none⟩) n size xs := by
  obtain ⟨g', cap', cur, hv, _, hb, hnc, hcs, _, ht, hl⟩ := h
  injection hv with h1 _ _
  injection h1 with h1
  injection h1 with h1 _ _
  subst h1
  refine ⟨hl, fun _ => ⟨_, rfl, fun j u hu => ?_⟩⟩
  rw [add_lit, hb.cell]
  rw [← ht, List.getElem?_take] at hu
  split at hu
  · simpa using hu
  · cases hu
theorem Fresh.mod {base : Nat} {t : TypeId} {v : Value} (h : Fresh w base t size v n xs) (hm : Mod S w w') (hS : ∀ b, S b → b < base) : Fresh w' base t size v n xs := by
  obtain ⟨g, cap, cur, hv, hb, hk, r⟩ := h
  exact ⟨g, cap, cur, hv, hb, hk.mod hm (fun hs => by have := hS g hs; omega), r⟩
theorem Fresh.of_owns {base : Nat} {t : TypeId} {v : Value} (h : w.ownsRow base t size v n xs) (hn : v ≠ .slice Option.none 0 0) : Fresh w base t size v n xs := by
  rcases h.2 with ⟨e, _⟩ | ⟨g, cap, cur, hv, hb, hk, hnc, hm, hs, ht⟩
  · exact absurd e hn
  · exact ⟨g, cap, cur, hv, hb, hk, hnc, by rw [hs]; exact Nat.le_refl _, hm, ht, h.1⟩
end

section
variable {P : Program} {w : World}
/-- append onto a row of one's own, the source nil, empty or not. -/
theorem run_append_row (base : Nat) (t ty e : TypeId) (i : TypeInfo) (z : Value) (size bytes : Nat) (ht : P.underlying t = some (.slice e)) (hi : P.info? e = some i) (hz : i.zero = some z)
    (hsize : i.size = size) (hby : i.bytes = bytes) (hzs : z.cells.size = size) (hsz : 0 < size)
    {v : Value} {n : Nat} {xs : List Value} (hown : w.ownsRow base e size v n xs) {A : Option Addr} {m c : Nat} {news : List Value} (hr : RowAt w A m size news) (h1 : ∀ u ∈ news, u.oneCell' = true)
    (h63 : n + m ≤ maxLen) (hbytes : (n + m) * bytes ≤ 140737488355328) (hbase : base ≤ w.heap.size) :
    ∃ v' w', (Builtin.append_ #[t, t] ty #[v, .slice A m c]).run P w = .ok v' w' ∧ w'.ownsRow base e size v' (n + m) (xs ++ news) ∧ w.grownBy w' v.ownBlock ∧
      (v' = .slice none 0 0 ↔ v = .slice none 0 0 ∧ m = 0) := by
  by_cases hA : ∃ ad, A = some ad
  · obtain ⟨ad, rfl⟩ := hA
    refine run_append_own (P := P) w base t ty e i z size bytes ht hi hz hsize hby hzs hsz v n xs hown ad m c news hr.1 (fun j u hu => ?_) h1 h63 hbytes hbase
    have hm : 0 < m := by
      rcases Nat.eq_zero_or_pos m with h0 | h0
      · subst h0; rw [hr.nil_of] at hu; simp at hu
      · exact h0
    obtain ⟨ad', e', hc⟩ := hr.2 hm
    cases e'
    exact hc j u hu
  · have hA' : A = none := by
      cases A with
      | none => rfl
      | some ad => exact absurd ⟨ad, rfl⟩ hA
    subst hA'
    have hm : m = 0 := by
      rcases Nat.eq_zero_or_pos m with h0 | h0
      · exact h0
      · obtain ⟨ad, e', _⟩ := hr.2 h0; cases e'
    subst hm
    have hn : news = [] := hr.nil_of
    subst hn
    refine ⟨v, w, ?_, by simpa using hown, World.grownBy.refl w _, by simp⟩
    rcases hown.2 with ⟨rfl, rfl⟩ | ⟨g, cap, cur, rfl, _, _, hnc, _⟩
    · simp [Builtin.append_, run_underlying ht, sizeOf, typeInfo, hi, Builtin.lenOf, Builtin.firstCells]
    · simp [Builtin.append_, run_underlying ht, sizeOf, typeInfo, hi, Builtin.lenOf, Builtin.firstCells, hnc, storeCells]

theorem wpl_append {ops : Array Oper} {rest : List Oper} {o : Oper} {a : Act} {Q : Exit → Act → World → Prop} (hg : o.guard = none) (s x : Operand) (t : TypeId)
    (ho : o.op = .call { callee := .builtin .append, args := #[s, x], argTypes := #[t, t] })
    (base : Nat) (e : TypeId) (i : TypeInfo) (z : Value) (size bytes : Nat) (ht : P.underlying t = some (.slice e)) (hi : P.info? e = some i) (hz : i.zero = some z)
    (hsize : i.size = size) (hby : i.bytes = bytes) (hzs : z.cells.size = size) (hsz : 0 < size)
    {v : Value} {n : Nat} {xs : List Value} (hs : a.eval s = v) (hown : w.ownsRow base e size v n xs) {A : Option Addr} {m c : Nat} {news : List Value} (hx : a.eval x = .slice A m c) (hr : RowAt w A m size news) (h1 : ∀ u ∈ news, u.oneCell' = true)
    (h63 : n + m ≤ maxLen) (hbytes : (n + m) * bytes ≤ 140737488355328) (hbase : base ≤ w.heap.size)
    (h : ∀ v' w', w'.ownsRow base e size v' (n + m) (xs ++ news) → w.grownBy w' v.ownBlock → (v' = .slice none 0 0 ↔ v = .slice none 0 0 ∧ m = 0) → wpList P ops Q rest (a.put o.dst v') w') : wpList P ops Q (o :: rest) a w := by
  obtain ⟨v', w', hrun, h2, h3, h4⟩ := run_append_row (P := P) base t o.type e i z size bytes ht hi hz hsize hby hzs hsz hown (c := c) hr h1 h63 hbytes hbase
  refine wpl_run hg ?_ (h v' w' h2 h3 h4)
  simp [execOp, ho, hs, hx, hrun, resolve, invoke, builtin]
end

theorem und_bytes : Tryz.prog.underlying 56 = some (.slice 5) := by kernel_rfl
theorem info_u8 : (Tryz.prog.info? 5).map (fun i => (i.zero, i.size, i.bytes)) = some (some (.int .u8 0), 1, 1) := by kernel_rfl

section
variable {w : World}
theorem clone_nil : Calls Tryz.prog 51 #[.slice none 0 0] w fun e w' => e = .returned (.slice none 0 0) ∧ w' = w := by
  have hq := fun (W : World) a n c n' c' => Lib.run_eql_slice_nil (P := Tryz.prog) W 56 5 a n c n' c' und_bytes
  go_enter Tryz.func51, Tryz.ntmps51
  go_wp2
  go_ret
  exact ⟨rfl, rfl⟩

set_option maxHeartbeats 400000 in
theorem clone_some (ad : Addr) (n c : Nat) (l : List UInt8) (h : RowAt w (some ad) n 1 (bv l)) (hn : n ≤ 1048576) :
    Calls Tryz.prog 51 #[.slice (some ad) n c] w fun e w' => ∃ v, e = .returned v ∧ Fresh w' w.heap.size 5 1 v n (bv l) ∧ Mod Non w w' := by
  have hq := fun (W : World) a n c n' c' => Lib.run_eql_slice_nil (P := Tryz.prog) W 56 5 a n c n' c' und_bytes
  obtain ⟨i0, hi, hz0, hz1, hz2⟩ := info_parts info_u8
  have hown : (w.alloc (.cells #[] 5)).ownsRow w.heap.size 5 1 (.slice (some ⟨w.heap.size, 0, none⟩) 0 0) 0 [] := World.ownsRow_made w #[] 0 (Nat.le_refl _) (Nat.zero_le _) (by simp)
  have hm1 : Mod Non w (w.alloc (.cells #[] 5)) := (Mod.refl _ _).alloc _
  have hr1 := h.non (by omega) hm1
  have hml : (0 + n) ≤ maxLen := by unfold maxLen; omega
  go_enter Tryz.func51, Tryz.ntmps51
  go_wp2_with (at_builtin; refine wpl_append rfl (.tmp 5) (.tmp 6) _ rfl w.heap.size 5 i0 (.int .u8 0) 1 1 und_bytes hi hz0 hz1 hz2 rfl (by omega) (v := .slice (some ⟨w.heap.size, 0, none⟩) 0 0) rfl hown rfl hr1 (bv_one l) hml (by omega) hm1.size ?_; intro v' w1 ho1 hg1 hnil)
  go_ret
  have hne : v' ≠ .slice none 0 0 := fun e => by have := hnil.1 e; simp at this
  have ho2 : w1.ownsRow w.heap.size 5 1 v' n (bv l) := by simpa using ho1
  refine ⟨v', rfl, Fresh.of_owns ho2 hne, hm1.andThen (Mod.of_grown (S := One w.heap.size) hg1 (fun k hk => by simp [Value.ownBlock] at hk; exact hk.symm)) (fun b hb hlt => by cases hb; omega)⟩

/-- s[:len(s):len(s)]: the same row. -/
theorem clip_row (A : Option Addr) (n c : Nat) (w : World) (hc : n ≤ c) :
    Calls Tryz.prog 50 #[.slice A n c] w fun e w' => e = .returned (.slice A n n) ∧ w' = w := by
  go_enter Tryz.func50, Tryz.ntmps50
  go_wp2
  go_ret
  exact ⟨rfl, rfl⟩
end
end Go.Proofs.YtgillcppnpkkiaaGreatDoor

namespace Go.Proofs.YtgillcppnpkkiaaGreatDoor
open Go Go.RowKit
section
variable {w : World} {p : Nat} {G : Pg}

set_option maxHeartbeats 400000 in
theorem get_ok (h : PagRep w p G) (n : Nat) (l : List UInt8) (hl : G.now n = some l) :
    Calls Tryz.prog 19 #[.pointer (some ⟨p, 0, none⟩), .int .u32 n] w fun e w' => ∃ g, e = .returned (.tuple #[.slice (some ⟨g, 0, none⟩) 256 256, .int .i64 0]) ∧ Fresh w' w.heap.size 5 1 (.slice (some ⟨g, 0, none⟩) 256 256) 256 (bv l) ∧ Mod Non w w' := by
  have c := h.blk.cell
  unfold Pg.cells at c
  have hnow := h.now
  have Hf := Lib.hid (mapV_some hl)
  have hll := h.len _ _ hl
  have Hll := Lib.hid hll
  have H := Lib.hid h
  clear h hl hll
  go_enter Tryz.func19, Tryz.ntmps19
  go_wp2_with (first
    | (go_at_call 44; refine (there_ok H.out).mono ?_; rintro e w' ⟨rfl, rfl⟩)
    | (at_lookup; refine wpl_lookup_some rfl _ _ rfl und_mapPage und_u32 page_zero rfl hnow n rfl Hf.out ?_)
    | (refine wpl_alloc_page rfl rfl ?_; intro w1 hb1 hm1 hs1)
    | (refine wpl_store_page rfl _ _ rfl rfl hb1 (by rw [List.size_toArray, bv_length, zero256_length]) rfl Hll.out ?_; intro w2 hb2 hm2 hs2)
    | (go_at_call 51; refine (clone_some _ 256 256 l ⟨by rw [bv_length, Hll.out], fun _ => ⟨_, rfl, fun j u hu => by rw [add_lit, hb2.cell]; simpa using hu⟩⟩ (by omega)).mono ?_; rintro e w3 ⟨v3, rfl, hf3, hm3⟩; obtain ⟨g, cap, cur, rfl, hg, hb3, hnc, hcs, hcm, ht, hxl⟩ := hf3)
    | (go_at_call 50; refine (clip_row _ 256 _ _ hnc).mono ?_; rintro e w4 ⟨rfl, rfl⟩))
  go_ret2
  have hm12 := hm1.andThen hm2 (S := Non) (fun b hb hlt => by cases hb; omega)
  exact ⟨g, rfl, ⟨g, 256, cur, rfl, by have := hm12.size; omega, hb3, Nat.le_refl _, by omega, by unfold maxLen; omega, ht, hxl⟩, hm12.trans hm3⟩

set_option maxHeartbeats 400000 in
theorem get_none (h : PagRep w p G) (n : Nat) (hl : G.now n = none) :
    Calls Tryz.prog 19 #[.pointer (some ⟨p, 0, none⟩), .int .u32 n] w fun e w' => e = .returned (.tuple #[.slice none 0 0, .int .i64 7]) ∧ Mod Non w w' := by
  have c := h.blk.cell
  unfold Pg.cells at c
  have hnow := h.now
  have Hf := Lib.hid (mapV_none hl)
  have H := Lib.hid h
  clear h hl
  go_enter Tryz.func19, Tryz.ntmps19
  go_wp2_with (first
    | (go_at_call 44; refine (there_ok H.out).mono ?_; rintro e w' ⟨rfl, rfl⟩)
    | (at_lookup; refine wpl_lookup_none rfl _ _ rfl und_mapPage und_u32 page_zero rfl hnow n rfl Hf.out ?_)
    | (refine wpl_alloc_page rfl rfl ?_; intro w1 hb1 hm1 hs1)
    | (refine wpl_store_page rfl _ _ rfl rfl hb1 (by rw [List.size_toArray, bv_length, zero256_length]) rfl zero256_length ?_; intro w2 hb2 hm2 hs2))
  go_ret2
  exact ⟨rfl, hm1.andThen hm2 (S := Non) (fun b hb hlt => by cases hb; omega)⟩

def Pg.freed (G : Pg) (k : Nat) : Pg := { G with now := upd G.now k none, dirty := upd G.dirty k true }

set_option maxHeartbeats 400000 in
theorem free_ok (h : PagRep w p G) (n : Nat) (l : List UInt8) (hl : G.now n = some l) :
    Calls Tryz.prog 11 #[.pointer (some ⟨p, 0, none⟩), .int .u32 n] w fun e w' => e = .returned (.int .i64 0) ∧ PagRep w' p (G.freed n) ∧ Mod (PS p G) w w' := by
  have c := h.blk.cell
  unfold Pg.cells at c
  have hnow := h.now
  have Hf := Lib.hid (mapV_some hl)
  have Hll := Lib.hid (h.len _ _ hl)
  obtain ⟨fd, c0, hd1, hc0, hdo⟩ := h.dirty.get n
  have hn13 := h.ne13
  have hp1 := h.now.blk_ne h.blk
  have hp3 := h.dirty.blk_ne h.blk
  have Hc0 := Lib.hid hc0
  have H := Lib.hid h
  clear h hl hc0
  go_enter Tryz.func11, Tryz.ntmps11
  go_wp2_with (first
    | (go_at_call 44; refine (there_ok H.out).mono ?_; rintro e w' ⟨rfl, rfl⟩)
    | (at_lookup; refine wpl_lookup_some rfl _ _ rfl und_mapPage und_u32 page_zero rfl hnow n rfl Hf.out ?_)
    | (refine wpl_alloc_page rfl rfl ?_; intro w1 hb1 hm1 hs1)
    | (refine wpl_store_page rfl _ _ rfl rfl hb1 (by rw [List.size_toArray, bv_length, zero256_length]) rfl Hll.out ?_; intro w2 hb2 hm2 hs2; have hm12 := hm1.andThen hm2 (S := Non) (fun b hb hlt => by cases hb; omega); have hnow2 := hnow.mod hm12 (fun x => x); have b2 := H.out.blk.mod hm12 (fun x => x); have hc2 := b2.cell; unfold Pg.cells at hc2; have hd2 := hd1.mod hm12 (fun x => x))
    | (at_delete; refine wpl_delete rfl _ _ rfl rfl und_mapPage und_u32 rfl hnow2 n rfl ?_; intro w3 hnow3 hm3; have b3 := b2.mod hm3 (fun e => hp1 e.symm); have hc3 := b3.cell; unfold Pg.cells at hc3; have hd3 := hd2.mod hm3 (fun e => hn13 e.symm))
    | (at_lookup; refine wpl_lookup_val rfl _ _ rfl und_mapInt und_u32 zero_int rfl hd3 n rfl Hc0.out ?_)
    | (at_mapUpdate; refine wpl_mapUpdate rfl _ _ _ rfl und_mapInt und_u32 rfl hd3 n rfl rfl ?_; intro w4 hd4 hm4))
  go_ret
  refine ⟨rfl, ⟨b3.mod hm4 (fun e => hp3 e.symm), ?_, ((H.out.kept.mod hm12 (fun x => x)).mod hm3 (fun e => H.out.ne12 e.symm)).mod hm4 (fun e => H.out.ne23 e), hdo _ _ hd4, H.out.ne12, H.out.ne13, H.out.ne23, ?_, H.out.lenK⟩, ?_⟩
  · have := hnow3.mod hm4 (fun e => hn13 e)
    simp only [Pg.freed, mapV_upd]
    exact this
  · intro n l hl
    simp only [Pg.freed] at hl
    unfold upd at hl
    split at hl
    · cases hl
    · exact H.out.len n l hl
  · exact ((hm12.mono (fun _ x => x.elim)).andThen hm3 (fun b hb _ => .inr (.inl hb))).andThen hm4 (fun b hb _ => .inr (.inr (.inr hb)))

set_option maxHeartbeats 400000 in
theorem free_none (h : PagRep w p G) (n : Nat) (hl : G.now n = none) :
    Calls Tryz.prog 11 #[.pointer (some ⟨p, 0, none⟩), .int .u32 n] w fun e w' => e = .returned (.int .i64 7) ∧ Mod Non w w' := by
  have c := h.blk.cell
  unfold Pg.cells at c
  have hnow := h.now
  have Hf := Lib.hid (mapV_none hl)
  have H := Lib.hid h
  clear h hl
  go_enter Tryz.func11, Tryz.ntmps11
  go_wp2_with (first
    | (go_at_call 44; refine (there_ok H.out).mono ?_; rintro e w' ⟨rfl, rfl⟩)
    | (at_lookup; refine wpl_lookup_none rfl _ _ rfl und_mapPage und_u32 page_zero rfl hnow n rfl Hf.out ?_)
    | (refine wpl_alloc_page rfl rfl ?_; intro w1 hb1 hm1 hs1)
    | (refine wpl_store_page rfl _ _ rfl rfl hb1 (by rw [List.size_toArray, bv_length, zero256_length]) rfl zero256_length ?_; intro w2 hb2 hm2 hs2))
  go_ret
  exact ⟨rfl, hm1.andThen hm2 (S := Non) (fun b hb hlt => by cases hb; omega)⟩
end
end Go.Proofs.YtgillcppnpkkiaaGreatDoor

namespace Go.Proofs.YtgillcppnpkkiaaGreatDoor
open Go Go.RowKit
section
variable {P : Program} {ops : Array Oper} {a : Act} {w : World} {rest : List Oper} {o : Oper} {Q : Act → Prop}
theorem wps_run {v : Value} (hg : o.guard = none) (hrun : (execOp a.eval o).run P w = .ok (.value v) w) (h : wpStill P ops w Q rest (a.put o.dst v)) : wpStill P ops w Q (o :: rest) a :=
  wpStill_step fun K hK => by
    rw [if_pos (by simp [Region.wanted, hg])]
    unfold Oper.still
    rw [hrun]
    first | exact ⟨rfl, hK _ h⟩ | exact hK _ h
end
/-- A region that draws its order: n operations that read alone, then the others. The world behind the draw has a name of its own. -/
theorem wp_tail {P : Program} {id : Nat} {Q : Exit → Act → World → Prop} {a : Act} {w : World} {l : List Oper} (n : Nat) (hm : P.follows .mixedOrders = true) (hB : Region.lexTailB .any l.toArray n = true)
    (h : ∀ w', Mod Non w w' → wpStill P l.toArray w' (fun a' => wpList P l.toArray Q (l.drop n) a' w') (l.take n) a) : (Code.region id l.toArray true).wp P Q a w :=
  wp_region_still_tail n hm hB (h _ ⟨rfl, rfl, rfl, Nat.le_refl _, fun _ _ _ => rfl⟩)

section
variable {ops : Array Oper} {a : Act} {w : World} {rest : List Oper} {o : Oper} {Q : Act → Prop}
theorem wps_load_page (hg : o.guard = none) (x : Operand) (ho : o.op = .load 98 x) {g : Nat} {t : TypeId} {l : List UInt8} (hx : a.eval x = .pointer (some ⟨g, 0, none⟩)) (hb : Blk w g t (bv l).toArray) (hl : l.length = 256)
    (hK : wpStill Tryz.prog ops w Q rest (a.put o.dst (pv l))) : wpStill Tryz.prog ops w Q (o :: rest) a := by
  refine wps_run hg ?_ hK
  have := run_loadVar_row (P := Tryz.prog) w g t 98 (bv l).toArray _ _ hb page_und rfl (by rw [page_size]; simp [bv_length, hl])
  simp only [execOp, ho, hx, Instr.loadAt, Instr.sureAddr, Sem.run_bind, Sem.run_pure, Result.andThen_ok, this]
  rfl
end

section
variable {P : Program} {ops : Array Oper} {Q : Exit → Act → World → Prop} {a : Act} {w w' : World} {rest : List Oper} {o : Oper}
/-- copy(dst, src) where dst is a row of a block known whole, and src a row, or nil, no longer than dst. -/
theorem wpl_copy_row (hg : o.guard = none) (d s : Operand) (dT sT : TypeId) (ho : o.op = .call { callee := .builtin .copy, args := #[d, s], argTypes := #[dT, sT] }) {elem : TypeId}
    (hu : P.underlying dT = some (.slice elem)) (hs : (P.info? elem).map (·.size) = some 1) {g dl dc : Nat} {t : TypeId} {cur : Array Value} (hd : a.eval d = .slice (some ⟨g, 0, none⟩) dl dc) (hb : Blk w g t cur)
    {A : Option Addr} {m c : Nat} {news : List Value} (hx : a.eval s = .slice A m c) (hr : RowAt w A m 1 news) (h1 : ∀ u ∈ news, u.oneCell' = true) (hm : m ≤ dl) (hfit : m ≤ cur.size)
    (hK : ∀ w', Blk w' g t (news ++ cur.toList.drop m).toArray → Mod (One g) w w' → Hid (w'.heap.size = w.heap.size) → wpList P ops Q rest (a.put o.dst (.int .i64 m)) w') : wpList P ops Q (o :: rest) a w := by
  have hl : news.length = m := by simpa using hr.1
  by_cases hA : ∃ ad, A = some ad
  · obtain ⟨ad, rfl⟩ := hA
    have hsrc : ∀ (j : Nat) (v : Value), news[j]? = some v → w.cell? (ad.add j) = some v := by
      intro j v hj
      have hlt : j < news.length := (List.getElem?_eq_some_iff.1 hj).1
      obtain ⟨ad', e, hc⟩ := hr.2 (by omega)
      cases e
      exact hc j v hj
    have hrun := run_copy_row (P := P) w dT sT o.type elem g 0 dl dc ad m c cur t news hu hs hb (by rw [hl]; exact (Nat.min_eq_left hm).symm) hsrc (by omega) h1
    simp only [List.take_zero, List.nil_append, Nat.zero_add, hl] at hrun
    refine wpl_run hg ?_ (hK (w.setRow g (news ++ cur.toList.drop m).toArray) (setRow_heap w g _ _ t _ hb) ⟨rfl, rfl, rfl, by simp [World.setRow], fun k _ hk => setRow_other w g k _ (fun e => hk e)⟩ (Lib.hid (by simp [World.setRow])))
    simp [execOp, ho, hd, hx, hrun, resolve, invoke, builtin, goInt]
  · have hA' : A = none := by
      cases A with
      | none => rfl
      | some ad => exact absurd ⟨ad, rfl⟩ hA
    subst hA'
    have hm0 : m = 0 := by
      rcases Nat.eq_zero_or_pos m with h0 | h0
      · exact h0
      · obtain ⟨ad, e', _⟩ := hr.2 h0; cases e'
    subst hm0
    have hn : news = [] := hr.nil_of
    subst hn
    refine wpl_run hg ?_ (hK w (by simpa using hb) (Mod.refl _ _) (Lib.hid rfl))
    cases hq : P.info? elem with
    | none => simp [hq] at hs
    | some i => simp [execOp, ho, hd, hx, resolve, invoke, builtin, Builtin.copy_, run_underlying hu, Builtin.lenOf, Builtin.firstCells, sizeOf, typeInfo, hq, storeCells, goInt]
end
end Go.Proofs.YtgillcppnpkkiaaGreatDoor

namespace Go.Proofs.YtgillcppnpkkiaaGreatDoor
open Go Go.RowKit
section
variable {w : World} {p : Nat} {G : Pg}

theorem u8_size : (Tryz.prog.info? 5).map (·.size) = some 1 := by kernel_rfl

/-- A page's bytes: those, and noughts behind them. -/
def padded (l : List UInt8) : List UInt8 := l ++ zero256.drop l.length
theorem padded_length {l : List UInt8} (h : l.length ≤ 256) : (padded l).length = 256 := by
  unfold padded; rw [List.length_append, List.length_drop, zero256_length]; omega
def Pg.puts (G : Pg) (k : Nat) (l : List UInt8) : Pg := { G with now := upd G.now k (some (padded l)), dirty := upd G.dirty k true }

set_option maxHeartbeats 800000 in
set_option maxRecDepth 100000 in
theorem put_ok (h : PagRep w p G) (n : Nat) (l0 : List UInt8) (hl : G.now n = some l0) (A : Option Addr) (m c : Nat) (l : List UInt8) (hr : RowAt w A m 1 (bv l)) (hm : m ≤ 256) :
    Calls Tryz.prog 26 #[.pointer (some ⟨p, 0, none⟩), .int .u32 n, .slice A m c] w fun e w' => e = .returned (.int .i64 0) ∧ PagRep w' p (G.puts n l) ∧ Mod (PS p G) w w' := by
  have hml : l.length = m := by have := hr.1; rw [bv_length] at this; omega
  have cc := h.blk.cell
  unfold Pg.cells at cc
  have hnow := h.now
  have Hf := Lib.hid (mapV_some hl)
  have Hll := Lib.hid (h.len _ _ hl)
  obtain ⟨fd, c0, hd1, hc0, hdo⟩ := h.dirty.get n
  have hn13 := h.ne13
  have hp1 := h.now.blk_ne h.blk
  have hp3 := h.dirty.blk_ne h.blk
  have Hc0 := Lib.hid hc0
  have H := Lib.hid h
  have Hml := Lib.hid hml
  clear h hl hc0 hml
  go_enter Tryz.func26, Tryz.ntmps26
  go_wp2_with (first
    | (go_at_call 44; refine (there_ok H.out).mono ?_; rintro e w' ⟨rfl, rfl⟩)
    | (at_lookup; refine wpl_lookup_some rfl _ _ rfl und_mapPage und_u32 page_zero rfl hnow n rfl Hf.out ?_)
    | (refine wpl_store_page rfl _ _ rfl rfl hb1 (by rw [List.size_toArray, bv_length, zero256_length]) rfl Hll.out ?_; intro w2 hb2 hm2 hs2; have hm12 := hm1.andThen hm2 (S := Non) (fun b hb hlt => by cases hb; omega); clear hb1; have tok : True := trivial)
    | (refine wpl_alloc_page rfl rfl ?_; have _t := tok; clear tok; intro w3 hb3 hm3 hs3; have hm13 := hm12.trans hm3)
    | (refine wpl_alloc_page rfl rfl ?_; intro w1 hb1 hm1 hs1)
    | (refine wpl_copy_row rfl (.tmp 27) (.tmp 28) _ _ rfl und_bytes u8_size rfl hb3 rfl (hr.non (by omega) hm13) (bv_one l) hm (by rw [List.size_toArray, bv_length, zero256_length]; exact hm) ?_; intro w4 hb4 hm4 hs4))
  refine wp_tail 6 (by kernel_rfl) (by kernel_rfl) (fun w5 hm5 => ?_)
  simp only [List.take_succ_cons, List.take_zero, List.drop_succ_cons, List.drop_zero]
  have hm14 := hm13.andThen hm4 (S := Non) (fun b hb hlt => by cases hb; have := hm12.size; omega)
  have hm15 := hm14.trans hm5
  have b5 := H.out.blk.mod hm15 (fun x => x)
  have hc5 := b5.cell
  unfold Pg.cells at hc5
  have hpad : (bv l ++ (bv zero256).toArray.toList.drop m).toArray = (bv (padded l)).toArray := by
    unfold padded
    rw [bv_append, Hml.out]
    simp [bv]
  have hb5 := hb4.mod hm5 (fun x => x)
  rw [hpad] at hb5
  have hlp := Lib.hid (padded_length (l := l) (by rw [Hml.out]; exact hm))
  have hnow5 := hnow.mod hm15 (fun x => x)
  have hd5 := hd1.mod hm15 (fun x => x)
  clear hpad
  still_step
  still_step
  still_step
  still_step
  still_step
  refine wps_load_page rfl (.tmp 9) rfl rfl hb5 hlp.out ?_
  refine wpStill_nil ?_
  go_wp2_with (first
    | (at_mapUpdate; refine wpl_mapUpdate rfl _ _ _ rfl und_mapPage und_u32 rfl hnow5 n rfl rfl ?_; intro w6 hnow6 hm6; have b6 := b5.mod hm6 (fun e => hp1 e.symm); have hc6 := b6.cell; unfold Pg.cells at hc6; have hd6 := hd5.mod hm6 (fun e => hn13 e.symm))
    | (at_lookup; refine wpl_lookup_val rfl _ _ rfl und_mapInt und_u32 zero_int rfl hd6 n rfl Hc0.out ?_)
    | (at_mapUpdate; refine wpl_mapUpdate rfl _ _ _ rfl und_mapInt und_u32 rfl hd6 n rfl rfl ?_; intro w7 hd7 hm7))
  go_ret
  refine ⟨rfl, ⟨b6.mod hm7 (fun e => hp3 e.symm), ?_, ((H.out.kept.mod hm15 (fun x => x)).mod hm6 (fun e => H.out.ne12 e.symm)).mod hm7 (fun e => H.out.ne23 e), hdo _ _ hd7, H.out.ne12, H.out.ne13, H.out.ne23, ?_, H.out.lenK⟩, ?_⟩
  · have := hnow6.mod hm7 (fun e => hn13 e)
    simp only [Pg.puts, mapV_upd]
    exact this
  · intro n l hl
    simp only [Pg.puts] at hl
    unfold upd at hl
    split at hl
    · cases hl; exact hlp.out
    · exact H.out.len n l hl
  · exact ((hm15.mono (fun _ x => x.elim)).andThen hm6 (fun b hb _ => .inr (.inl hb))).andThen hm7 (fun b hb _ => .inr (.inr (.inr hb)))

set_option maxHeartbeats 400000 in
set_option maxRecDepth 100000 in
theorem put_none (h : PagRep w p G) (n : Nat) (hl : G.now n = none) (A : Option Addr) (m c : Nat) :
    Calls Tryz.prog 26 #[.pointer (some ⟨p, 0, none⟩), .int .u32 n, .slice A m c] w fun e w' => e = .returned (.int .i64 7) ∧ Mod Non w w' := by
  have cc := h.blk.cell
  unfold Pg.cells at cc
  have hnow := h.now
  have Hf := Lib.hid (mapV_none hl)
  have H := Lib.hid h
  clear h hl
  go_enter Tryz.func26, Tryz.ntmps26
  go_wp2_with (first
    | (go_at_call 44; refine (there_ok H.out).mono ?_; rintro e w' ⟨rfl, rfl⟩)
    | (at_lookup; refine wpl_lookup_none rfl _ _ rfl und_mapPage und_u32 page_zero rfl hnow n rfl Hf.out ?_)
    | (refine wpl_alloc_page rfl rfl ?_; intro w1 hb1 hm1 hs1)
    | (refine wpl_store_page rfl _ _ rfl rfl hb1 (by rw [List.size_toArray, bv_length, zero256_length]) rfl zero256_length ?_; intro w2 hb2 hm2 hs2))
  go_ret
  exact ⟨rfl, hm1.andThen hm2 (S := Non) (fun b hb hlt => by cases hb; omega)⟩

set_option maxHeartbeats 400000 in
set_option maxRecDepth 100000 in
theorem put_long (h : PagRep w p G) (n : Nat) (l : List UInt8) (hl : G.now n = some l) (A : Option Addr) (m c : Nat) (hm : 256 < m) :
    Calls Tryz.prog 26 #[.pointer (some ⟨p, 0, none⟩), .int .u32 n, .slice A m c] w fun e w' => e = .returned (.int .i64 1) ∧ Mod Non w w' := by
  have cc := h.blk.cell
  unfold Pg.cells at cc
  have hnow := h.now
  have Hf := Lib.hid (mapV_some hl)
  have Hll := Lib.hid (h.len _ _ hl)
  have H := Lib.hid h
  clear h hl
  go_enter Tryz.func26, Tryz.ntmps26
  go_wp2_with (first
    | (go_at_call 44; refine (there_ok H.out).mono ?_; rintro e w' ⟨rfl, rfl⟩)
    | (at_lookup; refine wpl_lookup_some rfl _ _ rfl und_mapPage und_u32 page_zero rfl hnow n rfl Hf.out ?_)
    | (refine wpl_alloc_page rfl rfl ?_; intro w1 hb1 hm1 hs1)
    | (refine wpl_store_page rfl _ _ rfl rfl hb1 (by rw [List.size_toArray, bv_length, zero256_length]) rfl Hll.out ?_; intro w2 hb2 hm2 hs2))
  go_ret
  exact ⟨rfl, hm1.andThen hm2 (S := Non) (fun b hb hlt => by cases hb; omega)⟩
end
end Go.Proofs.YtgillcppnpkkiaaGreatDoor

namespace Go.Proofs.YtgillcppnpkkiaaGreatDoor
open Go Go.RowKit

theorem owns_mod {w w' : World} {S : Nat → Prop} {base : Nat} {e : TypeId} {size : Nat} {v : Value} {n : Nat} {xs : List Value} (h : w.ownsRow base e size v n xs) (hm : Mod S w w') (hS : ∀ b, S b → b < base) : w'.ownsRow base e size v n xs := by
  refine ⟨h.1, ?_⟩
  rcases h.2 with hn | ⟨g, cap, cur, hv, hb, hg, r⟩
  · exact .inl hn
  · exact .inr ⟨g, cap, cur, hv, hb, (hm.block g (Array.getElem?_eq_some_iff.1 hg).1 (fun hs => by have := hS g hs; omega)).trans hg, r⟩
theorem Mod.owned {w w' w'' : World} {S : Nat → Prop} {base : Nat} {e : TypeId} {size : Nat} {v : Value} {n : Nat} {xs : List Value} (h : Mod S w w') (ho : w'.ownsRow base e size v n xs) (hg : w'.grownBy w'' v.ownBlock) (hb : w.heap.size ≤ base) : Mod S w w'' :=
  h.andThen (Mod.of_grown (S := fun k => v.ownBlock = some k) hg (fun _ h => h)) (fun b hb' hlt => by have := ho.lt b hb'; omega)

/-- Numbers of 32 bits, as cells. -/
def uv (l : List Nat) : List Value := l.map fun (n : Nat) => Value.int .u32 (n : Int)
theorem uv_one (l : List Nat) : ∀ u ∈ uv l, u.oneCell' = true := by
  intro u hu
  obtain ⟨b, _, rfl⟩ := List.mem_map.1 hu
  rfl
theorem uv_length (l : List Nat) : (uv l).length = l.length := by simp [uv]

/-- Those of 1 .. n that are such, rising. -/
def used (f : Nat → Bool) : Nat → List Nat
  | 0 => []
  | n + 1 => if f (n + 1) then used f n ++ [n + 1] else used f n
theorem used_length (f : Nat → Bool) (n : Nat) : (used f n).length ≤ n := by
  induction n with
  | zero => exact Nat.le_refl _
  | succ n ih =>
    unfold used
    split
    · simp; exact ih
    · omega
theorem mem_used {f : Nat → Bool} {n k : Nat} : k ∈ used f n ↔ 1 ≤ k ∧ k ≤ n ∧ f k = true := by
  induction n with
  | zero => simp [used]; omega
  | succ n ih =>
    unfold used
    split
    · rename_i h
      simp only [List.mem_append, ih, List.mem_singleton]
      constructor
      · rintro (⟨a, b, c⟩ | rfl)
        · exact ⟨a, by omega, c⟩
        · exact ⟨by omega, by omega, h⟩
      · rintro ⟨a, b, c⟩
        by_cases hk : k = n + 1
        · exact .inr hk
        · exact .inl ⟨a, by omega, c⟩
    · rename_i h
      rw [ih]
      constructor
      · rintro ⟨a, b, c⟩; exact ⟨a, by omega, c⟩
      · rintro ⟨a, b, c⟩
        refine ⟨a, ?_, c⟩
        by_cases hk : k = n + 1
        · subst hk; exact absurd c h
        · omega
theorem used_sorted (f : Nat → Bool) (n : Nat) : (used f n).Pairwise (· < ·) := by
  induction n with
  | zero => exact .nil
  | succ n ih =>
    unfold used
    split
    · rw [List.pairwise_append]
      refine ⟨ih, by simp, fun a ha b hb => ?_⟩
      have := (mem_used.1 ha).2.1
      simp at hb
      omega
    · exact ih

theorem und_u32s : Tryz.prog.underlying 71 = some (.slice 55) := by kernel_rfl
theorem info_u32 : (Tryz.prog.info? 55).map (fun i => (i.zero, i.size, i.bytes)) = some (some (.int .u32 0), 1, 4) := by kernel_rfl

section
variable {w : World} {p : Nat} {G : Pg}
def Pg.has (G : Pg) : Nat → Bool := fun n => (G.now n).isSome

set_option maxHeartbeats 800000 in
set_option maxRecDepth 100000 in
theorem all_ok (h : PagRep w p G) :
    Calls Tryz.prog 57 #[.pointer (some ⟨p, 0, none⟩)] w fun e w' => ∃ v, e = .returned v ∧ w'.ownsRow w.heap.size 55 1 v (used G.has 4000).length (uv (used G.has 4000)) ∧ Mod Non w w' := by
  obtain ⟨i0, hi, hz0, hz1, hz2⟩ := info_parts info_u32
  have H := Lib.hid h
  clear h
  go_enter Tryz.func57, Tryz.ntmps57
  go_wp2
  go_loopw [2, 6] (fun v i wr => ∃ j : Nat, j ≤ 4000 ∧ i = .int .u32 j ∧ wr.ownsRow w.heap.size 55 1 v (used G.has j).length (uv (used G.has j)) ∧ Mod Non w wr) (fun _ i _ => 4000 - (intOf i).toNat)
  case atStart => exact ⟨0, Nat.zero_le _, rfl, World.ownsRow_nil _ _ _ _, Mod.refl _ _⟩
  case round =>
    obtain ⟨j, hj, rfl, hown, hm⟩ := hrel
    have h1 := H.out.non hm
    have c := h1.blk.cell
    unfold Pg.cells at c
    have hnow := h1.now
    have hul := used_length G.has j
    by_cases hlt : j < 4000
    · cases hg : G.now (j + 1) with
      | none =>
        have Hf := Lib.hid (mapV_none hg)
        have Hu := Lib.hid (show used G.has (j + 1) = used G.has j from by rw [used]; rw [if_neg (by unfold Pg.has; rw [hg]; simp)])
        clear h1 hg
        go_wp2_with (first
          | (at_lookup; refine wpl_lookup_none rfl _ _ rfl und_mapPage und_u32 page_zero rfl hnow (j + 1) rfl Hf.out ?_)
          | (refine wpl_alloc_page rfl rfl ?_; intro w1 hb1 hm1 hs1)
          | (refine wpl_store_page rfl _ _ rfl rfl hb1 (by rw [List.size_toArray, bv_length, zero256_length]) rfl zero256_length ?_; intro w2 hb2 hm2 hs2))
        go_roundw
        case rel =>
          have hm12 := hm1.andThen hm2 (S := Non) (fun b hb hlt => by cases hb; omega)
          exact ⟨j + 1, by omega, by go_num, by rw [Hu.out]; exact owns_mod hown hm12 (fun _ x => x.elim), hm.trans hm12⟩
        case measure => simp [intOf]; omega
      | some l =>
        have Hf := Lib.hid (mapV_some hg)
        have Hll := Lib.hid (h1.len _ _ hg)
        have Hu := Lib.hid (show used G.has (j + 1) = used G.has j ++ [j + 1] from by rw [used]; rw [if_pos (by unfold Pg.has; rw [hg]; simp)])
        clear h1 hg
        have hml : (used G.has j).length + 1 ≤ maxLen := by unfold maxLen; omega
        have hone : ∀ (W : World), RowAt (W.alloc (.cells #[.int .u32 ((j : Int) + 1)] 55)) (some ⟨W.heap.size, 0, none⟩) 1 1 [.int .u32 ((j : Int) + 1)] := fun W =>
          ⟨rfl, fun _ => ⟨_, rfl, fun k u hu => by rw [add_lit, (Blk.new W _ _).cell]; simpa using hu⟩⟩
        have h1c : ∀ u ∈ [Value.int .u32 ((j : Int) + 1)], u.oneCell' = true := by simp [Value.oneCell']
        go_wp2_with (first
          | (at_lookup; refine wpl_lookup_some rfl _ _ rfl und_mapPage und_u32 page_zero rfl hnow (j + 1) rfl Hf.out ?_)
          | (refine wpl_alloc_page rfl rfl ?_; intro w1 hb1 hm1 hs1)
          | (refine wpl_store_page rfl _ _ rfl rfl hb1 (by rw [List.size_toArray, bv_length, zero256_length]) rfl Hll.out ?_; intro w2 hb2 hm2 hs2; have hm12 := hm1.andThen hm2 (S := Non) (fun b hb hlt => by cases hb; omega); have hown2 := owns_mod hown hm12 (fun _ x => x.elim); have hmw2 := hm.trans hm12; have hszw := hmw2.size)
          | (at_builtin; refine wpl_append rfl (.tmp 20) (.tmp 23) _ rfl w.heap.size 55 i0 (.int .u32 0) 1 4 und_u32s hi hz0 hz1 hz2 rfl (by omega) rfl (hown2.alloc _) rfl (hone w2) h1c hml (by omega) (by simp; omega) ?_; intro v' w3 hown3 hg3 hnil3))
        go_roundw
        case rel => exact ⟨j + 1, by omega, by go_num, by rw [Hu.out]; simpa [uv] using hown3, (hmw2.alloc _).owned (hown2.alloc _) hg3 (Nat.le_refl _)⟩
        case measure => simp [intOf]; omega
    · have : j = 4000 := by omega
      subst this
      clear hlt
      go_wp2
      go_ret
      exact ⟨_, rfl, hown, hm⟩

theorem owns_form {base : Nat} {e : TypeId} {size : Nat} {v : Value} {n : Nat} {xs : List Value} (h : w.ownsRow base e size v n xs) :
    ∃ A cap, v = .slice A n cap ∧ n ≤ cap ∧ RowAt w A n size xs ∧ ∀ ad, A = some ad → base ≤ ad.block := by
  by_cases hv : v = .slice none 0 0
  · subst hv
    rcases h.2 with ⟨_, hn⟩ | ⟨g, cap, cur, hv, _⟩
    · subst hn
      exact ⟨none, 0, rfl, Nat.le_refl _, ⟨h.1, fun hh => by omega⟩, fun ad h => by cases h⟩
    · cases hv
  · have hf := Fresh.of_owns h hv
    obtain ⟨g, cap, cur, rfl, hb, hk, hnc, r⟩ := hf
    exact ⟨_, cap, rfl, hnc, Fresh.row (base := base) (t := e) ⟨g, cap, cur, rfl, hb, hk, hnc, r⟩, fun ad h => by cases h; exact hb⟩

theorem clip_u32 (A : Option Addr) (n c : Nat) (w : World) (hc : n ≤ c) :
    Calls Tryz.prog 56 #[.slice A n c] w fun e w' => e = .returned (.slice A n n) ∧ w' = w := by
  go_enter Tryz.func56, Tryz.ntmps56
  go_wp2
  go_ret
  exact ⟨rfl, rfl⟩

theorem used_ok (h : PagRep w p G) :
    Calls Tryz.prog 30 #[.pointer (some ⟨p, 0, none⟩)] w fun e w' => ∃ A, e = .returned (.slice A (used G.has 4000).length (used G.has 4000).length) ∧ RowAt w' A (used G.has 4000).length 1 (uv (used G.has 4000)) ∧ (∀ ad, A = some ad → w.heap.size ≤ ad.block) ∧ Mod Non w w' := by
  have H := Lib.hid h
  clear h
  go_enter Tryz.func30, Tryz.ntmps30
  go_wp2_with (first
    | (go_at_call 44; refine (there_ok H.out).mono ?_; rintro e w' ⟨rfl, rfl⟩)
    | (go_at_call 57; refine (all_ok H.out).mono ?_; rintro e w1 ⟨v, rfl, ho, hm⟩; obtain ⟨A, cap, rfl, hnc, hr, hA⟩ := owns_form ho)
    | (go_at_call 56; refine (clip_u32 _ _ _ _ hnc).mono ?_; rintro e w2 ⟨rfl, rfl⟩))
  go_ret
  exact ⟨A, rfl, hr, hA, hm⟩
end
end Go.Proofs.YtgillcppnpkkiaaGreatDoor

namespace Go.Proofs.YtgillcppnpkkiaaGreatDoor
open Go Go.RowKit
section
variable {w : World} {p : Nat} {G : Pg}

/-- The pages where those in vis stand as they were kept. -/
def mixed (a b : Nat → Option (List UInt8)) (vis : List Nat) : Nat → Option (List UInt8) := fun n => if n ∈ vis then b n else a n
theorem mixed_cons (a b : Nat → Option (List UInt8)) (vis : List Nat) (k : Nat) : mixed a b (k :: vis) = upd (mixed a b vis) k (b k) := by
  funext n
  unfold mixed upd
  by_cases h : n = k
  · subst h; simp
  · simp [h]
theorem IterRep.told {w : World} {r m : Nat} {f : Nat → Option Value} {vis : List Nat} {left : Nat} (h : IterRep w r m f vis left) : ∀ k ∈ vis, (f k).isSome = true := by
  obtain ⟨_, _, _, _, _, _, _, _, _, h⟩ := h
  exact h
theorem mixed_nil (a b : Nat → Option (List UInt8)) : mixed a b [] = a := by funext n; simp [mixed]

theorem iter_ne {r m : Nat} {f : Nat → Option Value} {vis : List Nat} {left : Nat} (h : IterRep w r m f vis left) (hp : PagRep w p G) {b : Nat} (hb : PS p G b) : b ≠ r := by
  rintro rfl
  obtain ⟨es, c, seen, _, hi, _⟩ := h
  have hmap : ∀ {f : Nat → Option Value} {m : Nat}, MapRep w m f → b ≠ m := by
    rintro f m ⟨es', c', hh, _⟩ rfl
    rw [hh] at hi
    cases hi
  rcases hb with rfl | hb | hb | hb
  · have := hp.blk
    unfold Blk at this
    rw [this] at hi
    cases hi
  · exact hmap hp.now hb
  · exact hmap hp.kept hb
  · obtain ⟨f', hf', _⟩ := hp.dirty
    exact hmap hf' hb

def Pg.undone (G : Pg) : Pg := { G with now := fun n => if G.dirty n then G.kept n else G.now n, dirty := fun _ => false, root := G.was }

set_option maxHeartbeats 1000000 in
set_option maxRecDepth 100000 in
theorem undo_ok (h : PagRep w p G) :
    Calls Tryz.prog 15 #[.pointer (some ⟨p, 0, none⟩)] w fun e w' => e = .returned (.int .i64 0) ∧ PagRep w' p G.undone ∧ Mod (PS p G) w w' := by
  have cc := h.blk.cell
  unfold Pg.cells at cc
  obtain ⟨fd, hd, hds, hdv⟩ := h.dirty
  have H := Lib.hid h
  clear h
  go_enter Tryz.func15, Tryz.ntmps15
  go_wp2_with (first
    | (go_at_call 44; refine (there_ok H.out).mono ?_; rintro e w' ⟨rfl, rfl⟩)
    | (at_range; refine wpl_range rfl _ rfl und_mapInt rfl hd ?_; intro w1 left0 hit0 hm0 hsz0))
  go_frame
  have hR : Hid (w'.heap.size = w'.heap.size) := rfl
  obtain ⟨R, hRe⟩ : ∃ R, R = w'.heap.size := ⟨_, rfl⟩
  rw [← hRe] at hit0 ⊢
  have HR := Lib.hid hRe
  clear hRe hR hsz0
  go_loopw [3] (fun _ wr => ∃ vis left, IterRep wr R G.m3 fd vis left ∧ PagRep wr p { G with now := mixed G.now G.kept vis } ∧ Mod (PS p G) w' wr) (fun _ wr => iterLeft wr G.m3 R)
  case atStart => exact ⟨[], left0, hit0, by rw [mixed_nil]; exact H.out.non hm0, hm0.mono (fun _ x => x.elim)⟩
  case round =>
    obtain ⟨vis, left, hit, hrep, hm⟩ := hrel
    have c1 := hrep.blk.cell
    unfold Pg.cells at c1
    have HI := Lib.hid hit.left_eq
    have HP := Lib.hid hrep
    clear hrep cc
    go_wp2_with (first
      | (at_next
         refine wpl_next rfl (.tmp 13) rfl rfl hit ?_ ?_
         intro w2 hm2 hall
         have hrep2 := HP.out.non hm2
         have c2 := hrep2.blk.cell
         unfold Pg.cells at c2
         obtain ⟨fd2, hd2, _, _⟩ := hrep2.dirty
         rotate_left
         intro w2 k v left' hm2 hfk hnv hlt hit2 hent
         have hpr : PagRep w2 p { G with now := mixed G.now G.kept vis } := HP.out.mod hm2 (fun b hb e => iter_ne hit HP.out hb e)
         have c2 := hpr.blk.cell
         unfold Pg.cells at c2
         have hk2 := hpr.kept
         rcases hkk : G.kept k with _ | l
         have Hk := Lib.hid (mapV_none hkk)
         have Hkk := Lib.hid hkk
         clear hkk
         rotate_left
         have Hk := Lib.hid (mapV_some hkk)
         have Hl := Lib.hid (H.out.lenK _ _ hkk)
         have Hkk := Lib.hid hkk
         clear hkk
         rotate_left)
      | (refine wpl_alloc_page rfl rfl ?_; intro w3 hb3 hm3 hs3)
      | (refine wpl_store_page rfl _ _ rfl rfl hb3 (by rw [List.size_toArray, bv_length, zero256_length]) rfl zero256_length ?_; intro w4 hb4 hm4 hs4; have hm24 := hm3.andThen hm4 (S := Non) (fun b hb hlt => by cases hb; omega); have hr4 := hpr.non hm24; have c4 := hr4.blk.cell; unfold Pg.cells at c4; have hnow4 := hr4.now; have hit4 := hit2.mod hm24 (fun x => x) (fun x => x))
      | (refine wpl_store_page rfl _ _ rfl rfl hb3 (by rw [List.size_toArray, bv_length, zero256_length]) rfl Hl.out ?_; intro w4 hb4 hm4 hs4; have hm24 := hm3.andThen hm4 (S := Non) (fun b hb hlt => by cases hb; omega); have hr4 := hpr.non hm24; have c4 := hr4.blk.cell; unfold Pg.cells at c4; have hnow4 := hr4.now; have hit4 := hit2.mod hm24 (fun x => x) (fun x => x))
      | (refine wpl_clear rfl (.tmp 42) rfl rfl und_mapInt rfl hd2 ?_; intro w3 hd3 hm3; have hp3 := hrep2.dirty.blk_ne hrep2.blk; have b3 := hrep2.blk.mod hm3 (fun e => hp3 e.symm); have c3 := b3.cell; have f3 := b3.frozen; unfold Pg.cells at c3)
      | (at_delete; refine wpl_delete rfl _ _ rfl rfl und_mapPage und_u32 rfl hnow4 k rfl ?_; intro w5 hnow5 hm5)
      | (at_lookup; refine wpl_lookup_none rfl _ _ rfl und_mapPage und_u32 page_zero rfl hk2 k rfl Hk.out ?_)
      | (at_lookup; refine wpl_lookup_some rfl _ _ rfl und_mapPage und_u32 page_zero rfl hk2 k rfl Hk.out ?_))
    · go_ret
      have hsame : mixed G.now G.kept vis = G.undone.now := by
        funext n
        unfold mixed Pg.undone
        have h1 : n ∈ vis ↔ G.dirty n = true := ⟨fun hn => by rw [← hds]; exact hit.told n hn, fun hn => hall n (by rw [hds]; exact hn)⟩
        by_cases hn : n ∈ vis
        · simp [hn, h1.1 hn]
        · have : ¬ G.dirty n = true := fun x => hn (h1.2 x)
          simp [hn, this]
      have hm13 : Mod (PS p G) w' w3 := (hm.trans (hm2.mono (fun _ x => x.elim))).andThen hm3 (fun b hb _ => .inr (.inr (.inr hb)))
      have hd3' : DirtyRep w3 G.m3 (fun _ => false) := ⟨_, hd3, fun _ => rfl, fun _ _ h => by cases h⟩
      refine ⟨rfl, ⟨b3.set 4 _, (hsame ▸ (hrep2.now.mod hm3 (fun e => hrep2.ne13 e))).far (fun e => hrep2.now.blk_ne hrep2.blk e) _, (hrep2.kept.mod hm3 (fun e => hrep2.ne23 e)).far (fun e => hrep2.kept.blk_ne hrep2.blk e) _, ⟨_, hd3.far (fun e => hp3 e) _, fun _ => rfl, fun _ _ h => by cases h⟩, hrep2.ne12, hrep2.ne13, hrep2.ne23, ?_, hrep2.lenK⟩, hm13.setCell (.inl (.inl rfl)) _⟩
      intro n l hl
      rw [← hsame] at hl
      exact hrep2.len n l hl
    · have hp4 := fun b (hb : PS p { G with now := mixed G.now G.kept vis } b) => iter_ne hit4 hr4 hb
      have hit5 := hit4.mod hm5 (fun e => hr4.ne13 e.symm) (fun e => hp4 _ (.inr (.inl rfl)) e.symm)
      have HL := Lib.hid hit5.left_eq
      go_roundw
      case rel =>
        refine ⟨k :: vis, ⟨left', hit5⟩, ?_, ?_⟩
        · rw [mixed_cons, Hkk.out]
          refine ⟨hr4.blk.mod hm5 (fun e => hr4.now.blk_ne hr4.blk e.symm), by rw [mapV_upd]; exact hnow5, hr4.kept.mod hm5 (fun e => hr4.ne12 e.symm), hr4.dirty.mod hm5 (fun e => hr4.ne13 e.symm), hr4.ne12, hr4.ne13, hr4.ne23, ?_, hr4.lenK⟩
          intro n l hl
          simp only [] at hl
          unfold upd at hl
          split at hl
          · cases hl
          · exact hr4.len n l hl
        · exact ((hm.andThen hm2 (fun b hb hlt => by cases hb; rw [HR.out] at hlt; omega)).trans (hm24.mono (fun _ x => x.elim))).andThen hm5 (fun b hb _ => .inr (.inl hb))
      case measure =>
        rw [HI.out, HL.out]
        exact hlt
    · refine wp_tail 6 (by kernel_rfl) (by kernel_rfl) (fun w6 hm6 => ?_)
      simp only [List.take_succ_cons, List.take_zero, List.drop_succ_cons, List.drop_zero]
      have hr6 := hr4.non hm6
      have hb6 := hb4.mod hm6 (fun x => x)
      have hit6 := hit4.mod hm6 (fun x => x) (fun x => x)
      have c6 := hr6.blk.cell
      unfold Pg.cells at c6
      have hnow6 := hr6.now
      still_step
      still_step
      still_step
      still_step
      still_step
      refine wps_load_page rfl (.tmp 4) rfl rfl hb6 Hl.out ?_
      refine wpStill_nil ?_
      go_wp2_with (at_mapUpdate; refine wpl_mapUpdate rfl _ _ _ rfl und_mapPage und_u32 rfl hnow6 k rfl rfl ?_; intro w7 hnow7 hm7)
      have hp6 := fun b (hb : PS p { G with now := mixed G.now G.kept vis } b) => iter_ne hit6 hr6 hb
      have hit7 := hit6.mod hm7 (fun e => hr6.ne13 e.symm) (fun e => hp6 _ (.inr (.inl rfl)) e.symm)
      have HL := Lib.hid hit7.left_eq
      go_roundw
      case rel =>
        refine ⟨k :: vis, ⟨left', hit7⟩, ?_, ?_⟩
        · rw [mixed_cons, Hkk.out]
          refine ⟨hr6.blk.mod hm7 (fun e => hr6.now.blk_ne hr6.blk e.symm), by rw [mapV_upd]; exact hnow7, hr6.kept.mod hm7 (fun e => hr6.ne12 e.symm), hr6.dirty.mod hm7 (fun e => hr6.ne13 e.symm), hr6.ne12, hr6.ne13, hr6.ne23, ?_, hr6.lenK⟩
          intro n l hl
          simp only [] at hl
          unfold upd at hl
          split at hl
          · cases hl; exact Hl.out
          · exact hr6.len n l hl
        · exact ((hm.andThen hm2 (fun b hb hlt => by cases hb; rw [HR.out] at hlt; omega)).trans ((hm24.trans hm6).mono (fun _ x => x.elim))).andThen hm7 (fun b hb _ => .inr (.inl hb))
      case measure =>
        rw [HI.out, HL.out]
        exact hlt
end
end Go.Proofs.YtgillcppnpkkiaaGreatDoor

namespace Go.Proofs.YtgillcppnpkkiaaGreatDoor
open Go Go.RowKit
section
variable {w : World} {p : Nat} {G : Pg}
def Pg.keeps (G : Pg) : Pg := { G with kept := fun n => if G.dirty n then G.now n else G.kept n, dirty := fun _ => false, was := G.root }

set_option maxHeartbeats 1000000 in
set_option maxRecDepth 100000 in
theorem keep_ok (h : PagRep w p G) :
    Calls Tryz.prog 43 #[.pointer (some ⟨p, 0, none⟩)] w fun e w' => e = .returned (.tuple #[]) ∧ PagRep w' p G.keeps ∧ Mod (PS p G) w w' := by
  have cc := h.blk.cell
  unfold Pg.cells at cc
  obtain ⟨fd, hd, hds, hdv⟩ := h.dirty
  have H := Lib.hid h
  clear h
  go_enter Tryz.func43, Tryz.ntmps43
  go_wp2_with (first
    | (at_range; refine wpl_range rfl _ rfl und_mapInt rfl hd ?_; intro w1 left0 hit0 hm0 hsz0))
  go_frame
  have hR : Hid (w.heap.size = w.heap.size) := rfl
  obtain ⟨R, hRe⟩ : ∃ R, R = w.heap.size := ⟨_, rfl⟩
  rw [← hRe] at hit0 ⊢
  have HR := Lib.hid hRe
  clear hRe hR hsz0
  go_loopw [2] (fun _ wr => ∃ vis left, IterRep wr R G.m3 fd vis left ∧ PagRep wr p { G with kept := mixed G.kept G.now vis } ∧ Mod (PS p G) w wr) (fun _ wr => iterLeft wr G.m3 R)
  case atStart => exact ⟨[], left0, hit0, by rw [mixed_nil]; exact H.out.non hm0, hm0.mono (fun _ x => x.elim)⟩
  case round =>
    obtain ⟨vis, left, hit, hrep, hm⟩ := hrel
    have c1 := hrep.blk.cell
    unfold Pg.cells at c1
    have HI := Lib.hid hit.left_eq
    have HP := Lib.hid hrep
    clear hrep cc
    go_wp2_with (first
      | (at_next
         refine wpl_next rfl (.tmp 9) rfl rfl hit ?_ ?_
         intro w2 hm2 hall
         have hrep2 := HP.out.non hm2
         have c2 := hrep2.blk.cell
         unfold Pg.cells at c2
         obtain ⟨fd2, hd2, _, _⟩ := hrep2.dirty
         rotate_left
         intro w2 k v left' hm2 hfk hnv hlt hit2 hent
         have hpr : PagRep w2 p { G with kept := mixed G.kept G.now vis } := HP.out.mod hm2 (fun b hb e => iter_ne hit HP.out hb e)
         have c2 := hpr.blk.cell
         unfold Pg.cells at c2
         have hk2 := hpr.now
         rcases hkk : G.now k with _ | l
         have Hk := Lib.hid (mapV_none hkk)
         have Hkk := Lib.hid hkk
         clear hkk
         rotate_left
         have Hk := Lib.hid (mapV_some hkk)
         have Hl := Lib.hid (H.out.len _ _ hkk)
         have Hkk := Lib.hid hkk
         clear hkk
         rotate_left)
      | (refine wpl_alloc_page rfl rfl ?_; intro w3 hb3 hm3 hs3)
      | (refine wpl_store_page rfl _ _ rfl rfl hb3 (by rw [List.size_toArray, bv_length, zero256_length]) rfl zero256_length ?_; intro w4 hb4 hm4 hs4; have hm24 := hm3.andThen hm4 (S := Non) (fun b hb hlt => by cases hb; omega); have hr4 := hpr.non hm24; have c4 := hr4.blk.cell; unfold Pg.cells at c4; have hnow4 := hr4.kept; have hit4 := hit2.mod hm24 (fun x => x) (fun x => x))
      | (refine wpl_store_page rfl _ _ rfl rfl hb3 (by rw [List.size_toArray, bv_length, zero256_length]) rfl Hl.out ?_; intro w4 hb4 hm4 hs4; have hm24 := hm3.andThen hm4 (S := Non) (fun b hb hlt => by cases hb; omega); have hr4 := hpr.non hm24; have c4 := hr4.blk.cell; unfold Pg.cells at c4; have hnow4 := hr4.kept; have hit4 := hit2.mod hm24 (fun x => x) (fun x => x))
      | (refine wpl_clear rfl (.tmp 38) rfl rfl und_mapInt rfl hd2 ?_; intro w3 hd3 hm3; have hp3 := hrep2.dirty.blk_ne hrep2.blk; have b3 := hrep2.blk.mod hm3 (fun e => hp3 e.symm); have c3 := b3.cell; have f3 := b3.frozen; unfold Pg.cells at c3)
      | (at_delete; refine wpl_delete rfl _ _ rfl rfl und_mapPage und_u32 rfl hnow4 k rfl ?_; intro w5 hnow5 hm5)
      | (at_lookup; refine wpl_lookup_none rfl _ _ rfl und_mapPage und_u32 page_zero rfl hk2 k rfl Hk.out ?_)
      | (at_lookup; refine wpl_lookup_some rfl _ _ rfl und_mapPage und_u32 page_zero rfl hk2 k rfl Hk.out ?_))
    · go_end0
      have hsame : mixed G.kept G.now vis = G.keeps.kept := by
        funext n
        unfold mixed Pg.keeps
        have h1 : n ∈ vis ↔ G.dirty n = true := ⟨fun hn => by rw [← hds]; exact hit.told n hn, fun hn => hall n (by rw [hds]; exact hn)⟩
        by_cases hn : n ∈ vis
        · simp [hn, h1.1 hn]
        · have : ¬ G.dirty n = true := fun x => hn (h1.2 x)
          simp [hn, this]
      have hm13 : Mod (PS p G) w w3 := (hm.trans (hm2.mono (fun _ x => x.elim))).andThen hm3 (fun b hb _ => .inr (.inr (.inr hb)))
      have hd3' : DirtyRep w3 G.m3 (fun _ => false) := ⟨_, hd3, fun _ => rfl, fun _ _ h => by cases h⟩
      refine ⟨rfl, ⟨b3.set 5 _, (hrep2.now.mod hm3 (fun e => hrep2.ne13 e)).far (fun e => hrep2.now.blk_ne hrep2.blk e) _, (hsame ▸ (hrep2.kept.mod hm3 (fun e => hrep2.ne23 e))).far (fun e => hrep2.kept.blk_ne hrep2.blk e) _, ⟨_, hd3.far (fun e => hp3 e) _, fun _ => rfl, fun _ _ h => by cases h⟩, hrep2.ne12, hrep2.ne13, hrep2.ne23, hrep2.len, ?_⟩, hm13.setCell (.inl (.inl rfl)) _⟩
      intro n l hl
      rw [← hsame] at hl
      exact hrep2.lenK n l hl
    · have hp4 := fun b (hb : PS p { G with kept := mixed G.kept G.now vis } b) => iter_ne hit4 hr4 hb
      have hit5 := hit4.mod hm5 (fun e => hr4.ne23 e.symm) (fun e => hp4 _ (.inr (.inr (.inl rfl))) e.symm)
      have HL := Lib.hid hit5.left_eq
      go_roundw
      case rel =>
        refine ⟨k :: vis, ⟨left', hit5⟩, ?_, ?_⟩
        · rw [mixed_cons, Hkk.out]
          refine ⟨hr4.blk.mod hm5 (fun e => hr4.kept.blk_ne hr4.blk e.symm), hr4.now.mod hm5 (fun e => hr4.ne12 e), by rw [mapV_upd]; exact hnow5, hr4.dirty.mod hm5 (fun e => hr4.ne23 e.symm), hr4.ne12, hr4.ne13, hr4.ne23, hr4.len, ?_⟩
          intro n l hl
          simp only [] at hl
          unfold upd at hl
          split at hl
          · cases hl
          · exact hr4.lenK n l hl
        · exact ((hm.andThen hm2 (fun b hb hlt => by cases hb; rw [HR.out] at hlt; omega)).trans (hm24.mono (fun _ x => x.elim))).andThen hm5 (fun b hb _ => .inr (.inr (.inl hb)))
      case measure =>
        rw [HI.out, HL.out]
        exact hlt
    · refine wp_tail 6 (by kernel_rfl) (by kernel_rfl) (fun w6 hm6 => ?_)
      simp only [List.take_succ_cons, List.take_zero, List.drop_succ_cons, List.drop_zero]
      have hr6 := hr4.non hm6
      have hb6 := hb4.mod hm6 (fun x => x)
      have hit6 := hit4.mod hm6 (fun x => x) (fun x => x)
      have c6 := hr6.blk.cell
      unfold Pg.cells at c6
      have hnow6 := hr6.kept
      still_step
      still_step
      still_step
      still_step
      still_step
      refine wps_load_page rfl (.tmp 3) rfl rfl hb6 Hl.out ?_
      refine wpStill_nil ?_
      go_wp2_with (at_mapUpdate; refine wpl_mapUpdate rfl _ _ _ rfl und_mapPage und_u32 rfl hnow6 k rfl rfl ?_; intro w7 hnow7 hm7)
      have hp6 := fun b (hb : PS p { G with kept := mixed G.kept G.now vis } b) => iter_ne hit6 hr6 hb
      have hit7 := hit6.mod hm7 (fun e => hr6.ne23 e.symm) (fun e => hp6 _ (.inr (.inr (.inl rfl))) e.symm)
      have HL := Lib.hid hit7.left_eq
      go_roundw
      case rel =>
        refine ⟨k :: vis, ⟨left', hit7⟩, ?_, ?_⟩
        · rw [mixed_cons, Hkk.out]
          refine ⟨hr6.blk.mod hm7 (fun e => hr6.kept.blk_ne hr6.blk e.symm), hr6.now.mod hm7 (fun e => hr6.ne12 e), by rw [mapV_upd]; exact hnow7, hr6.dirty.mod hm7 (fun e => hr6.ne23 e.symm), hr6.ne12, hr6.ne13, hr6.ne23, hr6.len, ?_⟩
          intro n l hl
          simp only [] at hl
          unfold upd at hl
          split at hl
          · cases hl; exact Hl.out
          · exact hr6.lenK n l hl
        · exact ((hm.andThen hm2 (fun b hb hlt => by cases hb; rw [HR.out] at hlt; omega)).trans ((hm24.trans hm6).mono (fun _ x => x.elim))).andThen hm7 (fun b hb _ => .inr (.inr (.inl hb)))
      case measure =>
        rw [HI.out, HL.out]
        exact hlt
end
end Go.Proofs.YtgillcppnpkkiaaGreatDoor

namespace Go.Proofs.YtgillcppnpkkiaaGreatDoor
open Go Go.RowKit

/-- A name stands ahead of another one. -/
def nlt (a b : ByteArray) : Bool := Op.bytesLess a.toList b.toList
theorem nlt_iff (a b : ByteArray) : nlt a b = true ↔ a.toList < b.toList := by unfold nlt; rw [bytesLess_eq]; simp
theorem nlt_irrefl (a : ByteArray) : nlt a a = false := by
  rw [Bool.eq_false_iff]; intro h; exact List.lt_irrefl _ ((nlt_iff a a).1 h)
theorem nlt_trans {a b c : ByteArray} (h : nlt a b = true) (k : nlt b c = true) : nlt a c = true :=
  (nlt_iff a c).2 (List.lt_trans ((nlt_iff a b).1 h) ((nlt_iff b c).1 k))
theorem name_ext {a b : ByteArray} (h : a.toList = b.toList) : a = b := by
  rw [ByteArray.toList_eq, ByteArray.toList_eq] at h
  exact ByteArray.ext (Array.toList_inj.1 h)
theorem nlt_tri {a b : ByteArray} (h : nlt a b = false) (k : nlt b a = false) : a = b := by
  apply name_ext
  have h1 : ¬ a.toList < b.toList := fun x => by rw [(nlt_iff a b).2 x] at h; cases h
  have h2 : ¬ b.toList < a.toList := fun x => by rw [(nlt_iff b a).2 x] at k; cases k
  exact List.le_antisymm (List.not_lt.1 h2) (List.not_lt.1 h1)
theorem nlt_asymm {a b : ByteArray} (h : nlt a b = true) : nlt b a = false := by
  rw [Bool.eq_false_iff]; intro k; have := nlt_trans h k; rw [nlt_irrefl] at this; cases this
theorem name_beq (a b : ByteArray) : (a.toList == b.toList) = decide (a = b) := by
  by_cases h : a = b
  · subst h; simp
  · have : ¬ a.toList = b.toList := fun e => h (name_ext e)
    simp [h, this]

/-- cmp.Compare's answer. -/
def cmpS (a b : ByteArray) : Int := if nlt a b = true then -1 else if a = b then 0 else 1

theorem cmp_strings (a b : ByteArray) (w : World) :
    Calls Tryz.prog 188 #[.string a, .string b] w fun e w' => e = .returned (.int .i64 (cmpS a b)) ∧ w = w' := by
  have hN : ∀ (s : ByteArray) (w : World), Calls Tryz.prog 199 #[.string s] w fun e w' => e = .returned (.bool false) ∧ w = w' := by
    intro s w
    go_enter Tryz.func199, Tryz.ntmps199
    go_wp2
    go_ret
    exact ⟨by simp, rfl⟩
  unfold cmpS
  by_cases h1 : nlt a b = true
  · have h1' : Op.bytesLess a.toList b.toList = true := h1
    rw [if_pos h1]
    clear h1
    have HN := Lib.hid hN
    clear hN
    go_enter Tryz.func188, Tryz.ntmps188
    go_wp2_with (go_at_call 199; refine (HN.out _ _).mono ?_; rintro e w' ⟨rfl, rfl⟩)
    go_ret
    exact ⟨rfl, rfl⟩
  · have h1' : Op.bytesLess a.toList b.toList = false := by simpa [nlt] using h1
    rw [if_neg h1]
    clear h1
    have HN := Lib.hid hN
    clear hN
    by_cases h2 : a = b
    · have h2' : (a.toList == b.toList) = true := by simp [h2]
      rw [if_pos h2]
      clear h2
      go_enter Tryz.func188, Tryz.ntmps188
      go_wp2_with (go_at_call 199; refine (HN.out _ _).mono ?_; rintro e w' ⟨rfl, rfl⟩)
      go_ret
      exact ⟨rfl, rfl⟩
    · have h2' : (a.toList == b.toList) = false := by rw [name_beq]; simp [h2]
      rw [if_neg h2]
      clear h2
      go_enter Tryz.func188, Tryz.ntmps188
      go_wp2_with (go_at_call 199; refine (HN.out _ _).mono ?_; rintro e w' ⟨rfl, rfl⟩)
      go_ret
      exact ⟨rfl, rfl⟩

/-- May a byte stand in a name of a file? -/
def okc (c : UInt8) : Bool := (97 ≤ c.toNat && c.toNat ≤ 122) || (48 ≤ c.toNat && c.toNat ≤ 57) || c.toNat == 45 || c.toNat == 46
def mayB (s : ByteArray) : Bool := s.data.toList.all okc && decide (s.size ≠ 0) && decide (s.size ≤ 16)

theorem mayB_no {s : ByteArray} {k : Nat} (hk : k < s.size) (h : okc s[k] = false) : mayB s = false := by
  have hm : s[k] ∈ s.data.toList := by
    have : s[k] = s.data.toList[k]'(by simpa using hk) := rfl
    rw [this]; exact List.getElem_mem _
  unfold mayB
  have : s.data.toList.all okc = false := by
    rw [List.all_eq_false]
    exact ⟨_, hm, by simp [h]⟩
  simp [this]
theorem mayB_end {s : ByteArray} (h : ∀ j, (hj : j < s.size) → okc s[j] = true) : mayB s = (decide (s.size ≠ 0) && decide (s.size ≤ 16)) := by
  unfold mayB
  have : s.data.toList.all okc = true := by
    rw [List.all_eq_true]
    intro c hc
    obtain ⟨j, hj, rfl⟩ := List.mem_iff_getElem.1 hc
    exact h j (by simpa using hj)
  simp [this]

set_option maxHeartbeats 400000 in
theorem may_any (s : ByteArray) (w : World) (hs : s.size ≤ maxLen) :
    Calls Tryz.prog 168 #[.string s] w fun e w' => e = .returned (.bool (mayB s)) ∧ w = w' := by
  unfold maxLen at hs
  go_enter Tryz.func168, Tryz.ntmps168
  go_wp2
  go_loop [7] (fun i => ∃ k : Nat, k ≤ s.size ∧ i = .int .i64 k ∧ Hid (∀ j, j < k → (hj : j < s.size) → okc s[j] = true)) (fun i => s.size - (intOf i).toNat)
  case atStart => exact ⟨0, Nat.zero_le _, rfl, Lib.hid (fun j hj => absurd hj (by omega))⟩
  case round =>
    obtain ⟨k, hk, rfl, hall⟩ := hrel
    have hstep : ∀ (hlt : k < s.size), okc s[k] = true → Hid (∀ j, j < k + 1 → (hj : j < s.size) → okc s[j] = true) := fun hlt hc => Lib.hid (fun j hj hjs => by
      by_cases hjk : j = k
      · subst hjk; exact hc
      · exact hall.out j (by omega) hjs)
    by_cases hlt : k < s.size
    · have HS := Lib.hid (hstep hlt)
      have HN := Lib.hid (mayB_no (s := s) hlt)
      clear hstep hall
      go_wp2
      all_goals first
        | (go_round
           case rel => exact ⟨k + 1, by omega, by go_num, HS.out (by unfold okc; simp_all; omega)⟩
           case measure => simp [intOf]; omega)
        | (go_ret
           have hn : okc s[k] = false := by unfold okc; simp_all; omega
           exact ⟨congrArg (fun b => Ending.returned (.bool b)) (HN.out hn).symm, rfl⟩)
    · have hend : mayB s = (decide (s.size ≠ 0) && decide (s.size ≤ 16)) := mayB_end (fun j hj => hall.out j (by omega) hj)
      have HE := Lib.hid hend
      clear hend hstep hall
      go_wp2
      · have he : s.toList = [] := by assumption
        go_ret
        have h0 : s.size = 0 := by
          rw [ByteArray.toList_eq] at he
          have := congrArg List.length he
          simpa using this
        exact ⟨by rw [HE.out, h0]; rfl, rfl⟩
      · have he : ¬ s.toList = [] := by assumption
        go_ret
        have h0 : s.size ≠ 0 := fun h0 => he (by
          rw [ByteArray.toList_eq]
          exact List.eq_nil_of_length_eq_zero (by simpa using h0))
        have h1 : s.toList.isEmpty = false := by simpa using he
        refine ⟨?_, rfl⟩
        rw [HE.out]
        simp [h0, h1]
        omega
end Go.Proofs.YtgillcppnpkkiaaGreatDoor
