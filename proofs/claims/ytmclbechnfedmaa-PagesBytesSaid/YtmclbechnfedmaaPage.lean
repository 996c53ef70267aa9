/- Pages as values: 256 bytes; variables that hold one. -/
import Derived.Test.YtmclbechnfedmaaProg
import Derived.Test.YtmclbechnfedmaaMapOps
namespace Go.Proofs.Ytmclbechnfedmaa
open Go Go.RowKit

def u8v (b : UInt8) : Value := .int .u8 (b.toNat : Int)
/-- The cells of bytes. -/
def bv (l : List UInt8) : List Value := l.map u8v
/-- A page, as a value. -/
def pv (l : List UInt8) : Value := .agg (bv l).toArray
def zero256 : List UInt8 := List.replicate 256 0
theorem bv_length (l : List UInt8) : (bv l).length = l.length := by simp [bv]
theorem bv_append (l k : List UInt8) : bv (l ++ k) = bv l ++ bv k := by simp [bv]
theorem bv_one (l : List UInt8) : ∀ u ∈ bv l, u.oneCell' = true := by
  intro u hu
  obtain ⟨b, _, rfl⟩ := List.mem_map.1 hu
  rfl
theorem bv_get (l : List UInt8) (i : Nat) : (bv l)[i]? = (l[i]?).map u8v := by simp [bv]
theorem zero256_length : zero256.length = 256 := List.length_replicate
theorem pv_zero : pv zero256 = .agg (Array.replicate 256 (.int .u8 0)) := by
  unfold pv bv zero256
  rw [List.map_replicate, List.toArray_replicate]
  rfl

theorem page_info : (Try.prog.info? 55).map (fun i => (i.zero, i.size)) = some (some (.agg (Array.replicate 256 (.int .u8 0))), 256) := by kernel_rfl
theorem page_und : Try.prog.underlying 55 = some (.array 256 5) := by kernel_rfl
theorem page_size : (Try.prog.info? 55).map (·.size) = some 256 := by
  have := page_info
  cases h : Try.prog.info? 55 with
  | none => rw [h] at this; cases this
  | some i => rw [h] at this; simp at this ⊢; exact this.2
theorem page_zero (w : World) : (zeroValue 55).run Try.prog w = .ok (pv zero256) w := by
  have := page_info
  rw [pv_zero]
  cases h : Try.prog.info? 55 with
  | none => rw [h] at this; cases this
  | some i => rw [h] at this; simp at this; simp [zeroValue, typeInfo, h, this.1]

theorem zeroCells_page : Try.zeroCells55 = (bv zero256).toArray := by kernel_rfl
theorem und_mapPage : Try.prog.underlying 57 = some (.map 33 55) := by kernel_rfl
theorem und_mapInt : Try.prog.underlying 58 = some (.map 33 3) := by kernel_rfl
theorem und_u32 : Try.prog.underlying 33 = some (.int .u32) := by kernel_rfl
theorem zero_int (w : World) : (zeroValue 3).run Try.prog w = .ok (.int .i64 0) w := by kernel_rfl

section
variable {ops : Array Oper} {Q : Exit → Act → World → Prop} {a : Act} {w w' : World} {rest : List Oper} {o : Oper}

/-- A new variable that holds a page. -/
theorem wpl_alloc_page (hg : o.guard = none) (ho : o.op = .alloc 55)
    (hK : ∀ w', Blk w' w.heap.size 55 (bv zero256).toArray → Mod Non w w' → Hid (w'.heap.size = w.heap.size + 1) → wpList Try.prog ops Q rest (a.put o.dst (.pointer (some ⟨w.heap.size, 0, none⟩))) w') : wpList Try.prog ops Q (o :: rest) a w := by
  refine wpl_run (v := .pointer (some ⟨w.heap.size, 0, none⟩)) (w' := w.alloc (.cells (bv zero256).toArray 55)) hg ?_ (hK _ (Blk.new _ _ _) ((Mod.refl _ _).alloc _) (Lib.hid (by simp)))
  simp [execOp, ho, Instr.alloc, newVar, newRow, newObj, Value.cells, Sem.run, zeroCells_page]

/-- A page is stored in a variable. -/
theorem wpl_store_page (hg : o.guard = none) (x y : Operand) (ho : o.op = .store 55 x y) {g : Nat} {t : TypeId} {cur : Array Value} {l : List UInt8} (hx : a.eval x = .pointer (some ⟨g, 0, none⟩)) (hb : Blk w g t cur) (hc : cur.size = 256)
    (hy : a.eval y = pv l) (hl : l.length = 256)
    (hK : ∀ w', Blk w' g t (bv l).toArray → Mod (One g) w w' → Hid (w'.heap.size = w.heap.size) → wpList Try.prog ops Q rest (a.put o.dst undef) w') : wpList Try.prog ops Q (o :: rest) a w := by
  have hst := run_storeCells_at Try.prog g 0 t (bv l) 0 cur w hb (by rw [bv_length]; omega) (bv_one l)
  have e1 : (cur.toList.take (0 + 0) ++ bv l ++ cur.toList.drop (0 + 0 + (bv l).length)).toArray = (bv l).toArray := by
    rw [bv_length]
    simp
    omega
  rw [e1] at hst
  have hsz := page_size
  refine wpl_skip (w' := w.setRow g (bv l).toArray) hg ?_ (hK _ (setRow_heap w g _ _ t _ hb) ⟨rfl, rfl, rfl, by simp [World.setRow], fun k _ hk => setRow_other w g k _ (fun e => hk e)⟩ (Lib.hid (by simp [World.setRow])))
  cases h : Try.prog.info? 55 with
  | none => rw [h] at hsz; cases hsz
  | some i =>
    rw [h] at hsz
    simp at hsz
    simp [execOp, ho, hx, hy, Instr.storeAt, Instr.sureAddr, storeVar, pv, Value.cells, sizeOf, typeInfo, h, hsz, bv_length, hl, hst]

theorem wpl_load_page (hg : o.guard = none) (x : Operand) (ho : o.op = .load 55 x) {g : Nat} {t : TypeId} {l : List UInt8} (hx : a.eval x = .pointer (some ⟨g, 0, none⟩)) (hb : Blk w g t (bv l).toArray) (hl : l.length = 256)
    (hK : wpList Try.prog ops Q rest (a.put o.dst (pv l)) w) : wpList Try.prog ops Q (o :: rest) a w :=
  wpList_load_row hg 55 x ho g hx t _ _ _ hb page_und rfl (by rw [page_size]; simp [bv_length, hl]) hK
end
end Go.Proofs.Ytmclbechnfedmaa
