/- Bytes that are handed in, and looked at afterwards: TwinBytes, LeftBytes; Same32; the pager's Root and SetRoot. -/
import Derived.Test.YtgillcppnpkkiaaGreatDoorRefNew
import Derived.Test.YtgillcppnpkkiaaGreatDoorNewG
namespace Go.Proofs.YtgillcppnpkkiaaGreatDoor
open Go Go.RowKit
section
variable {w w' : World}
/-- Bytes in a block of their own, with one more behind them: 77. -/
structure Twin (w : World) (g c : Nat) (l : List UInt8) : Prop where
  own : ∃ cur, Blk w g 5 cur ∧ cur.size = c ∧ cur.toList.take (l.length + 1) = bv l ++ [.int .u8 77]
  cap : l.length + 1 ≤ c
  max : c ≤ maxLen
theorem Twin.mod {S : Nat → Prop} {g c : Nat} {l : List UInt8} (h : Twin w g c l) (hm : Mod S w w') (hn : ¬ S g) : Twin w' g c l := by
  obtain ⟨⟨cur, h1, h2⟩, h3, h4⟩ := h
  exact ⟨⟨cur, h1.mod hm hn, h2⟩, h3, h4⟩
theorem Twin.row {g c : Nat} {l : List UInt8} (h : Twin w g c l) : RowAt w (some ⟨g, 0, none⟩) (l.length + 1) 1 (bv l ++ [.int .u8 77]) := by
  obtain ⟨⟨cur, h1, h2, h3⟩, h4, h5⟩ := h
  refine ⟨by simp [bv_length], fun _ => ⟨_, rfl, fun j u hu => ?_⟩⟩
  rw [add_lit, h1.cell]
  rw [← h3, List.getElem?_take] at hu
  split at hu
  · simpa using hu
  · cases hu
theorem Twin.bytes {g c : Nat} {l : List UInt8} (h : Twin w g c l) : RowAt w (some ⟨g, 0, none⟩) l.length 1 (bv l) := by
  refine ⟨by simp [bv_length], fun _ => ⟨_, rfl, fun j u hu => ?_⟩⟩
  obtain ⟨_, e, hc⟩ := h.row.2 (by omega)
  cases e
  refine hc j u ?_
  rw [List.getElem?_append_left (List.getElem?_eq_some_iff.1 hu).1]
  exact hu
theorem madeNone (c : Nat) (hc : c ≤ 1048577) (w : World) : (Instr.makeSlice 56 (.int .i64 0) (.int .i64 (c : Int))).run Tryz.prog w = .ok (.slice (some ⟨w.heap.size, 0, none⟩) 0 c) (w.alloc (.cells (madeCells (Value.int IntKind.u8 0).cells c) 5)) := by
  obtain ⟨i0, hi, hz0, hz1, hz2⟩ := info_parts info_u8
  have hr := run_make (P := Tryz.prog) (w := w) 56 5 i0 (.int .u8 0) und_bytes hi hz0 .i64 .i64 0 (c : Int) (by decide) (by omega) (by rw [hz2]; omega) (by omega)
  rw [hz1] at hr
  simpa using hr
theorem wpl_makeN {ops : Array Oper} {Q : Exit → Act → World → Prop} {a : Act} {rest : List Oper} {o : Oper} (hg : o.guard = none) (y : Operand) (ho : o.op = .makeSlice 56 (.const (.int .i64 0)) y) {c : Nat} {cz : Int} (hy : a.eval y = .int .i64 cz) (hcz : cz = (c : Int)) (hc : c ≤ 1048577)
    (hK : ∀ w', w'.ownsRow w.heap.size 5 1 (.slice (some ⟨w.heap.size, 0, none⟩) 0 c) 0 [] → Mod Non w w' → wpList Tryz.prog ops Q rest (a.put o.dst (.slice (some ⟨w.heap.size, 0, none⟩) 0 c)) w') : wpList Tryz.prog ops Q (o :: rest) a w := by
  subst hcz
  refine wpl_run (v := .slice (some ⟨w.heap.size, 0, none⟩) 0 c) (w' := w.alloc (.cells (madeCells (Value.int IntKind.u8 0).cells c) 5)) hg ?_ (hK _ ⟨rfl, .inr ⟨w.heap.size, c, _, rfl, Nat.le_refl _, Blk.new _ _ _, Nat.zero_le _, by unfold maxLen; omega, by rw [size_madeCells, Nat.mul_one], by simp⟩⟩ ((Mod.refl _ _).alloc _))
  have e0 : a.eval (.const (.int .i64 0)) = .int .i64 0 := rfl
  simp [execOp, ho, hy, e0, madeNone c hc w]
set_option maxHeartbeats 400000 in
theorem twin_ok {A : Option Addr} {c : Nat} {l : List UInt8} (hr : RowAt w A l.length 1 (bv l)) (hl : l.length ≤ 1048576) :
    Calls Tryz.prog 25 #[.slice A l.length c] w fun e w' => ∃ g c', e = .returned (.slice (some ⟨g, 0, none⟩) l.length c') ∧ w.heap.size ≤ g ∧ Twin w' g c' l ∧ Mod Non w w' := by
  obtain ⟨i0, hi, hz0, hz1, hz2⟩ := info_parts info_u8
  have HR := Lib.hid hr
  clear hr
  go_enter Tryz.func25, Tryz.ntmps25
  go_wp2_with (refine wpl_makeN rfl (.tmp 7) rfl rfl (c := l.length + 1) (by omega) (by omega) ?_; intro w1 ho1 hm1)
  have HO1 := Lib.hid ho1
  clear ho1
  go_loopw [3, 4] (fun v i wr => ∃ k : Nat, k ≤ l.length ∧ i = .int .i64 k ∧ wr.ownsRow w.heap.size 5 1 v k (bv (l.take k)) ∧ Mod Non w wr ∧ ∃ g c0, v = .slice (some ⟨g, 0, none⟩) k c0) (fun _ i _ => l.length - (intOf i).toNat)
  case atStart => exact ⟨0, Nat.zero_le _, rfl, HO1.out, hm1, _, _, rfl⟩
  case round =>
    obtain ⟨k, hk, rfl, hown, hm, g, c0, rfl⟩ := hrel
    by_cases hlt : k < l.length
    · obtain ⟨ad, rfl, hcell⟩ := (HR.out.non (by decide) hm).2 (by omega)
      have hx : (bv l)[k]? = some (.int .u8 (l[k].toNat : Int)) := by rw [bv_get, List.getElem?_eq_getElem hlt]; rfl
      have c1 := hcell _ _ hx
      have hE : bv (l.take (k + 1)) = bv (l.take k) ++ [.int .u8 (l[k].toNat : Int)] := by
        rw [List.take_add_one, List.getElem?_eq_getElem hlt, bv_append]
        rfl
      have HE := Lib.hid hE
      have hml : k + 1 ≤ maxLen := by unfold maxLen; omega
      generalize hxv : (l[k].toNat : Int) = x at *
      have hone : ∀ (W : World), RowAt (W.alloc (.cells #[.int .u8 x] 5)) (some ⟨W.heap.size, 0, none⟩) 1 1 [.int .u8 x] := fun W =>
        ⟨rfl, fun _ => ⟨_, rfl, fun k u hu => by rw [add_lit, (Blk.new W _ _).cell]; simpa using hu⟩⟩
      have h1c : ∀ u ∈ [Value.int .u8 x], u.oneCell' = true := by simp [Value.oneCell']
      have hszw := hm.size
      clear hx hcell hE hxv
      go_wp2_with (at_builtin; refine wpl_append rfl (.tmp 15) (.tmp 20) _ rfl w.heap.size 5 i0 (.int .u8 0) 1 1 und_bytes hi hz0 hz1 hz2 rfl (by omega) rfl (hown.alloc _) rfl (hone wr) h1c hml (by omega) (by simp; omega) ?_; intro v' w3 hown3 hg3 hnil3)
      have hne : v' ≠ .slice none 0 0 := fun e => by have := hnil3.1 e; simp at this
      obtain ⟨g3, c3, cur3, rfl, _⟩ := Fresh.of_owns hown3 hne
      go_roundw
      case rel => exact ⟨k + 1, by omega, by go_num, by rw [HE.out]; exact hown3, (hm.alloc _).owned (hown.alloc _) hg3 (Nat.le_refl _), g3, c3, rfl⟩
      case measure => simp [intOf]; omega
    · have : k = l.length := by omega
      subst this
      clear hlt
      have hml : l.length + 1 ≤ maxLen := by unfold maxLen; omega
      have hone : ∀ (W : World), RowAt (W.alloc (.cells #[.int .u8 77] 5)) (some ⟨W.heap.size, 0, none⟩) 1 1 [.int .u8 77] := fun W =>
        ⟨rfl, fun _ => ⟨_, rfl, fun k u hu => by rw [add_lit, (Blk.new W _ _).cell]; simpa using hu⟩⟩
      have h1c : ∀ u ∈ [Value.int .u8 77], u.oneCell' = true := by simp [Value.oneCell']
      have hszw := hm.size
      go_wp2_with (at_builtin; refine wpl_append rfl (.tmp 22) (.tmp 23) _ rfl w.heap.size 5 i0 (.int .u8 0) 1 1 und_bytes hi hz0 hz1 hz2 rfl (by omega) rfl (hown.alloc _) rfl (hone wr) h1c hml (by omega) (by simp; omega) ?_; intro v' w3 hown3 hg3 hnil3
                   have hne : v' ≠ .slice none 0 0 := fun e => by have := hnil3.1 e; simp at this
                   obtain ⟨g3, c3, cur3, rfl, hb3, hk3, hnc3, hm3, hs3, ht3⟩ := hown3.2.resolve_left (fun h => hne h.1)
                   have hlc3 : l.length ≤ c3 := by omega)
      go_ret
      refine ⟨g3, c3, rfl, hb3, ⟨⟨cur3, hk3, by omega, ?_⟩, hnc3, hm3⟩, (hm.alloc _).owned (hown.alloc _) hg3 (Nat.le_refl _)⟩
      rw [Nat.mul_one] at ht3
      rw [ht3, List.take_of_length_le (Nat.le_refl _)]
end
end Go.Proofs.YtgillcppnpkkiaaGreatDoor
