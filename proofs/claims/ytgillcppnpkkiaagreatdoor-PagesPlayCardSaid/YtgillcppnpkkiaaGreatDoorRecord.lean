/- Of math/bits.Len and Len64: that this program holds the bodies of which the library proved its contracts (written by the kit's own lay-plain tool, its numbers turned into names). nums: a number as bytes: the row of them. nums.Put. slices.Grow of nil, slices.Concat of two rows of bytes; nums.behind. nums.behind, nums.Put. pages.record. -/
import Derived.Test.YtgillcppnpkkiaaGreatDoorProg
import Derived.Shelf.Small.Bits
import Derived.Test.YtgillcppnpkkiaaGreatDoorFileOps
import Derived.Lib.AppendZeros
import Derived.Test.YtgillcppnpkkiaaGreatDoorPagKeep
namespace Go.Proofs
open Go.Shelf
def Tryz.lays129_ren : Go.Shelf.Ren := ⟨fun | 129 => 180 | n => n, fun | 53 => 88 | 3 => 3 | 4 => 4 | 46 => 124 | 5 => 5 | 9 => 9 | n => n, fun | n => n⟩
theorem Tryz.lays129 : Go.Proofs.Lays.n129 Tryz.prog Tryz.lays129_ren := {
  mixed := by kernel_rfl
  f129 := Tryz.func180.trans (congrArg some (by kernel_rfl))
  t3 := Tryz.underlying3
  a3 := Tryz.isAgg3
  z3 := Tryz.sizeOf3
  v3 := Tryz.zeroValue3
  t4 := Tryz.underlying4
  a4 := Tryz.isAgg4
  z4 := Tryz.sizeOf4
  v4 := Tryz.zeroValue4
  t5 := Tryz.underlying5
  a5 := Tryz.isAgg5
  z5 := Tryz.sizeOf5
  v5 := Tryz.zeroValue5
  t9 := Tryz.underlying9
  a9 := Tryz.isAgg9
  z9 := Tryz.sizeOf9
  v9 := Tryz.zeroValue9
  t46 := Tryz.underlying124
  a46 := Tryz.isAgg124
  z46 := Tryz.sizeOf124
  v46 := Tryz.zeroValue124
  t53 := Tryz.underlying88
  a53 := Tryz.isAgg88
  z53 := Tryz.sizeOf88
  v53 := Tryz.zeroValue88 }
def Tryz.lays125_ren : Go.Shelf.Ren := ⟨fun | 125 => 125 | 128 => 179 | 129 => 180 | n => n, fun | 46 => 124 | 3 => 3 | 51 => 55 | 53 => 88 | 4 => 4 | 5 => 5 | 9 => 9 | n => n, fun | n => n⟩
theorem Tryz.lays125 : Go.Proofs.Lays.n125 Tryz.prog Tryz.lays125_ren := {
  mixed := by kernel_rfl
  f125 := Tryz.func125.trans (congrArg some (by kernel_rfl))
  f128 := Tryz.func179.trans (congrArg some (by kernel_rfl))
  f129 := Tryz.func180.trans (congrArg some (by kernel_rfl))
  t3 := Tryz.underlying3
  a3 := Tryz.isAgg3
  z3 := Tryz.sizeOf3
  v3 := Tryz.zeroValue3
  t4 := Tryz.underlying4
  a4 := Tryz.isAgg4
  z4 := Tryz.sizeOf4
  v4 := Tryz.zeroValue4
  t5 := Tryz.underlying5
  a5 := Tryz.isAgg5
  z5 := Tryz.sizeOf5
  v5 := Tryz.zeroValue5
  t9 := Tryz.underlying9
  a9 := Tryz.isAgg9
  z9 := Tryz.sizeOf9
  v9 := Tryz.zeroValue9
  t46 := Tryz.underlying124
  a46 := Tryz.isAgg124
  z46 := Tryz.sizeOf124
  v46 := Tryz.zeroValue124
  t51 := Tryz.underlying55
  a51 := Tryz.isAgg55
  z51 := Tryz.sizeOf55
  v51 := Tryz.zeroValue55
  t53 := Tryz.underlying88
  a53 := Tryz.isAgg88
  z53 := Tryz.sizeOf88
  v53 := Tryz.zeroValue88 }
end Go.Proofs

namespace Go.Proofs.YtgillcppnpkkiaaGreatDoor
open Go Go.RowKit Go.Shelf
theorem bits_Len64 (x : Int) (w : World) (h0 : 0 ≤ x) (h1 : x ≤ 18446744073709551615) :
    Calls Tryz.prog 180 #[.int .u64 x] w fun e w' => e = .returned (.int .i64 (Lib.bitLen x.toNat)) ∧ w' = w := Any.bits_Len64 Tryz.lays129 x w h0 h1

/-- k bytes of a number. -/
def encK : Nat → Nat → List UInt8
  | 0, _ => []
  | 1, n => [UInt8.ofNat (n % 128)]
  | k + 2, n => UInt8.ofNat (n % 128 + 128) :: encK (k + 1) (n / 128)
theorem encK_length (k n : Nat) : (encK k n).length = k := by
  induction k generalizing n with
  | zero => rfl
  | succ k ih =>
    cases k with
    | zero => rfl
    | succ k => simp [encK, ih]

theorem and127 : ∀ m : Fin 256, bits BinOp.and IntKind.u8 ((m : Nat) : Int) 127 = ((m.val % 128 : Nat) : Int) := by decide +kernel
theorem or128 : ∀ m : Fin 128, bits BinOp.or IntKind.u8 ((m : Nat) : Int) 128 = ((m.val + 128 : Nat) : Int) := by decide +kernel

section
variable {w w' : World}
set_option maxRecDepth 100000 in
theorem row_byte (a b n k : Nat) (hk : 1 ≤ k) (hk2 : k ≤ 10) (ha : Blk w a 88 #[.int .u64 n]) (hb : Blk w b 3 #[.int .i64 k]) :
    Calls Tryz.prog 195 #[.pointer (some ⟨a, 0, none⟩), .pointer (some ⟨b, 0, none⟩)] w fun e w' => e = .returned (.tuple #[.int .u8 (if 1 < k then n % 128 + 128 else n % 128 : Nat), .bool (decide (1 < k))]) ∧
      Mod (fun x => x = a ∨ x = b) w w' ∧ Blk w' a 88 #[.int .u64 (n / 128 : Nat)] ∧ Blk w' b 3 #[.int .i64 ((k : Int) - 1)] := by
  have hab : a ≠ b := ha.ne hb (by decide)
  have ca := ha.cell
  have fa := ha.frozen
  have cb := hb.cell
  have fb := hb.frozen
  have h127 : bits BinOp.and IntKind.u8 ((n : Int) % 256) 127 = ((n % 128 : Nat) : Int) := by
    have := and127 ⟨n % 256, Nat.mod_lt _ (by decide)⟩
    rw [show ((n : Int) % 256) = ((n % 256 : Nat) : Int) by omega, this]
    congr 1
    show n % 256 % 128 = n % 128
    omega
  have h128 : bits BinOp.or IntKind.u8 ((n % 128 : Nat) : Int) 128 = ((n % 128 + 128 : Nat) : Int) := or128 ⟨n % 128, Nat.mod_lt _ (by decide)⟩
  have HA := Lib.hid ha
  have HB := Lib.hid hb
  clear ha hb
  go_enter Tryz.func195, Tryz.ntmps195
  go_wp2
  all_goals
    refine wp_plan [(0, false), (1, false), (2, false), (3, false), (4, false)] Non (by kernel_rfl) (by kernel_rfl) (fun c d v a w h => by cases d <;> exact h) (fun w2 hm2 => ?_)
    have hA2 := ((HA.out.set 0 (.int .u64 (n / 128 : Int))).far (p := ⟨b, 0, none⟩) hab (.int .i64 ((k : Int) - 1))).mod hm2 (fun x => x)
    have hB2 := ((HB.out.far (p := ⟨a, 0, none⟩) (fun e => hab e.symm) (.int .u64 (n / 128 : Int))).set 0 (.int .i64 ((k : Int) - 1))).mod hm2 (fun x => x)
    have HA2 := Lib.hid hA2
    have HB2 := Lib.hid hB2
    clear hA2 hB2
    refine wpp_read _ rfl rfl (fun W hW => by have cW := (HB2.out.mod hW (fun x => x)).cell; first | (go_simp; done) | (go_simp; rfl) | rfl) ?_
    simp only [List.getElem_toArray, List.getElem_cons_zero]
    go_frame
    refine wpp_read _ rfl rfl (fun W hW => by have cW := (HB2.out.mod hW (fun x => x)).cell; first | (go_simp; done) | (go_simp; rfl) | rfl) ?_
    simp only [List.getElem_toArray, List.getElem_cons_succ, List.getElem_cons_zero]
    go_frame
    refine wpp_read _ rfl rfl (fun W hW => by have cW := (HB2.out.mod hW (fun x => x)).cell; first | (go_simp; done) | (go_simp; rfl) | rfl) ?_
    simp only [List.getElem_toArray, List.getElem_cons_succ, List.getElem_cons_zero]
    go_frame
    refine wpp_read _ rfl rfl (fun W hW => by have cW := (HB2.out.mod hW (fun x => x)).cell; first | (go_simp; done) | (go_simp; rfl) | rfl) ?_
    simp only [List.getElem_toArray, List.getElem_cons_succ, List.getElem_cons_zero]
    go_frame
    refine wpp_read _ rfl rfl (fun W hW => by have cW := (HB2.out.mod hW (fun x => x)).cell; first | (go_simp; done) | (go_simp; rfl) | rfl) ?_
    simp only [List.getElem_toArray, List.getElem_cons_succ, List.getElem_cons_zero]
    go_frame
    refine wpp_nil ?_
    go_wp2
  · go_ret2
    refine ⟨?_, (((Mod.refl _ w).setCell (p := ⟨a, 0, none⟩) (.inl (.inl rfl)) _).setCell (p := ⟨b, 0, none⟩) (.inl (.inr rfl)) _).trans (hm2.mono (fun _ x => x.elim)), HA2.out, HB2.out⟩
    rw [show ((n : Int) % 128) = ((n % 128 : Nat) : Int) by omega, h128]
    rfl
  · go_ret2
    have e : decide ((1 : Int) < (k : Int)) = false := by rw [decide_eq_false_iff_not]; omega
    refine ⟨by rw [← e]; rfl, (((Mod.refl _ w).setCell (p := ⟨a, 0, none⟩) (.inl (.inl rfl)) _).setCell (p := ⟨b, 0, none⟩) (.inl (.inr rfl)) _).trans (hm2.mono (fun _ x => x.elim)), HA2.out, HB2.out⟩
end
end Go.Proofs.YtgillcppnpkkiaaGreatDoor

namespace Go.Proofs.YtgillcppnpkkiaaGreatDoor
open Go Go.RowKit

/-- How many bytes a number takes. -/
def vlen (n : Nat) : Nat := max 1 ((Lib.bitLen n + 6) / 7)
theorem vlen_pos (n : Nat) : 1 ≤ vlen n := Nat.le_max_left _ _
theorem bitLen_le (n : Nat) : Lib.bitLen n ≤ 64 := by
  have h : ∀ f x, Lib.bitLenAux f x ≤ f := by
    intro f
    induction f with
    | zero => intro x; simp [Lib.bitLenAux]
    | succ f ih => intro x; unfold Lib.bitLenAux; split <;> (try have := ih (x / 2)); all_goals omega
  exact h 64 n
theorem vlen_le (n : Nat) : vlen n ≤ 10 := by
  have := bitLen_le n
  unfold vlen
  omega
def enc (n : Nat) : List UInt8 := encK (vlen n) n

section
variable {w w' : World}
set_option maxRecDepth 100000 in
theorem row_ok (w : World) (n : Nat) (hn : n < 18446744073709551616) :
    Calls Tryz.prog 181 #[.int .u64 n] w fun e w' => ∃ a b, e = .returned (.func (.func 195) #[] #[.pointer (some ⟨a, 0, none⟩), .pointer (some ⟨b, 0, none⟩)]) ∧ Blk w' a 88 #[.int .u64 n] ∧ Blk w' b 3 #[.int .i64 (vlen n)] ∧ w.heap.size ≤ a ∧ w.heap.size ≤ b ∧ Mod Non w w' := by
  have hL := fun (W : World) => bits_Len64 (n : Int) W (by omega) (by omega)
  have hb := bitLen_le n
  simp only [Int.toNat_natCast] at hL
  generalize hbl : Lib.bitLen n = B at *
  go_enter Tryz.func181, Tryz.ntmps181
  go_wp2_with (go_at_call 180; refine (hL _).mono ?_; rintro e w1 ⟨rfl, rfl⟩)
  go_ret
  refine ⟨w.heap.size, w.heap.size + 1, rfl, (Blk.new w _ _).alloc _, ?_, Nat.le_refl _, Nat.le_succ _, ((Mod.refl _ w).alloc _).alloc _⟩
  have hs : (w.alloc (.cells #[.int .u64 n] 88)).heap.size = w.heap.size + 1 := by simp
  have hv : max 1 (((B : Int) + 7 - 1) / 7) = (vlen n : Nat) := by
    unfold vlen
    rw [hbl]
    omega
  have hk := (Blk.new (w.alloc (.cells #[.int .u64 n] 88)) 3 #[.int .i64 (max 1 (((B : Int) + 7 - 1) / 7))])
  rw [hs] at hk
  rw [← hv]
  exact hk
end
end Go.Proofs.YtgillcppnpkkiaaGreatDoor

namespace Go.Proofs.YtgillcppnpkkiaaGreatDoor
open Go Go.RowKit
theorem und_int : Tryz.prog.underlying 3 = some (.int .i64) := by kernel_rfl

section
variable {w w' : World}
set_option maxRecDepth 100000 in
theorem grow_nil (w : World) (n : Nat) (h1 : 1 ≤ n) (h2 : n ≤ 4194304) :
    Calls Tryz.prog 201 #[.slice none 0 0, .int .i64 n] w fun e w' => ∃ v, e = .returned v ∧ w'.ownsRow w.heap.size 5 1 v 0 [] ∧ Mod Non w w' ∧ v ≠ .slice none 0 0 := by
  obtain ⟨i0, hi, hz0, hz1, hz2⟩ := info_parts info_u8
  have hrun := Lib.hid (Lib.run_append_nil_zeros (P := Tryz.prog) w 56 3 56 5 i0 _ .i64 .i64 und_bytes und_int hi hz0 n (by omega) (by omega) (by omega) (by rw [hz2]; omega))
  have hcap := grownCap_ge w n 0 5
  have hcm : grownCap w n 0 5 ≤ maxLen := grownCap_le_maxLen w n 0 5 (by unfold maxLen; omega)
  generalize hC : grownCap w n 0 5 = C at *
  generalize hZ : Builtin.zeroCells (Value.int .u8 0).cells n ++ Builtin.zeroCells (Value.int .u8 0).cells (C - n) = Z at *
  have hZs : Z.size = C := by
    rw [← hZ, Array.size_append, size_zeroCells, size_zeroCells]
    simp [Value.cells]
    omega
  have HC := Lib.hid hC
  have HZ := Lib.hid hZ
  have HZS := Lib.hid hZs
  clear hC hZ hZs
  go_enter Tryz.func201, Tryz.ntmps201
  go_wp2_with (at_builtin; refine Lib.wpList_append_run _ rfl (.tmp 20) (.tmp 21) _ _ rfl (.slice none 0 0) (.int .i64 n) rfl rfl _ _ hrun.out ?_)
  go_ret
  refine ⟨.slice (some ⟨w.heap.size, 0, none⟩) 0 C, rfl, World.ownsRow_made w.drew Z C (Nat.le_refl _) hcm (by rw [HZS.out]; omega), ((Mod.refl _ w).drew).alloc _, by simp⟩

theorem owns_from {base base' : Nat} {e : TypeId} {size : Nat} {v : Value} {n : Nat} {xs : List Value} (h : w.ownsRow base e size v n xs) (hb : base' ≤ base) : w.ownsRow base' e size v n xs :=
  ⟨h.1, h.2.imp id (fun ⟨g, cap, cur, e, h1, r⟩ => ⟨g, cap, cur, e, Nat.le_trans hb h1, r⟩)⟩
theorem cells_two {g : Nat} {t : TypeId} {u v : Value} (h : Blk w g t #[u, v]) : RowAt w (some ⟨g, 0, none⟩) 2 1 [u, v] := ⟨rfl, fun _ => ⟨_, rfl, fun j x hx => by
  rw [add_lit, h.cell]
  simpa using hx⟩⟩

set_option maxHeartbeats 800000 in
set_option maxRecDepth 100000 in
theorem concat_two (g c : Nat) (t : TypeId) (A1 A2 : Option Addr) (n1 n2 c1 c2 : Nat) (l1 l2 : List UInt8) (hb : Blk w g t #[.slice A1 n1 c1, .slice A2 n2 c2]) (h1 : RowAt w A1 n1 1 (bv l1)) (h2 : RowAt w A2 n2 1 (bv l2))
    (hn : 1 ≤ n1 + n2) (hm : n1 + n2 ≤ 4194304) :
    Calls Tryz.prog 196 #[.slice (some ⟨g, 0, none⟩) 2 c] w fun e w' => ∃ v, e = .returned v ∧ w'.ownsRow w.heap.size 5 1 v (n1 + n2) (bv (l1 ++ l2)) ∧ Mod Non w w' := by
  obtain ⟨i0, hi, hz0, hz1, hz2⟩ := info_parts info_u8
  have cb := hb.cell
  have Hb := Lib.hid hb
  have H1 := Lib.hid h1
  have H2 := Lib.hid h2
  clear hb h1 h2
  go_enter Tryz.func196, Tryz.ntmps196
  go_wp2
  go_loopw [3, 11] (fun s i wr => ∃ k : Nat, k ≤ 2 ∧ i = .int .i64 k ∧ s = .int .i64 (if k = 0 then 0 else if k = 1 then n1 else n1 + n2 : Nat) ∧ Mod Non w wr) (fun _ i _ => 2 - (intOf i).toNat)
  case atStart => exact ⟨0, by omega, rfl, rfl, Mod.refl _ _⟩
  case round =>
    obtain ⟨k, hk, rfl, rfl, hmr⟩ := hrel
    have cr := (Hb.out.mod hmr (fun x => x)).cell
    clear cb
    have hk3 : k = 0 ∨ k = 1 ∨ k = 2 := by omega
    clear hk
    rcases hk3 with rfl | rfl | rfl
    · go_wp2
      go_roundw
      case rel => exact ⟨1, by omega, rfl, by go_num, hmr⟩
      case measure => simp [intOf]
    · go_wp2
      go_roundw
      case rel => exact ⟨2, by omega, rfl, by go_num, hmr⟩
      case measure => simp [intOf]
    · have HG := Lib.hid (grow_nil wr (n1 + n2) hn hm)
      go_wp2_with (go_at_call 201; refine HG.out.mono ?_; rintro e w1 ⟨v1, rfl, ho1, hm1, hne1⟩
                   have HO1 := Lib.hid ho1
                   clear ho1 cr hne1)
      go_loopw [6, 27] (fun v i ws => ∃ k : Nat, k ≤ 2 ∧ i = .int .i64 k ∧ Mod Non w ws ∧ ws.ownsRow w.heap.size 5 1 v (if k = 0 then 0 else if k = 1 then n1 else n1 + n2) (bv (if k = 0 then [] else if k = 1 then l1 else l1 ++ l2))) (fun _ i _ => 2 - (intOf i).toNat)
      case atStart => exact ⟨0, by omega, rfl, hmr.trans hm1, owns_from HO1.out hmr.size⟩
      case round =>
        obtain ⟨k, hk, rfl, hms, hos⟩ := hrel
        have cs := (Hb.out.mod hms (fun x => x)).cell
        have hk3 : k = 0 ∨ k = 1 ∨ k = 2 := by omega
        clear hk
        rcases hk3 with rfl | rfl | rfl
        · have ho : wr.ownsRow w.heap.size 5 1 u6 0 (bv []) := hos
          clear hos
          obtain ⟨Av, cv, rfl, _, _, _⟩ := owns_form ho
          have hrs := H1.out.non (by omega) hms
          go_wp2_with (at_builtin; refine wpl_append rfl (.tmp 31) (.tmp 32) _ rfl w.heap.size 5 i0 (.int .u8 0) 1 1 und_bytes hi hz0 hz1 hz2 rfl (by omega) (v := .slice Av 0 cv) rfl ho rfl hrs (bv_one l1) (by unfold maxLen; omega) (by omega) hms.size ?_
                       intro v4 w4 ho4 hg4 hn4
                       have HO4 := Lib.hid ho4
                       have HM4 := Lib.hid (Mod.of_grown (S := fun k => (Value.slice Av 0 cv).ownBlock = some k) hg4 (fun k hk => hk))
                       have HLT := Lib.hid ho.lt
                       clear ho4 hg4 ho hrs)
          go_roundw
          case rel => exact ⟨1, by omega, rfl, hms.andThen HM4.out (fun b hb hlt => absurd (HLT.out b hb).1 (by omega)), by simpa [← bv_append] using HO4.out⟩
          case measure => simp [intOf]
        · have ho : wr.ownsRow w.heap.size 5 1 u6 n1 (bv l1) := hos
          clear hos
          obtain ⟨Av, cv, rfl, _, _, _⟩ := owns_form ho
          have hrs := H2.out.non (by omega) hms
          go_wp2_with (at_builtin; refine wpl_append rfl (.tmp 31) (.tmp 32) _ rfl w.heap.size 5 i0 (.int .u8 0) 1 1 und_bytes hi hz0 hz1 hz2 rfl (by omega) (v := .slice Av n1 cv) rfl ho rfl hrs (bv_one l2) (by unfold maxLen; omega) (by omega) hms.size ?_
                       intro v4 w4 ho4 hg4 hn4
                       have HO4 := Lib.hid ho4
                       have HM4 := Lib.hid (Mod.of_grown (S := fun k => (Value.slice Av n1 cv).ownBlock = some k) hg4 (fun k hk => hk))
                       have HLT := Lib.hid ho.lt
                       clear ho4 hg4 ho hrs)
          go_roundw
          case rel => exact ⟨2, by omega, rfl, hms.andThen HM4.out (fun b hb hlt => absurd (HLT.out b hb).1 (by omega)), by simpa [← bv_append] using HO4.out⟩
          case measure => simp [intOf]
        · have ho : wr.ownsRow w.heap.size 5 1 u6 (n1 + n2) (bv (l1 ++ l2)) := hos
          clear hos
          go_wp2
          go_ret
          exact ⟨_, rfl, ho, hms⟩
end
end Go.Proofs.YtgillcppnpkkiaaGreatDoor

namespace Go.Proofs.YtgillcppnpkkiaaGreatDoor
open Go Go.RowKit

theorem encK_step (r x : Nat) (hr : 1 ≤ r) : encK r x = UInt8.ofNat (if 1 < r then x % 128 + 128 else x % 128) :: encK (r - 1) (x / 128) := by
  cases r with
  | zero => omega
  | succ r =>
    cases r with
    | zero => rfl
    | succ r => simp [encK]
theorem byte_toNat (r x : Nat) : (UInt8.ofNat (if 1 < r then x % 128 + 128 else x % 128)).toNat = (if 1 < r then x % 128 + 128 else x % 128) := by
  rw [UInt8.toNat_ofNat']
  split <;> omega

section
variable {w w' : World}
set_option maxRecDepth 100000 in
theorem behind_ok (A1 A2 : Option Addr) (n1 n2 c1 c2 : Nat) (l1 l2 : List UInt8) (h1 : RowAt w A1 n1 1 (bv l1)) (h2 : RowAt w A2 n2 1 (bv l2)) (hn : 1 ≤ n1 + n2) (hm : n1 + n2 ≤ 4194304) :
    Calls Tryz.prog 182 #[.slice A1 n1 c1, .slice A2 n2 c2] w fun e w' => ∃ v, e = .returned v ∧ w'.ownsRow w.heap.size 5 1 v (n1 + n2) (bv (l1 ++ l2)) ∧ Mod Non w w' := by
  have hm0 : Mod Non w (w.alloc (.cells #[.slice A1 n1 c1, .slice A2 n2 c2] 56)) := (Mod.refl _ w).alloc _
  have HC := Lib.hid (concat_two (w := w.alloc (.cells #[.slice A1 n1 c1, .slice A2 n2 c2] 56)) w.heap.size 2 _ A1 A2 n1 n2 c1 c2 l1 l2 (Blk.new w _ _) (h1.non (by omega) hm0) (h2.non (by omega) hm0) hn hm)
  have HM := Lib.hid hm0
  clear h1 h2 hm0
  go_enter Tryz.func182, Tryz.ntmps182
  go_wp2_with (go_at_call 196; refine HC.out.mono ?_; rintro e w1 ⟨v1, rfl, ho1, hm1⟩)
  go_ret
  exact ⟨_, rfl, owns_from ho1 HM.out.size, HM.out.trans hm1⟩

set_option maxHeartbeats 800000 in
set_option maxRecDepth 100000 in
theorem num_put (A : Option Addr) (m c : Nat) (l : List UInt8) (n : Nat) (h : RowAt w A m 1 (bv l)) (hm : m ≤ 4194000) (hn : n < 18446744073709551616) :
    Calls Tryz.prog 126 #[.slice A m c, .int .u64 n] w fun e w' => ∃ v, e = .returned v ∧ w'.ownsRow w.heap.size 5 1 v (m + vlen n) (bv (l ++ enc n)) ∧ Mod Non w w' := by
  obtain ⟨i0, hi, hz0, hz1, hz2⟩ := info_parts info_u8
  have HR := Lib.hid (row_ok w n hn)
  have H := Lib.hid h
  have hv1 := vlen_pos n
  have hv2 := vlen_le n
  clear h
  go_enter Tryz.func126, Tryz.ntmps126
  go_wp2_with (go_at_call 181; refine HR.out.mono ?_; rintro e w1 ⟨a, b, rfl, ha, hb, hla, hlb, hm1⟩)
  have HA := Lib.hid ha
  have HB := Lib.hid hb
  have HM1 := Lib.hid hm1
  clear ha hb hm1
  go_loopw [6, 7] (fun v more wr => ∃ (done : List UInt8) (r x : Nat), done ++ encK r x = enc n ∧ r ≤ 10 ∧ done.length + r = vlen n ∧ more = .bool (decide (0 < r)) ∧ Blk wr a 88 #[.int .u64 x] ∧ Blk wr b 3 #[.int .i64 r] ∧ wr.ownsRow w.heap.size 5 1 v done.length (bv done) ∧ v.ownBlock ≠ some a ∧ v.ownBlock ≠ some b ∧ Mod Non w wr) (fun _ more wr => match wr.cell? ⟨b, 0, none⟩ with | some (.int _ x) => x.toNat | _ => 0)
  case atStart =>
    exact ⟨[], vlen n, n, rfl, hv2, by simp, by simp; omega, HA.out, HB.out, World.ownsRow_nil _ _ _ _, by simp [Value.ownBlock], by simp [Value.ownBlock], HM1.out⟩
  case round =>
    obtain ⟨done, r, x, he, hr, hdr, rfl, ha, hb, ho, hna, hnb, hmr⟩ := hrel
    by_cases hr0 : 0 < r
    · have hb0 : wr.cell? ⟨b, 0, none⟩ = some (.int .i64 r) := hb.cell 0
      have hy := row_byte a b x r hr0 hr ha hb
      rw [← byte_toNat] at hy
      have hst := encK_step r x hr0
      generalize UInt8.ofNat (if 1 < r then x % 128 + 128 else x % 128) = u at *
      have HY := Lib.hid hy
      have HST := Lib.hid hst
      have HE := Lib.hid he
      have HD := Lib.hid hdr
      have HO := Lib.hid ho
      have HMR := Lib.hid hmr
      have HLa := Lib.hid ha.lt
      have HLb := Lib.hid hb.lt
      have hd0 : decide (0 < r) = true := by simpa using hr0
      rw [hd0]
      clear hy hst he ho hmr ha hb hd0
      go_wp2_with (first
        | (go_at_call 195; refine HY.out.mono ?_; rintro e w2 ⟨rfl, hm2, ha2, hb2⟩
           have HA2 := Lib.hid ha2
           have HB2 := Lib.hid hb2
           have HM2 := Lib.hid hm2
           have hmW : Mod Non w2 (w2.alloc (.cells #[.int .u8 u.toNat] 5)) := (Mod.refl _ w2).alloc _
           have hoW := owns_keep HO.out (fun k hk => (hm2.trans (hmW.mono (fun _ x => x.elim))).block k (HO.out.lt k hk).2 (fun e => e.elim (fun e => hna (by rw [hk, e])) (fun e => hnb (by rw [hk, e]))))
           obtain ⟨Av, cv, rfl, _, _, _⟩ := owns_form hoW
           have hrW : RowAt (w2.alloc (.cells #[.int .u8 u.toNat] 5)) (some ⟨w2.heap.size, 0, none⟩) 1 1 (bv [u]) := ⟨rfl, fun _ => ⟨_, rfl, fun j y hy => by
             rw [add_lit, (Blk.new w2 5 #[.int .u8 u.toNat]).cell]
             simpa [bv, u8v] using hy⟩⟩
           have HMW := Lib.hid hmW
           clear ha2 hb2 hm2 hmW)
        | (at_builtin; refine wpl_append_at rfl (.tmp 17) (.tmp 19) _ rfl w.heap.size 5 i0 (.int .u8 0) 1 1 und_bytes hi hz0 hz1 hz2 rfl (by omega) (v := .slice Av done.length cv) rfl hoW rfl hrW (bv_one [u]) (by unfold maxLen; omega) (by omega) (Nat.le_trans HMR.out.size (Nat.le_trans HM2.out.size HMW.out.size)) ?_
           intro v4 w4 ho4 hg4 hn4 ha4))
      case roundEnd =>
        have hmg : Mod (fun k => (Value.slice Av done.length cv).ownBlock = some k) (w2.alloc (.cells #[.int .u8 u.toNat] 5)) w4 := Mod.of_grown hg4 (fun k hk => hk)
        have hm24 : Mod (fun k => (Value.slice Av done.length cv).ownBlock = some k) w2 w4 := (HMW.out.mono (fun _ x => x.elim)).trans hmg
        have hA4 := HA2.out.mod hm24 hna
        have hB4 := HB2.out.mod hm24 hnb
        have hr1 : ((r : Int) - 1) = ((r - 1 : Nat) : Int) := by omega
        rw [hr1] at hB4
        have hlow : ∀ k, (Value.slice Av done.length cv).ownBlock = some k → w.heap.size ≤ k := fun k hk => (HO.out.lt k hk).1
        have hmw4 : Mod Non w w4 := HMR.out.andThen (T := fun y => y = a ∨ y = b ∨ (Value.slice Av done.length cv).ownBlock = some y) ((HM2.out.mono (fun y x => x.elim .inl (fun e => .inr (.inl e)))).trans (hm24.mono (fun y x => .inr (.inr x)))) (fun y hy hlt => by
          rcases hy with rfl | rfl | hy
          · omega
          · omega
          · have := hlow y hy; omega)
        have hsz2 := HM2.out.size
        have hszW := HMW.out.size
        have hla2 := HLa.out
        have hlb2 := HLb.out
        have hnew : ∀ y, y < wr.heap.size → (Value.slice Av done.length cv).ownBlock ≠ some y → v4.ownBlock ≠ some y := fun y hy hne h => by
          rcases ha4 with e | e
          · exact hne (e ▸ h)
          · rw [e] at h
            injection h with h
            omega
        have hD := HD.out
        refine ⟨⟨done ++ [u], r - 1, x / 128, ?_, by omega, ?_, ?_, hA4, hB4, ?_, hnew a hla2 hna, hnew b hlb2 hnb, hmw4⟩, ?_⟩
        · rw [List.append_assoc, List.singleton_append, ← HST.out]
          exact HE.out
        · rw [List.length_append, List.length_singleton]
          omega
        · congr 1
          rw [decide_eq_decide]
          omega
        · rw [List.length_append, List.length_singleton, bv_append]
          exact ho4
        · have h0 : w4.cell? ⟨b, 0, none⟩ = some (.int .i64 (r - 1 : Nat)) := hB4.cell 0
          rw [h0, hb0]
          simp only [Int.toNat_natCast]
          omega
    · have hr00 : r = 0 := by omega
      subst hr00
      have hde : done = enc n := by rw [← he]; simp [encK]
      subst hde
      have hd0 : decide (0 < 0) = false := rfl
      obtain ⟨Av, cv, rfl, _, hrow, _⟩ := owns_form ho
      have hlen : (enc n).length = vlen n := encK_length _ _
      rw [hlen] at hrow
      rw [hlen]
      have HBH := Lib.hid (behind_ok A Av m (vlen n) c cv l (enc n) (H.out.non (by omega) hmr) hrow (by omega) (by omega))
      have HMR := Lib.hid hmr
      clear he hdr ha hb ho hrow hmr hna hnb
      go_wp2_with (go_at_call 182; refine HBH.out.mono ?_; rintro e w5 ⟨v5, rfl, ho5, hm5⟩)
      go_ret
      exact ⟨_, rfl, owns_from ho5 HMR.out.size, HMR.out.trans hm5⟩
end
end Go.Proofs.YtgillcppnpkkiaaGreatDoor

namespace Go.Proofs.YtgillcppnpkkiaaGreatDoor
open Go Go.RowKit

/-- What a record tells of pages. -/
def recB (G : Pg) (l : List Nat) : List UInt8 := l.flatMap fun n => enc n ++ (match G.now n with | some x => 1 :: x | none => [0])
def Pg.body (G : Pg) (l : List Nat) : List UInt8 := enc G.root ++ recB G l
def Pg.record (G : Pg) (l : List Nat) : List UInt8 := enc (G.body l).length ++ G.body l
theorem enc_length (n : Nat) : (enc n).length = vlen n := encK_length _ _

section
variable {w w' : World} {p : Nat} {G : Pg}
theorem recB_take {l : List Nat} {k n : Nat} (h : l[k]? = some n) : recB G (l.take (k + 1)) = recB G (l.take k) ++ (enc n ++ (match G.now n with | some x => 1 :: x | none => [0])) := by
  rw [List.take_add_one, h]
  simp [recB]
theorem recB_le (hlen : ∀ n x, G.now n = some x → x.length = 256) (l : List Nat) : (recB G l).length ≤ l.length * 267 := by
  induction l with
  | nil => simp [recB]
  | cons n l ih =>
    have h1 := vlen_le n
    have e : recB G (n :: l) = (enc n ++ (match G.now n with | some x => 1 :: x | none => [0])) ++ recB G l := by simp [recB]
    rw [e, List.length_append, List.length_append, enc_length, List.length_cons]
    have h2 : (match G.now n with | some x => 1 :: x | none => [0]).length ≤ 257 := by
      cases hn : G.now n with
      | none => simp
      | some x => simp [hlen n x hn]
    omega

theorem one_row (w : World) (u : UInt8) : RowAt (w.alloc (.cells #[.int .u8 u.toNat] 5)) (some ⟨w.heap.size, 0, none⟩) 1 1 (bv [u]) := ⟨rfl, fun _ => ⟨_, rfl, fun j y hy => by
  rw [add_lit, (Blk.new w 5 #[.int .u8 u.toNat]).cell]
  simpa [bv, u8v] using hy⟩⟩

set_option maxHeartbeats 1000000 in
set_option maxRecDepth 100000 in
theorem record_ok (h : PagRep w p G) (hroot : G.root < 4294967296) (A : Option Addr) (c : Nat) (l : List Nat) (hr : RowAt w A l.length 1 (uv l)) (hl : ∀ n ∈ l, n < 4294967296) (hlen : l.length ≤ 8192) :
    Calls Tryz.prog 47 #[.pointer (some ⟨p, 0, none⟩), .slice A l.length c] w fun e w' => ∃ v, e = .returned v ∧ w'.ownsRow w.heap.size 5 1 v (G.record l).length (bv (G.record l)) ∧ Mod Non w w' := by
  obtain ⟨i0, hi, hz0, hz1, hz2⟩ := info_parts info_u8
  have cp := h.blk.cell
  unfold Pg.cells at cp
  have HN0 := fun W => num_put (w := W) none 0 0 [] G.root RowAt.none (by omega) (by omega)
  have hv := vlen_le G.root
  have hrec := fun k => recB_le (G := G) h.len (l.take k)
  have H := Lib.hid h
  have HL := Lib.hid hl
  have HR := Lib.hid hr
  clear h hl hr
  go_enter Tryz.func47, Tryz.ntmps47
  go_wp2_with (go_at_call 126; refine (HN0 _).mono ?_; rintro e w1 ⟨v1, rfl, ho1, hm1⟩
               have HO1 := Lib.hid ho1
               clear ho1)
  clear cp HN0
  go_loopw [5, 18] (fun v i wr => ∃ k : Nat, k ≤ l.length ∧ i = .int .i64 k ∧ Mod Non w wr ∧ wr.ownsRow w.heap.size 5 1 v (enc G.root ++ recB G (l.take k)).length (bv (enc G.root ++ recB G (l.take k)))) (fun _ i _ => l.length - (intOf i).toNat)
  case atStart =>
    refine ⟨0, by omega, rfl, hm1, ?_⟩
    have := HO1.out
    simpa [recB, enc_length] using this
  case round =>
    obtain ⟨k, hk, rfl, hmr, ho⟩ := hrel
    by_cases hlt : k < l.length
    · obtain ⟨n, hn⟩ : ∃ n, l[k]? = some n := ⟨_, List.getElem?_eq_getElem hlt⟩
      have hn32 := HL.out n (List.mem_of_getElem? hn)
      have hrep := H.out.mod hmr (fun _ _ x => x)
      have cp := hrep.blk.cell
      unfold Pg.cells at cp
      obtain ⟨ad, u, eA, hu, hc⟩ := (HR.out.non (by omega) hmr).at1 hlt
      have hun : u = .int .u32 n := by
        have : (uv l)[k]? = some (.int .u32 n) := by simp [uv, hn]
        rw [this] at hu
        cases hu
        rfl
      subst eA hun
      have hrk := hrec k
      have hmn : min k l.length = k := by omega
      rw [List.length_take, hmn] at hrk
      have hrec1 := recB_take (G := G) hn
      have hx := hrep.len n
      obtain ⟨B, hB⟩ : ∃ B, B = enc G.root ++ recB G (l.take k) := ⟨_, rfl⟩
      have hBl : B.length ≤ 10 + k * 267 := by rw [hB, List.length_append, enc_length]; omega
      rw [← hB] at ho
      obtain ⟨Av, cv, rfl, hcv, hrow, _⟩ := owns_form ho
      have HNP : ∀ W, Mod Non wr W → Hid _ := fun W hW => Lib.hid (num_put (w := W) Av B.length cv B n (hrow.non (by omega) hW) (by omega) (by omega))
      have hvn := vlen_le n
      have HRB : Hid (enc G.root ++ recB G (l.take (k + 1)) = B ++ (enc n ++ (match G.now n with | some x => 1 :: x | none => [0]))) := Lib.hid (by rw [hrec1, hB, List.append_assoc])
      have HMR := Lib.hid hmr
      have hnow := hrep.now
      clear hrec1 hB ho hrow hrec hmr
      cases hG : G.now n with
      | none =>
        have Hf := Lib.hid (mapV_none hG)
        rw [hG] at HRB
        clear hG hx
        go_wp2_with (first
          | (at_lookup; refine wpl_lookup_none rfl _ _ rfl und_mapPage und_u32 page_zero rfl hnow n rfl Hf.out ?_)
          | (refine wpl_alloc_page rfl rfl ?_; intro w2 hb2 hm2 hs2)
          | (refine wpl_store_page rfl _ _ rfl rfl hb2 (by rw [List.size_toArray, bv_length, zero256_length]) rfl zero256_length ?_; intro w3 hb3 hm3 hs3
             have hm23 := hm2.andThen hm3 (S := Non) (fun b hb hlt => by cases hb; omega))
          | (go_at_call 126; refine (HNP _ hm23).out.mono ?_; rintro e w4 ⟨v4, rfl, ho4, hm4⟩
             obtain ⟨A4, c4, rfl, _, _, _⟩ := owns_form ho4
             have HO4 := Lib.hid ho4
             have HM4 := Lib.hid hm4
             have HM23 := Lib.hid hm23
             have HB3 := Lib.hid (hb3.mod hm4 (fun x => x))
             clear ho4 hb3 hb2)
          | (at_builtin; refine wpl_append_at rfl (.tmp 41) (.tmp 42) _ rfl w.heap.size 5 i0 (.int .u8 0) 1 1 und_bytes hi hz0 hz1 hz2 rfl (by omega) (v := .slice A4 (B.length + vlen n) c4) rfl (owns_from ((HO4.out).alloc _) (Nat.le_trans HMR.out.size HM23.out.size)) rfl (one_row w4 0) (bv_one [0]) (by unfold maxLen; omega) (by omega) (Nat.le_trans (Nat.le_trans HMR.out.size HM23.out.size) (Nat.le_trans HM4.out.size (by simp))) ?_
             intro v5 w5 ho5 hg5 hn5 ha5
             have HO5 := Lib.hid ho5
             have HG5 := Lib.hid (Mod.of_grown (S := fun k => (Value.slice A4 (B.length + vlen n) c4).ownBlock = some k) hg5 (fun k hk => hk))
             clear ho5 hg5))
        case roundEnd =>
          refine ⟨⟨k + 1, by omega, rfl, (((HMR.out.trans HM23.out).trans HM4.out).alloc _).andThen HG5.out (fun b hb hlt => absurd (HO4.out.lt b hb).1 (by have := HM23.out.size; have := HMR.out.size; omega)), ?_⟩, by simp [intOf]; omega⟩
          rw [HRB.out, show (B ++ (enc n ++ [(0 : UInt8)]) : List UInt8).length = B.length + vlen n + 1 by simp [enc_length]; omega, show bv (B ++ (enc n ++ [(0 : UInt8)])) = bv (B ++ enc n) ++ bv [0] by simp [bv_append]]
          exact HO5.out
      | some x =>
        have Hf := Lib.hid (mapV_some hG)
        have HXL := Lib.hid (hx x hG)
        rw [hG] at HRB
        clear hG hx
        go_wp2_with (first
          | (at_lookup; refine wpl_lookup_some rfl _ _ rfl und_mapPage und_u32 page_zero rfl hnow n rfl Hf.out ?_)
          | (refine wpl_alloc_page rfl rfl ?_; intro w2 hb2 hm2 hs2)
          | (refine wpl_store_page rfl _ _ rfl rfl hb2 (by rw [List.size_toArray, bv_length, zero256_length]) rfl HXL.out ?_; intro w3 hb3 hm3 hs3
             have hm23 := hm2.andThen hm3 (S := Non) (fun b hb hlt => by cases hb; omega))
          | (go_at_call 126; refine (HNP _ hm23).out.mono ?_; rintro e w4 ⟨v4, rfl, ho4, hm4⟩
             obtain ⟨A4, c4, rfl, _, _, _⟩ := owns_form ho4
             have HO4 := Lib.hid ho4
             have HM4 := Lib.hid hm4
             have HM23 := Lib.hid hm23
             have HB3 := Lib.hid (hb3.mod hm4 (fun x => x))
             clear ho4 hb3 hb2))
        refine wp_plan [(0, false), (3, false), (1, true), (2, true), (4, true), (5, false)] (fun k => (Value.slice A4 (B.length + vlen n) c4).ownBlock = some k) (by kernel_rfl) (by kernel_rfl) (fun c d v a w h => by cases d <;> exact h) (fun w5 hm5 => ?_)
        refine wpp_read _ rfl rfl (fun W hW => by first | (go_simp; done) | (go_simp; rfl) | rfl) ?_
        simp only [List.getElem_toArray, List.getElem_cons_zero]
        go_frame
        refine wpp_read _ rfl rfl (fun W hW => by first | (go_simp; done) | (go_simp; rfl) | rfl) ?_
        simp only [List.getElem_toArray, List.getElem_cons_succ, List.getElem_cons_zero]
        go_frame
        refine wpp_act rfl rfl ?_
        go_simp
        refine ⟨(Mod.refl _ _).alloc _, ?_⟩
        have ho5 : (w5.alloc (.cells #[.int .u8 1] 5)).ownsRow w.heap.size 5 1 (.slice A4 (B.length + vlen n) c4) (B.length + vlen n) (bv (B ++ enc n)) := owns_keep (owns_from HO4.out (Nat.le_trans HMR.out.size HM23.out.size)) (fun b hb => (hm5.alloc (.cells #[.int .u8 1] 5)).block b (HO4.out.lt b hb).2 (fun x => x))
        have hb5 := (HB3.out.mod hm5 (fun x => x)).alloc (.cells #[.int .u8 1] 5)
        have hlow : w.heap.size ≤ w5.heap.size := Nat.le_trans (Nat.le_trans HMR.out.size HM23.out.size) (Nat.le_trans HM4.out.size hm5.size)
        have hs5 : (w5.alloc (.cells #[.int .u8 1] 5)).heap.size = w5.heap.size + 1 := by simp
        obtain ⟨v6, w6, hr6, ho6, hg6, _, ha6⟩ := run_append_row_at (P := Tryz.prog) (w := w5.alloc (.cells #[.int .u8 1] 5)) w.heap.size 56 56 5 i0 _ 1 1 und_bytes hi hz0 hz1 hz2 rfl (by omega) ho5 (c := 1) (one_row w5 1) (bv_one [1]) (by unfold maxLen; omega) (by omega) (by omega)
        obtain ⟨A6, c6, rfl, _, _, _⟩ := owns_form ho6
        have hm6 : Mod (fun k => (Value.slice A4 (B.length + vlen n) c4).ownBlock = some k) w5 w6 := ((Mod.refl _ w5).alloc _).trans (Mod.of_grown hg6 (fun k hk => hk))
        have hb6 := hb5.mod (Mod.of_grown (S := fun k => (Value.slice A4 (B.length + vlen n) c4).ownBlock = some k) hg6 (fun k hk => hk)) (own_blk_ne ho5 hb5 (by decide))
        have hrp : RowAt w6 (some ⟨wr.heap.size, 0, none⟩) 256 1 (bv x) := ⟨by rw [bv_length, HXL.out], fun _ => ⟨_, rfl, fun j u hu => by rw [add_lit, hb6.cell]; simpa using hu⟩⟩
        obtain ⟨v7, w7, hr7, ho7, hg7, _, ha7⟩ := run_append_row_at (P := Tryz.prog) (w := w6) w.heap.size 56 56 5 i0 _ 1 1 und_bytes hi hz0 hz1 hz2 rfl (by omega) ho6 (c := 256) hrp (bv_one x) (by unfold maxLen; omega) (by omega) (Nat.le_trans hlow hm6.size)
        have hm7 : Mod (fun k => (Value.slice A4 (B.length + vlen n) c4).ownBlock = some k) w5 w7 := hm6.andThen (Mod.of_grown (S := fun k => (Value.slice A6 (B.length + vlen n + 1) c6).ownBlock = some k) hg7 (fun k hk => hk)) (fun b hb hlt => by
          rcases ha6 with e | e
          · rw [← e]; exact hb
          · rw [e] at hb; injection hb with hb; omega)
        have HO7 := Lib.hid ho7
        have HM5 := Lib.hid hm5
        clear ho5 hb5 ho6 hg6 ha6 hb6 hrp ho7 hg7 ha7 hm5 hs5
        refine wpp_act rfl rfl ?_
        refine wpo_append _ _ _ rfl rfl rfl hr6 ?_
        refine ⟨hm6, ?_⟩
        clear hr6
        simp only [List.getElem_toArray, List.getElem_cons_succ, List.getElem_cons_zero]
        go_frame
        refine wpp_act rfl rfl ?_
        refine wpo_append _ _ _ rfl rfl rfl hr7 ?_
        refine ⟨hm7, ?_⟩
        clear hr7
        simp only [List.getElem_toArray, List.getElem_cons_succ, List.getElem_cons_zero]
        go_frame
        refine wpp_read v7 rfl rfl (fun W hW => by first | (go_simp; done) | (go_simp; rfl) | rfl) ?_
        simp only [List.getElem_toArray, List.getElem_cons_succ, List.getElem_cons_zero]
        go_frame
        refine wpp_nil ?_
        go_wp2
        case roundEnd =>
          refine ⟨⟨k + 1, by omega, rfl, (((HMR.out.trans HM23.out).trans HM4.out).trans HM5.out).andThen hm7 (fun b hb hlt => absurd (HO4.out.lt b hb).1 (by have := HM23.out.size; have := HMR.out.size; omega)), ?_⟩, by simp [intOf]; omega⟩
          have e1 : (B ++ (enc n ++ 1 :: x) : List UInt8).length = B.length + vlen n + 1 + 256 := by simp [enc_length, HXL.out]; omega
          have e2 : bv (B ++ (enc n ++ 1 :: x)) = bv (B ++ enc n) ++ bv [1] ++ bv x := by
            rw [← bv_append, ← bv_append]
            simp
          rw [HRB.out, e1, e2]
          exact HO7.out
    · obtain rfl : k = l.length := by omega
      have hrk := hrec l.length
      rw [List.take_length] at ho hrk
      have hbody : enc G.root ++ recB G l = G.body l := rfl
      have hbl : (G.body l).length ≤ 10 + l.length * 267 := by rw [← hbody, List.length_append, enc_length]; omega
      rw [hbody] at ho
      obtain ⟨Av, cv, rfl, hcv, hrow, _⟩ := owns_form ho
      have HNP := Lib.hid (num_put (w := wr) none 0 0 [] (G.body l).length RowAt.none (by omega) (by omega))
      have hvn := vlen_le (G.body l).length
      have HMR := Lib.hid hmr
      have HROW := Lib.hid hrow
      clear ho hrow hrec hmr hbody
      go_wp2_with (first
        | (go_at_call 126; refine HNP.out.mono ?_; rintro e w4 ⟨v4, rfl, ho4, hm4⟩
           rw [Nat.zero_add, List.nil_append] at ho4
           obtain ⟨A4, c4, rfl, _, _, _⟩ := owns_form ho4
           have HO4 := Lib.hid ho4
           have HM4 := Lib.hid hm4
           clear ho4 hm4)
        | (at_builtin; refine wpl_append_at rfl (.tmp 48) (.tmp 49) _ rfl wr.heap.size 5 i0 (.int .u8 0) 1 1 und_bytes hi hz0 hz1 hz2 rfl (by omega) (v := .slice A4 (vlen (G.body l).length) c4) rfl HO4.out rfl (HROW.out.non (by omega) HM4.out) (bv_one _) (by unfold maxLen; omega) (by omega) HM4.out.size ?_
           intro v5 w5 ho5 hg5 hn5 ha5
           have HO5 := Lib.hid ho5
           have HG5 := Lib.hid (Mod.of_grown (S := fun k => (Value.slice A4 (vlen (G.body l).length) c4).ownBlock = some k) hg5 (fun k hk => hk))
           clear ho5 hg5))
      go_ret
      refine ⟨v5, rfl, ?_, (HMR.out.trans HM4.out).andThen HG5.out (fun b hb hlt => absurd (HO4.out.lt b hb).1 (by have := HMR.out.size; omega))⟩
      have e1 : (G.record l).length = vlen (G.body l).length + (G.body l).length := by unfold Pg.record; rw [List.length_append, enc_length]
      have e2 : bv (G.record l) = bv (enc (G.body l).length) ++ bv (G.body l) := by unfold Pg.record; rw [bv_append]
      rw [e1, e2]
      exact owns_from HO5.out HMR.out.size
end
end Go.Proofs.YtgillcppnpkkiaaGreatDoor
