/- slices.Grow of nil, slices.Concat of two rows of bytes; nums.behind. -/
import Derived.Lib.AppendZeros
import Derived.Test.YtmclbechnfedmaaNumPut
namespace Go.Proofs.Ytmclbechnfedmaa
open Go Go.RowKit
theorem und_int : Try.prog.underlying 3 = some (.int .i64) := by kernel_rfl

section
variable {w w' : World}
set_option maxRecDepth 100000 in
theorem grow_nil (w : World) (n : Nat) (h1 : 1 ≤ n) (h2 : n ≤ 4194304) :
    Calls Try.prog 87 #[.slice none 0 0, .int .i64 n] w fun e w' => ∃ v, e = .returned v ∧ w'.ownsRow w.heap.size 5 1 v 0 [] ∧ Mod Non w w' ∧ v ≠ .slice none 0 0 := by
  obtain ⟨i0, hi, hz0, hz1, hz2⟩ := info_parts info_u8
  have hrun := Lib.hid (Lib.run_append_nil_zeros (P := Try.prog) w 23 3 23 5 i0 _ .i64 .i64 und_bytes und_int hi hz0 n (by omega) (by omega) (by omega) (by rw [hz2]; omega))
  have hcap := grownCap_ge w n 0 5
  have hcm : grownCap w n 0 5 ≤ maxLen := grownCap_le_maxLen w n 0 5 (by unfold maxLen; omega)
  generalize hC : grownCap w n 0 5 = C at *
  generalize hZ : Builtin.zeroCells (Value.int .u8 0).cells n ++ Builtin.zeroCells (Value.int .u8 0).cells (C - n) = Z at *
  have hZs : Z.size = C := by
    rw [← hZ, Array.size_append, size_zeroCells, size_zeroCells]
    simp [Value.cells]
    omega
  have HC := Lib.hid hC
  have HZ := Lib.hid hZ
  have HZS := Lib.hid hZs
  clear hC hZ hZs
  go_enter Try.func87, Try.ntmps87
  go_wp2_with (at_builtin; refine Lib.wpList_append_run _ rfl (.tmp 20) (.tmp 21) _ _ rfl (.slice none 0 0) (.int .i64 n) rfl rfl _ _ hrun.out ?_)
  go_ret
  refine ⟨.slice (some ⟨w.heap.size, 0, none⟩) 0 C, rfl, World.ownsRow_made w.drew Z C (Nat.le_refl _) hcm (by rw [HZS.out]; omega), ((Mod.refl _ w).drew).alloc _, by simp⟩

theorem owns_from {base base' : Nat} {e : TypeId} {size : Nat} {v : Value} {n : Nat} {xs : List Value} (h : w.ownsRow base e size v n xs) (hb : base' ≤ base) : w.ownsRow base' e size v n xs :=
  ⟨h.1, h.2.imp id (fun ⟨g, cap, cur, e, h1, r⟩ => ⟨g, cap, cur, e, Nat.le_trans hb h1, r⟩)⟩
theorem cells_two {g : Nat} {t : TypeId} {u v : Value} (h : Blk w g t #[u, v]) : RowAt w (some ⟨g, 0, none⟩) 2 1 [u, v] := ⟨rfl, fun _ => ⟨_, rfl, fun j x hx => by
  rw [add_lit, h.cell]
  simpa using hx⟩⟩

set_option maxHeartbeats 800000 in
set_option maxRecDepth 100000 in
theorem concat_two (g c : Nat) (t : TypeId) (A1 A2 : Option Addr) (n1 n2 c1 c2 : Nat) (l1 l2 : List UInt8) (hb : Blk w g t #[.slice A1 n1 c1, .slice A2 n2 c2]) (h1 : RowAt w A1 n1 1 (bv l1)) (h2 : RowAt w A2 n2 1 (bv l2))
    (hn : 1 ≤ n1 + n2) (hm : n1 + n2 ≤ 4194304) :
    Calls Try.prog 85 #[.slice (some ⟨g, 0, none⟩) 2 c] w fun e w' => ∃ v, e = .returned v ∧ w'.ownsRow w.heap.size 5 1 v (n1 + n2) (bv (l1 ++ l2)) ∧ Mod Non w w' := by
  obtain ⟨i0, hi, hz0, hz1, hz2⟩ := info_parts info_u8
  have cb := hb.cell
  have Hb := Lib.hid hb
  have H1 := Lib.hid h1
  have H2 := Lib.hid h2
  clear hb h1 h2
  go_enter Try.func85, Try.ntmps85
  go_wp2
  go_loopw [3, 11] (fun s i wr => ∃ k : Nat, k ≤ 2 ∧ i = .int .i64 k ∧ s = .int .i64 (if k = 0 then 0 else if k = 1 then n1 else n1 + n2 : Nat) ∧ Mod Non w wr) (fun _ i _ => 2 - (intOf i).toNat)
  case atStart => exact ⟨0, by omega, rfl, rfl, Mod.refl _ _⟩
  case round =>
    obtain ⟨k, hk, rfl, rfl, hmr⟩ := hrel
    have cr := (Hb.out.mod hmr (fun x => x)).cell
    clear cb
    have hk3 : k = 0 ∨ k = 1 ∨ k = 2 := by omega
    clear hk
    rcases hk3 with rfl | rfl | rfl
    · go_wp2
      go_roundw
      case rel => exact ⟨1, by omega, rfl, by go_num, hmr⟩
      case measure => simp [intOf]
    · go_wp2
      go_roundw
      case rel => exact ⟨2, by omega, rfl, by go_num, hmr⟩
      case measure => simp [intOf]
    · have HG := Lib.hid (grow_nil wr (n1 + n2) hn hm)
      go_wp2_with (go_at_call 87; refine HG.out.mono ?_; rintro e w1 ⟨v1, rfl, ho1, hm1, hne1⟩
                   have HO1 := Lib.hid ho1
                   clear ho1 cr hne1)
      go_loopw [6, 27] (fun v i ws => ∃ k : Nat, k ≤ 2 ∧ i = .int .i64 k ∧ Mod Non w ws ∧ ws.ownsRow w.heap.size 5 1 v (if k = 0 then 0 else if k = 1 then n1 else n1 + n2) (bv (if k = 0 then [] else if k = 1 then l1 else l1 ++ l2))) (fun _ i _ => 2 - (intOf i).toNat)
      case atStart => exact ⟨0, by omega, rfl, hmr.trans hm1, owns_from HO1.out hmr.size⟩
      case round =>
        obtain ⟨k, hk, rfl, hms, hos⟩ := hrel
        have cs := (Hb.out.mod hms (fun x => x)).cell
        have hk3 : k = 0 ∨ k = 1 ∨ k = 2 := by omega
        clear hk
        rcases hk3 with rfl | rfl | rfl
        · have ho : wr.ownsRow w.heap.size 5 1 u6 0 (bv []) := hos
          clear hos
          obtain ⟨Av, cv, rfl, _, _, _⟩ := owns_form ho
          have hrs := H1.out.non (by omega) hms
          go_wp2_with (at_builtin; refine wpl_append rfl (.tmp 31) (.tmp 32) _ rfl w.heap.size 5 i0 (.int .u8 0) 1 1 und_bytes hi hz0 hz1 hz2 rfl (by omega) (v := .slice Av 0 cv) rfl ho rfl hrs (bv_one l1) (by unfold maxLen; omega) (by omega) hms.size ?_
                       intro v4 w4 ho4 hg4 hn4
                       have HO4 := Lib.hid ho4
                       have HM4 := Lib.hid (Mod.of_grown (S := fun k => (Value.slice Av 0 cv).ownBlock = some k) hg4 (fun k hk => hk))
                       have HLT := Lib.hid ho.lt
                       clear ho4 hg4 ho hrs)
          go_roundw
          case rel => exact ⟨1, by omega, rfl, hms.andThen HM4.out (fun b hb hlt => absurd (HLT.out b hb).1 (by omega)), by simpa [← bv_append] using HO4.out⟩
          case measure => simp [intOf]
        · have ho : wr.ownsRow w.heap.size 5 1 u6 n1 (bv l1) := hos
          clear hos
          obtain ⟨Av, cv, rfl, _, _, _⟩ := owns_form ho
          have hrs := H2.out.non (by omega) hms
          go_wp2_with (at_builtin; refine wpl_append rfl (.tmp 31) (.tmp 32) _ rfl w.heap.size 5 i0 (.int .u8 0) 1 1 und_bytes hi hz0 hz1 hz2 rfl (by omega) (v := .slice Av n1 cv) rfl ho rfl hrs (bv_one l2) (by unfold maxLen; omega) (by omega) hms.size ?_
                       intro v4 w4 ho4 hg4 hn4
                       have HO4 := Lib.hid ho4
                       have HM4 := Lib.hid (Mod.of_grown (S := fun k => (Value.slice Av n1 cv).ownBlock = some k) hg4 (fun k hk => hk))
                       have HLT := Lib.hid ho.lt
                       clear ho4 hg4 ho hrs)
          go_roundw
          case rel => exact ⟨2, by omega, rfl, hms.andThen HM4.out (fun b hb hlt => absurd (HLT.out b hb).1 (by omega)), by simpa [← bv_append] using HO4.out⟩
          case measure => simp [intOf]
        · have ho : wr.ownsRow w.heap.size 5 1 u6 (n1 + n2) (bv (l1 ++ l2)) := hos
          clear hos
          go_wp2
          go_ret
          exact ⟨_, rfl, ho, hms⟩
end
end Go.Proofs.Ytmclbechnfedmaa
