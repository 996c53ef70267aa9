/- Disk.Append. -/
import Derived.Test.YtmclbechnfedmaaApp
namespace Go.Proofs.Ytmclbechnfedmaa
open Go Go.RowKit
section
variable {w w' : World} {d : Nat} {D : Dk}
set_option maxHeartbeats 800000 in
set_option maxRecDepth 100000 in
theorem append_ok (h : DiskRep w d D) (s : ByteArray) (hm : mayB s = true) (f : Nat) (hl : look D.now s = some f) (A : Option Addr) (m c : Nat) (l : List UInt8) (hr : RowAt w A m 1 (bv l)) (hroom : m ≤ D.left ∧ m + (D.by_ f).length ≤ 1048576) :
    Calls Try.prog 15 #[.pointer (some ⟨d, 0, none⟩), .string s, .slice A m c] w fun e w' => e = .returned (.int .i64 0) ∧ ∃ v, DStep w d D w' (D.setFile f v (D.by_ f ++ l) (D.sure f)) := by
  have hml : l.length = m := by have := hr.1; rw [bv_length] at this; omega
  have hfile : D.isFile f := ⟨_, .inl (look_some hl), rfl⟩
  obtain ⟨i0, hi, hz0, hz1, hz2⟩ := info_parts info_u8
  have HG := Lib.hid (got_some h s hm f hl _ (asked_okM h))
  have hs2 := h.s2
  have hleft : D.left ≤ 8388608 := by unfold Dk.left; omega
  have H := Lib.hid h
  have Hml := Lib.hid hml
  obtain ⟨hroom1, hroom2⟩ := hroom
  clear h hl hml
  go_enter Try.func15, Try.ntmps15
  go_wp2_with (go_at_call 30; refine HG.out.mono ?_; rintro e w1 ⟨rfl, hm1⟩)
  refine wp_plan [(0, false), (1, false), (2, false), (4, false), (5, false), (6, false), (7, false), (8, false), (9, false), (3, true), (10, false), (11, false)] Non (by kernel_rfl) (by kernel_rfl) (fun c d v a w h => by cases d <;> exact h) (fun w2 hm2 => ?_)
  have h2 := (H.out.non hm1).non hm2
  obtain ⟨fb, fr, fs, fl⟩ := h2.file f hfile
  obtain ⟨A', c', ev, hcc, hrow, _⟩ := owns_form fr
  have Fb := Lib.hid fb
  rw [ev] at fb
  have hcell : ∀ W, Mod Non w2 W → ∀ i, W.cell? ⟨f, i, none⟩ = #[Value.slice A' (D.by_ f).length c', Value.int .i64 (D.sure f)][i]? := fun W hW => (fb.mod hW (fun x => x)).cell
  refine wpp_read _ rfl rfl (fun W hW => by have cW := hcell W hW; first | (go_simp; done) | (go_simp; rfl) | rfl) ?_
  go_frame
  refine wpp_read _ rfl rfl (fun W hW => by have cW := hcell W hW; first | (go_simp; done) | (go_simp; rfl) | rfl) ?_
  go_frame
  refine wpp_read _ rfl rfl (fun W hW => by have cW := hcell W hW; first | (go_simp; done) | (go_simp; rfl) | rfl) ?_
  go_frame
  refine wpp_read _ rfl rfl (fun W hW => by have cW := hcell W hW; first | (go_simp; done) | (go_simp; rfl) | rfl) ?_
  go_frame
  refine wpp_read _ rfl rfl (fun W hW => by have cW := hcell W hW; first | (go_simp; done) | (go_simp; rfl) | rfl) ?_
  go_frame
  refine wpp_read _ rfl rfl (fun W hW => by have cW := hcell W hW; first | (go_simp; done) | (go_simp; rfl) | rfl) ?_
  go_frame
  refine wpp_read _ rfl rfl (fun W hW => by have cW := hcell W hW; first | (go_simp; done) | (go_simp; rfl) | rfl) ?_
  go_frame
  refine wpp_read _ rfl rfl (fun W hW => by have cW := hcell W hW; first | (go_simp; done) | (go_simp; rfl) | rfl) ?_
  go_frame
  refine wpp_read _ rfl rfl (fun W hW => by have cW := hcell W hW; first | (go_simp; done) | (go_simp; rfl) | rfl) ?_
  go_frame
  refine wpp_act rfl rfl ?_
  go_simp
  refine (left_ok h2).mono ?_
  rintro e w3 ⟨rfl, hm3⟩
  refine ⟨hm3, ?_⟩
  try go_frame
  refine wpp_read _ rfl rfl (fun W hW => by first | (go_simp; done) | (go_simp; rfl) | rfl) ?_
  go_frame
  refine wpp_read _ rfl rfl (fun W hW => by first | (go_simp; done) | (go_simp; rfl) | rfl) ?_
  go_frame
  refine wpp_nil ?_
  have h3 := h2.non hm3
  obtain ⟨fb3, fr3, _, _⟩ := h3.file f hfile
  have Fb3 := Lib.hid fb3
  have H3 := Lib.hid h3
  rw [ev] at fb3
  have cf3 := fb3.cell
  have ff3 := fb3.frozen
  have hr3 := ((hr.non (by omega) hm1).non (by omega) hm2).non (by omega) hm3
  have hfv3 : w3.ownsRow 0 5 1 (.slice A' (D.by_ f).length c') (D.by_ f).length (bv (D.by_ f)) := ev ▸ fr3
  clear hcell h2 h3 fb3 fr3 fb fr hrow hcc
  have hmax : (D.by_ f).length + m ≤ maxLen := by unfold maxLen; omega
  go_wp2_with (at_builtin; refine wpl_append_at rfl (.tmp 34) (.tmp 35) _ rfl 0 5 i0 (.int .u8 0) 1 1 und_bytes hi hz0 hz1 hz2 rfl (by omega) (v := .slice A' (D.by_ f).length c') rfl hfv3 rfl hr3 (bv_one l) hmax (by omega) (Nat.zero_le _) ?_
               intro v4 w4 ho4 hg4 hn4 ha4
               obtain ⟨A4, c4, rfl, hnc4, hr4, _⟩ := owns_form ho4
               have hm4 : Mod (fun k => (D.fv f).ownBlock = some k) w3 w4 := Mod.of_grown hg4 (fun k hk => by rw [ev]; exact hk)
               have Fb4 := Fb3.out.mod hm4 (fun e => own_blk_ne (H3.out.file f hfile).2.1 Fb3.out (by decide) e)
               have FB4 := Lib.hid Fb4
               rw [ev] at Fb4
               have cf4 := Fb4.cell
               have ff4 := Fb4.frozen
               clear Fb4
               clear hr4)
  · exfalso
    have hh : min (D.left : Int) (IntKind.i64.wrap (1048576 - ((D.by_ f).length : Int))) < (m : Int) := by assumption
    rw [IntKind.wrap_i64] at hh
    omega
  go_ret
  have hh3 := H3.out
  have hdf : DS d D f := .inr (.inr (.inr ⟨f, hfile, .inl rfl⟩))
  have hdo : ∀ b, (D.fv f).ownBlock = some b → DS d D b := fun b hb => .inr (.inr (.inr ⟨f, hfile, .inr hb⟩))
  have hlen' : (D.by_ f ++ l).length = (D.by_ f).length + m := by rw [List.length_append, Hml.out]
  have hnew : ∀ b, (Value.slice A4 ((D.by_ f).length + m) c4).ownBlock = some b → (D.fv f).ownBlock = some b ∨ w3.heap.size ≤ b := fun b hb => by
    rw [ev]
    rcases ha4 with e | e
    · exact .inl (e ▸ hb)
    · rw [e] at hb; cases hb; exact .inr (Nat.le_refl _)
  have hst : DStep w3 d D (w4.setCell ⟨f, 0, none⟩ (.slice A4 ((D.by_ f).length + m) c4)) (D.setFile f (.slice A4 ((D.by_ f).length + m) c4) (D.by_ f ++ l) (D.sure f)) :=
    ⟨hh3.setFile hfile ((hm4.mono (S := fun k => (D.fv f).ownBlock = some k) (T := fun k => k = f ∨ (D.fv f).ownBlock = some k) (fun _ x => .inr x)).setCell (p := ⟨f, 0, none⟩) (.inl (.inl rfl)) _) (fun b hb => hb) (FB4.out.set 0 _) (by
      rw [hlen', bv_append]
      exact owns_keep ho4 (fun b hb => Below.heap_setCell _ _ _ _ (fun e => own_blk_ne ho4 FB4.out (by decide) (by rw [hb, e])))) hnew (by omega) (by omega),
     (hm4.mono (fun b x => hdo b x)).setCell (p := ⟨f, 0, none⟩) (.inl hdf) _, fun b hb => setFile_DS hnew hb⟩
  exact ⟨rfl, _, DStep.after (hm1.trans (hm2.trans hm3)) hst⟩
end
end Go.Proofs.Ytmclbechnfedmaa
