/- Disk.Read of a whole file. -/
import Derived.Test.YtmclbechnfedmaaAnewG
import Derived.Test.YtmclbechnfedmaaGetNum
namespace Go.Proofs.Ytmclbechnfedmaa
open Go Go.RowKit
section
variable {w w' : World} {d : Nat} {D : Dk}
set_option maxRecDepth 100000 in
theorem min_two {g : Nat} {a b : Int} (hb : Blk w g 3 #[.int .i64 a, .int .i64 b]) :
    Calls Try.prog 45 #[.slice (some ⟨g, 0, none⟩) 2 2] w fun e w' => e = .returned (.int .i64 (min a b)) ∧ w' = w := by
  have c0 := hb.cell
  clear hb
  go_enter Try.func45, Try.ntmps45
  go_wp2
  go_loopw [3, 4] (fun m i wr => ((m = .int .i64 a ∧ i = .int .i64 1) ∨ (m = .int .i64 (min a b) ∧ i = .int .i64 2)) ∧ wr = w) (fun _ i _ => 3 - (intOf i).toNat)
  case atStart => exact ⟨.inl ⟨rfl, rfl⟩, rfl⟩
  case round =>
    obtain ⟨hc, rfl⟩ := hrel
    rcases hc with ⟨rfl, rfl⟩ | ⟨rfl, rfl⟩
    · go_wp2
      go_roundw
      case rel => exact ⟨.inr ⟨rfl, rfl⟩, trivial⟩
      case measure => simp [intOf]
    · go_wp2
      go_ret
      exact ⟨rfl, rfl⟩
set_option maxRecDepth 100000 in
theorem asked_two (h : DiskRep w d D) {g : Nat} {a b : Int} (hb : Blk w g 3 #[.int .i64 a, .int .i64 b]) (ha : 0 ≤ a) (hb0 : 0 ≤ b) :
    Calls Try.prog 27 #[.pointer (some ⟨d, 0, none⟩), .slice (some ⟨g, 0, none⟩) 2 2] w fun e w' => e = .returned (.int .i64 0) ∧ w' = w := by
  have c := h.blk.cell
  have hs := h.s1
  have h0 : ((D.size : Int) == 0) = false := by simp; omega
  have HM := Lib.hid (min_two hb)
  have hmn : ¬ (min a b < 0) := by omega
  clear h hb
  go_enter Try.func27, Try.ntmps27
  go_wp2_with (go_at_call 45; refine HM.out.mono ?_; rintro e w1 ⟨rfl, rfl⟩)
  go_ret
  exact ⟨rfl, rfl⟩

set_option maxHeartbeats 1000000 in
set_option maxRecDepth 100000 in
theorem read_ok (h : DiskRep w d D) (s : ByteArray) (hm : mayB s = true) (f : Nat) (hl : look D.now s = some f) :
    Calls Try.prog 33 #[.pointer (some ⟨d, 0, none⟩), .string s, .int .i64 0, .int .i64 ((D.by_ f).length : Nat)] w fun e w' =>
      ∃ A c, e = .returned (.tuple #[.slice A (D.by_ f).length c, .int .i64 0]) ∧ RowAt w' A (D.by_ f).length 1 (bv (D.by_ f)) ∧ (D.by_ f).length ≤ c ∧ c ≤ 1048576 ∧ (∀ ad, A = some ad → w.heap.size ≤ ad.block) ∧ Mod Non w w' := by
  have hfile : D.isFile f := ⟨_, .inl (look_some hl), rfl⟩
  obtain ⟨hb0, hr0, _, hle⟩ := h.file f hfile
  have hmW : Mod Non w (w.alloc (.cells #[.int .i64 0, .int .i64 ((D.by_ f).length : Nat)] 3)) := (Mod.refl _ _).alloc _
  have HA := Lib.hid (asked_two (h.non hmW) (Blk.new w 3 #[.int .i64 0, .int .i64 ((D.by_ f).length : Nat)]) (by omega) (by omega))
  have HG := Lib.hid (got_some (h.non hmW) s hm f hl _ (HA.out.mono fun _ _ ⟨h1, h2⟩ => ⟨h1, h2 ▸ Mod.refl _ _⟩))
  have HMW := Lib.hid hmW
  rcases hr0.2 with ⟨ev, hn0⟩ | ⟨g, cap, cur, ev, _, hg, hnc, hcm, hcs, ht⟩
  · have H := Lib.hid hb0
    have hnil : D.by_ f = [] := List.length_eq_zero_iff.1 hn0
    have EV := Lib.hid ev
    have e0 : (((D.by_ f).length : Nat) : Int) = 0 := by rw [hn0]; rfl
    rw [e0] at HG HMW ⊢
    rw [hnil]
    clear h hb0 hr0 hl hle hn0 ev hmW HA hnil e0
    go_enter Try.func33, Try.ntmps33
    go_wp2_with (first
      | (go_at_call 30; refine HG.out.mono ?_; rintro e w1 ⟨rfl, hm1⟩
         have hb1 := (H.out.mod HMW.out (fun x => x)).mod hm1 (fun x => x)
         rw [EV.out] at hb1
         have cb1 := hb1.cell
         clear hb1)
      | (go_at_call 26; refine clone_nil.mono ?_; rintro e w2 ⟨rfl, rfl⟩)
      | (go_at_call 25; refine (clip_row _ 0 _ _ (Nat.zero_le _)).mono ?_; rintro e w4 ⟨rfl, rfl⟩))
    go_ret2
    exact ⟨none, 0, rfl, RowAt.none, Nat.le_refl _, Nat.zero_le _, fun ad h => (by cases h), HMW.out.trans hm1⟩
  · have H := Lib.hid hb0
    have EV := Lib.hid ev
    have hrow : RowAt w (some ⟨g, 0, none⟩) (D.by_ f).length 1 (bv (D.by_ f)) := by
      obtain ⟨A', c', e', _, hr', _⟩ := owns_form (ev ▸ hr0)
      cases e'
      exact hr'
    have HR := Lib.hid hrow
    have hle2 : (D.by_ f).length ≤ cap := hnc
    have hcap : cap ≤ 9223372036854775807 := hcm
    clear h hb0 hr0 hl ev hmW HA hg hcs ht hcm hrow
    go_enter Try.func33, Try.ntmps33
    go_wp2_with (first
      | (go_at_call 30; refine HG.out.mono ?_; rintro e w1 ⟨rfl, hm1⟩
         have hb1 := (H.out.mod HMW.out (fun x => x)).mod hm1 (fun x => x)
         rw [EV.out] at hb1
         have cb1 := hb1.cell
         clear hb1)
      | (go_at_call 26; refine (clone_some _ (D.by_ f).length cap (D.by_ f) ((HR.out.non (by decide) HMW.out).non (by decide) hm1) hle).mono ?_; rintro e w2 ⟨v2, rfl, hf2, hm2⟩
         obtain ⟨g2, c2, cur2, rfl, hg2, hb2, hnc2, hcs2, hcm2, ht2, hxl2⟩ := hf2
         have HF2 := Lib.hid (Fresh.row (w := w2) (base := w1.heap.size) (t := 5) (size := 1) (n := (D.by_ f).length) (xs := bv (D.by_ f)) ⟨g2, c2, cur2, rfl, hg2, hb2, hnc2, hcs2, hcm2, ht2, hxl2⟩)
         clear hb2 hcs2 ht2 hxl2)
      | (go_at_call 25; refine (clip_row _ (D.by_ f).length _ _ hnc2).mono ?_; rintro e w4 ⟨rfl, rfl⟩))
    go_ret2
    exact ⟨_, _, rfl, HF2.out, Nat.le_refl _, hle, fun ad h => by cases h; exact Nat.le_trans (HMW.out.trans hm1).size hg2, (HMW.out.trans hm1).trans hm2⟩
end
end Go.Proofs.Ytmclbechnfedmaa
