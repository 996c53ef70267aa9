/- A Book: keepByte, Bytes; marks. -/
import Derived.Test.YtgillcppnpkkiaaGreatDoorBookRep
import Derived.Test.YtgillcppnpkkiaaGreatDoorPlanE
import Derived.Test.YtgillcppnpkkiaaGreatDoorRefMut
namespace Go.Proofs.YtgillcppnpkkiaaGreatDoor
open Go Go.RowKit
section
variable {w w' : World} {k : Nat} {B : Bk} {S : Nat → Prop}
def Bk.keep (B : Bk) (v : Value) (g : Option Nat) (len cap : Nat) : Bk := ⟨B.n + 1, v, B.l ++ [⟨g, len, cap, .slice none 0 0, B.n + 1⟩]⟩
def KeepSays (w : World) (k : Nat) (B : Bk) (g : Option Nat) (len cap : Nat) (e : Ending) (w' : World) : Prop :=
  e = .returned (.tuple #[]) ∧ ∃ v, BookRep w' k (B.keep v g len cap) ∧ (∀ b, BS k (B.keep v g len cap) b → BS k B b ∨ g = some b ∨ w.heap.size ≤ b) ∧ Mod (BS k B) w w'
theorem keep_end {w1 w3 : World} {x : HB} {A A3 : Option Addr} {c3 : Nat} (H : BookRep w k B) (HX : HbOk w x) (hnew : ∀ g, x.g = some g → ¬ BS k B g) (hA : A = x.a) (hm1 : Mod (One k) w w1)
    (hb3 : Blk w3 k 54 ((bkc B.n B.v).setIfInBounds 0 (.int .i64 ((B.n : Int) + 1)))) (ho3 : w3.ownsRow 0 128 3 (.slice A3 (B.l.length + 1) c3) (B.l.length + 1) (hbs B.l ++ [.slice A x.len x.cap, .slice none 0 0, .int .i64 ((B.n : Int) + 1)]))
    (hm13 : Mod (fun b => B.v.ownBlock = some b) w1 w3) (hv : ∀ b, (Value.slice A3 (B.l.length + 1) c3).ownBlock = some b → B.v.ownBlock = some b ∨ w1.heap.size ≤ b) :
    KeepSays w k B x.g x.len x.cap (.returned (.tuple #[])) (w3.setCell ⟨k, 1, none⟩ (.slice A3 (B.l.length + 1) c3)) := by
  have hm0 : Mod (BS k B) w w3 := (hm1.mono (fun b e => .inl e)).trans (hm13.mono (fun b e => .inr (.inl e)))
  have hmc := hm0.setCell (p := ⟨k, 1, none⟩) (.inl (.inl rfl)) (.slice A3 (B.l.length + 1) c3)
  have hmc2 : Mod (fun b => b = k ∨ B.v.ownBlock = some b) w (w3.setCell ⟨k, 1, none⟩ (.slice A3 (B.l.length + 1) c3)) := ((hm1.mono (T := fun b => b = k ∨ B.v.ownBlock = some b) (fun b e => .inl e)).trans (hm13.mono (fun b e => .inr e))).setCell (p := ⟨k, 1, none⟩) (.inl (.inl rfl)) _
  have hs1 := hm1.size
  have e1 : (B.l ++ [(⟨x.g, x.len, x.cap, .slice none 0 0, B.n + 1⟩ : HB)]).length = B.l.length + 1 := by simp
  have e2 : hbs (B.l ++ [(⟨x.g, x.len, x.cap, .slice none 0 0, B.n + 1⟩ : HB)]) = hbs B.l ++ [.slice A x.len x.cap, .slice none 0 0, .int .i64 ((B.n : Int) + 1)] := by
    subst hA
    simp [hbs, hbc, HB.a]
  have hold : ∀ g, (∃ y ∈ B.l, y.g = some g) → ¬ (g = k ∨ B.v.ownBlock = some g) := fun g ⟨y, hy, e⟩ hh => by
    obtain ⟨cur, hb, _⟩ := (H.ok y hy).blk g e
    rcases hh with rfl | hh
    · exact hb.ne H.blk (by decide) rfl
    · exact own_blk_ne H.own hb (by decide) hh
  refine ⟨rfl, .slice A3 (B.l.length + 1) c3, ⟨hb3.set 1 _, ?_, fun y hy => ?_, ?_, ?_, fun y hy => ?_⟩, fun b hb => ?_, hmc⟩
  · show (w3.setCell _ _).ownsRow 0 _ 3 _ (B.l ++ [_]).length (hbs (B.l ++ [_]))
    rw [e1, e2]
    exact owns_keep ho3 (fun b hb => Below.heap_setCell _ _ _ _ (fun e => own_blk_ne ho3 hb3 (by decide) (by have e' : b = k := e; rw [e'] at hb; exact hb)))
  · rcases List.mem_append.1 hy with hy | hy
    · exact (H.ok y hy).mod hmc2 (fun g e => hold g ⟨y, hy, e⟩)
    · rw [List.mem_singleton.1 hy]
      have h4 := HX.mod hmc2 (fun g e hh => hnew g e (hh.elim (fun e => .inl e) (fun e => .inr (.inl e))))
      exact ⟨h4.blk, h4.none, h4.le, h4.max⟩
  · show (B.l ++ [_]).Pairwise _
    rw [List.pairwise_append]
    refine ⟨H.sep, List.pairwise_singleton _ _, fun y hy z hz g hg => ?_⟩
    rw [List.mem_singleton.1 hz]
    intro e
    exact hnew g e (.inr (.inr ⟨y, hy, hg⟩))
  · show (B.l ++ [_]).length ≤ B.n + 1
    have := H.len
    simp
    exact this
  · rcases List.mem_append.1 hy with hy | hy
    · have := H.num y hy
      exact ⟨Nat.le_succ_of_le this.1, this.2⟩
    · rw [List.mem_singleton.1 hy]
      exact ⟨Nat.le_refl _, rfl⟩
  · rcases hb with rfl | hb | ⟨y, hy, e⟩
    · exact .inl (.inl rfl)
    · exact (hv b hb).elim (fun h => .inl (.inr (.inl h))) (fun h => .inr (.inr (by omega)))
    · rcases List.mem_append.1 hy with hy | hy
      · exact .inl (.inr (.inr ⟨y, hy, e⟩))
      · rw [List.mem_singleton.1 hy] at e
        exact .inr (.inl e)
set_option maxHeartbeats 1000000 in
set_option maxRecDepth 100000 in
theorem keep_byte (h : BookRep w k B) (hn : B.n ≤ 100000) (x : HB) (hx : HbOk w x) (hnew : ∀ g, x.g = some g → ¬ BS k B g) :
    Calls Tryz.prog 52 #[.pointer (some ⟨k, 0, none⟩), .slice x.a x.len x.cap] w fun e w' => KeepSays w k B x.g x.len x.cap e w' := by
  obtain ⟨i0, z0, hi0, hz0, hz3, hz1, hz2⟩ := hb_info
  have hl := h.len
  obtain ⟨Av, cv, ev, hcv, hrv, _⟩ := owns_form h.own
  have c := h.blk.cell
  have f := h.blk.frozen
  unfold bkc at c
  rw [ev] at c
  have EV := Lib.hid ev
  have H := Lib.hid h
  have HX := Lib.hid hx
  have HNW := Lib.hid hnew
  obtain ⟨A, hA⟩ : ∃ A, A = x.a := ⟨_, rfl⟩
  have HA := Lib.hid hA
  rw [← hA]
  clear h hx hnew hA ev hrv
  go_enter Tryz.func52, Tryz.ntmps52
  go_wp2
  have HB1 := Lib.hid (H.out.blk.set 0 (.int .i64 ((B.n : Int) + 1)))
  have HM1 := Lib.hid ((Mod.refl (One k) w).setCell (p := ⟨k, 0, none⟩) (.inl rfl) (.int .i64 ((B.n : Int) + 1)))
  have HO1 := Lib.hid (owns_keep H.out.own (fun b hb => Below.heap_setCell w ⟨k, 0, none⟩ (.int .i64 ((B.n : Int) + 1)) b (fun e => own_blk_ne H.out.own H.out.blk (by decide) (by rw [hb, e]))))
  generalize w.setCell ⟨k, 0, none⟩ (.int .i64 ((B.n : Int) + 1)) = w1 at *
  clear c f
  refine wp_plan_end [(0, false), (1, false), (2, false), (3, false), (4, false), (5, false), (6, false), (7, false), (8, false), (9, false), (10, false), (11, true), (12, true), (13, false), (14, false)] 15 [0, 12, 14] [13, 11, 4, 10, 9, 8, 7, 6, 5, 3, 2, 1] (fun b => B.v.ownBlock = some b) (by kernel_rfl) (by kernel_rfl) (fun c d v a w h => by cases d <;> exact h) (fun w2 hm2 => ?_)
  have hkv : ¬ (fun b => B.v.ownBlock = some b) k := fun e => own_blk_ne H.out.own H.out.blk (by decide) e
  have hb2 := HB1.out.mod hm2 (fun x => x)
  have hcW : ∀ W, Mod (fun b => B.v.ownBlock = some b) w2 W → Hid (∀ i, W.cell? ⟨k, i, none⟩ = (bkc ((B.n : Int) + 1) (.slice Av B.l.length cv))[i]?) := fun W hW => Lib.hid (by
    have h3 := (hb2.mod hW hkv).cell
    unfold bkc at h3 ⊢
    rw [EV.out] at h3
    exact h3)
  iterate 11
    refine wpe_read _ rfl rfl (fun W hW => by have cW := (hcW W hW).out; unfold bkc at cW; first | (go_simp; done) | (go_simp; rfl) | rfl) ?_
    try simp only [List.getElem_toArray, List.getElem_cons_succ, List.getElem_cons_zero]
    try go_frame
  refine wpe_act rfl rfl ?_
  go_simp
  refine ⟨(Mod.refl _ _).alloc _, ?_⟩
  try simp only [List.getElem_toArray, List.getElem_cons_succ, List.getElem_cons_zero]
  try go_frame
  have hO2 : (w2.alloc (.cells #[.slice A x.len x.cap, .slice none 0 0, .int .i64 ((B.n : Int) + 1)] 128)).ownsRow 0 128 3 (.slice Av B.l.length cv) B.l.length (hbs B.l) := by
    have h3 := (owns_keep HO1.out (fun b hb => hm2.block b (HO1.out.lt b hb).2 (fun x => x))).alloc (.cells #[.slice A x.len x.cap, .slice none 0 0, .int .i64 ((B.n : Int) + 1)] 128)
    rw [EV.out] at h3
    exact h3
  have hrow : RowAt (w2.alloc (.cells #[.slice A x.len x.cap, .slice none 0 0, .int .i64 ((B.n : Int) + 1)] 128)) (some ⟨w2.heap.size, 0, none⟩) 1 3 [.slice A x.len x.cap, .slice none 0 0, .int .i64 ((B.n : Int) + 1)] :=
    ⟨rfl, fun _ => ⟨_, rfl, fun j u hu => by rw [add_lit, (Blk.new w2 _ _).cell]; simpa using hu⟩⟩
  obtain ⟨v3, w3, hrun3, ho3, hg3, _, hat3⟩ := run_append_row_at (P := Tryz.prog) 0 34 34 128 i0 z0 3 56 und_hbs hi0 hz0 hz1 hz2 hz3 (by omega) hO2 (c := 1) hrow (by simp [Value.oneCell']) (by unfold maxLen; omega) (by omega) (Nat.zero_le _)
  have hm3 : Mod (fun b => B.v.ownBlock = some b) w2 w3 := ((Mod.refl _ w2).alloc _).trans (Mod.of_grown hg3 (fun k hk => by rw [EV.out]; exact hk))
  refine wpe_act rfl rfl ?_
  refine wpo_append (.tmp 15) (.tmp 22) _ rfl rfl rfl hrun3 ?_
  refine ⟨hm3, ?_⟩
  try simp only [List.getElem_toArray, List.getElem_cons_succ, List.getElem_cons_zero]
  try go_frame
  iterate 2
    refine wpe_read _ rfl rfl (fun W hW => by have cW := (hcW W hW).out; unfold bkc at cW; first | (go_simp; done) | (go_simp; rfl) | rfl) ?_
    try simp only [List.getElem_toArray, List.getElem_cons_succ, List.getElem_cons_zero]
    try go_frame
  refine wpe_end rfl rfl ?_
  have hb3 := hb2.mod hm3 hkv
  have c3 := hb3.cell
  have f3 := hb3.frozen
  unfold bkc at c3
  have HB3 := Lib.hid hb3
  have HO3 := Lib.hid ho3
  have HM13 := Lib.hid ((hm2.mono (T := fun b => B.v.ownBlock = some b) (fun _ x => x.elim)).trans hm3)
  have hv3 : ∀ b, v3.ownBlock = some b → B.v.ownBlock = some b ∨ w1.heap.size ≤ b := fun b hb => by
    rcases hat3 with e | e
    · rw [e, ← EV.out] at hb
      exact .inl hb
    · rw [e] at hb
      cases hb
      right
      have := hm2.size
      simp
      omega
  have HV3 := Lib.hid hv3
  clear hv3 hat3
  obtain ⟨A3, c3v, rfl, hc3, hr3, _⟩ := owns_form ho3
  clear hcW hb2 hb3 ho3 hg3 hrun3 hr3 hO2 hrow hm3
  go_simp
  go_end0
  exact keep_end H.out HX.out HNW.out HA.out HM1.out HB3.out HO3.out HM13.out HV3.out
theorem book_bytes (h : BookRep w k B) (hn : B.n ≤ 100000) (x : HB) (hx : HbOk w x) (hnew : ∀ g, x.g = some g → ¬ BS k B g) :
    Calls Tryz.prog 22 #[.pointer (some ⟨k, 0, none⟩), .slice x.a x.len x.cap] w fun e w' => KeepSays w k B x.g x.len x.cap e w' := by
  have HK := Lib.hid (keep_byte h hn x hx hnew)
  clear h hx hnew
  go_enter Tryz.func22, Tryz.ntmps22
  go_wp2_with (go_at_call 52; refine HK.out.mono ?_; rintro e w1 ⟨rfl, hk⟩)
  go_end0
  exact ⟨rfl, hk⟩
end
end Go.Proofs.YtgillcppnpkkiaaGreatDoor
