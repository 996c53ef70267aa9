/- The disk along anew, whatever it holds. -/
import Derived.Test.YtmclbechnfedmaaMove
import Derived.Test.YtmclbechnfedmaaAnews
namespace Go.Proofs.Ytmclbechnfedmaa
open Go Go.RowKit

/-- The disk ahead of step k: s0 its size, n0 how many names it may have. -/
def BState (s0 n0 : Nat) (rec : List UInt8) (k : Nat) (E : Dk) : Prop :=
  E.size = s0 ∧ match k with
  | 0 => E.now.length + 1 ≤ n0 ∧ look E.now freshB = none
  | 1 => E.now.length ≤ n0 ∧ ∃ f, look E.now freshB = some f ∧ E.by_ f = []
  | 2 => E.now.length ≤ n0 ∧ ∃ f, look E.now freshB = some f ∧ E.by_ f = rec
  | 3 => E.now.length ≤ n0 ∧ ∃ f, look E.now freshB = some f ∧ E.by_ f = rec ∧ E.sure f = rec.length
  | 4 => E.now.length ≤ n0 ∧ ∃ f, look E.now freshB = some f ∧ E.by_ f = rec ∧ E.sure f = rec.length ∧ E.kept = E.now
  | 5 => E.now.length ≤ n0 ∧ ∃ f, look E.now nameB = some f ∧ E.by_ f = rec ∧ E.sure f = rec.length
  | _ => E.now.length ≤ n0 ∧ ∃ f, look E.now nameB = some f ∧ E.by_ f = rec ∧ E.sure f = rec.length ∧ E.kept = E.now

section
variable {w : World} {d s0 n0 : Nat} {E : Dk} {rec : List UInt8}
theorem b_create (h : DiskRep w d E) (hs : BState s0 n0 rec 0 E) (hn : n0 ≤ 64) : Calls Try.prog 14 #[.pointer (some ⟨d, 0, none⟩), .string freshB] w fun e w' => e = .returned (.int .i64 0) ∧ ∃ E', DStep w d E w' E' ∧ BState s0 n0 rec 1 E' := by
  obtain ⟨hz, hl, hno⟩ := hs
  obtain ⟨p, hp⟩ := h.rising.pos freshB
  refine (create_any h freshB may_fresh p hp hno (by omega)).mono ?_
  rintro e w' ⟨rfl, vn, f, _, hst⟩
  exact ⟨rfl, _, hst, hz, by rw [show (E.add p freshB vn f).now.length = E.now.length + 1 from put_length hp.1]; exact hl, f, look_put_same hno, upd_same _ _ _⟩
theorem b_append (h : DiskRep w d E) (hs : BState s0 n0 rec 1 E) (A : Option Addr) (m c : Nat) (hr : RowAt w A m 1 (bv rec)) (hm63 : m ≤ maxLen) :
    (Calls Try.prog 15 #[.pointer (some ⟨d, 0, none⟩), .string freshB, .slice A m c] w fun e w' => e = .returned (.int .i64 0) ∧ ∃ E', DStep w d E w' E' ∧ BState s0 n0 rec 2 E') ∨
    (Calls Try.prog 15 #[.pointer (some ⟨d, 0, none⟩), .string freshB, .slice A m c] w fun e w' => e = .returned (.int .i64 6) ∧ Mod Non w w') := by
  obtain ⟨hz, hl, f, hf, hb⟩ := hs
  by_cases hroom : m ≤ E.left ∧ m + (E.by_ f).length ≤ 1048576
  · refine .inl ((append_ok h freshB may_fresh f hf A m c rec hr hroom).mono ?_)
    rintro e w' ⟨rfl, v, hst⟩
    exact ⟨rfl, _, hst, hz, hl, f, hf, by show upd _ _ _ _ = _; rw [upd_same, hb]; rfl⟩
  · exact .inr (append_full h freshB may_fresh f hf A m c hroom hm63)
theorem b_sync (h : DiskRep w d E) (hs : BState s0 n0 rec 2 E) : Calls Try.prog 42 #[.pointer (some ⟨d, 0, none⟩), .string freshB] w fun e w' => e = .returned (.int .i64 0) ∧ ∃ E', DStep w d E w' E' ∧ BState s0 n0 rec 3 E' := by
  obtain ⟨hz, hl, f, hf, hb⟩ := hs
  refine (sync_ok h freshB may_fresh f hf).mono ?_
  rintro e w' ⟨rfl, hst⟩
  exact ⟨rfl, _, hst, hz, hl, f, hf, by show upd _ _ _ _ = _; rw [upd_same, hb], by show upd _ _ _ _ = _; rw [upd_same, hb]⟩
theorem b_names (h : DiskRep w d E) (hs : BState s0 n0 rec 3 E) : Calls Try.prog 38 #[.pointer (some ⟨d, 0, none⟩)] w fun e w' => e = .returned (.int .i64 0) ∧ ∃ E', DStep w d E w' E' ∧ BState s0 n0 rec 4 E' := by
  obtain ⟨hz, hl, f, hf, hb, hu⟩ := hs
  refine (names_ok h).mono ?_
  rintro e w' ⟨rfl, vk, hst⟩
  exact ⟨rfl, _, hst, hz, hl, f, hf, hb, hu, rfl⟩
theorem b_rename (h : DiskRep w d E) (hs : BState s0 n0 rec 4 E) : Calls Try.prog 54 #[.pointer (some ⟨d, 0, none⟩), .string freshB, .string nameB] w fun e w' => e = .returned (.int .i64 0) ∧ ∃ E', DStep w d E w' E' ∧ BState s0 n0 rec 5 E' := by
  obtain ⟨hz, hl, f, hf, hb, hu, _⟩ := hs
  refine (rename_gen h freshB nameB may_fresh may_name f hf).mono ?_
  rintro e w' ⟨rfl, vn, l, hst, hlk, hle⟩
  exact ⟨rfl, _, hst, hz, Nat.le_trans hle hl, f, hlk, hb, hu⟩
theorem b_names2 (h : DiskRep w d E) (hs : BState s0 n0 rec 5 E) : Calls Try.prog 38 #[.pointer (some ⟨d, 0, none⟩)] w fun e w' => e = .returned (.int .i64 0) ∧ ∃ E', DStep w d E w' E' ∧ BState s0 n0 rec 6 E' := by
  obtain ⟨hz, hl, f, hf, hb, hu⟩ := hs
  refine (names_ok h).mono ?_
  rintro e w' ⟨rfl, vk, hst⟩
  exact ⟨rfl, _, hst, hz, hl, f, hf, hb, hu, rfl⟩
end
section
variable {w w' : World} {p q r : Nat} {G : Pg} {R : World → Prop}
set_option maxRecDepth 100000 in
theorem anew_append_r {x : Int} {v : Value} {S : Nat → Prop} (hSp : ¬ S p) (hSq : ¬ S q) (hSr : ¬ S r) (hq : Blk w q 25 #[.pointer (some ⟨p, 0, none⟩)]) (hr : Blk w r 23 #[v]) (hp : Blk w p 60 G.cells)
    (HC : ∀ W, Mod Non w W → Calls Try.prog 15 #[.pointer (some ⟨G.d, 0, none⟩), .string freshB, v] W fun e w' => e = .returned (.int .i64 x) ∧ Mod S W w' ∧ R w') :
    Calls Try.prog 51 #[.pointer (some ⟨q, 0, none⟩), .pointer (some ⟨r, 0, none⟩)] w fun e w' => e = .returned (.int .i64 x) ∧ ∃ w2, Mod Non w w2 ∧ Mod S w2 w' ∧ R w' := by
  have HQ := Lib.hid hq
  have HRr := Lib.hid hr
  have HP := Lib.hid hp
  unfold freshB at HC
  clear hq hp hr
  go_enter Try.func51, Try.ntmps51
  go_wp2
  refine wp_plan [(0, false), (1, false), (2, false), (3, false), (4, false), (5, true), (6, false)] S (by kernel_rfl) (by kernel_rfl) (fun c d v a w h => by cases d <;> exact h) (fun w2 hm2 => ?_)
  refine wpp_read _ rfl rfl (fun W hW => by have cq := ((HQ.out.mod hm2 (fun x => x)).mod hW hSq).cell; have cr := ((HRr.out.mod hm2 (fun x => x)).mod hW hSr).cell; have cp := ((HP.out.mod hm2 (fun x => x)).mod hW hSp).cell; unfold Pg.cells at cp; first | (go_simp; done) | (go_simp; rfl) | rfl) ?_
  simp only [List.getElem_toArray, List.getElem_cons_zero]
  go_frame
  refine wpp_read _ rfl rfl (fun W hW => by have cq := ((HQ.out.mod hm2 (fun x => x)).mod hW hSq).cell; have cr := ((HRr.out.mod hm2 (fun x => x)).mod hW hSr).cell; have cp := ((HP.out.mod hm2 (fun x => x)).mod hW hSp).cell; unfold Pg.cells at cp; first | (go_simp; done) | (go_simp; rfl) | rfl) ?_
  simp only [List.getElem_toArray, List.getElem_cons_succ, List.getElem_cons_zero]
  go_frame
  refine wpp_read _ rfl rfl (fun W hW => by have cq := ((HQ.out.mod hm2 (fun x => x)).mod hW hSq).cell; have cr := ((HRr.out.mod hm2 (fun x => x)).mod hW hSr).cell; have cp := ((HP.out.mod hm2 (fun x => x)).mod hW hSp).cell; unfold Pg.cells at cp; first | (go_simp; done) | (go_simp; rfl) | rfl) ?_
  simp only [List.getElem_toArray, List.getElem_cons_succ, List.getElem_cons_zero]
  go_frame
  refine wpp_read _ rfl rfl (fun W hW => by have cq := ((HQ.out.mod hm2 (fun x => x)).mod hW hSq).cell; have cr := ((HRr.out.mod hm2 (fun x => x)).mod hW hSr).cell; have cp := ((HP.out.mod hm2 (fun x => x)).mod hW hSp).cell; unfold Pg.cells at cp; first | (go_simp; done) | (go_simp; rfl) | rfl) ?_
  simp only [List.getElem_toArray, List.getElem_cons_succ, List.getElem_cons_zero]
  go_frame
  refine wpp_read _ rfl rfl (fun W hW => by have cq := ((HQ.out.mod hm2 (fun x => x)).mod hW hSq).cell; have cr := ((HRr.out.mod hm2 (fun x => x)).mod hW hSr).cell; have cp := ((HP.out.mod hm2 (fun x => x)).mod hW hSp).cell; unfold Pg.cells at cp; first | (go_simp; done) | (go_simp; rfl) | rfl) ?_
  simp only [List.getElem_toArray, List.getElem_cons_succ, List.getElem_cons_zero]
  go_frame
  refine wpp_act rfl rfl ?_
  go_simp
  refine (HC w2 hm2).mono ?_
  rintro e w3 ⟨rfl, hm3, hR3⟩
  refine ⟨hm3, ?_⟩
  refine wpp_read _ rfl rfl (fun W hW => by first | (go_simp; done) | (go_simp; rfl) | rfl) ?_
  simp only [List.getElem_toArray, List.getElem_cons_succ, List.getElem_cons_zero]
  go_frame
  refine wpp_nil ?_
  go_wp2
  go_ret
  exact ⟨rfl, w2, hm2, hm3, hR3⟩
end
end Go.Proofs.Ytmclbechnfedmaa
