/- The steps of anew: closures. -/
import Derived.Test.YtmclbechnfedmaaRecord
namespace Go.Proofs.Ytmclbechnfedmaa
open Go Go.RowKit

def freshB : ByteArray := { data := #[112, 45, 110, 101, 119] }
def nameB : ByteArray := { data := #[112] }
theorem may_fresh : mayB freshB = true := by decide
theorem may_name : mayB nameB = true := by decide

section
variable {w w' : World} {p q r : Nat} {G : Pg} {R : World → Prop}
set_option maxRecDepth 100000 in
theorem anew_create (hq : Blk w q 25 #[.pointer (some ⟨p, 0, none⟩)]) (hp : Blk w p 60 G.cells)
    (HC : Calls Try.prog 14 #[.pointer (some ⟨G.d, 0, none⟩), .string freshB] w fun e w' => e = .returned (.int .i64 0) ∧ R w') :
    Calls Try.prog 50 #[.pointer (some ⟨q, 0, none⟩)] w fun e w' => e = .returned (.int .i64 0) ∧ R w' := by
  have cq := hq.cell
  have cp := hp.cell
  unfold Pg.cells at cp
  have H := Lib.hid HC
  unfold freshB at H
  clear hq hp HC
  go_enter Try.func50, Try.ntmps50
  go_wp2_with (go_at_call 14; refine H.out.mono ?_; rintro e w1 ⟨rfl, hm1⟩)
  go_ret
  exact ⟨rfl, hm1⟩

set_option maxRecDepth 100000 in
theorem anew_sync (hq : Blk w q 25 #[.pointer (some ⟨p, 0, none⟩)]) (hp : Blk w p 60 G.cells)
    (HC : Calls Try.prog 42 #[.pointer (some ⟨G.d, 0, none⟩), .string freshB] w fun e w' => e = .returned (.int .i64 0) ∧ R w') :
    Calls Try.prog 52 #[.pointer (some ⟨q, 0, none⟩)] w fun e w' => e = .returned (.int .i64 0) ∧ R w' := by
  have cq := hq.cell
  have cp := hp.cell
  unfold Pg.cells at cp
  have H := Lib.hid HC
  unfold freshB at H
  clear hq hp HC
  go_enter Try.func52, Try.ntmps52
  go_wp2_with (go_at_call 42; refine H.out.mono ?_; rintro e w1 ⟨rfl, hm1⟩)
  go_ret
  exact ⟨rfl, hm1⟩

set_option maxRecDepth 100000 in
theorem anew_rename (hq : Blk w q 25 #[.pointer (some ⟨p, 0, none⟩)]) (hp : Blk w p 60 G.cells)
    (HC : Calls Try.prog 54 #[.pointer (some ⟨G.d, 0, none⟩), .string freshB, .string nameB] w fun e w' => e = .returned (.int .i64 0) ∧ R w') :
    Calls Try.prog 53 #[.pointer (some ⟨q, 0, none⟩)] w fun e w' => e = .returned (.int .i64 0) ∧ R w' := by
  have cq := hq.cell
  have cp := hp.cell
  unfold Pg.cells at cp
  have H := Lib.hid HC
  unfold freshB nameB at H
  clear hq hp HC
  go_enter Try.func53, Try.ntmps53
  go_wp2_with (go_at_call 54; refine H.out.mono ?_; rintro e w1 ⟨rfl, hm1⟩)
  go_ret
  exact ⟨rfl, hm1⟩

set_option maxRecDepth 100000 in
theorem anew_append {v : Value} {S : Nat → Prop} (hSp : ¬ S p) (hSq : ¬ S q) (hSr : ¬ S r) (hq : Blk w q 25 #[.pointer (some ⟨p, 0, none⟩)]) (hr : Blk w r 23 #[v]) (hp : Blk w p 60 G.cells)
    (HC : ∀ W, Mod Non w W → Calls Try.prog 15 #[.pointer (some ⟨G.d, 0, none⟩), .string freshB, v] W fun e w' => e = .returned (.int .i64 0) ∧ Mod S W w' ∧ R w') :
    Calls Try.prog 51 #[.pointer (some ⟨q, 0, none⟩), .pointer (some ⟨r, 0, none⟩)] w fun e w' => e = .returned (.int .i64 0) ∧ ∃ w2, Mod Non w w2 ∧ Mod S w2 w' ∧ R w' := by
  have HQ := Lib.hid hq
  have HRr := Lib.hid hr
  have HP := Lib.hid hp
  unfold freshB at HC
  clear hq hp hr
  go_enter Try.func51, Try.ntmps51
  go_wp2
  refine wp_plan [(0, false), (1, false), (2, false), (3, false), (4, false), (5, true), (6, false)] S (by kernel_rfl) (by kernel_rfl) (fun c d v a w h => by cases d <;> exact h) (fun w2 hm2 => ?_)
  refine wpp_read _ rfl rfl (fun W hW => by have cq := ((HQ.out.mod hm2 (fun x => x)).mod hW hSq).cell; have cr := ((HRr.out.mod hm2 (fun x => x)).mod hW hSr).cell; have cp := ((HP.out.mod hm2 (fun x => x)).mod hW hSp).cell; unfold Pg.cells at cp; first | (go_simp; done) | (go_simp; rfl) | rfl) ?_
  simp only [List.getElem_toArray, List.getElem_cons_zero]
  go_frame
  refine wpp_read _ rfl rfl (fun W hW => by have cq := ((HQ.out.mod hm2 (fun x => x)).mod hW hSq).cell; have cr := ((HRr.out.mod hm2 (fun x => x)).mod hW hSr).cell; have cp := ((HP.out.mod hm2 (fun x => x)).mod hW hSp).cell; unfold Pg.cells at cp; first | (go_simp; done) | (go_simp; rfl) | rfl) ?_
  simp only [List.getElem_toArray, List.getElem_cons_succ, List.getElem_cons_zero]
  go_frame
  refine wpp_read _ rfl rfl (fun W hW => by have cq := ((HQ.out.mod hm2 (fun x => x)).mod hW hSq).cell; have cr := ((HRr.out.mod hm2 (fun x => x)).mod hW hSr).cell; have cp := ((HP.out.mod hm2 (fun x => x)).mod hW hSp).cell; unfold Pg.cells at cp; first | (go_simp; done) | (go_simp; rfl) | rfl) ?_
  simp only [List.getElem_toArray, List.getElem_cons_succ, List.getElem_cons_zero]
  go_frame
  refine wpp_read _ rfl rfl (fun W hW => by have cq := ((HQ.out.mod hm2 (fun x => x)).mod hW hSq).cell; have cr := ((HRr.out.mod hm2 (fun x => x)).mod hW hSr).cell; have cp := ((HP.out.mod hm2 (fun x => x)).mod hW hSp).cell; unfold Pg.cells at cp; first | (go_simp; done) | (go_simp; rfl) | rfl) ?_
  simp only [List.getElem_toArray, List.getElem_cons_succ, List.getElem_cons_zero]
  go_frame
  refine wpp_read _ rfl rfl (fun W hW => by have cq := ((HQ.out.mod hm2 (fun x => x)).mod hW hSq).cell; have cr := ((HRr.out.mod hm2 (fun x => x)).mod hW hSr).cell; have cp := ((HP.out.mod hm2 (fun x => x)).mod hW hSp).cell; unfold Pg.cells at cp; first | (go_simp; done) | (go_simp; rfl) | rfl) ?_
  simp only [List.getElem_toArray, List.getElem_cons_succ, List.getElem_cons_zero]
  go_frame
  refine wpp_act rfl rfl ?_
  go_simp
  refine (HC w2 hm2).mono ?_
  rintro e w3 ⟨rfl, hm3, hR3⟩
  refine ⟨hm3, ?_⟩
  refine wpp_read _ rfl rfl (fun W hW => by first | (go_simp; done) | (go_simp; rfl) | rfl) ?_
  simp only [List.getElem_toArray, List.getElem_cons_succ, List.getElem_cons_zero]
  go_frame
  refine wpp_nil ?_
  go_wp2
  go_ret
  exact ⟨rfl, w2, hm2, hm3, hR3⟩
end
end Go.Proofs.Ytmclbechnfedmaa
