/- anew, whatever the disk holds. nums.Get: a number back. Disk.Read of a whole file. Parts of a row of bytes; an array out of one. Pager.reads: a record. Pages that are marked: p.dirty[n]++. -/
import Derived.Test.YtgillcppnpkkiaaGreatDoorAnews
import Derived.Test.YtgillcppnpkkiaaGreatDoorCommit
import Derived.Test.YtgillcppnpkkiaaGreatDoorRecord
import Derived.Lib.EndianBits
namespace Go.Proofs.YtgillcppnpkkiaaGreatDoor
open Go Go.RowKit
section
variable {w : World} {d s0 n0 : Nat} {E : Dk} {rec : List UInt8}
theorem b_append_ok (h : DiskRep w d E) (hs : BState s0 n0 rec 1 E) (A : Option Addr) (m c : Nat) (hr : RowAt w A m 1 (bv rec)) (hroom : m ≤ E.left ∧ m + 0 ≤ 1048576) :
    Calls Tryz.prog 48 #[.pointer (some ⟨d, 0, none⟩), .string freshB, .slice A m c] w fun e w' => e = .returned (.int .i64 0) ∧ ∃ E', DStep w d E w' E' ∧ BState s0 n0 rec 2 E' := by
  obtain ⟨hz, hl, f, hf, hb⟩ := hs
  refine (append_ok h freshB may_fresh f hf A m c rec hr ⟨hroom.1, by rw [hb]; exact hroom.2⟩).mono ?_
  rintro e w' ⟨rfl, v, hst⟩
  exact ⟨rfl, _, hst, hz, hl, f, hf, by show upd _ _ _ _ = _; rw [upd_same, hb]; rfl⟩
theorem b_append_no (h : DiskRep w d E) (hs : BState s0 n0 rec 1 E) (A : Option Addr) (m c : Nat) (hroom : ¬ (m ≤ E.left ∧ m + 0 ≤ 1048576)) (hm63 : m ≤ maxLen) :
    Calls Tryz.prog 48 #[.pointer (some ⟨d, 0, none⟩), .string freshB, .slice A m c] w fun e w' => e = .returned (.int .i64 6) ∧ Mod Non w w' := by
  obtain ⟨hz, hl, f, hf, hb⟩ := hs
  exact append_full h freshB may_fresh f hf A m c (by rw [hb]; exact hroom) hm63
end
section
variable {w w' : World} {p : Nat} {G : Pg} {D : Dk}
/-- What anew comes to: another file that is sure, or there is no room. -/
def AnewSays (w : World) (p : Nat) (G : Pg) (D : Dk) (e : Ending) (w' : World) : Prop :=
  (e = .returned (.int .i64 0) ∧ ∃ D' f, DiskRep w' G.d D' ∧ (∀ b, DS G.d D' b → DS G.d D b ∨ w.heap.size ≤ b) ∧ PagRep w' p { G with size := (G.record (used G.has 4000)).length } ∧
      D'.size = D.size ∧ look D'.now nameB = some f ∧ D'.by_ f = G.record (used G.has 4000) ∧ D'.sure f = (G.record (used G.has 4000)).length ∧ D'.kept = D'.now ∧ D'.now.length ≤ D.now.length + 1 ∧ Mod (fun b => PS p G b ∨ DS G.d D b) w w') ∨
  (e = .returned (.int .i64 6) ∧ Mod (fun b => PS p G b ∨ DS G.d D b) w w')
theorem anew_mod {w1 w7 wr : World} {vn1 : Value} {l1 : List (ByteArray × Nat)} {o : Obj} (hst1 : DStep (w.alloc o) G.d D w1 (D.setNow vn1 l1)) (hm : Mod Non w1 w7) (hmr : Mod (DS G.d (D.setNow vn1 l1)) w7 wr) :
    Mod (fun b => PS p G b ∨ DS G.d D b) w wr := by
  have h1 : Mod (fun b => PS p G b ∨ DS G.d D b) w w1 := (((Mod.refl (DS G.d D) w).alloc o).trans hst1.mod).mono (fun b x => .inr x)
  exact (h1.trans (hm.mono (fun _ x => x.elim))).andThen hmr (fun b hb hlt => (hst1.old b hb).elim (fun x => .inr x) (fun e => by simp at e; omega))

set_option maxHeartbeats 2000000 in
set_option maxRecDepth 100000 in
theorem anew_gen (h : PagRep w p G) (hd : DiskRep w G.d D) (hap : Apart p G D) (hroot : G.root < 4294967296) (hlen : D.now.length < 64) :
    Calls Tryz.prog 40 #[.pointer (some ⟨p, 0, none⟩)] w fun e w' => AnewSays w p G D e w' := by
  have hW1 := h.mod ((Mod.refl (S := Non) w).alloc (.cells #[.pointer (some ⟨p, 0, none⟩)] 29)) (fun _ _ x => x)
  have hD1 := hd.non ((Mod.refl (S := Non) w).alloc (.cells #[.pointer (some ⟨p, 0, none⟩)] 29))
  have hq := Blk.new w 29 #[.pointer (some ⟨p, 0, none⟩)]
  have HN := Lib.hid (remove_gen hD1 freshB may_fresh)
  unfold freshB at HN
  have cp := hW1.blk.cell
  unfold Pg.cells at cp
  have hlen4 : (used G.has 4000).length ≤ 8192 := by have := used_length G.has 4000; omega
  have hused : ∀ n ∈ used G.has 4000, n < 4294967296 := fun n hn => by have := (mem_used.1 hn).2.1; omega
  have hrl63 : (G.record (used G.has 4000)).length ≤ maxLen := by have h1 := record_le h.len (used G.has 4000); unfold maxLen; omega
  have H := Lib.hid h
  have HD := Lib.hid hd
  have HW := Lib.hid hW1
  have HDW := Lib.hid hD1
  have HQ := Lib.hid hq
  clear h hd hW1 hD1 hq
  go_enter Tryz.func40, Tryz.ntmps40
  go_wp2_with (go_at_call 41; refine HN.out.mono ?_; rintro e w1 ⟨⟨r0, rfl⟩, vn1, l1, hst1, hno1, _, hle1⟩)
  have hnq0 : ¬ DS G.d D w.heap.size := fun hb => absurd (HD.out.lt hb) (by omega)
  have HQ1 := Lib.hid (HQ.out.mod hst1.mod hnq0)
  have HW1 := Lib.hid (HW.out.mod hst1.mod hap)
  have hzz : (w.alloc (.cells #[.pointer (some ⟨p, 0, none⟩)] 29)).heap.size = w.heap.size + 1 := by simp
  have hap1 : Apart p G (D.setNow vn1 l1) := fun b hb hx => (hst1.old b hx).elim (hap b hb) (fun e => by have h1 := H.out.lt hb; omega)
  have hnq1 : ¬ DS G.d (D.setNow vn1 l1) w.heap.size := fun hx => (hst1.old _ hx).elim hnq0 (fun e => by omega)
  have HST1 := Lib.hid hst1
  have HNO1 := Lib.hid hno1
  clear hst1 hno1
  refine wp_pl (.read 0 (.read 1 (.fork 2 (.fork 3 (.act 4 (.act 5 .done)) 4 (.act 3 (.act 5 .done))) 4 (.act 2 (.act 3 (.act 5 .done)))))) Non (by kernel_rfl) (by kernel_rfl) (fun c d v a w h => by cases d <;> exact h) (fun w2 hm2 => ?_)
  refine wpf_read _ rfl rfl (fun W hW => by have cq := (HQ1.out.mod (hm2.trans hW) (fun x => x)).cell; first | (go_simp; done) | (go_simp; rfl) | rfl) ?_
  simp only [List.getElem_toArray, List.getElem_cons_zero]
  go_frame
  refine wpf_read _ rfl rfl (fun W hW => by have cq := (HQ1.out.mod (hm2.trans hW) (fun x => x)).cell; first | (go_simp; done) | (go_simp; rfl) | rfl) ?_
  simp only [List.getElem_toArray, List.getElem_cons_succ, List.getElem_cons_zero]
  go_frame
  have HA : ∀ W, Mod Non w2 W → Hid _ := fun W hW => Lib.hid (all_ok ((HW1.out.mod hm2 (fun _ _ x => x)).mod hW (fun _ _ x => x)))
  have HR : ∀ W A c, Mod Non w2 W → W.ownsRow w2.heap.size 55 1 (.slice A (used G.has 4000).length c) (used G.has 4000).length (uv (used G.has 4000)) → Hid _ := fun W A c hW ho => Lib.hid (record_ok (((HW1.out.mod hm2 (fun _ _ x => x)).mod hW (fun _ _ x => x))) hroot A c (used G.has 4000) (by
    obtain ⟨A', c', e, _, hr, _⟩ := owns_form ho
    cases e
    exact hr) hused hlen4)
  have hlow : w1.heap.size ≤ w2.heap.size := hm2.size
  apply cut6 (A := Nat) (B := Option Addr) (C := Nat) (E := Option Addr) (F := Nat) (I := World) (P := fun r _ _ Av cv w5 => w1.heap.size ≤ r ∧ Hid (Mod Non w2 w5) ∧ Hid (Blk w5 r 56 #[.slice Av (G.record (used G.has 4000)).length cv]) ∧ Hid (w5.ownsRow w1.heap.size 5 1 (.slice Av (G.record (used G.has 4000)).length cv) (G.record (used G.has 4000)).length (bv (G.record (used G.has 4000)))))
  intro T
  refine wpf_fork rfl rfl rfl rfl ?_ ?_
  go_simp
  refine (HA w2 (Mod.refl _ _)).out.mono ?_
  rintro e w3 ⟨vl, rfl, hol, hm3⟩
  obtain ⟨Al, cl, rfl, _, _, _⟩ := owns_form hol
  refine ⟨hm3, ?_⟩
  refine wpf_fork rfl rfl rfl rfl ?_ ?_
  go_simp
  refine (HR w3 Al cl hm3 hol).out.mono ?_
  rintro e w4 ⟨v, rfl, hov, hm4⟩
  obtain ⟨Av, cv, rfl, _, _, _⟩ := owns_form hov
  refine ⟨hm3.trans hm4, ?_⟩
  refine wpf_act rfl rfl ?_
  go_simp
  refine ⟨(hm3.trans hm4).alloc _, ?_⟩
  refine wpf_act rfl rfl ?_
  go_simp
  have hm24 : Mod Non w2 w4 := hm3.trans hm4
  have HM5 := Lib.hid (hm24.alloc (.cells #[.slice Av (G.record (used G.has 4000)).length cv] 56))
  have HB5 := Lib.hid (Blk.new w4 56 #[.slice Av (G.record (used G.has 4000)).length cv])
  have HO5 := Lib.hid (owns_from (hov.alloc (.cells #[.slice Av (G.record (used G.has 4000)).length cv] 56)) (Nat.le_trans hlow hm3.size))
  have hlr := Nat.le_trans hlow hm24.size
  generalize w4.alloc (.cells #[.slice Av (G.record (used G.has 4000)).length cv] 56) = w5 at *
  generalize w4.heap.size = r at *
  refine ⟨HM5.out, wpf_nil ?_⟩
  exact T r Al cl Av cv w5 ⟨hlr, HM5, HB5, HO5⟩
  go_simp
  have hb1 := Blk.new w3 56 #[.slice none 0 0]
  have hma : Mod Non w3 (w3.alloc (.cells #[.slice none 0 0] 56)) := (Mod.refl _ _).alloc _
  refine ⟨hm3.trans hma, ?_⟩
  refine wpf_act rfl rfl ?_
  go_simp
  refine (HR _ Al cl (hm3.trans hma) (hol.alloc _)).out.mono ?_
  rintro e w4 ⟨v, rfl, hov, hm4⟩
  obtain ⟨Av, cv, rfl, _, _, _⟩ := owns_form hov
  have hm24 : Mod Non w2 w4 := (hm3.trans hma).trans hm4
  have hb4 := hb1.mod hm4 (fun x => x)
  refine ⟨hm24, ?_⟩
  refine wpf_act rfl rfl ?_
  have cb4 := hb4.cell
  have fb4 := hb4.frozen
  go_simp
  have HM5 := Lib.hid (hm24.setCell (p := ⟨w3.heap.size, 0, none⟩) (.inr hm3.size) (.slice Av (G.record (used G.has 4000)).length cv))
  have HB5 := Lib.hid (hb4.set 0 (.slice Av (G.record (used G.has 4000)).length cv))
  have HO5 := Lib.hid (owns_from (owns_keep hov (fun b hb => Below.heap_setCell w4 ⟨w3.heap.size, 0, none⟩ (.slice Av (G.record (used G.has 4000)).length cv) _ (fun e => own_blk_ne hov hb4 (by decide) (by rw [hb, e])))) (Nat.le_trans hlow (hm3.trans hma).size))
  have hlr := Nat.le_trans hlow hm3.size
  generalize w4.setCell ⟨w3.heap.size, 0, none⟩ (.slice Av (G.record (used G.has 4000)).length cv) = w5 at *
  generalize w3.heap.size = r at *
  refine ⟨HM5.out, wpf_nil ?_⟩
  exact T r Al cl Av cv w5 ⟨hlr, HM5, HB5, HO5⟩
  go_simp
  have hb1 := Blk.new w2 56 #[.slice none 0 0]
  have hma : Mod Non w2 (w2.alloc (.cells #[.slice none 0 0] 56)) := (Mod.refl _ _).alloc _
  refine ⟨hma, ?_⟩
  refine wpf_act rfl rfl ?_
  go_simp
  refine (HA _ hma).out.mono ?_
  rintro e w3 ⟨vl, rfl, hol, hm3⟩
  obtain ⟨Al, cl, rfl, _, _, _⟩ := owns_form hol
  refine ⟨hma.trans hm3, ?_⟩
  refine wpf_act rfl rfl ?_
  go_simp
  refine (HR w3 Al cl (hma.trans hm3) (owns_from hol hma.size)).out.mono ?_
  rintro e w4 ⟨v, rfl, hov, hm4⟩
  obtain ⟨Av, cv, rfl, _, _, _⟩ := owns_form hov
  have hm24 : Mod Non w2 w4 := (hma.trans hm3).trans hm4
  have hb4 := (hb1.mod hm3 (fun x => x)).mod hm4 (fun x => x)
  refine ⟨hm24, ?_⟩
  refine wpf_act rfl rfl ?_
  have cb4 := hb4.cell
  have fb4 := hb4.frozen
  go_simp
  have HM5 := Lib.hid (hm24.setCell (p := ⟨w2.heap.size, 0, none⟩) (.inr (Nat.le_refl _)) (.slice Av (G.record (used G.has 4000)).length cv))
  have HB5 := Lib.hid (hb4.set 0 (.slice Av (G.record (used G.has 4000)).length cv))
  have HO5 := Lib.hid (owns_from (owns_keep hov (fun b hb => Below.heap_setCell w4 ⟨w2.heap.size, 0, none⟩ (.slice Av (G.record (used G.has 4000)).length cv) _ (fun e => own_blk_ne hov hb4 (by decide) (by rw [hb, e])))) (Nat.le_trans hlow (hma.trans hm3).size))
  have hlr := hlow
  generalize w4.setCell ⟨w2.heap.size, 0, none⟩ (.slice Av (G.record (used G.has 4000)).length cv) = w5 at *
  refine ⟨HM5.out, wpf_nil ?_⟩
  exact T w2.heap.size Al cl Av cv w5 ⟨hlr, HM5, HB5, HO5⟩
  rintro r Al cl Av cv w5 ⟨hlr, HM5, HB5, HO5⟩
  go_wp2
  refine wp_plan [(0, false), (1, false), (2, false), (3, false), (4, false), (5, false), (6, false), (7, false), (8, false), (9, false), (10, false), (11, false), (12, false), (13, false), (16, false), (14, true), (15, false)] Non (by kernel_rfl) (by kernel_rfl) (fun c d v a w h => by cases d <;> exact h) (fun w6 hm6 => ?_)
  have hq6 := (((HQ1.out.mod hm2 (fun x => x)).mod HM5.out (fun x => x))).mod hm6 (fun x => x)
  have hp6 := ((HW1.out.blk.mod hm2 (fun x => x)).mod HM5.out (fun x => x)).mod hm6 (fun x => x)
  refine wpp_read _ rfl rfl (fun W hW => by have cq := (hq6.mod hW (fun x => x)).cell; have cp6 := (hp6.mod hW (fun x => x)).cell; unfold Pg.cells at cp6; first | (go_simp; done) | (go_simp; rfl) | rfl) ?_
  simp only [List.getElem_toArray, List.getElem_cons_zero]
  go_frame
  refine wpp_read _ rfl rfl (fun W hW => by have cq := (hq6.mod hW (fun x => x)).cell; have cp6 := (hp6.mod hW (fun x => x)).cell; unfold Pg.cells at cp6; first | (go_simp; done) | (go_simp; rfl) | rfl) ?_
  simp only [List.getElem_toArray, List.getElem_cons_succ, List.getElem_cons_zero]
  go_frame
  refine wpp_read _ rfl rfl (fun W hW => by have cq := (hq6.mod hW (fun x => x)).cell; have cp6 := (hp6.mod hW (fun x => x)).cell; unfold Pg.cells at cp6; first | (go_simp; done) | (go_simp; rfl) | rfl) ?_
  simp only [List.getElem_toArray, List.getElem_cons_succ, List.getElem_cons_zero]
  go_frame
  refine wpp_read _ rfl rfl (fun W hW => by have cq := (hq6.mod hW (fun x => x)).cell; have cp6 := (hp6.mod hW (fun x => x)).cell; unfold Pg.cells at cp6; first | (go_simp; done) | (go_simp; rfl) | rfl) ?_
  simp only [List.getElem_toArray, List.getElem_cons_succ, List.getElem_cons_zero]
  go_frame
  refine wpp_read _ rfl rfl (fun W hW => by have cq := (hq6.mod hW (fun x => x)).cell; have cp6 := (hp6.mod hW (fun x => x)).cell; unfold Pg.cells at cp6; first | (go_simp; done) | (go_simp; rfl) | rfl) ?_
  simp only [List.getElem_toArray, List.getElem_cons_succ, List.getElem_cons_zero]
  go_frame
  refine wpp_read _ rfl rfl (fun W hW => by have cq := (hq6.mod hW (fun x => x)).cell; have cp6 := (hp6.mod hW (fun x => x)).cell; unfold Pg.cells at cp6; first | (go_simp; done) | (go_simp; rfl) | rfl) ?_
  simp only [List.getElem_toArray, List.getElem_cons_succ, List.getElem_cons_zero]
  go_frame
  refine wpp_read _ rfl rfl (fun W hW => by have cq := (hq6.mod hW (fun x => x)).cell; have cp6 := (hp6.mod hW (fun x => x)).cell; unfold Pg.cells at cp6; first | (go_simp; done) | (go_simp; rfl) | rfl) ?_
  simp only [List.getElem_toArray, List.getElem_cons_succ, List.getElem_cons_zero]
  go_frame
  refine wpp_read _ rfl rfl (fun W hW => by have cq := (hq6.mod hW (fun x => x)).cell; have cp6 := (hp6.mod hW (fun x => x)).cell; unfold Pg.cells at cp6; first | (go_simp; done) | (go_simp; rfl) | rfl) ?_
  simp only [List.getElem_toArray, List.getElem_cons_succ, List.getElem_cons_zero]
  go_frame
  refine wpp_read _ rfl rfl (fun W hW => by have cq := (hq6.mod hW (fun x => x)).cell; have cp6 := (hp6.mod hW (fun x => x)).cell; unfold Pg.cells at cp6; first | (go_simp; done) | (go_simp; rfl) | rfl) ?_
  simp only [List.getElem_toArray, List.getElem_cons_succ, List.getElem_cons_zero]
  go_frame
  refine wpp_read _ rfl rfl (fun W hW => by have cq := (hq6.mod hW (fun x => x)).cell; have cp6 := (hp6.mod hW (fun x => x)).cell; unfold Pg.cells at cp6; first | (go_simp; done) | (go_simp; rfl) | rfl) ?_
  simp only [List.getElem_toArray, List.getElem_cons_succ, List.getElem_cons_zero]
  go_frame
  refine wpp_read _ rfl rfl (fun W hW => by have cq := (hq6.mod hW (fun x => x)).cell; have cp6 := (hp6.mod hW (fun x => x)).cell; unfold Pg.cells at cp6; first | (go_simp; done) | (go_simp; rfl) | rfl) ?_
  simp only [List.getElem_toArray, List.getElem_cons_succ, List.getElem_cons_zero]
  go_frame
  refine wpp_read _ rfl rfl (fun W hW => by have cq := (hq6.mod hW (fun x => x)).cell; have cp6 := (hp6.mod hW (fun x => x)).cell; unfold Pg.cells at cp6; first | (go_simp; done) | (go_simp; rfl) | rfl) ?_
  simp only [List.getElem_toArray, List.getElem_cons_succ, List.getElem_cons_zero]
  go_frame
  refine wpp_read _ rfl rfl (fun W hW => by have cq := (hq6.mod hW (fun x => x)).cell; have cp6 := (hp6.mod hW (fun x => x)).cell; unfold Pg.cells at cp6; first | (go_simp; done) | (go_simp; rfl) | rfl) ?_
  simp only [List.getElem_toArray, List.getElem_cons_succ, List.getElem_cons_zero]
  go_frame
  refine wpp_read _ rfl rfl (fun W hW => by have cq := (hq6.mod hW (fun x => x)).cell; have cp6 := (hp6.mod hW (fun x => x)).cell; unfold Pg.cells at cp6; first | (go_simp; done) | (go_simp; rfl) | rfl) ?_
  simp only [List.getElem_toArray, List.getElem_cons_succ, List.getElem_cons_zero]
  go_frame
  refine wpp_read _ rfl rfl (fun W hW => by first | (go_simp; done) | (go_simp; rfl) | rfl) ?_
  simp only [List.getElem_toArray, List.getElem_cons_succ, List.getElem_cons_zero]
  go_frame
  refine wpp_act rfl rfl ?_
  go_simp
  have hb7 := Blk.new w6 62 #[.func (.func 116) #[] #[.pointer (some ⟨w.heap.size, 0, none⟩)], .func (.func 118) #[] #[.pointer (some ⟨w.heap.size, 0, none⟩), .pointer (some ⟨r, 0, none⟩)], .func (.func 119) #[] #[.pointer (some ⟨w.heap.size, 0, none⟩)], .func (.func 42) #[.pointer (some ⟨G.d, 0, none⟩)] #[], .func (.func 120) #[] #[.pointer (some ⟨w.heap.size, 0, none⟩)], .func (.func 42) #[.pointer (some ⟨G.d, 0, none⟩)] #[]]
  have hm7 : Mod Non w6 (w6.alloc (.cells #[.func (.func 116) #[] #[.pointer (some ⟨w.heap.size, 0, none⟩)], .func (.func 118) #[] #[.pointer (some ⟨w.heap.size, 0, none⟩), .pointer (some ⟨r, 0, none⟩)], .func (.func 119) #[] #[.pointer (some ⟨w.heap.size, 0, none⟩)], .func (.func 42) #[.pointer (some ⟨G.d, 0, none⟩)] #[], .func (.func 120) #[] #[.pointer (some ⟨w.heap.size, 0, none⟩)], .func (.func 42) #[.pointer (some ⟨G.d, 0, none⟩)] #[]] 62)) := (Mod.refl _ _).alloc _
  refine ⟨hm7, ?_⟩
  have HB7 := Lib.hid hb7
  have HM7 := Lib.hid hm7
  clear hb7 hm7
  refine wpp_read _ rfl rfl (fun W hW => by first | (go_simp; done) | (go_simp; rfl) | rfl) ?_
  simp only [List.getElem_toArray, List.getElem_cons_succ, List.getElem_cons_zero]
  go_frame
  refine wpp_nil ?_
  have HM17 := Lib.hid (((hm2.trans HM5.out).trans hm6).trans HM7.out)
  have HD7 := Lib.hid (HST1.out.rep.non HM17.out)
  go_wp2
  go_loopw [31] (fun i wr => ∃ k : Nat, k ≤ 6 ∧ i = .int .i64 k ∧ ∃ E, DStep (w6.alloc (.cells #[.func (.func 116) #[] #[.pointer (some ⟨w.heap.size, 0, none⟩)], .func (.func 118) #[] #[.pointer (some ⟨w.heap.size, 0, none⟩), .pointer (some ⟨r, 0, none⟩)], .func (.func 119) #[] #[.pointer (some ⟨w.heap.size, 0, none⟩)], .func (.func 42) #[.pointer (some ⟨G.d, 0, none⟩)] #[], .func (.func 120) #[] #[.pointer (some ⟨w.heap.size, 0, none⟩)], .func (.func 42) #[.pointer (some ⟨G.d, 0, none⟩)] #[]] 62)) G.d (D.setNow vn1 l1) wr E ∧ BState D.size (D.now.length + 1) (G.record (used G.has 4000)) k E) (fun i _ => 6 - (intOf i).toNat)
  case atStart => exact ⟨0, by omega, rfl, _, .of_non HD7.out (Mod.refl _ _), rfl, Nat.succ_le_succ hle1, HNO1.out⟩
  case round =>
    obtain ⟨k, hk, rfl, E, hst, hsA⟩ := hrel
    have hlw : ∀ b, DS G.d (D.setNow vn1 l1) b → b < w1.heap.size := fun b hb => HST1.out.rep.lt hb
    have hs6 : w1.heap.size ≤ w6.heap.size := Nat.le_trans hm2.size (Nat.le_trans HM5.out.size hm6.size)
    have hnr : ¬ DS G.d (D.setNow vn1 l1) r := fun hb => absurd (hlw _ hb) (by omega)
    have hq8 := (hq6.mod HM7.out (fun x => x)).mod hst.mod hnq1
    have hp8 := (hp6.mod HM7.out (fun x => x)).mod hst.mod (hap1 p (.inl rfl))
    have hr8 := ((HB5.out.mod hm6 (fun x => x)).mod HM7.out (fun x => x)).mod hst.mod hnr
    have hb8 := HB7.out.mod hst.mod (fun hb => absurd (hlw _ hb) (by omega))
    have cb8 := hb8.cell
    have HST := Lib.hid hst
    have HSA := Lib.hid hsA
    clear hst hsA hb8
    by_cases hk0 : k = 0
    · subst hk0
      have HC := Lib.hid (anew_create hq8 hp8 (b_create HST.out.rep HSA.out (by omega)))
      clear hq8 hp8 hr8
      go_wp2_with (go_at_call 116; refine HC.out.mono ?_; rintro e w8 ⟨rfl, E', hst8, hs8⟩)
      go_roundw
      case rel => exact ⟨1, by omega, rfl, E', HST.out.trans hst8, hs8⟩
      case measure => simp [intOf]
    by_cases hk1 : k = 1
    · subst hk1
      have hO8 : wr.ownsRow w1.heap.size 5 1 (.slice Av (G.record (used G.has 4000)).length cv) (G.record (used G.has 4000)).length (bv (G.record (used G.has 4000))) := owns_keep HO5.out (fun b hb => (((hm6.trans HM7.out).mono (fun _ x => x.elim)).trans HST.out.mod).block b (HO5.out.lt b hb).2 (fun hd => absurd (hlw _ hd) (by have := (HO5.out.lt b hb).1; omega)))
      have hE : ∀ b, ¬ DS G.d (D.setNow vn1 l1) b → b < w6.heap.size → ¬ DS G.d E b := fun b h1 h2 h3 => (HST.out.old b h3).elim h1 (fun h4 => by have := HM7.out.size; omega)
      have hrowW : ∀ W, Mod Non wr W → RowAt W Av (G.record (used G.has 4000)).length 1 (bv (G.record (used G.has 4000))) := fun W hW => by
        obtain ⟨A', c', e', _, hrow, _⟩ := owns_form (owns_keep hO8 (fun b hb => hW.block b (hO8.lt b hb).2 (fun x => x)))
        cases e'
        exact hrow
      by_cases hroom : (G.record (used G.has 4000)).length ≤ E.left ∧ (G.record (used G.has 4000)).length + 0 ≤ 1048576
      · have HC := Lib.hid (anew_append_r (S := DS G.d E) (R := fun w' => ∃ E', DStep wr G.d E w' E' ∧ BState D.size (D.now.length + 1) (G.record (used G.has 4000)) 2 E') (hE p (hap1 p (.inl rfl)) hp6.lt) (hE _ hnq1 hq6.lt) (hE r hnr (Nat.lt_of_lt_of_le HB5.out.lt hm6.size)) hq8 hr8 hp8 (fun W hW => (b_append_ok (HST.out.rep.non hW) HSA.out Av (G.record (used G.has 4000)).length cv (hrowW W hW) hroom).mono (fun e w' ⟨h1, E', h2, h3⟩ => ⟨h1, h2.mod, E', DStep.after hW h2, h3⟩)))
        clear hq8 hp8 hr8 hO8 hrowW
        go_wp2_with (go_at_call 118; refine HC.out.mono ?_; rintro e w8 ⟨rfl, w9, hm9, hm98, E', hst8, hs8⟩)
        go_roundw
        case rel => exact ⟨2, by omega, rfl, E', HST.out.trans hst8, hs8⟩
        case measure => simp [intOf]
      · have HC := Lib.hid (anew_append_r (S := Non) (R := fun w' => Mod Non wr w') (fun x => x) (fun x => x) (fun x => x) hq8 hr8 hp8 (fun W hW => (b_append_no (HST.out.rep.non hW) HSA.out Av (G.record (used G.has 4000)).length cv hroom hrl63).mono (fun e w' ⟨h1, h2⟩ => ⟨h1, h2, hW.trans h2⟩)))
        have HQ8 := Lib.hid hq8
        have HP8 := Lib.hid hp8
        clear hq8 hp8 hr8 hO8 hrowW
        go_wp2_with (first
          | (go_at_call 118; refine HC.out.mono ?_; rintro e w8 ⟨rfl, w9, hm9, hm98, hm08⟩
             have hq9 := HQ8.out.mod hm08 (fun x => x)
             have hp9 := HP8.out.mod hm08 (fun x => x)
             have cq9 := hq9.cell
             have cp9 := hp9.cell
             unfold Pg.cells at cp9
             have HQ9 := Lib.hid hq9
             have HP9 := Lib.hid hp9
             have HRm := Lib.hid (remove_gen (HST.out.rep.non hm08) freshB may_fresh)
             unfold freshB at HRm
             clear hq9 hp9)
          | (go_at_call 41; refine HRm.out.mono ?_; rintro e w10 ⟨⟨r1, rfl⟩, vn2, l2, hst2, _, _, _⟩
             have hq10 := HQ9.out.mod hst2.mod (hE _ hnq1 hq6.lt)
             have hp10 := HP9.out.mod hst2.mod (hE p (hap1 p (.inl rfl)) hp6.lt)
             have cq10 := hq10.cell
             have cp10 := hp10.cell
             unfold Pg.cells at cp10
             have HS2 := Lib.hid hst2
             clear hq10 hp10 hst2)
          | (go_at_call 42; refine (names_ok HS2.out.rep).mono ?_; rintro e w11 ⟨rfl, vk, hst3⟩))
        go_ret
        have hz := (HST.out.trans ((DStep.after hm08 HS2.out).trans hst3))
        exact .inr ⟨rfl, anew_mod HST1.out HM17.out hz.mod⟩
    by_cases hk2 : k = 2
    · subst hk2
      have HC := Lib.hid (anew_sync hq8 hp8 (b_sync HST.out.rep HSA.out))
      clear hq8 hp8 hr8
      go_wp2_with (go_at_call 119; refine HC.out.mono ?_; rintro e w8 ⟨rfl, E', hst8, hs8⟩)
      go_roundw
      case rel => exact ⟨3, by omega, rfl, E', HST.out.trans hst8, hs8⟩
      case measure => simp [intOf]
    by_cases hk3 : k = 3
    · subst hk3
      have HC := Lib.hid (b_names HST.out.rep HSA.out)
      clear hq8 hp8 hr8
      go_wp2_with (go_at_call 42; refine HC.out.mono ?_; rintro e w8 ⟨rfl, E', hst8, hs8⟩)
      go_roundw
      case rel => exact ⟨4, by omega, rfl, E', HST.out.trans hst8, hs8⟩
      case measure => simp [intOf]
    by_cases hk4 : k = 4
    · subst hk4
      have HC := Lib.hid (anew_rename hq8 hp8 (b_rename HST.out.rep HSA.out))
      clear hq8 hp8 hr8
      go_wp2_with (go_at_call 120; refine HC.out.mono ?_; rintro e w8 ⟨rfl, E', hst8, hs8⟩)
      go_roundw
      case rel => exact ⟨5, by omega, rfl, E', HST.out.trans hst8, hs8⟩
      case measure => simp [intOf]
    by_cases hk5 : k = 5
    · subst hk5
      have HC := Lib.hid (b_names2 HST.out.rep HSA.out)
      clear hq8 hp8 hr8
      go_wp2_with (go_at_call 42; refine HC.out.mono ?_; rintro e w8 ⟨rfl, E', hst8, hs8⟩)
      go_roundw
      case rel => exact ⟨6, by omega, rfl, E', HST.out.trans hst8, hs8⟩
      case measure => simp [intOf]
    have hk6 : k = 6 := by omega
    subst hk6
    have cq8 := hq8.cell
    have cp8 := hp8.cell
    have fp8 := hp8.frozen
    unfold Pg.cells at cp8
    have cr8 := hr8.cell
    clear hq8 hp8 hr8
    go_wp2
    go_ret
    obtain ⟨hz, hln, f, hn, hb, hu, hkk⟩ := HSA.out
    have hmall := anew_mod (p := p) HST1.out HM17.out HST.out.mod
    have hs1 := HST1.out.mod.size
    have hs7 := HM17.out.size
    have hold : ∀ b, DS G.d E b → DS G.d D b ∨ w.heap.size ≤ b := fun b hb => (HST.out.old b hb).elim (fun h => (HST1.out.old b h).imp id (fun e => by omega)) (fun e => .inr (by omega))
    have hpag := HW1.out.mod ((HM17.out.mono (T := DS G.d (D.setNow vn1 l1)) (fun _ x => x.elim)).trans HST.out.mod) hap1
    refine .inl ⟨rfl, E, f, HST.out.rep.mod ((Mod.refl (One p) wr).setCell (p := ⟨p, 6, none⟩) (.inl rfl) _) (fun b hb e => ?_), hold, hpag.setSize _, hz, hn, hb, hu, hkk, hln, hmall.setCell (p := ⟨p, 6, none⟩) (.inl (.inl (.inl rfl))) _⟩
    cases e
    exact (hold p hb).elim (hap p (.inl rfl)) (fun h4 => by have h5 := H.out.blk.lt; omega)
end
end Go.Proofs.YtgillcppnpkkiaaGreatDoor

namespace Go.Proofs.YtgillcppnpkkiaaGreatDoor
open Go Go.RowKit
theorem andNot128 : ∀ m : Fin 256, bits BinOp.andNot IntKind.u8 ((m : Nat) : Int) 128 = ((m.val % 128 : Nat) : Int) := by decide +kernel

/-- What Get answers. -/
inductive Got | ok (n took : Nat) | short | form
def nxt (k v x : Nat) : Nat := v + (if k = 9 then x % 2 else x % 128) * 2 ^ (7 * k)
def dec : Nat → Nat → List UInt8 → Got
  | k, _, [] => if 9 < k then .form else .short
  | k, v, x :: r => if 9 < k then .form else
      if 128 ≤ x.toNat then dec (k + 1) (nxt k v x.toNat) r
      else if (0 < k ∧ x.toNat = 0) ∨ (k = 9 ∧ 1 < x.toNat) then .form
      else .ok (nxt k v x.toNat) (k + 1)
def Got.val : Got → Value
  | .ok n t => .tuple #[.int .u64 n, .int .i64 t, .int .i64 0]
  | .short => .tuple #[.int .u64 0, .int .i64 0, .int .i64 5]
  | .form => .tuple #[.int .u64 0, .int .i64 0, .int .i64 4]

theorem pow_cases {k : Nat} (hk : k ≤ 9) : k = 0 ∨ k = 1 ∨ k = 2 ∨ k = 3 ∨ k = 4 ∨ k = 5 ∨ k = 6 ∨ k = 7 ∨ k = 8 ∨ k = 9 := by omega
theorem nxt_lt {k v x : Nat} (hk : k ≤ 8) (hv : v < 2 ^ (7 * k)) : nxt k v x < 2 ^ (7 * (k + 1)) := by
  unfold nxt
  rw [if_neg (by omega), show 7 * (k + 1) = 7 * k + 7 by omega, Nat.pow_add]
  have h1 : x % 128 ≤ 127 := by omega
  have h2 : x % 128 * 2 ^ (7 * k) ≤ 127 * 2 ^ (7 * k) := Nat.mul_le_mul_right _ h1
  omega
theorem or_shift {i P v z : Nat} (hP : P = 2 ^ i) (hv : v < P) (hz : z % P = 0) (hP2 : P ≤ 9223372036854775808) (hz2 : z < 18446744073709551616) : bits BinOp.or IntKind.u64 (v : Int) (z : Int) = ((v + z : Nat) : Int) := by
  subst hP
  rw [bits_join_low IntKind.u64 64 (by decide) (fun n h0 h1 => by rw [IntKind.wrap_u64]; omega) i (v : Int) (z : Int) (by omega) (by exact_mod_cast hv) (by
    have : (v : Int) < 9223372036854775808 := by omega
    have h2 : (2 : Int) ^ 64 = 18446744073709551616 := by decide
    omega) (by omega) (by exact_mod_cast hz) (by
    have h2 : (2 : Int) ^ 64 = 18446744073709551616 := by decide
    omega)]
  omega
theorem nxt_bits {k v x : Nat} (hk : k ≤ 9) (hv : v < 2 ^ (7 * k)) (hx : x < 256) :
    bits BinOp.or IntKind.u64 (v : Int) (IntKind.u64.wrap (IntKind.u64.wrap (bits BinOp.andNot IntKind.u8 (x : Int) 128) * 2 ^ (7 * k))) = ((nxt k v x : Nat) : Int) := by
  rw [andNot128 ⟨x, hx⟩]
  have h1 : IntKind.u64.wrap ((x % 128 : Nat) : Int) = ((x % 128 : Nat) : Int) := by rw [IntKind.wrap_u64]; omega
  rw [h1]
  have key : IntKind.u64.wrap (((x % 128 : Nat) : Int) * 2 ^ (7 * k)) = (((if k = 9 then x % 2 else x % 128) * 2 ^ (7 * k) : Nat) : Int) ∧ ((if k = 9 then x % 2 else x % 128) * 2 ^ (7 * k)) < 18446744073709551616 ∧ 2 ^ (7 * k) ≤ 9223372036854775808 := by
    rw [IntKind.wrap_u64]
    rcases pow_cases hk with rfl | rfl | rfl | rfl | rfl | rfl | rfl | rfl | rfl | rfl <;> simp <;> omega
  rw [key.1, or_shift (i := 7 * k) rfl hv (Nat.mul_mod_left _ _) key.2.2 key.2.1]
  rfl

section
variable {w w' : World}
theorem dec_end {k v : Nat} : dec k v [] = if 9 < k then .form else .short := rfl
theorem dec_cons {k v : Nat} {x : UInt8} {r : List UInt8} : dec k v (x :: r) = if 9 < k then .form else if 128 ≤ x.toNat then dec (k + 1) (nxt k v x.toNat) r else if (0 < k ∧ x.toNat = 0) ∨ (k = 9 ∧ 1 < x.toNat) then .form else .ok (nxt k v x.toNat) (k + 1) := rfl

set_option maxHeartbeats 1000000 in
set_option maxRecDepth 100000 in
theorem get_num (A : Option Addr) (m c : Nat) (b : List UInt8) (hr : RowAt w A m 1 (bv b)) (hm : m ≤ 1048576) :
    Calls Tryz.prog 38 #[.slice A m c] w fun e w' => e = .returned (dec 0 0 b).val ∧ w' = w := by
  have hbm : b.length = m := by have := hr.1; rw [bv_length] at this; omega
  have HR := Lib.hid hr
  have HBM := Lib.hid hbm
  clear hr hbm
  go_enter Tryz.func38, Tryz.ntmps38
  go_wp2
  go_loopw [2, 10] (fun n i wr => ∃ (k v : Nat), k ≤ m ∧ k ≤ 10 ∧ i = .int .i64 k ∧ n = .int .u64 v ∧ (k ≤ 9 → v < 2 ^ (7 * k)) ∧ dec k v (b.drop k) = dec 0 0 b ∧ wr = w) (fun _ i _ => 10 - (intOf i).toNat)
  case atStart => exact ⟨0, 0, by omega, by omega, rfl, rfl, fun _ => by decide, rfl, rfl⟩
  case round =>
    obtain ⟨k, v, hk, hk10, rfl, rfl, hv, hd, rfl⟩ := hrel
    have HD := Lib.hid hd
    clear hd
    by_cases hlt : k < m ∧ k < 10
    · obtain ⟨hlt1, hlt2⟩ := hlt
      have hv9 := hv (by omega)
      have hbl : k < b.length := by rw [HBM.out]; exact hlt1
      have hdr : b.drop k = b[k] :: b.drop (k + 1) := List.drop_eq_getElem_cons hbl
      have hD := HD.out
      rw [hdr, dec_cons, if_neg (by omega)] at hD
      obtain ⟨ad, u, rfl, hu, hc⟩ := HR.out.at1 hlt1
      rw [bv_get, List.getElem?_eq_getElem hbl] at hu
      cases hu
      unfold u8v at hc
      have hx := b[k].toNat_lt
      generalize b[k].toNat = x at *
      have hnx := nxt_bits (by omega : k ≤ 9) hv9 hx
      have hnl : k ≤ 8 → nxt k v x < 2 ^ (7 * (k + 1)) := fun h8 => nxt_lt h8 hv9
      generalize nxt k v x = n at *
      have hmin : ((k : Int) < min (m : Int) 10) := by omega
      have HNL := Lib.hid hnl
      clear hnl hv hv9 hdr hbl
      by_cases h128 : 128 ≤ x
      · rw [if_pos h128] at hD
        have HD2 := Lib.hid hD
        clear hD
        go_wp2
        go_roundw
        case rel => exact ⟨k + 1, n, by omega, by omega, by go_num, rfl, fun h9 => HNL.out (by omega), HD2.out, trivial⟩
        case measure => simp [intOf]; omega
      · rw [if_neg h128] at hD
        by_cases hk0 : k = 0
        · have hk0' : ¬ ((0 : Int) < (k : Int)) := by omega
          have hk9' : ((k : Int) == 9) = false := by simp; omega
          rw [if_neg (by omega)] at hD
          have HD2 := Lib.hid hD
          clear hD hk0
          go_wp2
          go_ret3
          exact ⟨by rw [← HD2.out]; rfl, rfl⟩
        · have hk1 : (0 : Int) < (k : Int) := by omega
          by_cases hx0 : x = 0
          · subst hx0
            rw [if_pos (.inl ⟨by omega, rfl⟩)] at hD
            have HD2 := Lib.hid hD
            clear hD
            go_wp2
            go_ret3
            exact ⟨by rw [← HD2.out]; rfl, rfl⟩
          · have hx0' : ((x : Int) == 0) = false := by simp; omega
            by_cases hk9 : k = 9
            · have hk9' : ((k : Int) == 9) = true := by simp; omega
              by_cases hx1 : 1 < x
              · rw [if_pos (.inr ⟨hk9, hx1⟩)] at hD
                have HD2 := Lib.hid hD
                clear hD hk9
                go_wp2
                go_ret3
                exact ⟨by rw [← HD2.out]; rfl, rfl⟩
              · rw [if_neg (by omega)] at hD
                have HD2 := Lib.hid hD
                clear hD hk9
                go_wp2
                go_ret3
                exact ⟨by rw [← HD2.out]; rfl, rfl⟩
            · have hk9' : ((k : Int) == 9) = false := by simp; omega
              rw [if_neg (by omega)] at hD
              have HD2 := Lib.hid hD
              clear hD
              go_wp2
              go_ret3
              exact ⟨by rw [← HD2.out]; rfl, rfl⟩
    · have hmin : ¬ ((k : Int) < min (m : Int) 10) := by omega
      have hD := HD.out
      by_cases hk10' : k = 10
      · subst hk10'
        have hform : dec 0 0 b = .form := by
          rw [← hD]
          cases b.drop 10 <;> rfl
        have HF := Lib.hid hform
        have hm9 : (9 : Int) < (m : Int) := by omega
        clear hD hform hv
        go_wp2
        go_ret3
        exact ⟨by rw [HF.out]; rfl, rfl⟩
      · have hkm : k = m := by omega
        rw [List.drop_eq_nil_of_le (by rw [HBM.out]; omega), dec_end, if_neg (by omega)] at hD
        have HF := Lib.hid hD
        have hm9 : ¬ ((9 : Int) < (m : Int)) := by omega
        clear hD hv
        go_wp2
        go_ret3
        exact ⟨by rw [← HF.out]; rfl, rfl⟩
end
end Go.Proofs.YtgillcppnpkkiaaGreatDoor

namespace Go.Proofs.YtgillcppnpkkiaaGreatDoor
open Go Go.RowKit
section
variable {w w' : World} {d : Nat} {D : Dk}
set_option maxRecDepth 100000 in
theorem min_two {g : Nat} {a b : Int} (hb : Blk w g 3 #[.int .i64 a, .int .i64 b]) :
    Calls Tryz.prog 128 #[.slice (some ⟨g, 0, none⟩) 2 2] w fun e w' => e = .returned (.int .i64 (min a b)) ∧ w' = w := by
  have c0 := hb.cell
  clear hb
  go_enter Tryz.func128, Tryz.ntmps128
  go_wp2
  go_loopw [3, 4] (fun m i wr => ((m = .int .i64 a ∧ i = .int .i64 1) ∨ (m = .int .i64 (min a b) ∧ i = .int .i64 2)) ∧ wr = w) (fun _ i _ => 3 - (intOf i).toNat)
  case atStart => exact ⟨.inl ⟨rfl, rfl⟩, rfl⟩
  case round =>
    obtain ⟨hc, rfl⟩ := hrel
    rcases hc with ⟨rfl, rfl⟩ | ⟨rfl, rfl⟩
    · go_wp2
      go_roundw
      case rel => exact ⟨.inr ⟨rfl, rfl⟩, trivial⟩
      case measure => simp [intOf]
    · go_wp2
      go_ret
      exact ⟨rfl, rfl⟩
set_option maxRecDepth 100000 in
theorem asked_two (h : DiskRep w d D) {g : Nat} {a b : Int} (hb : Blk w g 3 #[.int .i64 a, .int .i64 b]) (ha : 0 ≤ a) (hb0 : 0 ≤ b) :
    Calls Tryz.prog 53 #[.pointer (some ⟨d, 0, none⟩), .slice (some ⟨g, 0, none⟩) 2 2] w fun e w' => e = .returned (.int .i64 0) ∧ w' = w := by
  have c := h.blk.cell
  have hs := h.s1
  have h0 : ((D.size : Int) == 0) = false := by simp; omega
  have HM := Lib.hid (min_two hb)
  have hmn : ¬ (min a b < 0) := by omega
  clear h hb
  go_enter Tryz.func53, Tryz.ntmps53
  go_wp2_with (go_at_call 128; refine HM.out.mono ?_; rintro e w1 ⟨rfl, rfl⟩)
  go_ret
  exact ⟨rfl, rfl⟩

set_option maxHeartbeats 1000000 in
set_option maxRecDepth 100000 in
theorem read_ok (h : DiskRep w d D) (s : ByteArray) (hm : mayB s = true) (f : Nat) (hl : look D.now s = some f) :
    Calls Tryz.prog 37 #[.pointer (some ⟨d, 0, none⟩), .string s, .int .i64 0, .int .i64 ((D.by_ f).length : Nat)] w fun e w' =>
      ∃ A c, e = .returned (.tuple #[.slice A (D.by_ f).length c, .int .i64 0]) ∧ RowAt w' A (D.by_ f).length 1 (bv (D.by_ f)) ∧ (D.by_ f).length ≤ c ∧ c ≤ 1048576 ∧ (∀ ad, A = some ad → w.heap.size ≤ ad.block) ∧ Mod Non w w' := by
  have hfile : D.isFile f := ⟨_, .inl (look_some hl), rfl⟩
  obtain ⟨hb0, hr0, _, hle⟩ := h.file f hfile
  have hmW : Mod Non w (w.alloc (.cells #[.int .i64 0, .int .i64 ((D.by_ f).length : Nat)] 3)) := (Mod.refl _ _).alloc _
  have HA := Lib.hid (asked_two (h.non hmW) (Blk.new w 3 #[.int .i64 0, .int .i64 ((D.by_ f).length : Nat)]) (by omega) (by omega))
  have HG := Lib.hid (got_some (h.non hmW) s hm f hl _ (HA.out.mono fun _ _ ⟨h1, h2⟩ => ⟨h1, h2 ▸ Mod.refl _ _⟩))
  have HMW := Lib.hid hmW
  rcases hr0.2 with ⟨ev, hn0⟩ | ⟨g, cap, cur, ev, _, hg, hnc, hcm, hcs, ht⟩
  · have H := Lib.hid hb0
    have hnil : D.by_ f = [] := List.length_eq_zero_iff.1 hn0
    have EV := Lib.hid ev
    have e0 : (((D.by_ f).length : Nat) : Int) = 0 := by rw [hn0]; rfl
    rw [e0] at HG HMW ⊢
    rw [hnil]
    clear h hb0 hr0 hl hle hn0 ev hmW HA hnil e0
    go_enter Tryz.func37, Tryz.ntmps37
    go_wp2_with (first
      | (go_at_call 115; refine HG.out.mono ?_; rintro e w1 ⟨rfl, hm1⟩
         have hb1 := (H.out.mod HMW.out (fun x => x)).mod hm1 (fun x => x)
         rw [EV.out] at hb1
         have cb1 := hb1.cell
         clear hb1)
      | (go_at_call 51; refine clone_nil.mono ?_; rintro e w2 ⟨rfl, rfl⟩)
      | (go_at_call 50; refine (clip_row _ 0 _ _ (Nat.zero_le _)).mono ?_; rintro e w4 ⟨rfl, rfl⟩))
    go_ret2
    exact ⟨none, 0, rfl, RowAt.none, Nat.le_refl _, Nat.zero_le _, fun ad h => (by cases h), HMW.out.trans hm1⟩
  · have H := Lib.hid hb0
    have EV := Lib.hid ev
    have hrow : RowAt w (some ⟨g, 0, none⟩) (D.by_ f).length 1 (bv (D.by_ f)) := by
      obtain ⟨A', c', e', _, hr', _⟩ := owns_form (ev ▸ hr0)
      cases e'
      exact hr'
    have HR := Lib.hid hrow
    have hle2 : (D.by_ f).length ≤ cap := hnc
    have hcap : cap ≤ 9223372036854775807 := hcm
    clear h hb0 hr0 hl ev hmW HA hg hcs ht hcm hrow
    go_enter Tryz.func37, Tryz.ntmps37
    go_wp2_with (first
      | (go_at_call 115; refine HG.out.mono ?_; rintro e w1 ⟨rfl, hm1⟩
         have hb1 := (H.out.mod HMW.out (fun x => x)).mod hm1 (fun x => x)
         rw [EV.out] at hb1
         have cb1 := hb1.cell
         clear hb1)
      | (go_at_call 51; refine (clone_some _ (D.by_ f).length cap (D.by_ f) ((HR.out.non (by decide) HMW.out).non (by decide) hm1) hle).mono ?_; rintro e w2 ⟨v2, rfl, hf2, hm2⟩
         obtain ⟨g2, c2, cur2, rfl, hg2, hb2, hnc2, hcs2, hcm2, ht2, hxl2⟩ := hf2
         have HF2 := Lib.hid (Fresh.row (w := w2) (base := w1.heap.size) (t := 5) (size := 1) (n := (D.by_ f).length) (xs := bv (D.by_ f)) ⟨g2, c2, cur2, rfl, hg2, hb2, hnc2, hcs2, hcm2, ht2, hxl2⟩)
         clear hb2 hcs2 ht2 hxl2)
      | (go_at_call 50; refine (clip_row _ (D.by_ f).length _ _ hnc2).mono ?_; rintro e w4 ⟨rfl, rfl⟩))
    go_ret2
    exact ⟨_, _, rfl, HF2.out, Nat.le_refl _, hle, fun ad h => by cases h; exact Nat.le_trans (HMW.out.trans hm1).size hg2, (HMW.out.trans hm1).trans hm2⟩
end
end Go.Proofs.YtgillcppnpkkiaaGreatDoor

namespace Go.Proofs.YtgillcppnpkkiaaGreatDoor
open Go Go.RowKit
section
variable {w w' : World}
theorem row_part {ad : Addr} {m c t h : Nat} {b : List UInt8} (hr : RowAt w (some ad) m 1 (bv b)) (hth : t ≤ h) (hh : h ≤ m) (hmc : m ≤ c) :
    RowAt w (some (if c = t then ad else ad.add t)) (h - t) 1 (bv ((b.drop t).take (h - t))) ∧ (if c = t then ad else ad.add t).block = ad.block := by
  have hbm : b.length = m := by have := hr.1; rw [bv_length] at this; omega
  refine ⟨⟨by rw [bv_length, List.length_take, List.length_drop]; omega, fun hn => ?_⟩, ?_⟩
  · rw [if_neg (by omega)]
    refine ⟨_, rfl, fun j u hu => ?_⟩
    obtain ⟨ad', e, hc⟩ := hr.2 (by omega)
    cases e
    rw [add_of_add]
    refine hc (t + j) u ?_
    rw [bv_get] at hu ⊢
    have hj : j < h - t := by
      rcases Nat.lt_or_ge j (h - t) with h1 | h1
      · exact h1
      · rw [List.getElem?_eq_none (by rw [List.length_take, List.length_drop]; omega)] at hu
        cases hu
    rw [List.getElem?_take_of_lt hj, List.getElem?_drop] at hu
    exact hu
  · split
    · rfl
    · exact block_of_add _ _
theorem row_rest {ad : Addr} {m c t : Nat} {b : List UInt8} (hr : RowAt w (some ad) m 1 (bv b)) (ht : t ≤ m) (hmc : m ≤ c) :
    RowAt w (some (if c = t then ad else ad.add t)) (m - t) 1 (bv (b.drop t)) ∧ (if c = t then ad else ad.add t).block = ad.block := by
  have hbm : b.length = m := by have := hr.1; rw [bv_length] at this; omega
  have := row_part hr ht (Nat.le_refl m) hmc
  rwa [List.take_of_length_le (by rw [List.length_drop]; omega)] at this

section
variable {ops : Array Oper} {a : Act} {rest : List Oper} {o : Oper} {Q : Exit → Act → World → Prop}
theorem elem_bytes : Tryz.prog.elem 56 = 5 := by kernel_rfl
theorem size_u8 (w : World) : (sizeOf 5).run Tryz.prog w = .ok 1 w := by kernel_rfl
theorem run_cut (ad : Addr) (m c t h : Nat) (ht : t ≤ h) (hh : h ≤ m) (hmc : m ≤ c) (w : World) :
    (Instr.sliceAt 56 (.slice (some ad) m c) (some (.int .i64 (t : Int))) (some (.int .i64 (h : Int))) none).run Tryz.prog w = .ok (.slice (some (if c = t then ad else ad.add t)) (h - t) (c - t)) w := by
  have e : Tryz.prog.underlying 56 = some (.slice (Tryz.prog.elem 56)) := by rw [elem_bytes]; exact und_bytes
  rw [run_sliceAt_slice _ _ _ _ _ _ e, run_slice_lh _ _ _ _ _ e _ _ _ _ (by omega) (by omega) (by omega), elem_bytes, size_u8]
  simp only [Result.andThen_ok, sliced, Int.toNat_natCast, Nat.mul_one, Option.map_some]
  split <;> rfl
theorem run_cut_from (ad : Addr) (m c t : Nat) (ht : t ≤ m) (w : World) :
    (Instr.sliceAt 56 (.slice (some ad) m c) (some (.int .i64 (t : Int))) none none).run Tryz.prog w = .ok (.slice (some (if c = t then ad else ad.add t)) (m - t) (c - t)) w := by
  have e : Tryz.prog.underlying 56 = some (.slice (Tryz.prog.elem 56)) := by rw [elem_bytes]; exact und_bytes
  rw [run_sliceAt_slice _ _ _ _ _ _ e, run_slice_l _ _ _ _ _ e _ _ (by omega) (by omega), elem_bytes, size_u8]
  simp only [Result.andThen_ok, sliced, Int.toNat_natCast, Nat.mul_one, Option.map_some]
  split <;> rfl
/-- b[t:]. -/
theorem wpl_from (hg : o.guard = none) (x y : Operand) (ho : o.op = .slice 56 x (some y) none none) {ad : Addr} {m c t : Nat} {b : List UInt8} (hx : a.eval x = .slice (some ad) m c) (hy : a.eval y = .int .i64 (t : Int))
    (hr : RowAt w (some ad) m 1 (bv b)) (ht : t ≤ m) (hmc : m ≤ c)
    (hK : ∀ ad', ad'.block = ad.block → RowAt w (some ad') (m - t) 1 (bv (b.drop t)) → wpList Tryz.prog ops Q rest (a.put o.dst (.slice (some ad') (m - t) (c - t))) w) : wpList Tryz.prog ops Q (o :: rest) a w := by
  refine wpl_run hg ?_ (hK _ (row_rest hr ht hmc).2 (row_rest hr ht hmc).1)
  have := run_cut_from ad m c t ht w
  simp [execOp, ho, hx, hy, this]
/-- b[t:h]. -/
theorem wpl_part (hg : o.guard = none) (x y z : Operand) (ho : o.op = .slice 56 x (some y) (some z) none) {ad : Addr} {m c t h : Nat} {b : List UInt8} (hx : a.eval x = .slice (some ad) m c) (hy : a.eval y = .int .i64 (t : Int)) (hz : a.eval z = .int .i64 (h : Int))
    (hr : RowAt w (some ad) m 1 (bv b)) (ht : t ≤ h) (hh : h ≤ m) (hmc : m ≤ c)
    (hK : ∀ ad', ad'.block = ad.block → RowAt w (some ad') (h - t) 1 (bv ((b.drop t).take (h - t))) → wpList Tryz.prog ops Q rest (a.put o.dst (.slice (some ad') (h - t) (c - t))) w) : wpList Tryz.prog ops Q (o :: rest) a w := by
  refine wpl_run hg ?_ (hK _ (row_part hr ht hh hmc).2 (row_part hr ht hh hmc).1)
  have := run_cut ad m c t h ht hh hmc w
  simp [execOp, ho, hx, hy, hz, this]
end
end
end Go.Proofs.YtgillcppnpkkiaaGreatDoor

namespace Go.Proofs.YtgillcppnpkkiaaGreatDoor
open Go Go.RowKit
theorem dec_took : ∀ (l : List UInt8) (k v n t : Nat), dec k v l = .ok n t → (k ≤ 9 → v < 2 ^ (7 * k)) → k < t ∧ t ≤ k + l.length ∧ t ≤ 10 ∧ n < 18446744073709551616
  | [], k, v, n, t, h, _ => by
    rw [dec_end] at h
    split at h <;> cases h
  | x :: r, k, v, n, t, h, hv => by
    rw [dec_cons] at h
    by_cases h9 : 9 < k
    · rw [if_pos h9] at h
      cases h
    · rw [if_neg h9] at h
      by_cases h128 : 128 ≤ x.toNat
      · rw [if_pos h128] at h
        have ih := dec_took r (k + 1) _ n t h (fun h8 => nxt_lt (by omega) (hv (by omega)))
        rw [List.length_cons]
        omega
      · rw [if_neg h128] at h
        by_cases hb : (0 < k ∧ x.toNat = 0) ∨ (k = 9 ∧ 1 < x.toNat)
        · rw [if_pos hb] at h
          cases h
        · rw [if_neg hb] at h
          cases h
          refine ⟨by omega, by rw [List.length_cons]; omega, by omega, ?_⟩
          have hv9 := hv (by omega)
          by_cases hk9 : k = 9
          · subst hk9
            have : x.toNat ≤ 1 := by omega
            unfold nxt
            rw [if_pos rfl]
            have h2 : x.toNat % 2 * 2 ^ (7 * 9) ≤ 1 * 2 ^ (7 * 9) := Nat.mul_le_mul_right _ (by omega)
            simp at hv9 h2 ⊢
            omega
          · have h1 := nxt_lt (x := x.toNat) (by omega : k ≤ 8) hv9
            have h2 : 2 ^ (7 * (k + 1)) ≤ 2 ^ (7 * 9) := Nat.pow_le_pow_right (by decide) (by omega)
            have h3 : (2 : Nat) ^ (7 * 9) = 9223372036854775808 := by decide
            omega

/-- The pages of a record behind its root. -/
def recsF : Nat → (Nat → Option (List UInt8)) → List UInt8 → Option (Nat → Option (List UInt8))
  | 0, _, _ => none
  | k + 1, now, b => if b = [] then some now else
    match dec 0 0 b with
    | .ok n t => if n < 1 ∨ 4000 < n then none else
      match b.drop t with
      | [] => none
      | x :: r => if 1 < x.toNat then none else if x.toNat = 0 then recsF k (upd now n none) r
          else if r.length < 256 then none else recsF k (upd now n (some (r.take 256))) (r.drop 256)
    | _ => none
def recR (now : (Nat → Option (List UInt8))) (b : List UInt8) : Option (Nat × (Nat → Option (List UInt8))) :=
  match dec 0 0 b with
  | .ok n t => if 4294967296 ≤ n then none else (recsF (b.length + 1) now (b.drop t)).map fun x => (n, x)
  | _ => none
def lenV : Value → Nat | .slice _ n _ => n | _ => 0

theorem row_take {w : World} {ad : Addr} {m h : Nat} {b : List UInt8} (hr : RowAt w (some ad) m 1 (bv b)) (hh : h ≤ m) : RowAt w (some ad) h 1 (bv (b.take h)) := by
  have hbm : b.length = m := by have := hr.1; rw [bv_length] at this; omega
  refine ⟨by rw [bv_length, List.length_take]; omega, fun hn => ?_⟩
  obtain ⟨ad', e, hc⟩ := hr.2 (by omega)
  cases e
  refine ⟨ad, rfl, fun j u hu => hc j u ?_⟩
  rw [bv_get] at hu ⊢
  have hj : j < h := by
    rcases Nat.lt_or_ge j h with h1 | h1
    · exact h1
    · rw [List.getElem?_eq_none (by rw [List.length_take]; omega)] at hu
      cases hu
  rwa [List.getElem?_take_of_lt hj] at hu
section
variable {w w' : World} {p : Nat} {G : Pg}
def ReadsSay (w : World) (p : Nat) (G : Pg) (b : List UInt8) (e : Ending) (w' : World) : Prop :=
  (recR G.now b = none ∧ e = .returned (.bool false) ∧ Mod (PS p G) w w') ∨
  (∃ n now, recR G.now b = some (n, now) ∧ e = .returned (.bool true) ∧ n < 4294967296 ∧ PagRep w' p { G with root := n, now := now } ∧ Mod (PS p G) w w')
theorem PagRep.setRoot (h : PagRep w p G) (n : Nat) : PagRep (w.setCell ⟨p, 4, none⟩ (.int .u32 n)) p { G with root := n } := by
  have h3 : G.m3 ≠ p := h.dirty.blk_ne h.blk
  obtain ⟨fd, hd, hds, hdv⟩ := h.dirty
  exact ⟨h.blk.set 4 _, h.now.far (fun e => h.now.blk_ne h.blk e) _, h.kept.far (fun e => h.kept.blk_ne h.blk e) _, ⟨fd, hd.far (fun e => h3 e) _, hds, hdv⟩, h.ne12, h.ne13, h.ne23, h.len, h.lenK⟩
theorem PagRep.setNow (h : PagRep w p G) (hm : Mod (One G.m1) w w') {now : (Nat → Option (List UInt8))} (hn : MapRep w' G.m1 (mapV now)) (hl : ∀ n l, now n = some l → l.length = 256) : PagRep w' p { G with now := now } :=
  ⟨h.blk.mod hm (fun e => h.now.blk_ne h.blk e.symm), hn, h.kept.mod hm (fun e => h.ne12 e.symm), h.dirty.mod hm (fun e => h.ne13 e.symm), h.ne12, h.ne13, h.ne23, hl, h.lenK⟩
end
section
variable {P : Program} {ops : Array Oper} {a : Act} {w : World} {rest : List Oper} {o : Oper} {Q : Act → Prop}
theorem wps_arr (hg : o.guard = none) (x : Operand) (ho : o.op = .sliceToArrayPointer 98 x) {ad : Option Addr} {n c : Nat} (hx : a.eval x = .slice ad n c) (hn : 256 ≤ n)
    (hK : wpStill Tryz.prog ops w Q rest (a.put o.dst (.pointer ad))) : wpStill Tryz.prog ops w Q (o :: rest) a := by
  refine wps_run hg ?_ hK
  have h1 : ¬ n < 256 := by omega
  simp [execOp, ho, hx, Instr.arrayAt, run_underlying page_und, h1]
theorem wps_load_arr (hg : o.guard = none) (x : Operand) (ho : o.op = .load 98 x) {ad : Addr} {l : List UInt8} (hx : a.eval x = .pointer (some ad)) (hr : RowAt w (some ad) 256 1 (bv l)) (hl : l.length = 256)
    (hK : wpStill Tryz.prog ops w Q rest (a.put o.dst (pv l))) : wpStill Tryz.prog ops w Q (o :: rest) a := by
  refine wps_run hg ?_ hK
  have hld := run_loadCells_list (P := Tryz.prog) w ad (bv l) (fun j v hj => by
    obtain ⟨ad', e, hc⟩ := hr.2 (by omega)
    cases e
    exact hc j v hj)
  rw [bv_length, hl] at hld
  have hsz := page_size
  cases h : Tryz.prog.info? 98 with
  | none => rw [h] at hsz; cases hsz
  | some i =>
    rw [h] at hsz
    simp at hsz
    simp [execOp, ho, hx, Instr.loadAt, Instr.sureAddr, loadVar, isAgg, run_underlying page_und, sizeOf, typeInfo, h, hsz, hld, pv]
end
theorem und_u64 : Tryz.prog.underlying 88 = some (.int .u64) := by kernel_rfl
section
variable {ops : Array Oper} {a : Act} {w : World} {rest : List Oper} {o : Oper} {Q : Exit → Act → World → Prop}
theorem run_conv_u32 (n : Nat) (hn : n < 4294967296) (w : World) : (convert 88 55 (.int .u64 (n : Int))).run Tryz.prog w = .ok (.int .u32 (n : Int)) w := by
  have h : IntKind.u32.wrap (n : Int) = (n : Int) := by rw [IntKind.wrap_u32]; omega
  simp [convert, run_underlying und_u64, run_underlying und_u32, Conv.intToInt, h]
theorem wpl_conv_u32 (hg : o.guard = none) (x : Operand) (ho : o.op = .convert 88 55 x) {n : Nat} (hx : a.eval x = .int .u64 (n : Int)) (hn : n < 4294967296)
    (hK : wpList Tryz.prog ops Q rest (a.put o.dst (.int .u32 (n : Int))) w) : wpList Tryz.prog ops Q (o :: rest) a w := by
  refine wpl_run hg ?_ hK
  simp [execOp, ho, hx, run_conv_u32 n hn w]
end
section
variable {w w' : World} {p : Nat} {G : Pg}
set_option maxHeartbeats 2000000 in
set_option maxRecDepth 100000 in
theorem reads_ok (h : PagRep w p G) (ad : Addr) (m c : Nat) (b : List UInt8) (hr : RowAt w (some ad) m 1 (bv b)) (hmc : m ≤ c) (hc63 : c ≤ maxLen) (hm : m ≤ 1048576) (hS : ¬ PS p G ad.block) :
    Calls Tryz.prog 39 #[.pointer (some ⟨p, 0, none⟩), .slice (some ad) m c] w fun e w' => ReadsSay w p G b e w' := by
  have hbm : b.length = m := by have := hr.1; rw [bv_length] at this; omega
  have hc64 : c ≤ 9223372036854775807 := hc63
  have HN := Lib.hid (get_num (some ad) m c b hr hm)
  have H := Lib.hid h
  have HR := Lib.hid hr
  have HBM := Lib.hid hbm
  have cp := h.blk.cell
  have fp := h.blk.frozen
  unfold Pg.cells at cp
  have t1 : Hid True := trivial
  cases hd : dec 0 0 b with
  | short =>
    have HNone : Hid (recR G.now b = none) := by unfold recR; rw [hd]; rfl
    rw [hd] at HN
    clear h hr hbm hd
    go_enter Tryz.func39, Tryz.ntmps39
    go_wp2_with (go_at_call 38; refine HN.out.mono ?_; rintro e w1 ⟨rfl, rfl⟩; unfold Got.val)
    go_ret
    exact .inl ⟨HNone.out, rfl, Mod.refl _ _⟩
  | form =>
    have HNone : Hid (recR G.now b = none) := by unfold recR; rw [hd]; rfl
    rw [hd] at HN
    clear h hr hbm hd
    go_enter Tryz.func39, Tryz.ntmps39
    go_wp2_with (go_at_call 38; refine HN.out.mono ?_; rintro e w1 ⟨rfl, rfl⟩; unfold Got.val)
    go_ret
    exact .inl ⟨HNone.out, rfl, Mod.refl _ _⟩
  | ok n t =>
    obtain ⟨ht1, ht2, ht3, hn64⟩ := dec_took b 0 0 n t hd (fun _ => by decide)
    rw [hd] at HN
    by_cases hn32 : 4294967296 ≤ n
    · have hI : (4294967296 : Int) ≤ (n : Int) := by omega
      have HNone : Hid (recR G.now b = none) := by unfold recR; rw [hd]; simp only []; rw [if_pos hn32]; rfl
      clear h hr hbm hd hn32 hn64
      go_enter Tryz.func39, Tryz.ntmps39
      go_wp2_with (go_at_call 38; refine HN.out.mono ?_; rintro e w1 ⟨rfl, rfl⟩; unfold Got.val)
      go_ret
      exact .inl ⟨HNone.out, rfl, Mod.refl _ _⟩
    · have hI : ((4294967296 : Int) ≤ (n : Int)) = False := by simp; omega
      have hrecR : recR G.now b = (recsF (b.length + 1) G.now (b.drop t)).map fun x => (n, x) := by unfold recR; rw [hd]; simp only []; rw [if_neg hn32]
      have HRec := Lib.hid hrecR
      have hnN : Hid (n < 4294967296) := Lib.hid (by omega)
      have htm : t ≤ m := by omega
      have hrW : RowAt (w.setCell ⟨p, 4, none⟩ (.int .u32 n)) (some ad) m 1 (bv b) := hr.mod (S := One p) (by decide) ((Mod.refl (One p) w).setCell (p := ⟨p, 4, none⟩) (.inl rfl) _) (fun ad' e _ e2 => by cases e; exact hS (.inl e2))
      have HRW := Lib.hid hrW
      have HN32 := Lib.hid hn32
      clear h hr hbm hd hrecR hrW hn32 hn64
      go_enter Tryz.func39, Tryz.ntmps39
      go_wp2_with (first
        | (go_at_call 38; clear t1; refine HN.out.mono ?_; rintro e w1 ⟨rfl, hw1⟩; rw [hw1]; clear hw1; unfold Got.val)
        | (refine wpl_conv_u32 rfl (.tmp 25) rfl rfl hnN.out ?_)
        | (refine wpl_from rfl (.tmp 29) (.tmp 30) rfl rfl rfl HRW.out htm hmc ?_; intro ad1 hab1 hr1))
      have hrep1 := H.out.setRoot n
      have hm1 : Mod (PS p G) w (w.setCell ⟨p, 4, none⟩ (.int .u32 n)) := (Mod.refl _ w).setCell (p := ⟨p, 4, none⟩) (.inl (.inl rfl)) _
      generalize w.setCell ⟨p, 4, none⟩ (.int .u32 n) = w1 at *
      have HP1 := Lib.hid hrep1
      have HM1 := Lib.hid hm1
      have HR1 := Lib.hid hr1
      have HS := Lib.hid hS
      have HAB := Lib.hid hab1
      have hlen0 : (b.drop t).length < b.length + 1 := by rw [List.length_drop]; omega
      clear hrep1 hm1 hr1 cp fp hS hab1 HRW hI
      go_loopw [1] (fun v wr => ∃ (k : Nat) (now : (Nat → Option (List UInt8))) (bb : List UInt8) (ad' : Addr) (m' c' : Nat), v = .slice (some ad') m' c' ∧ m' ≤ c' ∧ c' ≤ 9223372036854775807 ∧ m' ≤ 1048576 ∧ ad'.block = ad.block ∧ RowAt wr (some ad') m' 1 (bv bb) ∧ PagRep wr p { G with root := n, now := now } ∧ bb.length < k ∧ recsF k now bb = recsF (b.length + 1) G.now (b.drop t) ∧ Mod (PS p G) w wr) (fun v _ => lenV v)
      case atStart => exact ⟨b.length + 1, G.now, b.drop t, ad1, m - t, c - t, rfl, by omega, by omega, by omega, HAB.out, HR1.out, HP1.out, hlen0, rfl, HM1.out⟩
      case round =>
        obtain ⟨k, now, bb, ad', m', c', rfl, hmc', hcc', hmm', hab', hrow, hrep, hbk, hrec, hmw⟩ := hrel
        have hbm' : bb.length = m' := by have := hrow.1; rw [bv_length] at this; omega
        obtain ⟨k, rfl⟩ : ∃ k0, k = k0 + 1 := ⟨k - 1, by omega⟩
        have HN2 := Lib.hid (get_num (some ad') m' c' bb hrow hmm')
        have HRep := Lib.hid hrep
        have HRow := Lib.hid hrow
        have HAB' := Lib.hid hab'
        have HM := Lib.hid hmw
        have HBM' := Lib.hid hbm'
        rw [recsF] at hrec
        by_cases hm0 : m' = 0
        · have hnil : bb = [] := List.length_eq_zero_iff.1 (by omega)
          rw [if_pos hnil] at hrec
          have hfin : recR G.now b = some (n, now) := by rw [HRec.out, ← hrec]; rfl
          have HF := Lib.hid hfin
          clear hnil hrec hfin hrep hrow hab' hmw hbm' HN2
          subst hm0
          go_wp2
          go_ret
          exact .inr ⟨n, now, HF.out, rfl, hnN.out, HRep.out, HM.out⟩
        · have hnn : ¬ bb = [] := fun e => hm0 (by rw [e] at hbm'; exact hbm'.symm)
          rw [if_neg hnn] at hrec
          have hpos : (0 : Int) < (m' : Int) := by omega
          have hfalse : recsF (b.length + 1) G.now (b.drop t) = none → recR G.now b = none := fun e => by rw [HRec.out, e]; rfl
          cases hd2 : dec 0 0 bb with
          | short =>
            rw [hd2] at hrec HN2
            have HFalse := Lib.hid (hfalse hrec.symm)
            clear hrec hfalse hrep hrow hab' hmw hbm' hnn hm0 hd2
            go_wp2_with (go_at_call 38; refine HN2.out.mono ?_; rintro e w2 ⟨rfl, rfl⟩; unfold Got.val)
            go_ret
            exact .inl ⟨HFalse.out, rfl, HM.out⟩
          | form =>
            rw [hd2] at hrec HN2
            have HFalse := Lib.hid (hfalse hrec.symm)
            clear hrec hfalse hrep hrow hab' hmw hbm' hnn hm0 hd2
            go_wp2_with (go_at_call 38; refine HN2.out.mono ?_; rintro e w2 ⟨rfl, rfl⟩; unfold Got.val)
            go_ret
            exact .inl ⟨HFalse.out, rfl, HM.out⟩
          | ok n2 t2 =>
            obtain ⟨ht1', ht2', ht3', _⟩ := dec_took bb 0 0 n2 t2 hd2 (fun _ => by decide)
            rw [hd2] at hrec HN2
            simp only [] at hrec
            by_cases hn1 : n2 < 1
            · rw [if_pos (.inl hn1)] at hrec
              have HFalse := Lib.hid (hfalse hrec.symm)
              have hI1 : (n2 : Int) < 1 := by omega
              clear hrec hfalse hrep hrow hab' hmw hbm' hnn hm0 hd2 hn1
              go_wp2_with (go_at_call 38; refine HN2.out.mono ?_; rintro e w2 ⟨rfl, rfl⟩; unfold Got.val)
              go_ret
              exact .inl ⟨HFalse.out, rfl, HM.out⟩
            · by_cases hn4 : 4000 < n2
              · rw [if_pos (.inr hn4)] at hrec
                have HFalse := Lib.hid (hfalse hrec.symm)
                have hI1 : ¬ ((n2 : Int) < 1) := by omega
                have hI2 : (4000 : Int) < (n2 : Int) := by omega
                clear hrec hfalse hrep hrow hab' hmw hbm' hnn hm0 hd2 hn1 hn4
                go_wp2_with (go_at_call 38; refine HN2.out.mono ?_; rintro e w2 ⟨rfl, rfl⟩; unfold Got.val)
                go_ret
                exact .inl ⟨HFalse.out, rfl, HM.out⟩
              · rw [if_neg (by omega)] at hrec
                have hI1 : ¬ ((n2 : Int) < 1) := by omega
                have hI2 : ¬ ((4000 : Int) < (n2 : Int)) := by omega
                by_cases htm2 : m' ≤ t2
                · rw [List.drop_eq_nil_of_le (by omega)] at hrec
                  have HFalse := Lib.hid (hfalse hrec.symm)
                  have hI3 : (m' : Int) ≤ (t2 : Int) := by omega
                  clear hrec hfalse hrep hrow hab' hmw hbm' hnn hm0 hd2 hn1 hn4
                  go_wp2_with (go_at_call 38; refine HN2.out.mono ?_; rintro e w2 ⟨rfl, rfl⟩; unfold Got.val)
                  go_ret
                  exact .inl ⟨HFalse.out, rfl, HM.out⟩
                · have hI3 : ¬ ((m' : Int) ≤ (t2 : Int)) := by omega
                  have htl : t2 < bb.length := by omega
                  rw [List.drop_eq_getElem_cons htl] at hrec
                  obtain ⟨ad2, u, e2, hu, hc⟩ := hrow.at1 (by omega : t2 < m')
                  cases e2
                  rw [bv_get, List.getElem?_eq_getElem htl] at hu
                  cases hu
                  unfold u8v at hc
                  simp only [] at hrec
                  have hx := bb[t2].toNat_lt
                  generalize bb[t2].toNat = x at *
                  by_cases hx1 : 1 < x
                  · rw [if_pos hx1] at hrec
                    have HFalse := Lib.hid (hfalse hrec.symm)
                    have hI4 : (1 : Int) < (x : Int) := by omega
                    clear hrec hfalse hrep hrow hab' hmw hbm' hnn hm0 hd2 hn1 hn4 hx1
                    go_wp2_with (go_at_call 38; refine HN2.out.mono ?_; rintro e w2 ⟨rfl, rfl⟩; unfold Got.val)
                    go_ret
                    exact .inl ⟨HFalse.out, rfl, HM.out⟩
                  · rw [if_neg hx1] at hrec
                    have hI4 : ¬ ((1 : Int) < (x : Int)) := by omega
                    have htm3 : t2 + 1 ≤ m' := by omega
                    have hn2 : Hid (n2 < 4294967296) := Lib.hid (by omega)
                    have hnw2 : IntKind.u32.wrap (n2 : Int) = (n2 : Int) := by rw [IntKind.wrap_u32]; omega
                    by_cases hx0 : x = 0
                    · rw [if_pos hx0] at hrec
                      have hI5 : ((x : Int) == 1) = false := by simp; omega
                      have HRec2 := Lib.hid hrec
                      clear hrec hfalse hrep hrow hab' hmw hbm' hnn hm0 hd2 hn1 hn4 hx1 hx0
                      go_wp2_with (first
                        | (go_at_call 38; refine HN2.out.mono ?_; rintro e w2 ⟨rfl, rfl⟩; unfold Got.val
                           have cq := HRep.out.blk.cell
                           unfold Pg.cells at cq
                           have hnow := HRep.out.now)
                        | (refine wpl_from rfl (.tmp 69) (.tmp 71) rfl rfl rfl HRow.out htm3 hmc' ?_; intro ad3 hab3 hr3)
                        | (at_delete; refine wpl_delete rfl _ _ rfl rfl und_mapPage und_u32 rfl hnow n2 rfl ?_; intro w5 hnow5 hm5))
                      have hne1 : ad3.block ≠ G.m1 := fun e => HS.out (by rw [← HAB'.out, ← hab3, e]; exact .inr (.inl rfl))
                      go_roundw
                      case rel =>
                        refine ⟨k, upd now n2 none, bb.drop (t2 + 1), ad3, m' - (t2 + 1), c' - (t2 + 1), ⟨rfl, rfl, rfl⟩, by omega, by omega, by omega, hab3.trans HAB'.out, hr3.mod (by decide) hm5 (fun ad' e _ e2 => by cases e; exact hne1 e2), HRep.out.setNow hm5 (by rw [mapV_upd]; exact hnow5) ?_, ?_, HRec2.out, HM.out.andThen hm5 (fun b hb _ => .inr (.inl hb))⟩
                        · intro a l hl
                          have hl : upd now n2 none a = some l := hl
                          unfold upd at hl
                          split at hl
                          · cases hl
                          · exact HRep.out.len a l hl
                        · rw [List.length_drop]; omega
                      case measure => simp [lenV]; omega
                    · rw [if_neg hx0] at hrec
                      have hI5 : ((x : Int) == 1) = true := by simp; omega
                      by_cases h256 : (bb.drop (t2 + 1)).length < 256
                      · rw [if_pos h256] at hrec
                        have HFalse := Lib.hid (hfalse hrec.symm)
                        have hI6 : m' - (t2 + 1) < 256 := by rw [List.length_drop] at h256; omega
                        clear hrec hfalse hrep hrow hab' hmw hbm' hnn hm0 hd2 hn1 hn4 hx1 hx0 h256
                        go_wp2_with (first
                          | (go_at_call 38; refine HN2.out.mono ?_; rintro e w2 ⟨rfl, rfl⟩; unfold Got.val)
                          | (refine wpl_from rfl (.tmp 69) (.tmp 71) rfl rfl rfl HRow.out htm3 hmc' ?_; intro ad3 hab3 hr3))
                        go_ret
                        exact .inl ⟨HFalse.out, rfl, HM.out⟩
                      · rw [if_neg h256] at hrec
                        have hI6 : 256 ≤ m' - (t2 + 1) := by rw [List.length_drop] at h256; omega
                        have HRec2 := Lib.hid hrec
                        clear hrec hfalse hrep hrow hab' hmw hbm' hnn hm0 hd2 hn1 hn4 hx1 hx0 h256
                        go_wp2_with (first
                          | (go_at_call 38; refine HN2.out.mono ?_; rintro e w2 ⟨rfl, rfl⟩; unfold Got.val)
                          | (refine wpl_from rfl (.tmp 69) (.tmp 71) rfl rfl rfl HRow.out htm3 hmc' ?_; intro ad3 hab3 hr3))
                        have hI7 : (256 : Int) ≤ ((c' - (t2 + 1) : Nat) : Int) := by omega
                        refine wp_tail 10 (by kernel_rfl) (by kernel_rfl) (fun w6 hm6 => ?_)
                        simp only [List.take_succ_cons, List.take_zero, List.drop_succ_cons, List.drop_zero]
                        have hr6 := HRep.out.non hm6
                        have c6 := hr6.blk.cell
                        unfold Pg.cells at c6
                        have hnow6 := hr6.now
                        have hrow6 := hr3.non (by decide) hm6
                        still_step
                        still_step
                        still_step
                        still_step
                        still_step
                        still_step
                        still_step
                        still_step
                        refine wps_arr rfl (.tmp 91) rfl rfl (Nat.le_refl _) ?_
                        refine wps_load_arr rfl (.tmp 92) rfl rfl (row_take hrow6 hI6) (by rw [List.length_take]; have := hr3.1; rw [bv_length] at this; omega) ?_
                        refine wpStill_nil ?_
                        have hne1 : ad3.block ≠ G.m1 := fun e => HS.out (by rw [← HAB'.out, ← hab3, e]; exact .inr (.inl rfl))
                        go_wp2_with (first
                          | (at_mapUpdate; refine wpl_mapUpdate rfl _ _ _ rfl und_mapPage und_u32 rfl hnow6 n2 rfl rfl ?_; intro w7 hnow7 hm7
                             have hrow7 := hrow6.mod (by decide) hm7 (fun ad' e _ e2 => by cases e; exact hne1 e2))
                          | (refine wpl_from rfl (.tmp 94) _ rfl rfl (t := 256) rfl hrow7 hI6 (by omega) ?_; intro ad4 hab4 hr4))
                        go_roundw
                        case rel =>
                          refine ⟨k, upd now n2 (some ((bb.drop (t2 + 1)).take 256)), (bb.drop (t2 + 1)).drop 256, ad4, m' - (t2 + 1) - 256, c' - (t2 + 1) - 256, rfl, by omega, by omega, by omega, (hab4.trans hab3).trans HAB'.out, hr4, hr6.setNow hm7 (by rw [mapV_upd]; exact hnow7) ?_, ?_, HRec2.out, (HM.out.trans (hm6.mono (fun _ x => x.elim))).andThen hm7 (fun b hb _ => .inr (.inl hb))⟩
                          · intro a l hl
                            have hl : upd now n2 (some ((bb.drop (t2 + 1)).take 256)) a = some l := hl
                            unfold upd at hl
                            split at hl
                            · cases hl
                              rw [List.length_take]
                              have := hr3.1
                              rw [bv_length] at this
                              omega
                            · exact HRep.out.len a l hl
                          · rw [List.length_drop, List.length_drop]; omega
                        case measure => simp [lenV]; omega
end
end Go.Proofs.YtgillcppnpkkiaaGreatDoor

namespace Go.Proofs.YtgillcppnpkkiaaGreatDoor
open Go Go.RowKit
inductive PR | form | part (root : Nat) (now : Nat → Option (List UInt8)) (whole : Bool)
/-- What Open reads of a file. -/
def parseF : Nat → Nat → (Nat → Option (List UInt8)) → List UInt8 → PR
  | 0, _, _, _ => .form
  | k + 1, root, now, b => if b = [] then .part root now true else
    match dec 0 0 b with
    | .form => .form
    | .short => .part root now false
    | .ok n t => if b.length - t < n then .part root now false else
      match recR now ((b.drop t).take n) with
      | none => .form
      | some (r, x) => parseF k r x ((b.drop t).drop n)
def parse (b : List UInt8) : PR := parseF (b.length + 1) 0 (fun _ => none) b

/-- Pages are numbers from 1 to 4000. -/
def Few (now : Nat → Option (List UInt8)) : Prop := ∀ k, (now k).isSome = true → 1 ≤ k ∧ k ≤ 4000
theorem recsF_few : ∀ (k : Nat) (now x : Nat → Option (List UInt8)) (b : List UInt8), Few now → recsF k now b = some x → Few x
  | 0, now, x, b, _, h => by rw [recsF] at h; cases h
  | k + 1, now, x, b, hf, h => by
    rw [recsF] at h
    split at h
    · cases h; exact hf
    · split at h
      · split at h
        · cases h
        · rename_i n t _ hn
          have hup : ∀ o, Few (upd now n o) := fun o a ha => by
            unfold upd at ha
            split at ha
            · subst_vars; omega
            · exact hf a ha
          split at h
          · cases h
          · split at h
            · cases h
            · split at h
              · exact recsF_few k _ x _ (hup _) h
              · split at h
                · cases h
                · exact recsF_few k _ x _ (hup _) h
      · cases h
theorem recR_few {now x : Nat → Option (List UInt8)} {b : List UInt8} {r : Nat} (hf : Few now) (h : recR now b = some (r, x)) : Few x := by
  unfold recR at h
  split at h
  · split at h
    · cases h
    · rename_i n t _ _
      cases hx : recsF (b.length + 1) now (b.drop t) with
      | none => rw [hx] at h; cases h
      | some y => rw [hx] at h; cases h; exact recsF_few _ _ _ _ hf hx
  · cases h

/-- What a pager that was opened on a disk is. -/
structure Opens (w' : World) (p : Nat) (G : Pg) (D' : Dk) (f : Nat) : Prop where
  pag : PagRep w' p G
  disk : DiskRep w' G.d D'
  apart : Apart p G D'
  root : G.root < 4294967296
  few : Few G.now
  look : look D'.now nameB = some f
  kept : D'.kept = D'.now
  dirty : ∀ n, G.dirty n = false
  parse : parse (D'.by_ f) = .part G.root G.now true
  size : G.size = (D'.by_ f).length

section
variable {w w' : World} {p : Nat} {G : Pg} {D : Dk}
theorem PagRep.setDirty (h : PagRep w p G) (hm : Mod (One G.m3) w w') {s : Nat → Bool} (hd : DirtyRep w' G.m3 s) : PagRep w' p { G with dirty := s } :=
  ⟨h.blk.mod hm (fun e => h.dirty.blk_ne h.blk e.symm), h.now.mod hm (fun e => h.ne13 e), h.kept.mod hm (fun e => h.ne23 e), hd, h.ne12, h.ne13, h.ne23, h.len, h.lenK⟩
end
end Go.Proofs.YtgillcppnpkkiaaGreatDoor
