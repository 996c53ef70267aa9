/- anew, where the disk has one file at most, and room: it always succeeds. -/
import Derived.Test.YtgillcppnpkkiaaGreatDoorStepsR
namespace Go.Proofs.YtgillcppnpkkiaaGreatDoor
open Go Go.RowKit
section
variable {w w' : World} {p : Nat} {G : Pg} {D : Dk}
/-- A disk that has the file p alone, all of it sure. -/
structure OneFile (D : Dk) (f : Nat) (b : List UInt8) : Prop where
  now : D.now = [(nameB, f)]
  kept : D.kept = D.now
  bytes : D.by_ f = b
  sure : D.sure f = b.length
  size : D.size = 4194304
def AnewOne (w : World) (p : Nat) (G : Pg) (D : Dk) (e : Ending) (w' : World) : Prop :=
  e = .returned (.int .i64 0) ∧ ∃ D' f, DiskRep w' G.d D' ∧ (∀ b, DS G.d D' b → DS G.d D b ∨ w.heap.size ≤ b) ∧ PagRep w' p { G with size := (G.record (used G.has 4000)).length } ∧
      OneFile D' f (G.record (used G.has 4000)) ∧ Mod (fun b => PS p G b ∨ DS G.d D b) w w'
set_option maxHeartbeats 2000000 in
set_option maxRecDepth 100000 in
theorem anew_one (h : PagRep w p G) (hd : DiskRep w G.d D) (hap : Apart p G D) (hroot : G.root < 4294967296) (hone : D.now.length ≤ 1 ∧ D.size = 4194304 ∧ ∀ t, t ≠ freshB → t ≠ nameB → look D.now t = none) (hrec : (G.record (used G.has 4000)).length ≤ 1048576) :
    Calls Tryz.prog 40 #[.pointer (some ⟨p, 0, none⟩)] w fun e w' => AnewOne w p G D e w' := by
  have hW1 := h.mod ((Mod.refl (S := Non) w).alloc (.cells #[.pointer (some ⟨p, 0, none⟩)] 29)) (fun _ _ x => x)
  have hD1 := hd.non ((Mod.refl (S := Non) w).alloc (.cells #[.pointer (some ⟨p, 0, none⟩)] 29))
  have hq := Blk.new w 29 #[.pointer (some ⟨p, 0, none⟩)]
  have HN := Lib.hid (remove_gen hD1 freshB may_fresh)
  unfold freshB at HN
  have cp := hW1.blk.cell
  unfold Pg.cells at cp
  have hlen4 : (used G.has 4000).length ≤ 8192 := by have := used_length G.has 4000; omega
  have hused : ∀ n ∈ used G.has 4000, n < 4294967296 := fun n hn => by have := (mem_used.1 hn).2.1; omega
  have hrl63 : (G.record (used G.has 4000)).length ≤ maxLen := by have h1 := record_le h.len (used G.has 4000); unfold maxLen; omega
  have H := Lib.hid h
  have HD := Lib.hid hd
  have HW := Lib.hid hW1
  have HDW := Lib.hid hD1
  have HQ := Lib.hid hq
  clear h hd hW1 hD1 hq
  go_enter Tryz.func40, Tryz.ntmps40
  go_wp2_with (go_at_call 41; refine HN.out.mono ?_; rintro e w1 ⟨⟨r0, rfl⟩, vn1, l1, hst1, hno1, hoth1, hle1⟩)
  have HCS : Hid (CState 4194304 (G.record (used G.has 4000)) 0 (D.setNow vn1 l1)) := Lib.hid ⟨hone.2.1, Nat.le_trans hle1 (Nat.le_trans hone.1 (by decide)), fun t h1 h2 => (hoth1 t (Ne.symm h1)).trans (hone.2.2 t h1 h2), Nat.le_trans hle1 hone.1, hno1⟩
  have hnq0 : ¬ DS G.d D w.heap.size := fun hb => absurd (HD.out.lt hb) (by omega)
  have HQ1 := Lib.hid (HQ.out.mod hst1.mod hnq0)
  have HW1 := Lib.hid (HW.out.mod hst1.mod hap)
  have hzz : (w.alloc (.cells #[.pointer (some ⟨p, 0, none⟩)] 29)).heap.size = w.heap.size + 1 := by simp
  have hap1 : Apart p G (D.setNow vn1 l1) := fun b hb hx => (hst1.old b hx).elim (hap b hb) (fun e => by have h1 := H.out.lt hb; omega)
  have hnq1 : ¬ DS G.d (D.setNow vn1 l1) w.heap.size := fun hx => (hst1.old _ hx).elim hnq0 (fun e => by omega)
  have HST1 := Lib.hid hst1
  clear hst1 hno1 hoth1 hle1
  refine wp_pl (.read 0 (.read 1 (.fork 2 (.fork 3 (.act 4 (.act 5 .done)) 4 (.act 3 (.act 5 .done))) 4 (.act 2 (.act 3 (.act 5 .done)))))) Non (by kernel_rfl) (by kernel_rfl) (fun c d v a w h => by cases d <;> exact h) (fun w2 hm2 => ?_)
  refine wpf_read _ rfl rfl (fun W hW => by have cq := (HQ1.out.mod (hm2.trans hW) (fun x => x)).cell; first | (go_simp; done) | (go_simp; rfl) | rfl) ?_
  simp only [List.getElem_toArray, List.getElem_cons_zero]
  go_frame
  refine wpf_read _ rfl rfl (fun W hW => by have cq := (HQ1.out.mod (hm2.trans hW) (fun x => x)).cell; first | (go_simp; done) | (go_simp; rfl) | rfl) ?_
  simp only [List.getElem_toArray, List.getElem_cons_succ, List.getElem_cons_zero]
  go_frame
  have HA : ∀ W, Mod Non w2 W → Hid _ := fun W hW => Lib.hid (all_ok ((HW1.out.mod hm2 (fun _ _ x => x)).mod hW (fun _ _ x => x)))
  have HR : ∀ W A c, Mod Non w2 W → W.ownsRow w2.heap.size 55 1 (.slice A (used G.has 4000).length c) (used G.has 4000).length (uv (used G.has 4000)) → Hid _ := fun W A c hW ho => Lib.hid (record_ok (((HW1.out.mod hm2 (fun _ _ x => x)).mod hW (fun _ _ x => x))) hroot A c (used G.has 4000) (by
    obtain ⟨A', c', e, _, hr, _⟩ := owns_form ho
    cases e
    exact hr) hused hlen4)
  have hlow : w1.heap.size ≤ w2.heap.size := hm2.size
  apply cut6 (A := Nat) (B := Option Addr) (C := Nat) (E := Option Addr) (F := Nat) (I := World) (P := fun r _ _ Av cv w5 => w1.heap.size ≤ r ∧ Hid (Mod Non w2 w5) ∧ Hid (Blk w5 r 56 #[.slice Av (G.record (used G.has 4000)).length cv]) ∧ Hid (w5.ownsRow w1.heap.size 5 1 (.slice Av (G.record (used G.has 4000)).length cv) (G.record (used G.has 4000)).length (bv (G.record (used G.has 4000)))))
  intro T
  refine wpf_fork rfl rfl rfl rfl ?_ ?_
  go_simp
  refine (HA w2 (Mod.refl _ _)).out.mono ?_
  rintro e w3 ⟨vl, rfl, hol, hm3⟩
  obtain ⟨Al, cl, rfl, _, _, _⟩ := owns_form hol
  refine ⟨hm3, ?_⟩
  refine wpf_fork rfl rfl rfl rfl ?_ ?_
  go_simp
  refine (HR w3 Al cl hm3 hol).out.mono ?_
  rintro e w4 ⟨v, rfl, hov, hm4⟩
  obtain ⟨Av, cv, rfl, _, _, _⟩ := owns_form hov
  refine ⟨hm3.trans hm4, ?_⟩
  refine wpf_act rfl rfl ?_
  go_simp
  refine ⟨(hm3.trans hm4).alloc _, ?_⟩
  refine wpf_act rfl rfl ?_
  go_simp
  have hm24 : Mod Non w2 w4 := hm3.trans hm4
  have HM5 := Lib.hid (hm24.alloc (.cells #[.slice Av (G.record (used G.has 4000)).length cv] 56))
  have HB5 := Lib.hid (Blk.new w4 56 #[.slice Av (G.record (used G.has 4000)).length cv])
  have HO5 := Lib.hid (owns_from (hov.alloc (.cells #[.slice Av (G.record (used G.has 4000)).length cv] 56)) (Nat.le_trans hlow hm3.size))
  have hlr := Nat.le_trans hlow hm24.size
  generalize w4.alloc (.cells #[.slice Av (G.record (used G.has 4000)).length cv] 56) = w5 at *
  generalize w4.heap.size = r at *
  refine ⟨HM5.out, wpf_nil ?_⟩
  exact T r Al cl Av cv w5 ⟨hlr, HM5, HB5, HO5⟩
  go_simp
  have hb1 := Blk.new w3 56 #[.slice none 0 0]
  have hma : Mod Non w3 (w3.alloc (.cells #[.slice none 0 0] 56)) := (Mod.refl _ _).alloc _
  refine ⟨hm3.trans hma, ?_⟩
  refine wpf_act rfl rfl ?_
  go_simp
  refine (HR _ Al cl (hm3.trans hma) (hol.alloc _)).out.mono ?_
  rintro e w4 ⟨v, rfl, hov, hm4⟩
  obtain ⟨Av, cv, rfl, _, _, _⟩ := owns_form hov
  have hm24 : Mod Non w2 w4 := (hm3.trans hma).trans hm4
  have hb4 := hb1.mod hm4 (fun x => x)
  refine ⟨hm24, ?_⟩
  refine wpf_act rfl rfl ?_
  have cb4 := hb4.cell
  have fb4 := hb4.frozen
  go_simp
  have HM5 := Lib.hid (hm24.setCell (p := ⟨w3.heap.size, 0, none⟩) (.inr hm3.size) (.slice Av (G.record (used G.has 4000)).length cv))
  have HB5 := Lib.hid (hb4.set 0 (.slice Av (G.record (used G.has 4000)).length cv))
  have HO5 := Lib.hid (owns_from (owns_keep hov (fun b hb => Below.heap_setCell w4 ⟨w3.heap.size, 0, none⟩ (.slice Av (G.record (used G.has 4000)).length cv) _ (fun e => own_blk_ne hov hb4 (by decide) (by rw [hb, e])))) (Nat.le_trans hlow (hm3.trans hma).size))
  have hlr := Nat.le_trans hlow hm3.size
  generalize w4.setCell ⟨w3.heap.size, 0, none⟩ (.slice Av (G.record (used G.has 4000)).length cv) = w5 at *
  generalize w3.heap.size = r at *
  refine ⟨HM5.out, wpf_nil ?_⟩
  exact T r Al cl Av cv w5 ⟨hlr, HM5, HB5, HO5⟩
  go_simp
  have hb1 := Blk.new w2 56 #[.slice none 0 0]
  have hma : Mod Non w2 (w2.alloc (.cells #[.slice none 0 0] 56)) := (Mod.refl _ _).alloc _
  refine ⟨hma, ?_⟩
  refine wpf_act rfl rfl ?_
  go_simp
  refine (HA _ hma).out.mono ?_
  rintro e w3 ⟨vl, rfl, hol, hm3⟩
  obtain ⟨Al, cl, rfl, _, _, _⟩ := owns_form hol
  refine ⟨hma.trans hm3, ?_⟩
  refine wpf_act rfl rfl ?_
  go_simp
  refine (HR w3 Al cl (hma.trans hm3) (owns_from hol hma.size)).out.mono ?_
  rintro e w4 ⟨v, rfl, hov, hm4⟩
  obtain ⟨Av, cv, rfl, _, _, _⟩ := owns_form hov
  have hm24 : Mod Non w2 w4 := (hma.trans hm3).trans hm4
  have hb4 := (hb1.mod hm3 (fun x => x)).mod hm4 (fun x => x)
  refine ⟨hm24, ?_⟩
  refine wpf_act rfl rfl ?_
  have cb4 := hb4.cell
  have fb4 := hb4.frozen
  go_simp
  have HM5 := Lib.hid (hm24.setCell (p := ⟨w2.heap.size, 0, none⟩) (.inr (Nat.le_refl _)) (.slice Av (G.record (used G.has 4000)).length cv))
  have HB5 := Lib.hid (hb4.set 0 (.slice Av (G.record (used G.has 4000)).length cv))
  have HO5 := Lib.hid (owns_from (owns_keep hov (fun b hb => Below.heap_setCell w4 ⟨w2.heap.size, 0, none⟩ (.slice Av (G.record (used G.has 4000)).length cv) _ (fun e => own_blk_ne hov hb4 (by decide) (by rw [hb, e])))) (Nat.le_trans hlow (hma.trans hm3).size))
  have hlr := hlow
  generalize w4.setCell ⟨w2.heap.size, 0, none⟩ (.slice Av (G.record (used G.has 4000)).length cv) = w5 at *
  refine ⟨HM5.out, wpf_nil ?_⟩
  exact T w2.heap.size Al cl Av cv w5 ⟨hlr, HM5, HB5, HO5⟩
  rintro r Al cl Av cv w5 ⟨hlr, HM5, HB5, HO5⟩
  go_wp2
  refine wp_plan [(0, false), (1, false), (2, false), (3, false), (4, false), (5, false), (6, false), (7, false), (8, false), (9, false), (10, false), (11, false), (12, false), (13, false), (16, false), (14, true), (15, false)] Non (by kernel_rfl) (by kernel_rfl) (fun c d v a w h => by cases d <;> exact h) (fun w6 hm6 => ?_)
  have hq6 := (((HQ1.out.mod hm2 (fun x => x)).mod HM5.out (fun x => x))).mod hm6 (fun x => x)
  have hp6 := ((HW1.out.blk.mod hm2 (fun x => x)).mod HM5.out (fun x => x)).mod hm6 (fun x => x)
  refine wpp_read _ rfl rfl (fun W hW => by have cq := (hq6.mod hW (fun x => x)).cell; have cp6 := (hp6.mod hW (fun x => x)).cell; unfold Pg.cells at cp6; first | (go_simp; done) | (go_simp; rfl) | rfl) ?_
  simp only [List.getElem_toArray, List.getElem_cons_zero]
  go_frame
  refine wpp_read _ rfl rfl (fun W hW => by have cq := (hq6.mod hW (fun x => x)).cell; have cp6 := (hp6.mod hW (fun x => x)).cell; unfold Pg.cells at cp6; first | (go_simp; done) | (go_simp; rfl) | rfl) ?_
  simp only [List.getElem_toArray, List.getElem_cons_succ, List.getElem_cons_zero]
  go_frame
  refine wpp_read _ rfl rfl (fun W hW => by have cq := (hq6.mod hW (fun x => x)).cell; have cp6 := (hp6.mod hW (fun x => x)).cell; unfold Pg.cells at cp6; first | (go_simp; done) | (go_simp; rfl) | rfl) ?_
  simp only [List.getElem_toArray, List.getElem_cons_succ, List.getElem_cons_zero]
  go_frame
  refine wpp_read _ rfl rfl (fun W hW => by have cq := (hq6.mod hW (fun x => x)).cell; have cp6 := (hp6.mod hW (fun x => x)).cell; unfold Pg.cells at cp6; first | (go_simp; done) | (go_simp; rfl) | rfl) ?_
  simp only [List.getElem_toArray, List.getElem_cons_succ, List.getElem_cons_zero]
  go_frame
  refine wpp_read _ rfl rfl (fun W hW => by have cq := (hq6.mod hW (fun x => x)).cell; have cp6 := (hp6.mod hW (fun x => x)).cell; unfold Pg.cells at cp6; first | (go_simp; done) | (go_simp; rfl) | rfl) ?_
  simp only [List.getElem_toArray, List.getElem_cons_succ, List.getElem_cons_zero]
  go_frame
  refine wpp_read _ rfl rfl (fun W hW => by have cq := (hq6.mod hW (fun x => x)).cell; have cp6 := (hp6.mod hW (fun x => x)).cell; unfold Pg.cells at cp6; first | (go_simp; done) | (go_simp; rfl) | rfl) ?_
  simp only [List.getElem_toArray, List.getElem_cons_succ, List.getElem_cons_zero]
  go_frame
  refine wpp_read _ rfl rfl (fun W hW => by have cq := (hq6.mod hW (fun x => x)).cell; have cp6 := (hp6.mod hW (fun x => x)).cell; unfold Pg.cells at cp6; first | (go_simp; done) | (go_simp; rfl) | rfl) ?_
  simp only [List.getElem_toArray, List.getElem_cons_succ, List.getElem_cons_zero]
  go_frame
  refine wpp_read _ rfl rfl (fun W hW => by have cq := (hq6.mod hW (fun x => x)).cell; have cp6 := (hp6.mod hW (fun x => x)).cell; unfold Pg.cells at cp6; first | (go_simp; done) | (go_simp; rfl) | rfl) ?_
  simp only [List.getElem_toArray, List.getElem_cons_succ, List.getElem_cons_zero]
  go_frame
  refine wpp_read _ rfl rfl (fun W hW => by have cq := (hq6.mod hW (fun x => x)).cell; have cp6 := (hp6.mod hW (fun x => x)).cell; unfold Pg.cells at cp6; first | (go_simp; done) | (go_simp; rfl) | rfl) ?_
  simp only [List.getElem_toArray, List.getElem_cons_succ, List.getElem_cons_zero]
  go_frame
  refine wpp_read _ rfl rfl (fun W hW => by have cq := (hq6.mod hW (fun x => x)).cell; have cp6 := (hp6.mod hW (fun x => x)).cell; unfold Pg.cells at cp6; first | (go_simp; done) | (go_simp; rfl) | rfl) ?_
  simp only [List.getElem_toArray, List.getElem_cons_succ, List.getElem_cons_zero]
  go_frame
  refine wpp_read _ rfl rfl (fun W hW => by have cq := (hq6.mod hW (fun x => x)).cell; have cp6 := (hp6.mod hW (fun x => x)).cell; unfold Pg.cells at cp6; first | (go_simp; done) | (go_simp; rfl) | rfl) ?_
  simp only [List.getElem_toArray, List.getElem_cons_succ, List.getElem_cons_zero]
  go_frame
  refine wpp_read _ rfl rfl (fun W hW => by have cq := (hq6.mod hW (fun x => x)).cell; have cp6 := (hp6.mod hW (fun x => x)).cell; unfold Pg.cells at cp6; first | (go_simp; done) | (go_simp; rfl) | rfl) ?_
  simp only [List.getElem_toArray, List.getElem_cons_succ, List.getElem_cons_zero]
  go_frame
  refine wpp_read _ rfl rfl (fun W hW => by have cq := (hq6.mod hW (fun x => x)).cell; have cp6 := (hp6.mod hW (fun x => x)).cell; unfold Pg.cells at cp6; first | (go_simp; done) | (go_simp; rfl) | rfl) ?_
  simp only [List.getElem_toArray, List.getElem_cons_succ, List.getElem_cons_zero]
  go_frame
  refine wpp_read _ rfl rfl (fun W hW => by have cq := (hq6.mod hW (fun x => x)).cell; have cp6 := (hp6.mod hW (fun x => x)).cell; unfold Pg.cells at cp6; first | (go_simp; done) | (go_simp; rfl) | rfl) ?_
  simp only [List.getElem_toArray, List.getElem_cons_succ, List.getElem_cons_zero]
  go_frame
  refine wpp_read _ rfl rfl (fun W hW => by first | (go_simp; done) | (go_simp; rfl) | rfl) ?_
  simp only [List.getElem_toArray, List.getElem_cons_succ, List.getElem_cons_zero]
  go_frame
  refine wpp_act rfl rfl ?_
  go_simp
  have hb7 := Blk.new w6 62 #[.func (.func 116) #[] #[.pointer (some ⟨w.heap.size, 0, none⟩)], .func (.func 118) #[] #[.pointer (some ⟨w.heap.size, 0, none⟩), .pointer (some ⟨r, 0, none⟩)], .func (.func 119) #[] #[.pointer (some ⟨w.heap.size, 0, none⟩)], .func (.func 42) #[.pointer (some ⟨G.d, 0, none⟩)] #[], .func (.func 120) #[] #[.pointer (some ⟨w.heap.size, 0, none⟩)], .func (.func 42) #[.pointer (some ⟨G.d, 0, none⟩)] #[]]
  have hm7 : Mod Non w6 (w6.alloc (.cells #[.func (.func 116) #[] #[.pointer (some ⟨w.heap.size, 0, none⟩)], .func (.func 118) #[] #[.pointer (some ⟨w.heap.size, 0, none⟩), .pointer (some ⟨r, 0, none⟩)], .func (.func 119) #[] #[.pointer (some ⟨w.heap.size, 0, none⟩)], .func (.func 42) #[.pointer (some ⟨G.d, 0, none⟩)] #[], .func (.func 120) #[] #[.pointer (some ⟨w.heap.size, 0, none⟩)], .func (.func 42) #[.pointer (some ⟨G.d, 0, none⟩)] #[]] 62)) := (Mod.refl _ _).alloc _
  refine ⟨hm7, ?_⟩
  have HB7 := Lib.hid hb7
  have HM7 := Lib.hid hm7
  clear hb7 hm7
  refine wpp_read _ rfl rfl (fun W hW => by first | (go_simp; done) | (go_simp; rfl) | rfl) ?_
  simp only [List.getElem_toArray, List.getElem_cons_succ, List.getElem_cons_zero]
  go_frame
  refine wpp_nil ?_
  have HM17 := Lib.hid (((hm2.trans HM5.out).trans hm6).trans HM7.out)
  have HD7 := Lib.hid (HST1.out.rep.non HM17.out)
  go_wp2
  go_loopw [31] (fun i wr => ∃ k : Nat, k ≤ 6 ∧ i = .int .i64 k ∧ ∃ E, DStep (w6.alloc (.cells #[.func (.func 116) #[] #[.pointer (some ⟨w.heap.size, 0, none⟩)], .func (.func 118) #[] #[.pointer (some ⟨w.heap.size, 0, none⟩), .pointer (some ⟨r, 0, none⟩)], .func (.func 119) #[] #[.pointer (some ⟨w.heap.size, 0, none⟩)], .func (.func 42) #[.pointer (some ⟨G.d, 0, none⟩)] #[], .func (.func 120) #[] #[.pointer (some ⟨w.heap.size, 0, none⟩)], .func (.func 42) #[.pointer (some ⟨G.d, 0, none⟩)] #[]] 62)) G.d (D.setNow vn1 l1) wr E ∧ CState 4194304 (G.record (used G.has 4000)) k E) (fun i _ => 6 - (intOf i).toNat)
  case atStart => exact ⟨0, by omega, rfl, _, .of_non HD7.out (Mod.refl _ _), HCS.out⟩
  case round =>
    obtain ⟨k, hk, rfl, E, hst, hsA⟩ := hrel
    have hlw : ∀ b, DS G.d (D.setNow vn1 l1) b → b < w1.heap.size := fun b hb => HST1.out.rep.lt hb
    have hs6 : w1.heap.size ≤ w6.heap.size := Nat.le_trans hm2.size (Nat.le_trans HM5.out.size hm6.size)
    have hnr : ¬ DS G.d (D.setNow vn1 l1) r := fun hb => absurd (hlw _ hb) (by omega)
    have hq8 := (hq6.mod HM7.out (fun x => x)).mod hst.mod hnq1
    have hp8 := (hp6.mod HM7.out (fun x => x)).mod hst.mod (hap1 p (.inl rfl))
    have hr8 := ((HB5.out.mod hm6 (fun x => x)).mod HM7.out (fun x => x)).mod hst.mod hnr
    have hb8 := HB7.out.mod hst.mod (fun hb => absurd (hlw _ hb) (by omega))
    have cb8 := hb8.cell
    have HST := Lib.hid hst
    have HSA := Lib.hid hsA
    clear hst hsA hb8
    by_cases hk0 : k = 0
    · subst hk0
      have HC := Lib.hid (anew_create hq8 hp8 (c_create HST.out.rep HSA.out))
      clear hq8 hp8 hr8
      go_wp2_with (go_at_call 116; refine HC.out.mono ?_; rintro e w8 ⟨rfl, E', hst8, hs8⟩)
      go_roundw
      case rel => exact ⟨1, by omega, rfl, E', HST.out.trans hst8, hs8⟩
      case measure => simp [intOf]
    by_cases hk1 : k = 1
    · subst hk1
      have hO8 : wr.ownsRow w1.heap.size 5 1 (.slice Av (G.record (used G.has 4000)).length cv) (G.record (used G.has 4000)).length (bv (G.record (used G.has 4000))) := owns_keep HO5.out (fun b hb => (((hm6.trans HM7.out).mono (fun _ x => x.elim)).trans HST.out.mod).block b (HO5.out.lt b hb).2 (fun hd => absurd (hlw _ hd) (by have := (HO5.out.lt b hb).1; omega)))
      have hE : ∀ b, ¬ DS G.d (D.setNow vn1 l1) b → b < w6.heap.size → ¬ DS G.d E b := fun b h1 h2 h3 => (HST.out.old b h3).elim h1 (fun h4 => by have := HM7.out.size; omega)
      have hrowW : ∀ W, Mod Non wr W → RowAt W Av (G.record (used G.has 4000)).length 1 (bv (G.record (used G.has 4000))) := fun W hW => by
        obtain ⟨A', c', e', _, hrow, _⟩ := owns_form (owns_keep hO8 (fun b hb => hW.block b (hO8.lt b hb).2 (fun x => x)))
        cases e'
        exact hrow
      have HC := Lib.hid (anew_append_r (S := DS G.d E) (R := fun w' => ∃ E', DStep wr G.d E w' E' ∧ CState 4194304 (G.record (used G.has 4000)) 2 E') (hE p (hap1 p (.inl rfl)) hp6.lt) (hE _ hnq1 hq6.lt) (hE r hnr (Nat.lt_of_lt_of_le HB5.out.lt hm6.size)) hq8 hr8 hp8 (fun W hW => (c_append (HST.out.rep.non hW) HSA.out Av cv (hrowW W hW) hrec).mono (fun e w' ⟨h1, E', h2, h3⟩ => ⟨h1, h2.mod, E', DStep.after hW h2, h3⟩)))
      clear hq8 hp8 hr8 hO8 hrowW
      go_wp2_with (go_at_call 118; refine HC.out.mono ?_; rintro e w8 ⟨rfl, w9, hm9, hm98, E', hst8, hs8⟩)
      go_roundw
      case rel => exact ⟨2, by omega, rfl, E', HST.out.trans hst8, hs8⟩
      case measure => simp [intOf]
    by_cases hk2 : k = 2
    · subst hk2
      have HC := Lib.hid (anew_sync hq8 hp8 (c_sync HST.out.rep HSA.out))
      clear hq8 hp8 hr8
      go_wp2_with (go_at_call 119; refine HC.out.mono ?_; rintro e w8 ⟨rfl, E', hst8, hs8⟩)
      go_roundw
      case rel => exact ⟨3, by omega, rfl, E', HST.out.trans hst8, hs8⟩
      case measure => simp [intOf]
    by_cases hk3 : k = 3
    · subst hk3
      have HC := Lib.hid (c_names HST.out.rep HSA.out)
      clear hq8 hp8 hr8
      go_wp2_with (go_at_call 42; refine HC.out.mono ?_; rintro e w8 ⟨rfl, E', hst8, hs8⟩)
      go_roundw
      case rel => exact ⟨4, by omega, rfl, E', HST.out.trans hst8, hs8⟩
      case measure => simp [intOf]
    by_cases hk4 : k = 4
    · subst hk4
      have HC := Lib.hid (anew_rename hq8 hp8 (c_rename HST.out.rep HSA.out))
      clear hq8 hp8 hr8
      go_wp2_with (go_at_call 120; refine HC.out.mono ?_; rintro e w8 ⟨rfl, E', hst8, hs8⟩)
      go_roundw
      case rel => exact ⟨5, by omega, rfl, E', HST.out.trans hst8, hs8⟩
      case measure => simp [intOf]
    by_cases hk5 : k = 5
    · subst hk5
      have HC := Lib.hid (c_names2 HST.out.rep HSA.out)
      clear hq8 hp8 hr8
      go_wp2_with (go_at_call 42; refine HC.out.mono ?_; rintro e w8 ⟨rfl, E', hst8, hs8⟩)
      go_roundw
      case rel => exact ⟨6, by omega, rfl, E', HST.out.trans hst8, hs8⟩
      case measure => simp [intOf]
    have hk6 : k = 6 := by omega
    subst hk6
    have cq8 := hq8.cell
    have cp8 := hp8.cell
    have fp8 := hp8.frozen
    unfold Pg.cells at cp8
    have cr8 := hr8.cell
    clear hq8 hp8 hr8
    go_wp2
    go_ret
    have hz := HSA.out.1
    obtain ⟨f, hn, hb, hu, hkk⟩ := HSA.out.one HST.out.rep
    have hmall := anew_mod (p := p) HST1.out HM17.out HST.out.mod
    have hs1 := HST1.out.mod.size
    have hs7 := HM17.out.size
    have hold : ∀ b, DS G.d E b → DS G.d D b ∨ w.heap.size ≤ b := fun b hb => (HST.out.old b hb).elim (fun h => (HST1.out.old b h).imp id (fun e => by omega)) (fun e => .inr (by omega))
    have hpag := HW1.out.mod ((HM17.out.mono (T := DS G.d (D.setNow vn1 l1)) (fun _ x => x.elim)).trans HST.out.mod) hap1
    refine ⟨rfl, E, f, HST.out.rep.mod ((Mod.refl (One p) wr).setCell (p := ⟨p, 6, none⟩) (.inl rfl) _) (fun b hb e => ?_), hold, hpag.setSize _, ⟨hn, hkk, hb, hu, hz⟩, hmall.setCell (p := ⟨p, 6, none⟩) (.inl (.inl (.inl rfl))) _⟩
    cases e
    exact (hold p hb).elim (hap p (.inl rfl)) (fun h4 => by have h5 := H.out.blk.lt; omega)
end
end Go.Proofs.YtgillcppnpkkiaaGreatDoor
