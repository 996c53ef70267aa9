/- A Book: fillByte, the walk. -/
import Derived.Test.YtgillcppnpkkiaaGreatDoorBookFill
namespace Go.Proofs.YtgillcppnpkkiaaGreatDoor
open Go Go.RowKit
section
variable {w w' : World} {k : Nat} {B : Bk} {S : Nat → Prop}
set_option maxHeartbeats 2000000 in
set_option maxRecDepth 100000 in
theorem fill_byte (h : BookRep w k B) (hn : B.n ≤ 100000) : Calls Tryz.prog 58 #[.pointer (some ⟨k, 0, none⟩)] w fun e w' => e = .returned (.tuple #[]) ∧ FillSt w k B B.l.length w' := by
  have hl := h.len
  have HF := Lib.hid (show FillSt w k B 0 w from ⟨h, fun i x g hi => by omega, Mod.refl _ _⟩)
  clear h
  go_enter Tryz.func58, Tryz.ntmps58
  go_wp2
  go_loopw [2] (fun i wr => ∃ j : Nat, j ≤ B.l.length ∧ i = .int .i64 j ∧ FillSt w k B j wr) (fun i _ => B.l.length - (intOf i).toNat)
  case atStart => exact ⟨0, Nat.zero_le _, rfl, HF.out⟩
  case round =>
    obtain ⟨j, hj, rfl, hst⟩ := hrel
    obtain ⟨Av, cv, ev, hit⟩ := hst.rep.items
    have c := hst.rep.blk.cell
    unfold bkc at c
    rw [ev] at c
    by_cases hlt : j < B.l.length
    · obtain ⟨x, hx⟩ : ∃ x, B.l[j]? = some x := ⟨_, List.getElem?_eq_getElem hlt⟩
      obtain ⟨ad, rfl, c0, c1, c2⟩ := hit j x hx
      have hok := hst.rep.ok x (List.mem_of_getElem? hx)
      have hnum := hst.rep.num x (List.mem_of_getElem? hx)
      have hle := hok.le
      have hmax := hok.max
      have hxn := hnum.1
      rw [hnum.2] at c1
      have c1' : wr.cell? ⟨(ad.add (j * 3)).block, (ad.add (j * 3)).off + 1, none⟩ = some (.slice none 0 0) := c1
      have c2' : wr.cell? ⟨(ad.add (j * 3)).block, (ad.add (j * 3)).off + 2, none⟩ = some (.int .i64 x.n) := c2
      obtain ⟨A, hA⟩ : ∃ A, A = x.a := ⟨_, rfl⟩
      rw [← hA] at c0
      have HA := Lib.hid hA
      have HST := Lib.hid hst
      have HX := Lib.hid hx
      have HOK := Lib.hid hok
      clear hst hit hx hok hnum c1 c2 ev hA
      go_wp2
      have HH1 := Lib.hid (Blk.new wr 128 #[.slice A x.len x.cap, .slice none 0 0, .int .i64 x.n])
      have HM1 : Hid (Mod Non wr (wr.alloc (.cells #[.slice A x.len x.cap, .slice none 0 0, .int .i64 x.n] 128))) := Lib.hid ((Mod.refl _ _).alloc _)
      have HST1 := Lib.hid (HST.out.rep.non HM1.out)
      generalize wr.alloc (.cells #[.slice A x.len x.cap, .slice none 0 0, .int .i64 x.n] 128) = w1 at *
      generalize wr.heap.size = hB at *
      clear c c0 c1' c2'
      go_loopw [4] (fun v w2 => ∃ q : Nat, q ≤ x.len ∧ v = .int .i64 q ∧ (∀ g, x.g = some g → Marked w2 g q x.cap x.n) ∧ (∀ S : Nat → Prop, (∀ g, x.g = some g → S g) → Mod S w1 w2)) (fun v _ => x.len - (intOf v).toNat)
      case atStart => exact ⟨0, Nat.zero_le _, rfl, fun g e => (by obtain ⟨cur, h1, h2⟩ := (HOK.out.mod HM1.out (fun _ _ x => x)).blk g e; exact Marked.none h1 h2), fun S _ => Mod.refl _ _⟩
      case round =>
        obtain ⟨q, hq, rfl, hmk, hmq⟩ := hrel
        have hxl : ∀ g, x.g = some g → g ≠ hB := fun g e => by
          obtain ⟨cur, h1, _⟩ := (HOK.out.mod HM1.out (fun _ _ x => x)).blk g e
          exact h1.ne HH1.out (by decide)
        have hh2 := HH1.out.mod (hmq (fun b => x.g = some b) (fun g e => e)) (fun e => hxl hB e rfl)
        have ch := hh2.cell
        have HMK := Lib.hid hmk
        have HMQ := Lib.hid hmq
        clear hmk hmq
        by_cases hql : q < x.len
        · obtain ⟨g, hg⟩ : ∃ g, x.g = some g := by
            cases hg : x.g with
            | none => have := (HOK.out.none hg).1; omega
            | some g => exact ⟨g, rfl⟩
          have hAg : A = some ⟨g, 0, none⟩ := by rw [HA.out]; unfold HB.a; rw [hg]; rfl
          subst hAg
          have hm2 := HMK.out g hg
          have HMg := Lib.hid hm2
          have hgh := hxl g hg
          obtain ⟨cur, hbg, hcs, _⟩ := hm2
          have cg : ∃ u, wr.cell? ⟨g, q, none⟩ = some u := ⟨_, (hbg.cell q).trans (Array.getElem?_eq_getElem (by omega))⟩
          obtain ⟨u, cg⟩ := cg
          have fg := hbg.frozen q
          have HG := Lib.hid hg
          have HH2 := Lib.hid hh2
          have HBG := Lib.hid hbg
          clear hg hxl hcs hbg hh2
          go_wp2
          refine wp_plan_end [(0, false), (1, false), (2, false), (3, false), (4, false), (5, true), (6, false)] 7 [5, 6] [1, 2, 4, 0, 3] Non (by kernel_rfl) (by kernel_rfl) (fun c d v a w h => by cases d <;> exact h) (fun w5 hm5 => ?_)
          have hcW : ∀ W, Mod Non w5 W → Hid (∀ i, W.cell? ⟨hB, i, none⟩ = #[.slice (some ⟨g, 0, none⟩) x.len x.cap, .slice none 0 0, .int .i64 x.n][i]?) := fun W hW => Lib.hid ((HH2.out.mod hm5 (fun x => x)).mod hW (fun x => x)).cell
          iterate 5
            refine wpe_read _ rfl rfl (fun W hW => by have cW := (hcW W hW).out; first | (go_simp; done) | (go_simp; rfl) | rfl) ?_
            try simp only [List.getElem_toArray, List.getElem_cons_succ, List.getElem_cons_zero]
            try go_frame
          refine wpe_act rfl rfl ?_
          go_simp
          refine (mark_ok x.n (by omega) _).mono ?_
          rintro e w6 ⟨rfl, hw6⟩
          rw [← hw6]
          clear hw6
          refine ⟨Mod.refl _ _, ?_⟩
          try simp only [List.getElem_toArray, List.getElem_cons_succ, List.getElem_cons_zero]
          try go_frame
          refine wpe_read _ rfl rfl (fun W hW => by have cW := (hcW W hW).out; first | (go_simp; done) | (go_simp; rfl) | rfl) ?_
          try simp only [List.getElem_toArray, List.getElem_cons_succ, List.getElem_cons_zero]
          try go_frame
          refine wpe_end rfl rfl ?_
          have hmg5 := HMg.out.mod hm5 (fun x => x)
          have HS5 := Lib.hid (hmg5.store (by omega))
          have hb5 := HBG.out.mod hm5 (fun x => x)
          have c5 : w5.cell? ⟨g, q, none⟩ = some u := (World.cell?_of_block (w := wr) (hm5.block g HBG.out.lt (fun x => x))).trans cg
          have f5 := hb5.frozen q
          have HM5 := Lib.hid hm5
          unfold mkv at HS5 ⊢
          clear hcW hmg5 hb5 cg fg hm5
          go_simp
          go_wp2
          go_roundw
          case rel => exact ⟨q + 1, by omega, by go_num, fun g' e => (by rw [HG.out] at e; cases e; exact HS5.out), fun S hS => ((HMQ.out S hS).trans (HM5.out.mono (fun _ x => x.elim))).setCell (p := ⟨g, q, none⟩) (.inl (hS g HG.out)) _⟩
          case measure => simp [intOf]; omega
        · obtain rfl : q = x.len := by omega
          clear hql
          go_wp2
          have hfin := HST.out.next HX.out (fun S hS => (HM1.out.mono (fun _ x => x.elim)).trans (HMQ.out S hS)) HMK.out
          go_roundw
          case rel => exact ⟨j + 1, by omega, by go_num, hfin⟩
          case measure => simp [intOf]; omega
    · obtain rfl : j = B.l.length := by omega
      clear hlt
      go_wp2
      go_end0
      exact ⟨rfl, hst⟩
end
end Go.Proofs.YtgillcppnpkkiaaGreatDoor
