/- Pager.Undo and Pager.keep. -/
import Derived.Test.YtmclbechnfedmaaPagUsed
namespace Go.Proofs.Ytmclbechnfedmaa
open Go Go.RowKit
section
variable {w : World} {p : Nat} {G : Pg}

/-- The pages where those in vis stand as they were kept. -/
def mixed (a b : Nat → Option (List UInt8)) (vis : List Nat) : Nat → Option (List UInt8) := fun n => if n ∈ vis then b n else a n
theorem mixed_cons (a b : Nat → Option (List UInt8)) (vis : List Nat) (k : Nat) : mixed a b (k :: vis) = upd (mixed a b vis) k (b k) := by
  funext n
  unfold mixed upd
  by_cases h : n = k
  · subst h; simp
  · simp [h]
theorem IterRep.told {w : World} {r m : Nat} {f : Nat → Option Value} {vis : List Nat} {left : Nat} (h : IterRep w r m f vis left) : ∀ k ∈ vis, (f k).isSome = true := by
  obtain ⟨_, _, _, _, _, _, _, _, _, h⟩ := h
  exact h
theorem mixed_nil (a b : Nat → Option (List UInt8)) : mixed a b [] = a := by funext n; simp [mixed]

theorem iter_ne {r m : Nat} {f : Nat → Option Value} {vis : List Nat} {left : Nat} (h : IterRep w r m f vis left) (hp : PagRep w p G) {b : Nat} (hb : PS p G b) : b ≠ r := by
  rintro rfl
  obtain ⟨es, c, seen, _, hi, _⟩ := h
  have hmap : ∀ {f : Nat → Option Value} {m : Nat}, MapRep w m f → b ≠ m := by
    rintro f m ⟨es', c', hh, _⟩ rfl
    rw [hh] at hi
    cases hi
  rcases hb with rfl | hb | hb | hb
  · have := hp.blk
    unfold Blk at this
    rw [this] at hi
    cases hi
  · exact hmap hp.now hb
  · exact hmap hp.kept hb
  · obtain ⟨f', hf', _⟩ := hp.dirty
    exact hmap hf' hb

def Pg.undone (G : Pg) : Pg := { G with now := fun n => if G.dirty n then G.kept n else G.now n, dirty := fun _ => false, root := G.was }

set_option maxHeartbeats 1000000 in
set_option maxRecDepth 100000 in
theorem undo_ok (h : PagRep w p G) :
    Calls Try.prog 21 #[.pointer (some ⟨p, 0, none⟩)] w fun e w' => e = .returned (.int .i64 0) ∧ PagRep w' p G.undone ∧ Mod (PS p G) w w' := by
  have cc := h.blk.cell
  unfold Pg.cells at cc
  obtain ⟨fd, hd, hds, hdv⟩ := h.dirty
  have H := Lib.hid h
  clear h
  go_enter Try.func21, Try.ntmps21
  go_wp2_with (first
    | (go_at_call 22; refine (there_ok H.out).mono ?_; rintro e w' ⟨rfl, rfl⟩)
    | (at_range; refine wpl_range rfl _ rfl und_mapInt rfl hd ?_; intro w1 left0 hit0 hm0 hsz0))
  go_frame
  have hR : Hid (w'.heap.size = w'.heap.size) := rfl
  obtain ⟨R, hRe⟩ : ∃ R, R = w'.heap.size := ⟨_, rfl⟩
  rw [← hRe] at hit0 ⊢
  have HR := Lib.hid hRe
  clear hRe hR hsz0
  go_loopw [3] (fun _ wr => ∃ vis left, IterRep wr R G.m3 fd vis left ∧ PagRep wr p { G with now := mixed G.now G.kept vis } ∧ Mod (PS p G) w' wr) (fun _ wr => iterLeft wr G.m3 R)
  case atStart => exact ⟨[], left0, hit0, by rw [mixed_nil]; exact H.out.non hm0, hm0.mono (fun _ x => x.elim)⟩
  case round =>
    obtain ⟨vis, left, hit, hrep, hm⟩ := hrel
    have c1 := hrep.blk.cell
    unfold Pg.cells at c1
    have HI := Lib.hid hit.left_eq
    have HP := Lib.hid hrep
    clear hrep cc
    go_wp2_with (first
      | (at_next
         refine wpl_next rfl (.tmp 13) rfl rfl hit ?_ ?_
         intro w2 hm2 hall
         have hrep2 := HP.out.non hm2
         have c2 := hrep2.blk.cell
         unfold Pg.cells at c2
         obtain ⟨fd2, hd2, _, _⟩ := hrep2.dirty
         rotate_left
         intro w2 k v left' hm2 hfk hnv hlt hit2 hent
         have hpr : PagRep w2 p { G with now := mixed G.now G.kept vis } := HP.out.mod hm2 (fun b hb e => iter_ne hit HP.out hb e)
         have c2 := hpr.blk.cell
         unfold Pg.cells at c2
         have hk2 := hpr.kept
         rcases hkk : G.kept k with _ | l
         have Hk := Lib.hid (mapV_none hkk)
         have Hkk := Lib.hid hkk
         clear hkk
         rotate_left
         have Hk := Lib.hid (mapV_some hkk)
         have Hl := Lib.hid (H.out.lenK _ _ hkk)
         have Hkk := Lib.hid hkk
         clear hkk
         rotate_left)
      | (refine wpl_alloc_page rfl rfl ?_; intro w3 hb3 hm3 hs3)
      | (refine wpl_store_page rfl _ _ rfl rfl hb3 (by rw [List.size_toArray, bv_length, zero256_length]) rfl zero256_length ?_; intro w4 hb4 hm4 hs4; have hm24 := hm3.andThen hm4 (S := Non) (fun b hb hlt => by cases hb; omega); have hr4 := hpr.non hm24; have c4 := hr4.blk.cell; unfold Pg.cells at c4; have hnow4 := hr4.now; have hit4 := hit2.mod hm24 (fun x => x) (fun x => x))
      | (refine wpl_store_page rfl _ _ rfl rfl hb3 (by rw [List.size_toArray, bv_length, zero256_length]) rfl Hl.out ?_; intro w4 hb4 hm4 hs4; have hm24 := hm3.andThen hm4 (S := Non) (fun b hb hlt => by cases hb; omega); have hr4 := hpr.non hm24; have c4 := hr4.blk.cell; unfold Pg.cells at c4; have hnow4 := hr4.now; have hit4 := hit2.mod hm24 (fun x => x) (fun x => x))
      | (refine wpl_clear rfl (.tmp 42) rfl rfl und_mapInt rfl hd2 ?_; intro w3 hd3 hm3; have hp3 := hrep2.dirty.blk_ne hrep2.blk; have b3 := hrep2.blk.mod hm3 (fun e => hp3 e.symm); have c3 := b3.cell; have f3 := b3.frozen; unfold Pg.cells at c3)
      | (at_delete; refine wpl_delete rfl _ _ rfl rfl und_mapPage und_u32 rfl hnow4 k rfl ?_; intro w5 hnow5 hm5)
      | (at_lookup; refine wpl_lookup_none rfl _ _ rfl und_mapPage und_u32 page_zero rfl hk2 k rfl Hk.out ?_)
      | (at_lookup; refine wpl_lookup_some rfl _ _ rfl und_mapPage und_u32 page_zero rfl hk2 k rfl Hk.out ?_))
    · go_ret
      have hsame : mixed G.now G.kept vis = G.undone.now := by
        funext n
        unfold mixed Pg.undone
        have h1 : n ∈ vis ↔ G.dirty n = true := ⟨fun hn => by rw [← hds]; exact hit.told n hn, fun hn => hall n (by rw [hds]; exact hn)⟩
        by_cases hn : n ∈ vis
        · simp [hn, h1.1 hn]
        · have : ¬ G.dirty n = true := fun x => hn (h1.2 x)
          simp [hn, this]
      have hm13 : Mod (PS p G) w' w3 := (hm.trans (hm2.mono (fun _ x => x.elim))).andThen hm3 (fun b hb _ => .inr (.inr (.inr hb)))
      have hd3' : DirtyRep w3 G.m3 (fun _ => false) := ⟨_, hd3, fun _ => rfl, fun _ _ h => by cases h⟩
      refine ⟨rfl, ⟨b3.set 4 _, (hsame ▸ (hrep2.now.mod hm3 (fun e => hrep2.ne13 e))).far (fun e => hrep2.now.blk_ne hrep2.blk e) _, (hrep2.kept.mod hm3 (fun e => hrep2.ne23 e)).far (fun e => hrep2.kept.blk_ne hrep2.blk e) _, ⟨_, hd3.far (fun e => hp3 e) _, fun _ => rfl, fun _ _ h => by cases h⟩, hrep2.ne12, hrep2.ne13, hrep2.ne23, ?_, hrep2.lenK⟩, hm13.setCell (.inl (.inl rfl)) _⟩
      intro n l hl
      rw [← hsame] at hl
      exact hrep2.len n l hl
    · have hp4 := fun b (hb : PS p { G with now := mixed G.now G.kept vis } b) => iter_ne hit4 hr4 hb
      have hit5 := hit4.mod hm5 (fun e => hr4.ne13 e.symm) (fun e => hp4 _ (.inr (.inl rfl)) e.symm)
      have HL := Lib.hid hit5.left_eq
      go_roundw
      case rel =>
        refine ⟨k :: vis, ⟨left', hit5⟩, ?_, ?_⟩
        · rw [mixed_cons, Hkk.out]
          refine ⟨hr4.blk.mod hm5 (fun e => hr4.now.blk_ne hr4.blk e.symm), by rw [mapV_upd]; exact hnow5, hr4.kept.mod hm5 (fun e => hr4.ne12 e.symm), hr4.dirty.mod hm5 (fun e => hr4.ne13 e.symm), hr4.ne12, hr4.ne13, hr4.ne23, ?_, hr4.lenK⟩
          intro n l hl
          simp only [] at hl
          unfold upd at hl
          split at hl
          · cases hl
          · exact hr4.len n l hl
        · exact ((hm.andThen hm2 (fun b hb hlt => by cases hb; rw [HR.out] at hlt; omega)).trans (hm24.mono (fun _ x => x.elim))).andThen hm5 (fun b hb _ => .inr (.inl hb))
      case measure =>
        rw [HI.out, HL.out]
        exact hlt
    · refine wp_tail 6 (by kernel_rfl) (by kernel_rfl) (fun w6 hm6 => ?_)
      simp only [List.take_succ_cons, List.take_zero, List.drop_succ_cons, List.drop_zero]
      have hr6 := hr4.non hm6
      have hb6 := hb4.mod hm6 (fun x => x)
      have hit6 := hit4.mod hm6 (fun x => x) (fun x => x)
      have c6 := hr6.blk.cell
      unfold Pg.cells at c6
      have hnow6 := hr6.now
      still_step
      still_step
      still_step
      still_step
      still_step
      refine wps_load_page rfl (.tmp 4) rfl rfl hb6 Hl.out ?_
      refine wpStill_nil ?_
      go_wp2_with (at_mapUpdate; refine wpl_mapUpdate rfl _ _ _ rfl und_mapPage und_u32 rfl hnow6 k rfl rfl ?_; intro w7 hnow7 hm7)
      have hp6 := fun b (hb : PS p { G with now := mixed G.now G.kept vis } b) => iter_ne hit6 hr6 hb
      have hit7 := hit6.mod hm7 (fun e => hr6.ne13 e.symm) (fun e => hp6 _ (.inr (.inl rfl)) e.symm)
      have HL := Lib.hid hit7.left_eq
      go_roundw
      case rel =>
        refine ⟨k :: vis, ⟨left', hit7⟩, ?_, ?_⟩
        · rw [mixed_cons, Hkk.out]
          refine ⟨hr6.blk.mod hm7 (fun e => hr6.now.blk_ne hr6.blk e.symm), by rw [mapV_upd]; exact hnow7, hr6.kept.mod hm7 (fun e => hr6.ne12 e.symm), hr6.dirty.mod hm7 (fun e => hr6.ne13 e.symm), hr6.ne12, hr6.ne13, hr6.ne23, ?_, hr6.lenK⟩
          intro n l hl
          simp only [] at hl
          unfold upd at hl
          split at hl
          · cases hl; exact Hl.out
          · exact hr6.len n l hl
        · exact ((hm.andThen hm2 (fun b hb hlt => by cases hb; rw [HR.out] at hlt; omega)).trans ((hm24.trans hm6).mono (fun _ x => x.elim))).andThen hm7 (fun b hb _ => .inr (.inl hb))
      case measure =>
        rw [HI.out, HL.out]
        exact hlt
end
end Go.Proofs.Ytmclbechnfedmaa
