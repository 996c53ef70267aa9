/- Pager.Get and Pager.Free. -/
import Derived.Test.YtmclbechnfedmaaPagRep
import Derived.Test.YtmclbechnfedmaaSlice
namespace Go.Proofs.Ytmclbechnfedmaa
open Go Go.RowKit
section
variable {w : World} {p : Nat} {G : Pg}

set_option maxHeartbeats 400000 in
theorem get_ok (h : PagRep w p G) (n : Nat) (l : List UInt8) (hl : G.now n = some l) :
    Calls Try.prog 12 #[.pointer (some ⟨p, 0, none⟩), .int .u32 n] w fun e w' => ∃ g, e = .returned (.tuple #[.slice (some ⟨g, 0, none⟩) 256 256, .int .i64 0]) ∧ Fresh w' w.heap.size 5 1 (.slice (some ⟨g, 0, none⟩) 256 256) 256 (bv l) ∧ Mod Non w w' := by
  have c := h.blk.cell
  unfold Pg.cells at c
  have hnow := h.now
  have Hf := Lib.hid (mapV_some hl)
  have hll := h.len _ _ hl
  have Hll := Lib.hid hll
  have H := Lib.hid h
  clear h hl hll
  go_enter Try.func12, Try.ntmps12
  go_wp2_with (first
    | (go_at_call 22; refine (there_ok H.out).mono ?_; rintro e w' ⟨rfl, rfl⟩)
    | (at_lookup; refine wpl_lookup_some rfl _ _ rfl und_mapPage und_u32 page_zero rfl hnow n rfl Hf.out ?_)
    | (refine wpl_alloc_page rfl rfl ?_; intro w1 hb1 hm1 hs1)
    | (refine wpl_store_page rfl _ _ rfl rfl hb1 (by rw [List.size_toArray, bv_length, zero256_length]) rfl Hll.out ?_; intro w2 hb2 hm2 hs2)
    | (go_at_call 26; refine (clone_some _ 256 256 l ⟨by rw [bv_length, Hll.out], fun _ => ⟨_, rfl, fun j u hu => by rw [add_lit, hb2.cell]; simpa using hu⟩⟩ (by omega)).mono ?_; rintro e w3 ⟨v3, rfl, hf3, hm3⟩; obtain ⟨g, cap, cur, rfl, hg, hb3, hnc, hcs, hcm, ht, hxl⟩ := hf3)
    | (go_at_call 25; refine (clip_row _ 256 _ _ hnc).mono ?_; rintro e w4 ⟨rfl, rfl⟩))
  go_ret2
  have hm12 := hm1.andThen hm2 (S := Non) (fun b hb hlt => by cases hb; omega)
  exact ⟨g, rfl, ⟨g, 256, cur, rfl, by have := hm12.size; omega, hb3, Nat.le_refl _, by omega, by unfold maxLen; omega, ht, hxl⟩, hm12.trans hm3⟩

set_option maxHeartbeats 400000 in
theorem get_none (h : PagRep w p G) (n : Nat) (hl : G.now n = none) :
    Calls Try.prog 12 #[.pointer (some ⟨p, 0, none⟩), .int .u32 n] w fun e w' => e = .returned (.tuple #[.slice none 0 0, .int .i64 7]) ∧ Mod Non w w' := by
  have c := h.blk.cell
  unfold Pg.cells at c
  have hnow := h.now
  have Hf := Lib.hid (mapV_none hl)
  have H := Lib.hid h
  clear h hl
  go_enter Try.func12, Try.ntmps12
  go_wp2_with (first
    | (go_at_call 22; refine (there_ok H.out).mono ?_; rintro e w' ⟨rfl, rfl⟩)
    | (at_lookup; refine wpl_lookup_none rfl _ _ rfl und_mapPage und_u32 page_zero rfl hnow n rfl Hf.out ?_)
    | (refine wpl_alloc_page rfl rfl ?_; intro w1 hb1 hm1 hs1)
    | (refine wpl_store_page rfl _ _ rfl rfl hb1 (by rw [List.size_toArray, bv_length, zero256_length]) rfl zero256_length ?_; intro w2 hb2 hm2 hs2))
  go_ret2
  exact ⟨rfl, hm1.andThen hm2 (S := Non) (fun b hb hlt => by cases hb; omega)⟩

def Pg.freed (G : Pg) (k : Nat) : Pg := { G with now := upd G.now k none, dirty := upd G.dirty k true }

set_option maxHeartbeats 400000 in
theorem free_ok (h : PagRep w p G) (n : Nat) (l : List UInt8) (hl : G.now n = some l) :
    Calls Try.prog 9 #[.pointer (some ⟨p, 0, none⟩), .int .u32 n] w fun e w' => e = .returned (.int .i64 0) ∧ PagRep w' p (G.freed n) ∧ Mod (PS p G) w w' := by
  have c := h.blk.cell
  unfold Pg.cells at c
  have hnow := h.now
  have Hf := Lib.hid (mapV_some hl)
  have Hll := Lib.hid (h.len _ _ hl)
  obtain ⟨fd, c0, hd1, hc0, hdo⟩ := h.dirty.get n
  have hn13 := h.ne13
  have hp1 := h.now.blk_ne h.blk
  have hp3 := h.dirty.blk_ne h.blk
  have Hc0 := Lib.hid hc0
  have H := Lib.hid h
  clear h hl hc0
  go_enter Try.func9, Try.ntmps9
  go_wp2_with (first
    | (go_at_call 22; refine (there_ok H.out).mono ?_; rintro e w' ⟨rfl, rfl⟩)
    | (at_lookup; refine wpl_lookup_some rfl _ _ rfl und_mapPage und_u32 page_zero rfl hnow n rfl Hf.out ?_)
    | (refine wpl_alloc_page rfl rfl ?_; intro w1 hb1 hm1 hs1)
    | (refine wpl_store_page rfl _ _ rfl rfl hb1 (by rw [List.size_toArray, bv_length, zero256_length]) rfl Hll.out ?_; intro w2 hb2 hm2 hs2; have hm12 := hm1.andThen hm2 (S := Non) (fun b hb hlt => by cases hb; omega); have hnow2 := hnow.mod hm12 (fun x => x); have b2 := H.out.blk.mod hm12 (fun x => x); have hc2 := b2.cell; unfold Pg.cells at hc2; have hd2 := hd1.mod hm12 (fun x => x))
    | (at_delete; refine wpl_delete rfl _ _ rfl rfl und_mapPage und_u32 rfl hnow2 n rfl ?_; intro w3 hnow3 hm3; have b3 := b2.mod hm3 (fun e => hp1 e.symm); have hc3 := b3.cell; unfold Pg.cells at hc3; have hd3 := hd2.mod hm3 (fun e => hn13 e.symm))
    | (at_lookup; refine wpl_lookup_val rfl _ _ rfl und_mapInt und_u32 zero_int rfl hd3 n rfl Hc0.out ?_)
    | (at_mapUpdate; refine wpl_mapUpdate rfl _ _ _ rfl und_mapInt und_u32 rfl hd3 n rfl rfl ?_; intro w4 hd4 hm4))
  go_ret
  refine ⟨rfl, ⟨b3.mod hm4 (fun e => hp3 e.symm), ?_, ((H.out.kept.mod hm12 (fun x => x)).mod hm3 (fun e => H.out.ne12 e.symm)).mod hm4 (fun e => H.out.ne23 e), hdo _ _ hd4, H.out.ne12, H.out.ne13, H.out.ne23, ?_, H.out.lenK⟩, ?_⟩
  · have := hnow3.mod hm4 (fun e => hn13 e)
    simp only [Pg.freed, mapV_upd]
    exact this
  · intro n l hl
    simp only [Pg.freed] at hl
    unfold upd at hl
    split at hl
    · cases hl
    · exact H.out.len n l hl
  · exact ((hm12.mono (fun _ x => x.elim)).andThen hm3 (fun b hb _ => .inr (.inl hb))).andThen hm4 (fun b hb _ => .inr (.inr (.inr hb)))

set_option maxHeartbeats 400000 in
theorem free_none (h : PagRep w p G) (n : Nat) (hl : G.now n = none) :
    Calls Try.prog 9 #[.pointer (some ⟨p, 0, none⟩), .int .u32 n] w fun e w' => e = .returned (.int .i64 7) ∧ Mod Non w w' := by
  have c := h.blk.cell
  unfold Pg.cells at c
  have hnow := h.now
  have Hf := Lib.hid (mapV_none hl)
  have H := Lib.hid h
  clear h hl
  go_enter Try.func9, Try.ntmps9
  go_wp2_with (first
    | (go_at_call 22; refine (there_ok H.out).mono ?_; rintro e w' ⟨rfl, rfl⟩)
    | (at_lookup; refine wpl_lookup_none rfl _ _ rfl und_mapPage und_u32 page_zero rfl hnow n rfl Hf.out ?_)
    | (refine wpl_alloc_page rfl rfl ?_; intro w1 hb1 hm1 hs1)
    | (refine wpl_store_page rfl _ _ rfl rfl hb1 (by rw [List.size_toArray, bv_length, zero256_length]) rfl zero256_length ?_; intro w2 hb2 hm2 hs2))
  go_ret
  exact ⟨rfl, hm1.andThen hm2 (S := Non) (fun b hb hlt => by cases hb; omega)⟩
end
end Go.Proofs.Ytmclbechnfedmaa
