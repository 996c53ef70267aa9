/- Pager.New: the least page that is not used. -/
import Derived.Test.YtmclbechnfedmaaPagRep
namespace Go.Proofs.Ytmclbechnfedmaa
open Go Go.RowKit
section
variable {w : World} {p : Nat} {G : Pg}

def Pg.newed (G : Pg) (k : Nat) : Pg := { G with now := upd G.now k (some zero256), dirty := upd G.dirty k true }

set_option maxHeartbeats 400000 in
set_option maxRecDepth 100000 in
theorem new_ok (h : PagRep w p G) (k : Nat) (hk : k < 4000) (hlow : ∀ j, j < k → (G.now (j + 1)).isSome = true) (hnone : G.now (k + 1) = none) :
    Calls Try.prog 11 #[.pointer (some ⟨p, 0, none⟩)] w fun e w' => e = .returned (.tuple #[.int .u32 (k + 1 : Nat), .int .i64 0]) ∧ PagRep w' p (G.newed (k + 1)) ∧ Mod (PS p G) w w' := by
  go_enter Try.func11, Try.ntmps11
  go_wp2_with (go_at_call 22; refine (there_ok h).mono ?_; rintro e w' ⟨rfl, rfl⟩)
  go_loopw [10] (fun i wr => ∃ j : Nat, j ≤ k ∧ i = .int .u32 j ∧ Mod Non w' wr) (fun i _ => 4000 - (intOf i).toNat)
  case atStart => exact ⟨0, Nat.zero_le _, rfl, Mod.refl _ _⟩
  case round =>
    obtain ⟨j, hj, rfl, hm⟩ := hrel
    have h1 := h.non hm
    have c := h1.blk.cell
    unfold Pg.cells at c
    have hnow := h1.now
    have hlt : j < 4000 := by omega
    by_cases hjk : j < k
    · obtain ⟨l, hl⟩ := Option.isSome_iff_exists.1 (hlow j hjk)
      have Hf := Lib.hid (mapV_some hl)
      have Hll := Lib.hid (h.len _ _ hl)
      clear h h1 hlow hnone hl
      go_wp2_with (first
        | (at_lookup; refine wpl_lookup_some rfl _ _ rfl und_mapPage und_u32 page_zero rfl hnow (j + 1) rfl Hf.out ?_)
        | (refine wpl_alloc_page rfl rfl ?_; intro w1 hb1 hm1 hs1)
        | (refine wpl_store_page rfl _ _ rfl rfl hb1 (by rw [List.size_toArray, bv_length, zero256_length]) rfl Hll.out ?_; intro w2 hb2 hm2 hs2))
      go_roundw
      case rel => exact ⟨j + 1, by omega, by go_num, (hm.andThen hm1 (fun _ h => h.elim)).andThen hm2 (fun b hb hlt => by cases hb; have := hm.size; omega)⟩
      case measure => simp [intOf]; omega
    · have hjk' : j = k := by omega
      subst hjk'
      have h0 := h
      obtain ⟨fd, c0, hd1, hc0, hdo⟩ := h1.dirty.get (j + 1)
      have hn13 := h1.ne13
      have hp1 := h1.now.blk_ne h1.blk
      have hp3 := h1.dirty.blk_ne h1.blk
      have Hc0 := Lib.hid hc0
      have Hb := Lib.hid h1.blk
      have Hf := Lib.hid (mapV_none hnone)
      have H0 := Lib.hid h0
      clear h h0 h1 hlow hnone hc0
      go_wp2_with (first
        | (at_lookup; refine wpl_lookup_none rfl _ _ rfl und_mapPage und_u32 page_zero rfl hnow (j + 1) rfl Hf.out ?_)
        | (refine wpl_alloc_page rfl rfl ?_; intro w1 hb1 hm1 hs1)
        | (refine wpl_store_page rfl _ _ rfl rfl hb1 (by rw [List.size_toArray, bv_length, zero256_length]) rfl zero256_length ?_; intro w2 hb2 hm2 hs2; have hm12 := hm1.andThen hm2 (S := Non) (fun b hb hlt => by cases hb; omega); have hnow2 := hnow.mod hm12 (fun x => x); have b2 := Hb.out.mod hm12 (fun x => x); have hc2 := b2.cell; unfold Pg.cells at hc2; have hd2 := hd1.mod hm12 (fun x => x))
        | (at_mapUpdate; refine wpl_mapUpdate rfl _ _ _ rfl und_mapPage und_u32 rfl hnow2 (j + 1) rfl rfl ?_; intro w3 hnow3 hm3; have b3 := b2.mod hm3 (fun e => hp1 e.symm); have hc3 := b3.cell; unfold Pg.cells at hc3; have hd3 := hd2.mod hm3 (fun e => hn13 e.symm))
        | (at_lookup; refine wpl_lookup_val rfl _ _ rfl und_mapInt und_u32 zero_int rfl hd3 (j + 1) rfl Hc0.out ?_)
        | (at_mapUpdate; refine wpl_mapUpdate rfl _ _ _ rfl und_mapInt und_u32 rfl hd3 (j + 1) rfl rfl ?_; intro w4 hd4 hm4))
      go_ret2
      have hm02 := hm.trans hm12
      refine ⟨by go_num, ⟨b3.mod hm4 (fun e => hp3 e.symm), ?_, ((H0.out.kept.mod hm02 (fun x => x)).mod hm3 (fun e => H0.out.ne12 e.symm)).mod hm4 (fun e => H0.out.ne23 e), hdo _ _ hd4, H0.out.ne12, H0.out.ne13, H0.out.ne23, ?_, H0.out.lenK⟩, ?_⟩
      · have := hnow3.mod hm4 (fun e => hn13 e)
        simp only [Pg.newed, mapV_upd]
        exact this
      · intro n l hl
        simp only [Pg.newed] at hl
        unfold upd at hl
        split at hl
        · cases hl; exact zero256_length
        · exact H0.out.len n l hl
      · exact ((hm02.mono (fun _ x => x.elim)).andThen hm3 (fun b hb _ => .inr (.inl hb))).andThen hm4 (fun b hb _ => .inr (.inr (.inr hb)))
end
end Go.Proofs.Ytmclbechnfedmaa
