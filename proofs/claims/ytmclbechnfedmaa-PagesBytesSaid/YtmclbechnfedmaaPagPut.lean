/- Pager.Put. -/
import Derived.Test.YtmclbechnfedmaaPagGet
import Derived.Test.YtmclbechnfedmaaStill
namespace Go.Proofs.Ytmclbechnfedmaa
open Go Go.RowKit
section
variable {w : World} {p : Nat} {G : Pg}

theorem u8_size : (Try.prog.info? 5).map (·.size) = some 1 := by kernel_rfl

/-- A page's bytes: those, and noughts behind them. -/
def padded (l : List UInt8) : List UInt8 := l ++ zero256.drop l.length
theorem padded_length {l : List UInt8} (h : l.length ≤ 256) : (padded l).length = 256 := by
  unfold padded; rw [List.length_append, List.length_drop, zero256_length]; omega
def Pg.puts (G : Pg) (k : Nat) (l : List UInt8) : Pg := { G with now := upd G.now k (some (padded l)), dirty := upd G.dirty k true }

set_option maxHeartbeats 800000 in
set_option maxRecDepth 100000 in
theorem put_ok (h : PagRep w p G) (n : Nat) (l0 : List UInt8) (hl : G.now n = some l0) (A : Option Addr) (m c : Nat) (l : List UInt8) (hr : RowAt w A m 1 (bv l)) (hm : m ≤ 256) :
    Calls Try.prog 17 #[.pointer (some ⟨p, 0, none⟩), .int .u32 n, .slice A m c] w fun e w' => e = .returned (.int .i64 0) ∧ PagRep w' p (G.puts n l) ∧ Mod (PS p G) w w' := by
  have hml : l.length = m := by have := hr.1; rw [bv_length] at this; omega
  have cc := h.blk.cell
  unfold Pg.cells at cc
  have hnow := h.now
  have Hf := Lib.hid (mapV_some hl)
  have Hll := Lib.hid (h.len _ _ hl)
  obtain ⟨fd, c0, hd1, hc0, hdo⟩ := h.dirty.get n
  have hn13 := h.ne13
  have hp1 := h.now.blk_ne h.blk
  have hp3 := h.dirty.blk_ne h.blk
  have Hc0 := Lib.hid hc0
  have H := Lib.hid h
  have Hml := Lib.hid hml
  clear h hl hc0 hml
  go_enter Try.func17, Try.ntmps17
  go_wp2_with (first
    | (go_at_call 22; refine (there_ok H.out).mono ?_; rintro e w' ⟨rfl, rfl⟩)
    | (at_lookup; refine wpl_lookup_some rfl _ _ rfl und_mapPage und_u32 page_zero rfl hnow n rfl Hf.out ?_)
    | (refine wpl_store_page rfl _ _ rfl rfl hb1 (by rw [List.size_toArray, bv_length, zero256_length]) rfl Hll.out ?_; intro w2 hb2 hm2 hs2; have hm12 := hm1.andThen hm2 (S := Non) (fun b hb hlt => by cases hb; omega); clear hb1; have tok : True := trivial)
    | (refine wpl_alloc_page rfl rfl ?_; have _t := tok; clear tok; intro w3 hb3 hm3 hs3; have hm13 := hm12.trans hm3)
    | (refine wpl_alloc_page rfl rfl ?_; intro w1 hb1 hm1 hs1)
    | (refine wpl_copy_row rfl (.tmp 27) (.tmp 28) _ _ rfl und_bytes u8_size rfl hb3 rfl (hr.non (by omega) hm13) (bv_one l) hm (by rw [List.size_toArray, bv_length, zero256_length]; exact hm) ?_; intro w4 hb4 hm4 hs4))
  refine wp_tail 6 (by kernel_rfl) (by kernel_rfl) (fun w5 hm5 => ?_)
  simp only [List.take_succ_cons, List.take_zero, List.drop_succ_cons, List.drop_zero]
  have hm14 := hm13.andThen hm4 (S := Non) (fun b hb hlt => by cases hb; have := hm12.size; omega)
  have hm15 := hm14.trans hm5
  have b5 := H.out.blk.mod hm15 (fun x => x)
  have hc5 := b5.cell
  unfold Pg.cells at hc5
  have hpad : (bv l ++ (bv zero256).toArray.toList.drop m).toArray = (bv (padded l)).toArray := by
    unfold padded
    rw [bv_append, Hml.out]
    simp [bv]
  have hb5 := hb4.mod hm5 (fun x => x)
  rw [hpad] at hb5
  have hlp := Lib.hid (padded_length (l := l) (by rw [Hml.out]; exact hm))
  have hnow5 := hnow.mod hm15 (fun x => x)
  have hd5 := hd1.mod hm15 (fun x => x)
  clear hpad
  still_step
  still_step
  still_step
  still_step
  still_step
  refine wps_load_page rfl (.tmp 9) rfl rfl hb5 hlp.out ?_
  refine wpStill_nil ?_
  go_wp2_with (first
    | (at_mapUpdate; refine wpl_mapUpdate rfl _ _ _ rfl und_mapPage und_u32 rfl hnow5 n rfl rfl ?_; intro w6 hnow6 hm6; have b6 := b5.mod hm6 (fun e => hp1 e.symm); have hc6 := b6.cell; unfold Pg.cells at hc6; have hd6 := hd5.mod hm6 (fun e => hn13 e.symm))
    | (at_lookup; refine wpl_lookup_val rfl _ _ rfl und_mapInt und_u32 zero_int rfl hd6 n rfl Hc0.out ?_)
    | (at_mapUpdate; refine wpl_mapUpdate rfl _ _ _ rfl und_mapInt und_u32 rfl hd6 n rfl rfl ?_; intro w7 hd7 hm7))
  go_ret
  refine ⟨rfl, ⟨b6.mod hm7 (fun e => hp3 e.symm), ?_, ((H.out.kept.mod hm15 (fun x => x)).mod hm6 (fun e => H.out.ne12 e.symm)).mod hm7 (fun e => H.out.ne23 e), hdo _ _ hd7, H.out.ne12, H.out.ne13, H.out.ne23, ?_, H.out.lenK⟩, ?_⟩
  · have := hnow6.mod hm7 (fun e => hn13 e)
    simp only [Pg.puts, mapV_upd]
    exact this
  · intro n l hl
    simp only [Pg.puts] at hl
    unfold upd at hl
    split at hl
    · cases hl; exact hlp.out
    · exact H.out.len n l hl
  · exact ((hm15.mono (fun _ x => x.elim)).andThen hm6 (fun b hb _ => .inr (.inl hb))).andThen hm7 (fun b hb _ => .inr (.inr (.inr hb)))

set_option maxHeartbeats 400000 in
set_option maxRecDepth 100000 in
theorem put_none (h : PagRep w p G) (n : Nat) (hl : G.now n = none) (A : Option Addr) (m c : Nat) :
    Calls Try.prog 17 #[.pointer (some ⟨p, 0, none⟩), .int .u32 n, .slice A m c] w fun e w' => e = .returned (.int .i64 7) ∧ Mod Non w w' := by
  have cc := h.blk.cell
  unfold Pg.cells at cc
  have hnow := h.now
  have Hf := Lib.hid (mapV_none hl)
  have H := Lib.hid h
  clear h hl
  go_enter Try.func17, Try.ntmps17
  go_wp2_with (first
    | (go_at_call 22; refine (there_ok H.out).mono ?_; rintro e w' ⟨rfl, rfl⟩)
    | (at_lookup; refine wpl_lookup_none rfl _ _ rfl und_mapPage und_u32 page_zero rfl hnow n rfl Hf.out ?_)
    | (refine wpl_alloc_page rfl rfl ?_; intro w1 hb1 hm1 hs1)
    | (refine wpl_store_page rfl _ _ rfl rfl hb1 (by rw [List.size_toArray, bv_length, zero256_length]) rfl zero256_length ?_; intro w2 hb2 hm2 hs2))
  go_ret
  exact ⟨rfl, hm1.andThen hm2 (S := Non) (fun b hb hlt => by cases hb; omega)⟩

set_option maxHeartbeats 400000 in
set_option maxRecDepth 100000 in
theorem put_long (h : PagRep w p G) (n : Nat) (l : List UInt8) (hl : G.now n = some l) (A : Option Addr) (m c : Nat) (hm : 256 < m) :
    Calls Try.prog 17 #[.pointer (some ⟨p, 0, none⟩), .int .u32 n, .slice A m c] w fun e w' => e = .returned (.int .i64 1) ∧ Mod Non w w' := by
  have cc := h.blk.cell
  unfold Pg.cells at cc
  have hnow := h.now
  have Hf := Lib.hid (mapV_some hl)
  have Hll := Lib.hid (h.len _ _ hl)
  have H := Lib.hid h
  clear h hl
  go_enter Try.func17, Try.ntmps17
  go_wp2_with (first
    | (go_at_call 22; refine (there_ok H.out).mono ?_; rintro e w' ⟨rfl, rfl⟩)
    | (at_lookup; refine wpl_lookup_some rfl _ _ rfl und_mapPage und_u32 page_zero rfl hnow n rfl Hf.out ?_)
    | (refine wpl_alloc_page rfl rfl ?_; intro w1 hb1 hm1 hs1)
    | (refine wpl_store_page rfl _ _ rfl rfl hb1 (by rw [List.size_toArray, bv_length, zero256_length]) rfl Hll.out ?_; intro w2 hb2 hm2 hs2))
  go_ret
  exact ⟨rfl, hm1.andThen hm2 (S := Non) (fun b hb hlt => by cases hb; omega)⟩
end
end Go.Proofs.Ytmclbechnfedmaa
