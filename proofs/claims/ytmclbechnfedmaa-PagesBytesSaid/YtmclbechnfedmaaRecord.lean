/- pages.record. -/
import Derived.Test.YtmclbechnfedmaaPut
import Derived.Test.YtmclbechnfedmaaPagKeep
namespace Go.Proofs.Ytmclbechnfedmaa
open Go Go.RowKit

/-- What a record tells of pages. -/
def recB (G : Pg) (l : List Nat) : List UInt8 := l.flatMap fun n => enc n ++ (match G.now n with | some x => 1 :: x | none => [0])
def Pg.body (G : Pg) (l : List Nat) : List UInt8 := enc G.root ++ recB G l
def Pg.record (G : Pg) (l : List Nat) : List UInt8 := enc (G.body l).length ++ G.body l
theorem enc_length (n : Nat) : (enc n).length = vlen n := encK_length _ _

section
variable {w w' : World} {p : Nat} {G : Pg}
theorem recB_take {l : List Nat} {k n : Nat} (h : l[k]? = some n) : recB G (l.take (k + 1)) = recB G (l.take k) ++ (enc n ++ (match G.now n with | some x => 1 :: x | none => [0])) := by
  rw [List.take_add_one, h]
  simp [recB]
theorem recB_le (hlen : ∀ n x, G.now n = some x → x.length = 256) (l : List Nat) : (recB G l).length ≤ l.length * 267 := by
  induction l with
  | nil => simp [recB]
  | cons n l ih =>
    have h1 := vlen_le n
    have e : recB G (n :: l) = (enc n ++ (match G.now n with | some x => 1 :: x | none => [0])) ++ recB G l := by simp [recB]
    rw [e, List.length_append, List.length_append, enc_length, List.length_cons]
    have h2 : (match G.now n with | some x => 1 :: x | none => [0]).length ≤ 257 := by
      cases hn : G.now n with
      | none => simp
      | some x => simp [hlen n x hn]
    omega

theorem one_row (w : World) (u : UInt8) : RowAt (w.alloc (.cells #[.int .u8 u.toNat] 5)) (some ⟨w.heap.size, 0, none⟩) 1 1 (bv [u]) := ⟨rfl, fun _ => ⟨_, rfl, fun j y hy => by
  rw [add_lit, (Blk.new w 5 #[.int .u8 u.toNat]).cell]
  simpa [bv, u8v] using hy⟩⟩

set_option maxHeartbeats 1000000 in
set_option maxRecDepth 100000 in
theorem record_ok (h : PagRep w p G) (hroot : G.root < 4294967296) (A : Option Addr) (c : Nat) (l : List Nat) (hr : RowAt w A l.length 1 (uv l)) (hl : ∀ n ∈ l, n < 4294967296) (hlen : l.length ≤ 8192) :
    Calls Try.prog 41 #[.pointer (some ⟨p, 0, none⟩), .slice A l.length c] w fun e w' => ∃ v, e = .returned v ∧ w'.ownsRow w.heap.size 5 1 v (G.record l).length (bv (G.record l)) ∧ Mod Non w w' := by
  obtain ⟨i0, hi, hz0, hz1, hz2⟩ := info_parts info_u8
  have cp := h.blk.cell
  unfold Pg.cells at cp
  have HN0 := fun W => num_put (w := W) none 0 0 [] G.root RowAt.none (by omega) (by omega)
  have hv := vlen_le G.root
  have hrec := fun k => recB_le (G := G) h.len (l.take k)
  have H := Lib.hid h
  have HL := Lib.hid hl
  have HR := Lib.hid hr
  clear h hl hr
  go_enter Try.func41, Try.ntmps41
  go_wp2_with (go_at_call 58; refine (HN0 _).mono ?_; rintro e w1 ⟨v1, rfl, ho1, hm1⟩
               have HO1 := Lib.hid ho1
               clear ho1)
  clear cp HN0
  go_loopw [5, 18] (fun v i wr => ∃ k : Nat, k ≤ l.length ∧ i = .int .i64 k ∧ Mod Non w wr ∧ wr.ownsRow w.heap.size 5 1 v (enc G.root ++ recB G (l.take k)).length (bv (enc G.root ++ recB G (l.take k)))) (fun _ i _ => l.length - (intOf i).toNat)
  case atStart =>
    refine ⟨0, by omega, rfl, hm1, ?_⟩
    have := HO1.out
    simpa [recB, enc_length] using this
  case round =>
    obtain ⟨k, hk, rfl, hmr, ho⟩ := hrel
    by_cases hlt : k < l.length
    · obtain ⟨n, hn⟩ : ∃ n, l[k]? = some n := ⟨_, List.getElem?_eq_getElem hlt⟩
      have hn32 := HL.out n (List.mem_of_getElem? hn)
      have hrep := H.out.mod hmr (fun _ _ x => x)
      have cp := hrep.blk.cell
      unfold Pg.cells at cp
      obtain ⟨ad, u, eA, hu, hc⟩ := (HR.out.non (by omega) hmr).at1 hlt
      have hun : u = .int .u32 n := by
        have : (uv l)[k]? = some (.int .u32 n) := by simp [uv, hn]
        rw [this] at hu
        cases hu
        rfl
      subst eA hun
      have hrk := hrec k
      have hmn : min k l.length = k := by omega
      rw [List.length_take, hmn] at hrk
      have hrec1 := recB_take (G := G) hn
      have hx := hrep.len n
      obtain ⟨B, hB⟩ : ∃ B, B = enc G.root ++ recB G (l.take k) := ⟨_, rfl⟩
      have hBl : B.length ≤ 10 + k * 267 := by rw [hB, List.length_append, enc_length]; omega
      rw [← hB] at ho
      obtain ⟨Av, cv, rfl, hcv, hrow, _⟩ := owns_form ho
      have HNP : ∀ W, Mod Non wr W → Hid _ := fun W hW => Lib.hid (num_put (w := W) Av B.length cv B n (hrow.non (by omega) hW) (by omega) (by omega))
      have hvn := vlen_le n
      have HRB : Hid (enc G.root ++ recB G (l.take (k + 1)) = B ++ (enc n ++ (match G.now n with | some x => 1 :: x | none => [0]))) := Lib.hid (by rw [hrec1, hB, List.append_assoc])
      have HMR := Lib.hid hmr
      have hnow := hrep.now
      clear hrec1 hB ho hrow hrec hmr
      cases hG : G.now n with
      | none =>
        have Hf := Lib.hid (mapV_none hG)
        rw [hG] at HRB
        clear hG hx
        go_wp2_with (first
          | (at_lookup; refine wpl_lookup_none rfl _ _ rfl und_mapPage und_u32 page_zero rfl hnow n rfl Hf.out ?_)
          | (refine wpl_alloc_page rfl rfl ?_; intro w2 hb2 hm2 hs2)
          | (refine wpl_store_page rfl _ _ rfl rfl hb2 (by rw [List.size_toArray, bv_length, zero256_length]) rfl zero256_length ?_; intro w3 hb3 hm3 hs3
             have hm23 := hm2.andThen hm3 (S := Non) (fun b hb hlt => by cases hb; omega))
          | (go_at_call 58; refine (HNP _ hm23).out.mono ?_; rintro e w4 ⟨v4, rfl, ho4, hm4⟩
             obtain ⟨A4, c4, rfl, _, _, _⟩ := owns_form ho4
             have HO4 := Lib.hid ho4
             have HM4 := Lib.hid hm4
             have HM23 := Lib.hid hm23
             have HB3 := Lib.hid (hb3.mod hm4 (fun x => x))
             clear ho4 hb3 hb2)
          | (at_builtin; refine wpl_append_at rfl (.tmp 41) (.tmp 42) _ rfl w.heap.size 5 i0 (.int .u8 0) 1 1 und_bytes hi hz0 hz1 hz2 rfl (by omega) (v := .slice A4 (B.length + vlen n) c4) rfl (owns_from ((HO4.out).alloc _) (Nat.le_trans HMR.out.size HM23.out.size)) rfl (one_row w4 0) (bv_one [0]) (by unfold maxLen; omega) (by omega) (Nat.le_trans (Nat.le_trans HMR.out.size HM23.out.size) (Nat.le_trans HM4.out.size (by simp))) ?_
             intro v5 w5 ho5 hg5 hn5 ha5
             have HO5 := Lib.hid ho5
             have HG5 := Lib.hid (Mod.of_grown (S := fun k => (Value.slice A4 (B.length + vlen n) c4).ownBlock = some k) hg5 (fun k hk => hk))
             clear ho5 hg5))
        case roundEnd =>
          refine ⟨⟨k + 1, by omega, rfl, (((HMR.out.trans HM23.out).trans HM4.out).alloc _).andThen HG5.out (fun b hb hlt => absurd (HO4.out.lt b hb).1 (by have := HM23.out.size; have := HMR.out.size; omega)), ?_⟩, by simp [intOf]; omega⟩
          rw [HRB.out, show (B ++ (enc n ++ [(0 : UInt8)]) : List UInt8).length = B.length + vlen n + 1 by simp [enc_length]; omega, show bv (B ++ (enc n ++ [(0 : UInt8)])) = bv (B ++ enc n) ++ bv [0] by simp [bv_append]]
          exact HO5.out
      | some x =>
        have Hf := Lib.hid (mapV_some hG)
        have HXL := Lib.hid (hx x hG)
        rw [hG] at HRB
        clear hG hx
        go_wp2_with (first
          | (at_lookup; refine wpl_lookup_some rfl _ _ rfl und_mapPage und_u32 page_zero rfl hnow n rfl Hf.out ?_)
          | (refine wpl_alloc_page rfl rfl ?_; intro w2 hb2 hm2 hs2)
          | (refine wpl_store_page rfl _ _ rfl rfl hb2 (by rw [List.size_toArray, bv_length, zero256_length]) rfl HXL.out ?_; intro w3 hb3 hm3 hs3
             have hm23 := hm2.andThen hm3 (S := Non) (fun b hb hlt => by cases hb; omega))
          | (go_at_call 58; refine (HNP _ hm23).out.mono ?_; rintro e w4 ⟨v4, rfl, ho4, hm4⟩
             obtain ⟨A4, c4, rfl, _, _, _⟩ := owns_form ho4
             have HO4 := Lib.hid ho4
             have HM4 := Lib.hid hm4
             have HM23 := Lib.hid hm23
             have HB3 := Lib.hid (hb3.mod hm4 (fun x => x))
             clear ho4 hb3 hb2))
        refine wp_plan [(0, false), (3, false), (1, true), (2, true), (4, true), (5, false)] (fun k => (Value.slice A4 (B.length + vlen n) c4).ownBlock = some k) (by kernel_rfl) (by kernel_rfl) (fun c d v a w h => by cases d <;> exact h) (fun w5 hm5 => ?_)
        refine wpp_read _ rfl rfl (fun W hW => by first | (go_simp; done) | (go_simp; rfl) | rfl) ?_
        simp only [List.getElem_toArray, List.getElem_cons_zero]
        go_frame
        refine wpp_read _ rfl rfl (fun W hW => by first | (go_simp; done) | (go_simp; rfl) | rfl) ?_
        simp only [List.getElem_toArray, List.getElem_cons_succ, List.getElem_cons_zero]
        go_frame
        refine wpp_act rfl rfl ?_
        go_simp
        refine ⟨(Mod.refl _ _).alloc _, ?_⟩
        have ho5 : (w5.alloc (.cells #[.int .u8 1] 5)).ownsRow w.heap.size 5 1 (.slice A4 (B.length + vlen n) c4) (B.length + vlen n) (bv (B ++ enc n)) := owns_keep (owns_from HO4.out (Nat.le_trans HMR.out.size HM23.out.size)) (fun b hb => (hm5.alloc (.cells #[.int .u8 1] 5)).block b (HO4.out.lt b hb).2 (fun x => x))
        have hb5 := (HB3.out.mod hm5 (fun x => x)).alloc (.cells #[.int .u8 1] 5)
        have hlow : w.heap.size ≤ w5.heap.size := Nat.le_trans (Nat.le_trans HMR.out.size HM23.out.size) (Nat.le_trans HM4.out.size hm5.size)
        have hs5 : (w5.alloc (.cells #[.int .u8 1] 5)).heap.size = w5.heap.size + 1 := by simp
        obtain ⟨v6, w6, hr6, ho6, hg6, _, ha6⟩ := run_append_row_at (P := Try.prog) (w := w5.alloc (.cells #[.int .u8 1] 5)) w.heap.size 23 23 5 i0 _ 1 1 und_bytes hi hz0 hz1 hz2 rfl (by omega) ho5 (c := 1) (one_row w5 1) (bv_one [1]) (by unfold maxLen; omega) (by omega) (by omega)
        obtain ⟨A6, c6, rfl, _, _, _⟩ := owns_form ho6
        have hm6 : Mod (fun k => (Value.slice A4 (B.length + vlen n) c4).ownBlock = some k) w5 w6 := ((Mod.refl _ w5).alloc _).trans (Mod.of_grown hg6 (fun k hk => hk))
        have hb6 := hb5.mod (Mod.of_grown (S := fun k => (Value.slice A4 (B.length + vlen n) c4).ownBlock = some k) hg6 (fun k hk => hk)) (own_blk_ne ho5 hb5 (by decide))
        have hrp : RowAt w6 (some ⟨wr.heap.size, 0, none⟩) 256 1 (bv x) := ⟨by rw [bv_length, HXL.out], fun _ => ⟨_, rfl, fun j u hu => by rw [add_lit, hb6.cell]; simpa using hu⟩⟩
        obtain ⟨v7, w7, hr7, ho7, hg7, _, ha7⟩ := run_append_row_at (P := Try.prog) (w := w6) w.heap.size 23 23 5 i0 _ 1 1 und_bytes hi hz0 hz1 hz2 rfl (by omega) ho6 (c := 256) hrp (bv_one x) (by unfold maxLen; omega) (by omega) (Nat.le_trans hlow hm6.size)
        have hm7 : Mod (fun k => (Value.slice A4 (B.length + vlen n) c4).ownBlock = some k) w5 w7 := hm6.andThen (Mod.of_grown (S := fun k => (Value.slice A6 (B.length + vlen n + 1) c6).ownBlock = some k) hg7 (fun k hk => hk)) (fun b hb hlt => by
          rcases ha6 with e | e
          · rw [← e]; exact hb
          · rw [e] at hb; injection hb with hb; omega)
        have HO7 := Lib.hid ho7
        have HM5 := Lib.hid hm5
        clear ho5 hb5 ho6 hg6 ha6 hb6 hrp ho7 hg7 ha7 hm5 hs5
        refine wpp_act rfl rfl ?_
        refine wpo_append _ _ _ rfl rfl rfl hr6 ?_
        refine ⟨hm6, ?_⟩
        clear hr6
        simp only [List.getElem_toArray, List.getElem_cons_succ, List.getElem_cons_zero]
        go_frame
        refine wpp_act rfl rfl ?_
        refine wpo_append _ _ _ rfl rfl rfl hr7 ?_
        refine ⟨hm7, ?_⟩
        clear hr7
        simp only [List.getElem_toArray, List.getElem_cons_succ, List.getElem_cons_zero]
        go_frame
        refine wpp_read v7 rfl rfl (fun W hW => by first | (go_simp; done) | (go_simp; rfl) | rfl) ?_
        simp only [List.getElem_toArray, List.getElem_cons_succ, List.getElem_cons_zero]
        go_frame
        refine wpp_nil ?_
        go_wp2
        case roundEnd =>
          refine ⟨⟨k + 1, by omega, rfl, (((HMR.out.trans HM23.out).trans HM4.out).trans HM5.out).andThen hm7 (fun b hb hlt => absurd (HO4.out.lt b hb).1 (by have := HM23.out.size; have := HMR.out.size; omega)), ?_⟩, by simp [intOf]; omega⟩
          have e1 : (B ++ (enc n ++ 1 :: x) : List UInt8).length = B.length + vlen n + 1 + 256 := by simp [enc_length, HXL.out]; omega
          have e2 : bv (B ++ (enc n ++ 1 :: x)) = bv (B ++ enc n) ++ bv [1] ++ bv x := by
            rw [← bv_append, ← bv_append]
            simp
          rw [HRB.out, e1, e2]
          exact HO7.out
    · obtain rfl : k = l.length := by omega
      have hrk := hrec l.length
      rw [List.take_length] at ho hrk
      have hbody : enc G.root ++ recB G l = G.body l := rfl
      have hbl : (G.body l).length ≤ 10 + l.length * 267 := by rw [← hbody, List.length_append, enc_length]; omega
      rw [hbody] at ho
      obtain ⟨Av, cv, rfl, hcv, hrow, _⟩ := owns_form ho
      have HNP := Lib.hid (num_put (w := wr) none 0 0 [] (G.body l).length RowAt.none (by omega) (by omega))
      have hvn := vlen_le (G.body l).length
      have HMR := Lib.hid hmr
      have HROW := Lib.hid hrow
      clear ho hrow hrec hmr hbody
      go_wp2_with (first
        | (go_at_call 58; refine HNP.out.mono ?_; rintro e w4 ⟨v4, rfl, ho4, hm4⟩
           rw [Nat.zero_add, List.nil_append] at ho4
           obtain ⟨A4, c4, rfl, _, _, _⟩ := owns_form ho4
           have HO4 := Lib.hid ho4
           have HM4 := Lib.hid hm4
           clear ho4 hm4)
        | (at_builtin; refine wpl_append_at rfl (.tmp 48) (.tmp 49) _ rfl wr.heap.size 5 i0 (.int .u8 0) 1 1 und_bytes hi hz0 hz1 hz2 rfl (by omega) (v := .slice A4 (vlen (G.body l).length) c4) rfl HO4.out rfl (HROW.out.non (by omega) HM4.out) (bv_one _) (by unfold maxLen; omega) (by omega) HM4.out.size ?_
           intro v5 w5 ho5 hg5 hn5 ha5
           have HO5 := Lib.hid ho5
           have HG5 := Lib.hid (Mod.of_grown (S := fun k => (Value.slice A4 (vlen (G.body l).length) c4).ownBlock = some k) hg5 (fun k hk => hk))
           clear ho5 hg5))
      go_ret
      refine ⟨v5, rfl, ?_, (HMR.out.trans HM4.out).andThen HG5.out (fun b hb hlt => absurd (HO4.out.lt b hb).1 (by have := HMR.out.size; omega))⟩
      have e1 : (G.record l).length = vlen (G.body l).length + (G.body l).length := by unfold Pg.record; rw [List.length_append, enc_length]
      have e2 : bv (G.record l) = bv (enc (G.body l).length) ++ bv (G.body l) := by unfold Pg.record; rw [bv_append]
      rw [e1, e2]
      exact owns_from HO5.out HMR.out.size
end
end Go.Proofs.Ytmclbechnfedmaa
