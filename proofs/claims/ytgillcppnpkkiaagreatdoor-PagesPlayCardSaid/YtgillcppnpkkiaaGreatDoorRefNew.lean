/- The reference: NewPage. -/
import Derived.Test.YtgillcppnpkkiaaGreatDoorRefMut
namespace Go.Proofs.YtgillcppnpkkiaaGreatDoor
open Go Go.RowKit
section
variable {ops : Array Oper} {Q : Exit → Act → World → Prop} {a : Act} {w : World} {rest : List Oper} {o : Oper}
theorem wpl_rto (hg : o.guard = none) (x y : Operand) (ho : o.op = .slice 93 x none (some y) none) {A : Option Addr} {n c k : Nat} (hx : a.eval x = .slice A n c) (hy : a.eval y = .int .i64 (k : Int)) (hk : k ≤ c)
    (h : wpList Tryz.prog ops Q rest (a.put o.dst (.slice A k c)) w) : wpList Tryz.prog ops Q (o :: rest) a w :=
  wpl_run hg (by have := run_to A n c k hk w; simp [execOp, ho, hx, hy, this]) h
theorem wpl_rfrom (hg : o.guard = none) (x y : Operand) (ho : o.op = .slice 93 x (some y) none none) {A : Option Addr} {n c k : Nat} (hx : a.eval x = .slice A n c) (hy : a.eval y = .int .i64 (k : Int)) (hk : k ≤ n)
    (h : wpList Tryz.prog ops Q rest (a.put o.dst (.slice (fromA A c k) (n - k) (c - k))) w) : wpList Tryz.prog ops Q (o :: rest) a w :=
  wpl_run hg (by have := run_from A n c k hk w; simp [execOp, ho, hx, hy, this]) h
end
section
variable {ops : Array Oper} {Q : Exit → Act → World → Prop} {a : Act} {w : World} {rest : List Oper} {o : Oper}
theorem made256 : madeCells (Value.int IntKind.u8 0).cells (256 * 1) = (bv zero256).toArray := by kernel_rfl
/-- make([]byte, 256). -/
theorem wpl_make256 (hg : o.guard = none) (ho : o.op = .makeSlice 56 (.const (.int .i64 256)) (.const (.int .i64 256)))
    (hK : ∀ w', Blk w' w.heap.size 5 (bv zero256).toArray → Mod Non w w' → Hid (w'.heap.size = w.heap.size + 1) → wpList Tryz.prog ops Q rest (a.put o.dst (.slice (some ⟨w.heap.size, 0, none⟩) 256 256)) w') : wpList Tryz.prog ops Q (o :: rest) a w := by
  obtain ⟨i0, hi, hz0, hz1, hz2⟩ := info_parts info_u8
  have hr := run_make (P := Tryz.prog) (w := w) 56 5 i0 (.int .u8 0) und_bytes hi hz0 .i64 .i64 256 256 (by decide) (by decide) (by rw [hz2]; decide) (by decide)
  have e : Int.toNat 256 = 256 := rfl
  rw [hz1, e, made256] at hr
  refine wpl_run (v := .slice (some ⟨w.heap.size, 0, none⟩) 256 256) (w' := w.alloc (.cells (bv zero256).toArray 5)) hg ?_ (hK _ (Blk.new _ _ _) ((Mod.refl _ _).alloc _) (Lib.hid (by simp)))
  simp [execOp, ho, Act.eval, hr]
end
section
variable {w w' : World} {m : Nat} {R : Rf} {S : Nat → Prop}
theorem blk_grown {w w' : World} {g : Nat} {t : TypeId} {cs : Array Value} {base : Nat} {e : TypeId} {size : Nat} {v : Value} {n : Nat} {xs : List Value} (hb : Blk w g t cs) (ho : w.ownsRow base e size v n xs) (hg : w.grownBy w' v.ownBlock) (hne : e ≠ t) : Blk w' g t cs :=
  hb.mod (Mod.of_grown (S := fun b => v.ownBlock = some b) hg (fun _ hk => hk)) (fun h => own_blk_ne ho hb hne h)
theorem new_end {w6 : World} {A6 : Option Addr} {k k6 g : Nat} {u : Value} (H : RefRep w m R) (hm6 : Mod Non w w6) (hb6 : Blk w6 m 97 #[.slice R.an R.now.length R.cn, .int .u32 R.root, .slice R.ak R.kept.length R.ck, .int .u32 R.was]) (hL : k ≤ R.now.length)
    (hr6 : RowAt w6 A6 (0 + k + 1 + (R.now.length - k)) 2 ([] ++ pgs (R.now.take k) ++ [.int .u32 ((k : Int) + 1), .slice (some ⟨g, 0, none⟩) 256 256] ++ pgs (R.now.drop k))) (hA : ∀ ad, A6 = some ad → w.heap.size ≤ ad.block ∧ ad.block < w6.heap.size) (hc : 0 + k + 1 + (R.now.length - k) ≤ k6) (hcm : k6 ≤ maxLen)
    (hg : w.heap.size ≤ g) (hgb : Blk w6 g 5 (bv zero256).toArray) (hu : u = .slice A6 (0 + k + 1 + (R.now.length - k)) k6) :
    ∃ A c ad, RefRep (w6.setCell ⟨m, 0, none⟩ u) m (R.cut A c (R.now.take k ++ ⟨k + 1, ad, zero256⟩ :: R.now.drop k)) ∧ (∀ b, RI (R.cut A c (R.now.take k ++ ⟨k + 1, ad, zero256⟩ :: R.now.drop k)) b → RI R b ∨ w.heap.size ≤ b) ∧ Mod (One m) w (w6.setCell ⟨m, 0, none⟩ u) := by
  subst hu
  have hmc := (Mod.refl (One m) w6).setCell (p := ⟨m, 0, none⟩) (.inl rfl) (.slice A6 (0 + k + 1 + (R.now.length - k)) k6)
  have hm0 := (hm6.mono (T := One m) (fun _ x => x.elim)).trans hmc
  have hl : (R.now.take k ++ ⟨k + 1, ⟨g, 0, none⟩, zero256⟩ :: R.now.drop k).length = 0 + k + 1 + (R.now.length - k) := by
    rw [List.length_append, List.length_take, List.length_cons, List.length_drop]
    omega
  have hp : pgs (R.now.take k ++ ⟨k + 1, ⟨g, 0, none⟩, zero256⟩ :: R.now.drop k) = [] ++ pgs (R.now.take k) ++ [.int .u32 ((k : Int) + 1), .slice (some ⟨g, 0, none⟩) 256 256] ++ pgs (R.now.drop k) := by
    rw [pgs_append, pgs_cons]
    simp [pgc]
  have hgm : g ≠ m := fun e => by have := H.blk.lt; omega
  obtain ⟨q1, q2⟩ := H.turn hm0 (A := A6) (c := k6) (l := R.now.take k ++ ⟨k + 1, ⟨g, 0, none⟩, zero256⟩ :: R.now.drop k) (by rw [hl]; exact hb6.set 0 _)
    (by rw [hl, hp]; exact hr6.mod (by decide) hmc (fun ad e _ h => by have h5 := hA ad e; have h6 := H.blk.lt; cases h; omega)) (fun ad e => by have h5 := hA ad e; have := hmc.size; omega) (fun x hx => by
      rcases List.mem_append.1 hx with h | h
      · exact .inl (List.mem_of_mem_take h)
      · rcases List.mem_cons.1 h with rfl | h
        · refine .inr ⟨hg, (hgb.far hgm _).lt, ⟨by rw [bv_length, zero256_length], fun _ => ⟨_, rfl, fun j u hu => ?_⟩⟩, zero256_length⟩
          rw [add_lit, (hgb.far (p := ⟨m, 0, none⟩) hgm _).cell]
          simpa using hu
        · exact .inl (List.mem_of_mem_drop h)) (by rw [hl]; exact hc) hcm
  exact ⟨A6, k6, ⟨g, 0, none⟩, q1, q2, hm0⟩
set_option maxHeartbeats 1000000 in
set_option maxRecDepth 100000 in
theorem ref_newpage (h : RefRep w m R) (hlen : R.now.length < 4000) (L : Nat) (hL : L ≤ R.now.length) (hlow : ∀ j x, j < L → R.now[j]? = some x → x.n = j + 1) (hnext : ∀ x, R.now[L]? = some x → x.n ≠ L + 1) (hnum : ∀ x ∈ R.now, x.n < 4294967296) :
    Calls Tryz.prog 10 #[.pointer (some ⟨m, 0, none⟩)] w fun e w' => e = .returned (.tuple #[.int .u32 (L + 1 : Nat), .int .i64 0]) ∧ ∃ A c ad, RefRep w' m (R.cut A c (R.now.take L ++ ⟨L + 1, ad, zero256⟩ :: R.now.drop L)) ∧ (∀ b, RI (R.cut A c (R.now.take L ++ ⟨L + 1, ad, zero256⟩ :: R.now.drop L)) b → RI R b ∨ w.heap.size ≤ b) ∧ Mod (One m) w w' := by
  obtain ⟨i0, z0, hi0, hz0, hz3, hz1, hz2⟩ := rp_info
  have c := h.blk.cell
  have hcl : R.now.length ≤ 9223372036854775807 := Nat.le_trans h.capN h.cmN
  have H := Lib.hid h
  have HR := Lib.hid h.now
  have HLow := Lib.hid hlow
  have HNext := Lib.hid hnext
  clear h hlow hnext
  go_enter Tryz.func10, Tryz.ntmps10
  go_wp2
  go_loop [4] (fun v => ∃ k : Nat, k ≤ L ∧ v = .int .i64 k) (fun v => L - (intOf v).toNat)
  case atStart => exact ⟨0, Nat.zero_le _, rfl⟩
  case round =>
    obtain ⟨k, hk, rfl⟩ := hrel
    have hkc : IntKind.u32.wrap (k : Int) = (k : Int) := by rw [IntKind.wrap_u32]; omega
    by_cases hkl : k < L
    · obtain ⟨x, hx⟩ : ∃ x, R.now[k]? = some x := ⟨_, List.getElem?_eq_getElem (by omega)⟩
      have hxn := HLow.out k x hkl hx
      obtain ⟨ad, had, hcell⟩ := HR.out.2 (by omega)
      have c1 := hcell _ _ (pgs_get hx).1
      rw [hxn] at c1
      rw [had] at c
      have hlt : k < R.now.length := by omega
      clear hx hcell had hxn
      go_wp2
      go_round
      case rel => exact ⟨k + 1, by omega, by go_num⟩
      case measure => simp [intOf]; omega
    · have hkL : k = L := by omega
      subst hkL
      have hic : k ≤ R.cn := by have := H.out.capN; omega
      have hr1 : RowAt w R.an k 2 (pgs (R.now.take k)) := rp_part HR.out hL
      have HN0 := Lib.hid (World.ownsRow_nil w w.heap.size 101 2)
      have hl0 : k + R.now.length + 10 ≤ maxLen := by unfold maxLen; omega
      by_cases hlt : k < R.now.length
      · obtain ⟨x, hx⟩ : ∃ x, R.now[k]? = some x := ⟨_, List.getElem?_eq_getElem hlt⟩
        have hxn := HNext.out x hx
        have hx32 := hnum x (List.mem_of_getElem? hx)
        obtain ⟨ad, had, hcell⟩ := HR.out.2 (by omega)
        have c1 := hcell _ _ (pgs_get hx).1
        have hb : ((x.n : Int) == (k : Int) + 1) = false := by simp; omega
        rw [had] at c hr1
        have HAD := Lib.hid had
        have hk4 : decide (4000 ≤ (k : Int)) = false := decide_eq_false (by omega)
        have hml0 : 0 + k ≤ maxLen := by omega
        clear hx hcell had hxn
        go_wp2_with (first
          | (refine wpl_rto rfl (.tmp 37) (.tmp 38) rfl rfl rfl hic ?_)
          | (at_builtin; refine wpl_append rfl (.const (.slice none 0 0)) (.tmp 39) _ rfl w.heap.size 101 i0 z0 2 32 und_rps hi0 hz0 hz1 hz2 hz3 (by omega) rfl HN0.out rfl hr1 (pgs_one _) hml0 (by omega) (Nat.le_refl _) ?_; intro v3 w3 ho3 hg3 _
             have hm3 : Mod Non w w3 := (Mod.refl Non w).owned HN0.out hg3 (Nat.le_refl _)
             have HG3 := Lib.hid hg3
             clear hg3)
          | (refine wpl_make256 rfl rfl ?_; intro w4 hb4 hm4 hs4
             have hm04 := hm3.trans hm4
             have ho4 := owns_mod ho3 hm4 (fun _ x => x.elim)
             have h4 := H.out.non hm04
             have c4 := h4.blk.cell
             rw [HAD.out] at c4
             have H4 := Lib.hid h4
             have hsz4 := hm04.size
             have hml4 : 0 + k + 1 ≤ maxLen := by omega
             have hrow4 : RowAt (w4.alloc (.cells #[.int .u32 ((k : Int) + 1), .slice (some ⟨w3.heap.size, 0, none⟩) 256 256] 101)) (some ⟨w4.heap.size, 0, none⟩) 1 2 [.int .u32 ((k : Int) + 1), .slice (some ⟨w3.heap.size, 0, none⟩) 256 256] := ⟨rfl, fun _ => ⟨_, rfl, fun j u hu => by rw [add_lit, (Blk.new w4 _ _).cell]; simpa using hu⟩⟩
             have hone4 : ∀ u ∈ [Value.int .u32 ((k : Int) + 1), .slice (some ⟨w3.heap.size, 0, none⟩) 256 256], u.oneCell' = true := by simp [Value.oneCell']
             clear h4 c)
          | (at_builtin; refine wpl_append rfl (.tmp 41) (.tmp 47) _ rfl w.heap.size 101 i0 z0 2 32 und_rps hi0 hz0 hz1 hz2 hz3 (by omega) rfl (ho4.alloc _) rfl hrow4 hone4 hml4 (by omega) (by simp; omega) ?_; intro v5 w5 ho5 hg5 _
             have hm5 : Mod Non w w5 := (hm04.alloc _).owned (ho4.alloc _) hg5 (Nat.le_refl _)
             have h5 := H.out.non hm5
             have c5 := h5.blk.cell
             rw [HAD.out] at c5
             have hr5 : RowAt w5 (fromA (some ad) R.cn k) (R.now.length - k) 2 (pgs (R.now.drop k)) := rp_rest (HAD.out ▸ h5.now) hL _ (fun h4 ad' e => by
               cases e
               unfold fromA
               rw [Option.map_some, if_neg (by have := H.out.capN; omega)])
             have hml5 : 0 + k + 1 + (R.now.length - k) ≤ maxLen := by omega
             have hsz5 := hm5.size
             have hb5 := blk_grown (hb4.alloc (.cells #[.int .u32 ((k : Int) + 1), .slice (some ⟨w3.heap.size, 0, none⟩) 256 256] 101)) (ho4.alloc _) hg5 (by decide)
             clear c4 h5)
          | (refine wpl_rfrom rfl (.tmp 55) (.tmp 56) rfl rfl rfl hL ?_)
          | (at_builtin; refine wpl_append rfl (.tmp 50) (.tmp 57) _ rfl w.heap.size 101 i0 z0 2 32 und_rps hi0 hz0 hz1 hz2 hz3 (by omega) rfl ho5 rfl hr5 (pgs_one _) hml5 (by omega) hsz5 ?_; intro v6 w6 ho6 hg6 _
             have hm6 : Mod Non w w6 := hm5.owned ho5 hg6 (Nat.le_refl _)
             have h6 := H.out.non hm6
             have c6 := h6.blk.cell
             have f6 := h6.blk.frozen
             have H6 := Lib.hid h6
             have HO6 := Lib.hid ho6
             obtain ⟨A6, k6, rfl, hc6, hcm6, hr6, hA6⟩ := owns_form2 ho6
             have HR6 := Lib.hid hr6
             have HA6 := Lib.hid hA6
             have HB4 := Lib.hid (blk_grown hb5 ho5 hg6 (by decide))
             clear c5 h6 ho6 hr6 hA6 hb4))
        go_ret2
        exact ⟨by go_num, new_end H.out hm6 H6.out.blk hL HR6.out HA6.out hc6 hcm6 hm3.size HB4.out (by rw [Nat.zero_add])⟩
      · have hkn : R.now.length ≤ k := by omega
        have hk4 : decide (4000 ≤ (k : Int)) = false := decide_eq_false (by omega)
        have hml0 : 0 + k ≤ maxLen := by omega
        go_wp2_with (first
          | (refine wpl_rto rfl (.tmp 37) (.tmp 38) rfl rfl rfl hic ?_)
          | (at_builtin; refine wpl_append rfl (.const (.slice none 0 0)) (.tmp 39) _ rfl w.heap.size 101 i0 z0 2 32 und_rps hi0 hz0 hz1 hz2 hz3 (by omega) rfl HN0.out rfl hr1 (pgs_one _) hml0 (by omega) (Nat.le_refl _) ?_; intro v3 w3 ho3 hg3 _
             have hm3 : Mod Non w w3 := (Mod.refl Non w).owned HN0.out hg3 (Nat.le_refl _)
             have HG3 := Lib.hid hg3
             clear hg3)
          | (refine wpl_make256 rfl rfl ?_; intro w4 hb4 hm4 hs4
             have hm04 := hm3.trans hm4
             have ho4 := owns_mod ho3 hm4 (fun _ x => x.elim)
             have h4 := H.out.non hm04
             have c4 := h4.blk.cell
             have H4 := Lib.hid h4
             have hsz4 := hm04.size
             have hml4 : 0 + k + 1 ≤ maxLen := by omega
             have hrow4 : RowAt (w4.alloc (.cells #[.int .u32 ((k : Int) + 1), .slice (some ⟨w3.heap.size, 0, none⟩) 256 256] 101)) (some ⟨w4.heap.size, 0, none⟩) 1 2 [.int .u32 ((k : Int) + 1), .slice (some ⟨w3.heap.size, 0, none⟩) 256 256] := ⟨rfl, fun _ => ⟨_, rfl, fun j u hu => by rw [add_lit, (Blk.new w4 _ _).cell]; simpa using hu⟩⟩
             have hone4 : ∀ u ∈ [Value.int .u32 ((k : Int) + 1), .slice (some ⟨w3.heap.size, 0, none⟩) 256 256], u.oneCell' = true := by simp [Value.oneCell']
             clear h4 c)
          | (at_builtin; refine wpl_append rfl (.tmp 41) (.tmp 47) _ rfl w.heap.size 101 i0 z0 2 32 und_rps hi0 hz0 hz1 hz2 hz3 (by omega) rfl (ho4.alloc _) rfl hrow4 hone4 hml4 (by omega) (by simp; omega) ?_; intro v5 w5 ho5 hg5 _
             have hm5 : Mod Non w w5 := (hm04.alloc _).owned (ho4.alloc _) hg5 (Nat.le_refl _)
             have h5 := H.out.non hm5
             have c5 := h5.blk.cell
             have hr5 : RowAt w5 (fromA R.an R.cn k) (R.now.length - k) 2 (pgs (R.now.drop k)) := rp_rest h5.now hL _ (fun h4 => absurd h4 (by omega))
             have hml5 : 0 + k + 1 + (R.now.length - k) ≤ maxLen := by omega
             have hsz5 := hm5.size
             have hb5 := blk_grown (hb4.alloc (.cells #[.int .u32 ((k : Int) + 1), .slice (some ⟨w3.heap.size, 0, none⟩) 256 256] 101)) (ho4.alloc _) hg5 (by decide)
             clear c4 h5)
          | (refine wpl_rfrom rfl (.tmp 55) (.tmp 56) rfl rfl rfl hL ?_)
          | (at_builtin; refine wpl_append rfl (.tmp 50) (.tmp 57) _ rfl w.heap.size 101 i0 z0 2 32 und_rps hi0 hz0 hz1 hz2 hz3 (by omega) rfl ho5 rfl hr5 (pgs_one _) hml5 (by omega) hsz5 ?_; intro v6 w6 ho6 hg6 _
             have hm6 : Mod Non w w6 := hm5.owned ho5 hg6 (Nat.le_refl _)
             have h6 := H.out.non hm6
             have c6 := h6.blk.cell
             have f6 := h6.blk.frozen
             have H6 := Lib.hid h6
             have HO6 := Lib.hid ho6
             obtain ⟨A6, k6, rfl, hc6, hcm6, hr6, hA6⟩ := owns_form2 ho6
             have HR6 := Lib.hid hr6
             have HA6 := Lib.hid hA6
             have HB4 := Lib.hid (blk_grown hb5 ho5 hg6 (by decide))
             clear c5 h6 ho6 hr6 hA6 hb4))
        go_ret2
        exact ⟨by go_num, new_end H.out hm6 H6.out.blk hL HR6.out HA6.out hc6 hcm6 hm3.size HB4.out (by congr 1; omega)⟩
end
end Go.Proofs.YtgillcppnpkkiaaGreatDoor
