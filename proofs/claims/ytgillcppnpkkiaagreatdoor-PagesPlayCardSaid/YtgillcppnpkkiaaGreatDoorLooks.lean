/- LeftBytes, Same32, great; the pager's Root, SetRoot; a commit that has nothing to do. -/
import Derived.Test.YtgillcppnpkkiaaGreatDoorTwins
namespace Go.Proofs.YtgillcppnpkkiaaGreatDoor
open Go Go.RowKit
section
variable {w w' : World}
set_option maxHeartbeats 400000 in
theorem left_bytes {A : Option Addr} {c g c' : Nat} {l : List UInt8} (ht : Twin w g c' l) (hr : RowAt w A l.length 1 (bv l)) (hl : l.length ≤ 1048576) :
    Calls Tryz.prog 28 #[.slice (some ⟨g, 0, none⟩) l.length c', .slice A l.length c] w fun e w' => e = .returned (.bool true) ∧ Mod Non w w' := by
  have HA := Lib.hid ht
  have HB := Lib.hid hr
  have hcap := ht.cap
  have hcm : c' ≤ 9223372036854775807 := ht.max
  clear ht hr
  go_enter Tryz.func28, Tryz.ntmps28
  have hd : decide ((c' : Int) ≤ (l.length : Int)) = false := decide_eq_false (by omega)
  go_wp2
  go_loopw [5] (fun i wr => ∃ k : Nat, k ≤ l.length ∧ i = .int .i64 k ∧ Mod Non w wr) (fun i _ => l.length - (intOf i).toNat)
  case atStart => exact ⟨0, Nat.zero_le _, rfl, Mod.refl _ _⟩
  case round =>
    obtain ⟨k, hk, rfl, hm⟩ := hrel
    have hta := HA.out.mod hm (fun x => x)
    by_cases hlt : k < l.length
    · have hra := hta.bytes
      have hrb := HB.out.non (by decide) hm
      obtain ⟨a, ha, hca⟩ := hra.2 (by omega)
      cases ha
      obtain ⟨b, rfl, hcb⟩ := hrb.2 (by omega)
      obtain ⟨x, hx⟩ : ∃ x, l[k]? = some x := ⟨_, List.getElem?_eq_getElem hlt⟩
      have hg : (bv l)[k]? = some (.int .u8 (x.toNat : Int)) := by rw [bv_get, hx]; rfl
      have ca := hca k _ hg
      rw [add_lit] at ca
      have cb := hcb k _ hg
      clear hg hca hcb hra hrb hx hta
      go_wp2
      go_quiet (fail)
      have hmq : Mod Non wr (wr.drewN nq) := (Mod.refl _ _).drewN nq
      go_wp2
      go_roundw
      case rel => exact ⟨k + 1, by omega, by go_num, hm.trans hmq⟩
      case measure => simp [intOf]; omega
    · obtain rfl : k = l.length := by omega
      obtain ⟨a, ha, hca⟩ := hta.row.2 (by omega)
      cases ha
      have ca := hca l.length (.int .u8 77) (by rw [List.getElem?_append_right (by rw [bv_length]; exact Nat.le_refl _)]; simp [bv_length])
      rw [add_lit] at ca
      clear hca hta hlt
      go_wp2
      go_ret
      exact ⟨rfl, hm⟩
set_option maxHeartbeats 400000 in
theorem same32 {A B : Option Addr} {n c1 c2 : Nat} {l : List Nat} (ha : RowAt w A n 1 (uv l)) (hb : RowAt w B n 1 (uv l)) (hn : n ≤ maxLen) :
    Calls Tryz.prog 33 #[.slice A n c1, .slice B n c2] w fun e w' => e = .returned (.bool true) ∧ Mod Non w w' := by
  have hn' : n ≤ 9223372036854775807 := hn
  have HA := Lib.hid ha
  have HB := Lib.hid hb
  clear ha hb
  go_enter Tryz.func33, Tryz.ntmps33
  go_wp2
  go_loopw [5] (fun i wr => ∃ k : Nat, k ≤ n ∧ i = .int .i64 k ∧ Mod Non w wr) (fun i _ => n - (intOf i).toNat)
  case atStart => exact ⟨0, Nat.zero_le _, rfl, Mod.refl _ _⟩
  case round =>
    obtain ⟨k, hk, rfl, hm⟩ := hrel
    by_cases hlt : k < n
    · have hra := HA.out.non (by decide) hm
      have hrb := HB.out.non (by decide) hm
      have hl : l.length = n := by have := hra.1; rw [uv_length] at this; omega
      obtain ⟨a, rfl, hca⟩ := hra.2 (by omega)
      obtain ⟨b, rfl, hcb⟩ := hrb.2 (by omega)
      obtain ⟨x, hx⟩ : ∃ x, l[k]? = some x := ⟨_, List.getElem?_eq_getElem (by omega)⟩
      have hg : (uv l)[k]? = some (.int .u32 (x : Int)) := by simp [uv, hx]
      have ca := hca k _ hg
      have cb := hcb k _ hg
      clear hg hca hcb hra hrb hl hx
      go_wp2
      go_quiet (fail)
      have hmq : Mod Non wr (wr.drewN nq) := (Mod.refl _ _).drewN nq
      go_wp2
      go_roundw
      case rel => exact ⟨k + 1, by omega, by go_num, hm.trans hmq⟩
      case measure => simp [intOf]; omega
    · obtain rfl : k = n := by omega
      go_wp2
      go_ret
      exact ⟨rfl, hm⟩
end
section
variable {w : World} {p : Nat} {G : Pg} {D : Dk}
theorem root_ok (h : PagRep w p G) : Calls Tryz.prog 31 #[.pointer (some ⟨p, 0, none⟩)] w fun e w' => e = .returned (.int .u32 G.root) ∧ w = w' := by
  have c := h.blk.cell
  unfold Pg.cells at c
  have HT := Lib.hid (there_ok h)
  clear h
  go_enter Tryz.func31, Tryz.ntmps31
  go_wp2_with (go_at_call 44; refine HT.out.mono ?_; rintro e w1 ⟨rfl, rfl⟩)
  go_ret
  exact ⟨rfl, rfl⟩
theorem setroot_ok (h : PagRep w p G) (n : Nat) : Calls Tryz.prog 17 #[.pointer (some ⟨p, 0, none⟩), .int .u32 n] w fun e w' => e = .returned (.int .i64 0) ∧ PagRep w' p { G with root := n } ∧ Mod (One p) w w' := by
  have c := h.blk.cell
  have f := h.blk.frozen
  unfold Pg.cells at c
  have HT := Lib.hid (there_ok h)
  have H := Lib.hid h
  clear h
  go_enter Tryz.func17, Tryz.ntmps17
  go_wp2_with (go_at_call 44; refine HT.out.mono ?_; rintro e w1 ⟨rfl, rfl⟩)
  go_ret
  exact ⟨rfl, H.out.setRoot n, (Mod.refl (One p) _).setCell (p := ⟨p, 4, none⟩) (.inl rfl) _⟩
set_option maxHeartbeats 400000 in
set_option maxRecDepth 100000 in
theorem commit_same (h : PagRep w p G) (hd : ∀ n, G.dirty n = false) (hroot : G.root = G.was) : Calls Tryz.prog 13 #[.pointer (some ⟨p, 0, none⟩)] w fun e w' => e = .returned (.int .i64 0) ∧ Mod Non w w' := by
  have cp := h.blk.cell
  unfold Pg.cells at cp
  have HT := Lib.hid (there_ok h)
  obtain ⟨fd, hfd, hfs, hfv⟩ := h.dirty
  obtain ⟨nd, hnd0⟩ := hfd.len
  have hnd : nd = 0 := by
    have := hfd.len_le hnd0 (N := 0) (fun k hk => by rw [hfs, hd] at hk; cases hk)
    omega
  have hz : ((nd : Int) == 0) = true := by simp; omega
  have hzr : ((G.root : Int) == (G.was : Int)) = true := by simp; omega
  clear h hd hroot hfs hfv hfd hnd
  go_enter Tryz.func13, Tryz.ntmps13
  go_wp2_with (go_at_call 44; refine HT.out.mono ?_; rintro e w1 ⟨rfl, rfl⟩)
  refine wp_region_quiet_lit (by kernel_rfl) (by kernel_rfl) ?_
  iterate 4 go_big_quiet_step (fail)
  go_big_quiet_want
  refine quiet_lenMap (.tmp 13) rfl rfl und_mapInt rfl (n := nd) (by rintro W ⟨q, rfl⟩; exact hnd0.drewN q) ?_
  go_frame
  go_big_quiet_on
  iterate 12 go_big_quiet_step (fail)
  refine wpQuiet_nil ?_
  rintro w2 ⟨nq, rfl⟩
  have hm2 : Mod Non w1 (w1.drewN nq) := (Mod.refl _ _).drewN nq
  go_wp2
  go_ret
  exact ⟨rfl, hm2⟩
theorem new_least (h : PagRep w p G) (L : Nat) (h1 : 1 ≤ L) (h2 : L ≤ 4000) (hlow : ∀ m, 1 ≤ m → m < L → (G.now m).isSome = true) (hnone : G.now L = none) :
    Calls Tryz.prog 9 #[.pointer (some ⟨p, 0, none⟩)] w fun e w' => e = .returned (.tuple #[.int .u32 L, .int .i64 0]) ∧ PagRep w' p (G.newed L) ∧ Mod (PS p G) w w' := by
  obtain ⟨k, rfl⟩ : ∃ k, L = k + 1 := ⟨L - 1, by omega⟩
  exact new_ok h k (by omega) (fun j hj => hlow (j + 1) (by omega) (by omega)) hnone
end
end Go.Proofs.YtgillcppnpkkiaaGreatDoor
