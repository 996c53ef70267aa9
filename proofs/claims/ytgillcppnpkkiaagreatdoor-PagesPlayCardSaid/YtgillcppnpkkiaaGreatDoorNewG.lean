/- New in general; Open in general; two rows with the same bytes. -/
import Derived.Test.YtgillcppnpkkiaaGreatDoorCommitG
namespace Go.Proofs.YtgillcppnpkkiaaGreatDoor
open Go Go.RowKit
section
variable {w : World} {p : Nat} {G : Pg}
set_option maxHeartbeats 400000 in
set_option maxRecDepth 100000 in
theorem new_full (h : PagRep w p G) (hfull : ∀ j, j < 4000 → (G.now (j + 1)).isSome = true) :
    Calls Tryz.prog 9 #[.pointer (some ⟨p, 0, none⟩)] w fun e w' => e = .returned (.tuple #[.int .u32 0, .int .i64 6]) ∧ Mod Non w w' := by
  go_enter Tryz.func9, Tryz.ntmps9
  go_wp2_with (go_at_call 44; refine (there_ok h).mono ?_; rintro e w' ⟨rfl, rfl⟩)
  go_loopw [10] (fun i wr => ∃ j : Nat, j ≤ 4000 ∧ i = .int .u32 j ∧ Mod Non w' wr) (fun i _ => 4000 - (intOf i).toNat)
  case atStart => exact ⟨0, Nat.zero_le _, rfl, Mod.refl _ _⟩
  case round =>
    obtain ⟨j, hj, rfl, hm⟩ := hrel
    have h1 := h.non hm
    have c := h1.blk.cell
    unfold Pg.cells at c
    have hnow := h1.now
    by_cases hjk : j < 4000
    · obtain ⟨l, hl⟩ := Option.isSome_iff_exists.1 (hfull j hjk)
      have Hf := Lib.hid (mapV_some hl)
      have Hll := Lib.hid (h.len _ _ hl)
      clear h h1 hfull hl
      go_wp2_with (first
        | (at_lookup; refine wpl_lookup_some rfl _ _ rfl und_mapPage und_u32 page_zero rfl hnow (j + 1) rfl Hf.out ?_)
        | (refine wpl_alloc_page rfl rfl ?_; intro w1 hb1 hm1 hs1)
        | (refine wpl_store_page rfl _ _ rfl rfl hb1 (by rw [List.size_toArray, bv_length, zero256_length]) rfl Hll.out ?_; intro w2 hb2 hm2 hs2))
      go_roundw
      case rel => exact ⟨j + 1, by omega, by go_num, (hm.andThen hm1 (fun _ h => h.elim)).andThen hm2 (fun b hb hlt => by cases hb; have := hm.size; omega)⟩
      case measure => simp [intOf]; omega
    · obtain rfl : j = 4000 := by omega
      clear h h1 hfull
      go_wp2
      go_ret2
      exact ⟨rfl, hm⟩
theorem least_or (f : Nat → Bool) : ∀ n : Nat, (∀ j, j < n → f (j + 1) = true) ∨ ∃ k, k < n ∧ (∀ j, j < k → f (j + 1) = true) ∧ f (k + 1) = false
  | 0 => .inl fun j hj => absurd hj (Nat.not_lt_zero _)
  | n + 1 => by
    rcases least_or f n with h | ⟨k, hk, h1, h2⟩
    · cases hf : f (n + 1) with
      | true =>
        refine .inl fun j hj => ?_
        rcases Nat.lt_or_eq_of_le (Nat.le_of_lt_succ hj) with h3 | h3
        · exact h j h3
        · rw [h3]; exact hf
      | false => exact .inr ⟨n, Nat.lt_succ_self _, h, hf⟩
    · exact .inr ⟨k, by omega, h1, h2⟩
/-- New: one more page, or there are all. -/
theorem new_any (h : PagRep w p G) :
    Calls Tryz.prog 9 #[.pointer (some ⟨p, 0, none⟩)] w fun e w' => (∃ n, 1 ≤ n ∧ n ≤ 4000 ∧ e = .returned (.tuple #[.int .u32 (n : Nat), .int .i64 0]) ∧ PagRep w' p (G.newed n) ∧ Mod (PS p G) w w') ∨
      (e = .returned (.tuple #[.int .u32 0, .int .i64 6]) ∧ Mod (PS p G) w w') := by
  rcases least_or (fun n => (G.now n).isSome) 4000 with hf | ⟨k, hk, h1, h2⟩
  · exact (new_full h hf).mono fun e w' ⟨h1, h2⟩ => .inr ⟨h1, h2.mono (fun _ x => x.elim)⟩
  · exact (new_ok h k hk h1 (by simpa using h2)).mono fun e w' ⟨h1, h2, h3⟩ => .inl ⟨k + 1, by omega, by omega, h1, h2, h3⟩
end
section
variable {w : World} {d : Nat} {D : Dk}
theorem open_gen (h : DiskRep w d D) (hlen : D.now.length < 64) :
    Calls Tryz.prog 7 #[.pointer (some ⟨d, 0, none⟩)] w fun e w' => OpenSays w d D e w' := by
  cases hl : look D.now nameB with
  | none => exact open_none h hlen hl
  | some f => exact open_some h hlen f hl
end
section
variable {w : World}
set_option maxHeartbeats 400000 in
set_option maxRecDepth 100000 in
theorem same_bytes {A B : Option Addr} {n c1 c2 : Nat} {l : List UInt8} (ha : RowAt w A n 1 (bv l)) (hb : RowAt w B n 1 (bv l)) (hn : n ≤ maxLen) :
    Calls Tryz.prog 21 #[.slice A n c1, .slice B n c2] w fun e w' => e = .returned (.bool true) ∧ Mod Non w w' := by
  have hn' : n ≤ 9223372036854775807 := hn
  have HA := Lib.hid ha
  have HB := Lib.hid hb
  clear ha hb
  go_enter Tryz.func21, Tryz.ntmps21
  go_wp2
  go_loopw [5] (fun i wr => ∃ k : Nat, k ≤ n ∧ i = .int .i64 k ∧ Mod Non w wr) (fun i _ => n - (intOf i).toNat)
  case atStart => exact ⟨0, Nat.zero_le _, rfl, Mod.refl _ _⟩
  case round =>
    obtain ⟨k, hk, rfl, hm⟩ := hrel
    by_cases hlt : k < n
    · have hra := HA.out.non (by decide) hm
      have hrb := HB.out.non (by decide) hm
      have hl : l.length = n := by have := hra.1; rw [bv_length] at this; omega
      obtain ⟨a, rfl, hca⟩ := hra.2 (by omega)
      obtain ⟨b, rfl, hcb⟩ := hrb.2 (by omega)
      obtain ⟨x, hx⟩ : ∃ x, l[k]? = some x := ⟨_, List.getElem?_eq_getElem (by omega)⟩
      have hg : (bv l)[k]? = some (.int .u8 (x.toNat : Int)) := by rw [bv_get, hx]; rfl
      have ca := hca k _ hg
      have cb := hcb k _ hg
      clear hg hca hcb hra hrb hl hx
      go_wp2
      go_quiet (fail)
      have hmq : Mod Non wr (wr.drewN nq) := (Mod.refl _ _).drewN nq
      go_wp2
      go_roundw
      case rel => exact ⟨k + 1, by omega, by go_num, hm.trans hmq⟩
      case measure => simp [intOf]; omega
    · obtain rfl : k = n := by omega
      go_wp2
      go_ret
      exact ⟨rfl, hm⟩
end
end Go.Proofs.YtgillcppnpkkiaaGreatDoor
