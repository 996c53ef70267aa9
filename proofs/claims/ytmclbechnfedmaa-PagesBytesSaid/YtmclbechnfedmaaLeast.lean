/- PagesLeast: the walk. -/
import Derived.Test.YtmclbechnfedmaaFit
namespace Go.Proofs.Ytmclbechnfedmaa
open Go Go.RowKit
section
variable {w : World} {p : Nat} {G : Pg}
theorem bv_at {fr : List UInt8} {k : Nat} (hk : k < fr.length) : ∃ x : Nat, x < 256 ∧ (bv fr)[k]? = some (.int .u8 (x : Int)) := by
  refine ⟨fr[k].toNat, fr[k].toNat_lt, ?_⟩
  rw [bv_get, List.getElem?_eq_getElem hk]
  rfl
theorem zero_cells {g : Nat} (h : RowAt w (some ⟨g, 0, none⟩) 256 1 (bv zero256)) (k : Nat) (hk : k < 256) : w.cell? ⟨g, k, none⟩ = some (.int .u8 0) := by
  obtain ⟨ad, e, hc⟩ := h.2 (by omega)
  cases e
  have := hc k (.int .u8 0) (by rw [bv_get]; unfold zero256; rw [List.getElem?_replicate, if_pos hk]; rfl)
  rwa [add_lit] at this
theorem freed_now {k m : Nat} (h : (((G.freed k).now m).isSome = true)) : (G.now m).isSome = true := by
  have h : (upd G.now k none m).isSome = true := h
  by_cases hm : m = k
  · subst hm
    rw [upd_same] at h
    cases h
  · rwa [upd_other _ _ hm] at h
theorem new_at (h : PagRep w p G) (L : Nat) (h1 : 1 ≤ L) (h2 : L ≤ 4000) (hlow : ∀ m, 1 ≤ m → m < L → (G.now m).isSome = true) (hnone : G.now L = none) :
    Calls Try.prog 11 #[.pointer (some ⟨p, 0, none⟩)] w fun e w' => e = .returned (.tuple #[.int .u32 L, .int .i64 0]) ∧ PagRep w' p (G.newed L) ∧ Mod (PS p G) w w' := by
  obtain ⟨k, rfl⟩ : ∃ k, L = k + 1 := ⟨L - 1, by omega⟩
  exact new_ok h k (by omega) (fun j hj => hlow (j + 1) (by omega) (by omega)) hnone

set_option maxHeartbeats 2000000 in
set_option maxRecDepth 100000 in
theorem least_ok {A0 A1 : Option Addr} {c0 c1 : Nat} {l : List (List UInt8)} {fr : List UInt8} (hr : Rows2 w A0 l) (hl : l.length ≤ maxLen) (hf : RowAt w A1 fr.length 1 (bv fr)) (hfl : fr.length ≤ maxLen) :
    Calls Try.prog 3 #[.slice A0 l.length c0, .slice A1 fr.length c1] w fun e w' => e = .returned (.bool true) ∧ Mod Non w w' := by
  have HR := Lib.hid hr
  have HF := Lib.hid hf
  have hfl2 : fr.length ≤ 9223372036854775807 := hfl
  clear hr hf hfl
  by_cases h200 : 200 < fr.length
  · go_enter Try.func3, Try.ntmps3
    go_wp2_with (first
      | (go_at_call 5; refine (opened_ok w).mono ?_; rintro e w1 ⟨d, p, m1, m2, m3, D, f, rfl, _, _, _, _, _, _, _, _, hm1⟩)
      | (go_at_call 6; refine (fit_ok (HR.out.non hm1) hl).mono ?_; rintro e w2 ⟨⟨r, rfl, hr2⟩, rfl⟩; rcases r with _ | _)
      | (go_at_call 7; refine (lives_ok _).mono ?_; rintro e w3 ⟨rfl, hm3⟩))
    all_goals
      go_ret
      exact ⟨rfl, hm1.trans hm3⟩
  · go_enter Try.func3, Try.ntmps3
    have hf200 : fr.length ≤ 200 := by omega
    clear h200
    go_wp2_with (first
      | (go_at_call 5; refine (opened_ok w).mono ?_; rintro e w1 ⟨d, p, m1, m2, m3, D, f, rfl, hrep, _, hps, _, _, _, _, _, hm1⟩
         have HP1 := Lib.hid hrep
         have HS1 := Lib.hid hps
         clear hrep hps)
      | (go_at_call 6; refine (fit_ok (HR.out.non hm1) hl).mono ?_; rintro e w2 ⟨⟨r, rfl, hr2⟩, rfl⟩
         have HR2 := Lib.hid hr2
         clear hr2
         rcases r with _ | _)
      | (go_at_call 7; refine (lives_ok _).mono ?_; rintro e w3 ⟨rfl, hm3⟩)
      | (go_at_call 8; refine (laid_ok HP1.out (fun _ => rfl) HR.out hm1 HS1.out (HR2.out trivial).1 (HR2.out trivial).2).mono ?_; rintro e w3 ⟨rfl, G3, hrep3, hps3, hnow3, hm3⟩
         have hl200 : l.length ≤ 200 := (HR2.out trivial).1
         have HP3 := Lib.hid hrep3
         have HX3 := Lib.hid (And.intro hps3 (And.intro hnow3 hm3))
         clear hrep3 hps3 hnow3 hm3))
    · go_ret
      exact ⟨rfl, hm1.trans hm3⟩
    · go_loopw [7] (fun i wr => ∃ (k : Nat) (G' : Pg), k ≤ fr.length ∧ i = .int .i64 k ∧ PagRep wr p G' ∧ (∀ b, PS p G' b → w.heap.size ≤ b) ∧ (∀ m, (G'.now m).isSome = true → 1 ≤ m ∧ m ≤ 200) ∧ Mod Non w wr) (fun i _ => fr.length - (intOf i).toNat)
      case atStart => exact ⟨0, G3, by omega, rfl, HP3.out, HX3.out.1, fun m hm => by have := (HX3.out.2.1 m).1 hm; omega, HX3.out.2.2⟩
      case round =>
        obtain ⟨k, G', hk, rfl, hrep, hps', hnow, hm⟩ := hrel
        have HX := Lib.hid (And.intro hps' (And.intro hnow hm))
        have HP := Lib.hid hrep
        clear hps' hnow hm hrep
        by_cases hlt : k < fr.length
        · obtain ⟨x, hx, hbx⟩ := bv_at hlt
          obtain ⟨ad, u, rfl, hu, hc⟩ := (HF.out.non (by decide) HX.out.2.2).at1 hlt
          rw [hbx] at hu
          cases hu
          rcases hg : G'.now x with _ | y
          · have HG := Lib.hid hg
            clear hg hbx
            go_wp2_with (go_at_call 9; refine (free_none HP.out x HG.out).mono ?_; rintro e w4 ⟨rfl, hm4⟩)
            go_roundw
            case rel => exact ⟨k + 1, G', by omega, by go_num, HP.out.non hm4, HX.out.1, HX.out.2.1, HX.out.2.2.trans hm4⟩
            case measure => simp [intOf]; omega
          · have HG := Lib.hid hg
            clear hg hbx
            go_wp2_with (go_at_call 9; refine (free_ok HP.out x y HG.out).mono ?_; rintro e w4 ⟨rfl, hrep4, hm4⟩)
            go_roundw
            case rel => exact ⟨k + 1, _, by omega, by go_num, hrep4, HX.out.1, fun m hm => HX.out.2.1 m (freed_now hm), HX.out.2.2.andThen hm4 (fun b hb hlt => by have := HX.out.1 b hb; omega)⟩
            case measure => simp [intOf]; omega
        · have hke : k = fr.length := by omega
          go_wp2_with (first
            | (go_at_call 10; refine (used_ok HP.out).mono ?_; rintro e w4 ⟨Au, rfl, hru, _, hm4⟩
               have HU := Lib.hid hru
               clear hru))
          have hmem : ∀ n, n ∈ used G'.has 4000 ↔ (G'.now n).isSome = true := fun n => by
            rw [mem_used]
            exact ⟨fun h => h.2.2, fun h => by have := HX.out.2.1 n h; exact ⟨this.1, by omega, h⟩⟩
          have hsort := used_sorted G'.has 4000
          have hlen := used_length G'.has 4000
          have hle200 : ∀ n, n ∈ used G'.has 4000 → n ≤ 200 := fun n hn => (HX.out.2.1 n ((hmem n).1 hn)).2
          generalize used G'.has 4000 = U at *
          have HM := Lib.hid hmem
          have HS := Lib.hid hsort
          have HL := Lib.hid hle200
          have HM4 := Lib.hid (HX.out.2.2.trans hm4)
          have HP4 := Lib.hid (HP.out.non hm4)
          clear hmem hsort hle200 hm4
          go_loopw [9, 10] (fun n i wr => ∃ (k L : Nat), k ≤ U.length ∧ i = .int .i64 k ∧ n = .int .u32 L ∧ 1 ≤ L ∧ L ≤ 201 ∧ (∀ m, 1 ≤ m → m < L → m ∈ U) ∧ (∀ (j x : Nat), j < k → U[j]? = some x → x ≠ L) ∧ wr = w4) (fun _ i _ => U.length - (intOf i).toNat)
          case atStart => exact ⟨0, 1, by omega, rfl, rfl, by omega, by omega, fun m h1 h2 => by omega, fun j x hj => absurd hj (Nat.not_lt_zero _), rfl⟩
          case round =>
            obtain ⟨k2, L, hk2, rfl, rfl, hL1, hL2, hlow, hne, rfl⟩ := hrel
            have HLow := Lib.hid hlow
            have HNe := Lib.hid hne
            clear hlow hne
            by_cases hlt2 : k2 < U.length
            · obtain ⟨x, hx⟩ : ∃ x, U[k2]? = some x := ⟨_, List.getElem?_eq_getElem hlt2⟩
              obtain ⟨ad, u, rfl, hu, hc⟩ := HU.out.at1 hlt2
              have hxu : (uv U)[k2]? = some (.int .u32 x) := by simp [uv, hx]
              rw [hxu] at hu
              cases hu
              have hx200 : x ≤ 200 := HL.out x (List.mem_of_getElem? hx)
              have HX2 := Lib.hid hx
              clear hx hxu
              by_cases hxl : x = L
              · subst hxl
                go_wp2
                go_roundw
                case rel =>
                  refine ⟨k2 + 1, x + 1, by omega, by go_num, by go_num, by omega, by omega, fun m h1 h2 => ?_, fun j y hj hy e => ?_, trivial⟩
                  · rcases Nat.lt_or_eq_of_le (Nat.le_of_lt_succ h2) with h3 | h3
                    · exact HLow.out m h1 h3
                    · rw [h3]; exact List.mem_of_getElem? HX2.out
                  · rcases Nat.lt_or_eq_of_le (Nat.le_of_lt_succ hj) with h3 | h3
                    · have h4 := List.pairwise_iff_getElem.1 HS.out j k2 (by omega) hlt2 h3
                      rw [List.getElem?_eq_getElem (by omega : j < U.length)] at hy
                      have h5 := HX2.out
                      rw [List.getElem?_eq_getElem hlt2] at h5
                      have h6 := Option.some.inj hy
                      have h7 := Option.some.inj h5
                      omega
                    · subst h3
                      rw [HX2.out] at hy
                      cases hy
                      omega
                case measure => simp [intOf]; omega
              · have hb : ((x : Int) == (L : Int)) = false := by simp; omega
                go_wp2
                go_roundw
                case rel =>
                  refine ⟨k2 + 1, L, by omega, by go_num, rfl, hL1, hL2, HLow.out, fun j y hj hy e => ?_, trivial⟩
                  rcases Nat.lt_or_eq_of_le (Nat.le_of_lt_succ hj) with h3 | h3
                  · exact HNe.out j y h3 hy e
                  · subst h3
                    rw [HX2.out] at hy
                    cases hy
                    exact hxl e
                case measure => simp [intOf]; omega
            · have hk2e : k2 = U.length := by omega
              have hnone : G'.now L = none := by
                rcases hg : G'.now L with _ | y
                · rfl
                · have h1 := (HM.out L).2 (by rw [hg]; rfl)
                  obtain ⟨j, hj, e⟩ := List.mem_iff_getElem.1 h1
                  exact absurd rfl (HNe.out j L (by omega) (by rw [← e]; exact List.getElem?_eq_getElem hj))
              have HN := Lib.hid (new_at HP4.out L hL1 (by omega) (fun m h1 h2 => (HM.out m).1 (HLow.out m h1 h2)) hnone)
              clear hnone
              go_wp2_with (first
                | (go_at_call 11; refine HN.out.mono ?_; rintro e w5 ⟨rfl, hrep5, hm5⟩
                   have HG := Lib.hid (get_ok hrep5 L zero256 (upd_same _ _ _))
                   clear hrep5)
                | (go_at_call 12; refine HG.out.mono ?_; rintro e w6 ⟨g, rfl, hf6, hm6⟩
                   have HF6 := Lib.hid hf6
                   clear hf6))
              have hcell := zero_cells HF6.out.row
              go_loopw [15] (fun i wr => ∃ k : Nat, k ≤ 256 ∧ i = .int .i64 k ∧ wr = w6) (fun i _ => 256 - (intOf i).toNat)
              case atStart => exact ⟨0, by omega, rfl, rfl⟩
              case round =>
                obtain ⟨k3, hk3, rfl, rfl⟩ := hrel
                by_cases hlt3 : k3 < 256
                · have hc3 := hcell k3 hlt3
                  clear hcell
                  go_wp2
                  go_roundw
                  case rel => exact ⟨k3 + 1, by omega, by go_num, trivial⟩
                  case measure => simp [intOf]; omega
                · have hk3e : k3 = 256 := by omega
                  subst hk3e
                  clear hcell
                  go_wp2_with (go_at_call 7; refine (lives_ok _).mono ?_; rintro e w7 ⟨rfl, hm7⟩)
                  go_ret
                  exact ⟨rfl, ((HM4.out.andThen hm5 (fun b hb hlt => by have := HX.out.1 b hb; omega)).trans hm6).trans hm7⟩
end
end Go.Proofs.Ytmclbechnfedmaa
