/- A Book: lookByte. -/
import Derived.Test.YtgillcppnpkkiaaGreatDoorBookGrowW
import Derived.BigGuard
import Derived.BigCall
import Derived.Deep.QuietTactic
import Derived.BigQuiet
namespace Go.Proofs.YtgillcppnpkkiaaGreatDoor
open Go Go.RowKit
section
variable {w w' : World} {k : Nat} {B : Bk} {S : Nat → Prop}
theorem is_q {n : Nat} {m : Int} (hm : mkv n = .int .u8 m) (hn : n ≤ 1000000) (w : World) : Calls Tryz.prog 148 #[.int .u8 m, .int .i64 n] w fun e w' => e = .returned (.bool true) ∧ w' = w := by
  have h := is_ok n hn w
  rw [hm] at h
  exact h.mono fun e w' ⟨h1, h2⟩ => ⟨h1, h2.symm⟩
set_option maxHeartbeats 2000000 in
set_option maxRecDepth 100000 in
theorem look_byte {w0 : World} {l : List HB} (h00 : BookRep w0 k B) (h0 : GrowSt w0 k B B.l.length w l) (hn : B.n ≤ 100000) : Calls Tryz.prog 96 #[.pointer (some ⟨k, 0, none⟩)] w fun e w' => e = .returned (.bool true) ∧ Mod Non w w' := by
  have hlb := h00.len
  have hlen2 : l.length ≤ B.l.length := by rw [h0.len]; exact Nat.le_refl _
  have hlen3 : B.l.length ≤ l.length := by rw [h0.len]; exact Nat.le_refl _
  have H0 := Lib.hid h0
  have H00 := Lib.hid h00
  clear h0 h00
  go_enter Tryz.func96, Tryz.ntmps96
  go_wp2
  go_loopw [3] (fun i wr => ∃ j : Nat, j ≤ B.l.length ∧ i = .int .i64 j ∧ Mod Non w wr) (fun i _ => B.l.length - (intOf i).toNat)
  case atStart => exact ⟨0, Nat.zero_le _, rfl, Mod.refl _ _⟩
  case round =>
    obtain ⟨j, hj, rfl, hm⟩ := hrel
    have hbk := H0.out.blk.mod hm (fun x => x)
    have c := hbk.cell
    unfold bkc at c
    by_cases hlt : j < B.l.length
    · obtain ⟨gv, cv, cur, ev, hbv, hcm, hlc, hcs, ht, hit⟩ := H0.out.items (by omega)
      rw [ev] at c
      obtain ⟨x, hx⟩ : ∃ x, B.l[j]? = some x := ⟨_, List.getElem?_eq_getElem hlt⟩
      obtain ⟨y, hy, y1, y2, y3, y4, _, hlo⟩ := H0.out.same j x hx
      obtain ⟨gl, cl, el, hml, _⟩ := hlo hlt
      obtain ⟨k0, k1, k2⟩ := hit j y hy
      rw [el, y2] at k1
      rw [y2, y3] at k0
      have hya : y.a = x.a := by unfold HB.a; rw [y1]
      rw [hya] at k0
      rw [y4] at k2
      rw [y2, y4] at hml
      have hmk : ∀ g, x.g = some g → Marked wr g x.len x.cap x.n := fun g e => (H0.out.marked j x g hx e).mod hm (fun x => x)
      have hmlr := hml.mod hm (fun x => x)
      have hx0 := H00.out.ok x (List.mem_of_getElem? hx)
      have hxn := (H00.out.num x (List.mem_of_getElem? hx)).1
      have hle := hx0.le
      have hmax := hx0.max
      have HNO := Lib.hid hx0.none
      have cb := (hbv.mod hm (fun x => x)).cell
      have c0 : wr.cell? ⟨gv, j * 3, none⟩ = some (.slice x.a x.len x.cap) := (cb _).trans k0
      have c1 : wr.cell? ⟨gv, j * 3 + 1, none⟩ = some (.slice (some ⟨gl, 0, none⟩) (x.len + 40) cl) := (cb _).trans k1
      have c2 : wr.cell? ⟨gv, j * 3 + 2, none⟩ = some (.int .i64 x.n) := (cb _).trans k2
      obtain ⟨A, hA⟩ : ∃ A, A = x.a := ⟨_, rfl⟩
      rw [← hA] at c0
      have hcv : cv ≤ 9223372036854775807 := hcm
      have hjl : j < l.length := by omega
      have HA := Lib.hid hA
      have HMK := Lib.hid hmk
      have HML := Lib.hid hmlr
      clear hx hy y1 y2 y3 y4 k0 k1 k2 hya ev hbv hcs ht hmk hA cb hx0 hit hlo el hml hmlr hbk hlc
      go_wp2
      have HH1 := Lib.hid (Blk.new wr 128 #[.slice A x.len x.cap, .slice (some ⟨gl, 0, none⟩) (x.len + 40) cl, .int .i64 x.n])
      have HM1 : Hid (Mod Non wr (wr.alloc (.cells #[.slice A x.len x.cap, .slice (some ⟨gl, 0, none⟩) (x.len + 40) cl, .int .i64 x.n] 128))) := Lib.hid ((Mod.refl _ _).alloc _)
      have HM01 := Lib.hid (hm.trans HM1.out)
      generalize wr.alloc (.cells #[.slice A x.len x.cap, .slice (some ⟨gl, 0, none⟩) (x.len + 40) cl, .int .i64 x.n] 128) = w1 at *
      generalize wr.heap.size = hB at *
      clear c c0 c1 c2 hm
      obtain ⟨m, hm⟩ : ∃ m : Int, mkv x.n = .int .u8 m := ⟨_, rfl⟩
      have HMv := Lib.hid hm
      have HIS : ∀ W, Hid (Calls Tryz.prog 148 #[.int .u8 m, .int .i64 x.n] W fun e w' => e = .returned (.bool true) ∧ w' = W) := fun W => Lib.hid (is_q HMv.out (by omega) W)
      clear hm
      go_loopw [5] (fun t w2 => ∃ q : Nat, q ≤ x.len + 40 ∧ t = .int .i64 q ∧ Mod Non w1 w2) (fun t _ => x.len + 40 - (intOf t).toNat)
      case atStart => exact ⟨0, by omega, rfl, Mod.refl _ _⟩
      case round =>
        obtain ⟨q, hq, rfl, hm2⟩ := hrel
        have ch := (HH1.out.mod hm2 (fun x => x)).cell
        by_cases hqe : q < x.len + 40
        · have cq := ((HML.out.mod HM1.out (fun x => x)).mod hm2 (fun x => x)).cell hqe
          rw [HMv.out] at cq
          by_cases hql : q < x.len
          · obtain ⟨g, hg⟩ : ∃ g, x.g = some g := by
              cases hg : x.g with
              | none => have := (HNO.out hg).1; omega
              | some g => exact ⟨g, rfl⟩
            have hAg : A = some ⟨g, 0, none⟩ := by rw [HA.out]; unfold HB.a; rw [hg]; rfl
            have cp := (((HMK.out g hg).mod HM1.out (fun x => x)).mod hm2 (fun x => x)).cell hql
            rw [HMv.out] at cp
            rw [hAg] at ch
            have hd : decide ((q : Int) < (x.len : Int)) = true := decide_eq_true (by omega)
            clear hg hAg
            go_wp2
            go_quiet (first | (go_at_call 148; exact Calls.quiet_of_same (HIS _).out))
            have hmq : Mod Non wr (wr.drewN nq) := (Mod.refl _ _).drewN nq
            go_wp2
            go_roundw
            case rel => exact ⟨q + 1, by omega, by go_num, hm2.trans hmq⟩
            case measure => simp [intOf]; omega
          · have hd : decide ((q : Int) < (x.len : Int)) = false := decide_eq_false (by omega)
            go_wp2
            go_quiet (first | (go_at_call 148; exact Calls.quiet_of_same (HIS _).out))
            have hmq : Mod Non wr (wr.drewN nq) := (Mod.refl _ _).drewN nq
            go_wp2
            go_roundw
            case rel => exact ⟨q + 1, by omega, by go_num, hm2.trans hmq⟩
            case measure => simp [intOf]; omega
        · obtain rfl : q = x.len + 40 := by omega
          clear hqe
          go_wp2
          go_roundw
          case rel => exact ⟨j + 1, by omega, by go_num, HM01.out.trans hm2⟩
          case measure => simp [intOf]; omega
    · obtain rfl : j = B.l.length := by omega
      clear hlt
      obtain ⟨Av, cv, ev, _, _, _⟩ := owns_form H0.out.own
      rw [ev] at c
      clear ev
      go_wp2
      go_ret
      exact ⟨rfl, hm⟩
end
end Go.Proofs.YtgillcppnpkkiaaGreatDoor
