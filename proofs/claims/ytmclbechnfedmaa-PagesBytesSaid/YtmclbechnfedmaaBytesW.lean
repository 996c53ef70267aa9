/- PagesBytes: the walk. -/
import Derived.Test.YtmclbechnfedmaaBytes
namespace Go.Proofs.Ytmclbechnfedmaa
open Go Go.RowKit
section
variable {w : World}
/-- A disk that is newer than the world. -/
structure NewDisk (w : World) (d k : Nat) (wr : World) (D : Dk) : Prop where
  rep : DiskRep wr d D
  len : D.now.length ≤ k
  new : ∀ b, DS d D b → w.heap.size ≤ b
  mod : Mod Non w wr
theorem NewDisk.grow {d k n : Nat} {wr w' : World} {D D' : Dk} (h : NewDisk w d k wr D) (hg : Grown wr d D w' D' n) : NewDisk w d (k + n) w' D' :=
  ⟨hg.step.rep, by have := hg.len; have := h.len; omega, fun b hb => (hg.step.old b hb).elim (h.new b) (fun e => Nat.le_trans h.mod.size e), h.mod.andThen hg.step.mod (fun b hb hlt => by have := h.new b hb; omega)⟩
theorem NewDisk.non {d k : Nat} {wr w' : World} {D : Dk} (h : NewDisk w d k wr D) (hm : Mod Non wr w') : NewDisk w d k w' D :=
  ⟨h.rep.non hm, h.len, h.new, h.mod.trans hm⟩

theorem dknew_new {d n B b : Nat} (hd : B ≤ d) (hb : DS d (Dk.new n) b) : B ≤ b := by
  rcases hb with h | h | h | ⟨f, ⟨y, hy | hy, _⟩, _⟩
  · omega
  · cases h
  · cases h
  · cases hy
  · cases hy
set_option maxHeartbeats 2000000 in
set_option maxRecDepth 100000 in
theorem bytes_ok {A0 A1 : Option Addr} {c0 c1 : Nat} {l : List (ByteArray × List UInt8)} {fr : List UInt8} (hr : RowsF w A0 l) (hl : l.length ≤ maxLen) (hf : RowAt w A1 fr.length 1 (bv fr)) (hfl : fr.length ≤ maxLen) :
    Calls Try.prog 4 #[.slice A0 l.length c0, .slice A1 fr.length c1] w fun e w' => e = .returned (.bool true) ∧ Mod Non w w' := by
  have HR := Lib.hid hr
  have HF := Lib.hid hf
  have hl' : l.length ≤ 9223372036854775807 := hl
  have hfl' : fr.length ≤ 9223372036854775807 := hfl
  clear hr hf
  go_enter Try.func4, Try.ntmps4
  go_wp2_with (go_at_call 13; refine (disk_new w 4194304 (by decide) (by decide)).mono ?_; rintro e w1 ⟨d, rfl, hd1, hdr, hm1⟩
               have HD1 : Hid (NewDisk w d 0 w1 (Dk.new 4194304)) := Lib.hid ⟨hdr, Nat.le_refl _, fun b hb => dknew_new hd1 hb, hm1⟩
               clear hdr hm1 hd1)
  go_loopw [7] (fun i wr => ∃ (k : Nat) (D : Dk), k ≤ l.length ∧ k ≤ 30 ∧ i = .int .i64 k ∧ NewDisk w d k wr D) (fun i _ => l.length - (intOf i).toNat)
  case atStart => exact ⟨0, _, Nat.zero_le _, Nat.zero_le _, rfl, HD1.out⟩
  case round =>
    obtain ⟨k, D, hk, hk30, rfl, hnd⟩ := hrel
    by_cases hgo : k < l.length ∧ k < 30
    · obtain ⟨hlt, hlt30⟩ := hgo
      obtain ⟨x, hx⟩ : ∃ x, l[k]? = some x := ⟨_, List.getElem?_eq_getElem hlt⟩
      obtain ⟨s, b⟩ := x
      obtain ⟨ad, A', c', rfl, hc, hc2, hrow, hsz, hbz⟩ := (HR.out.non hnd.mod) k _ hx
      rw [← add_of_add] at hc2
      have HC := Lib.hid (create_gen hnd.rep s hsz (by have := hnd.len; omega))
      have HX := Lib.hid hx
      have HN := Lib.hid hnd
      have HRW := Lib.hid hrow
      clear hnd hx hrow
      go_wp2_with (go_at_call 14; refine HC.out.mono ?_; rintro e w2 ⟨⟨r2, rfl⟩, D2, hg2⟩
                   have HN2 := Lib.hid (HN.out.grow hg2)
                   clear hg2)
      refine wp_tail 11 (by kernel_rfl) (by kernel_rfl) (fun w3 hm3 => ?_)
      simp only [List.take_succ_cons, List.take_zero, List.drop_succ_cons, List.drop_zero]
      have HN3 := Lib.hid (HN2.out.non hm3)
      have hmr := hm3
      obtain ⟨ad', A3, c3, hA3, hd3, he3, hrow3, hsz3, hbz3⟩ := (HR.out.non HN3.out.mod) k _ HX.out
      cases hA3
      rw [← add_of_add] at he3
      have ce3 : w3.cell? ⟨(ad.add (k * 2)).block, (ad.add (k * 2)).off + 1, none⟩ = some (.slice A3 b.length c3) := he3
      clear he3
      have HA := Lib.hid (append_any HN3.out.rep s hsz3 A3 b.length c3 b hrow3 hbz3)
      clear hc hc2 hrow3
      iterate 11 still_step
      refine wpStill_nil ?_
      go_wp2_with (fail)
      go_simp
      refine HA.out.mono ?_
      rintro e w4 ⟨⟨r4, rfl⟩, D4, hg4⟩
      have HN4 := Lib.hid (HN3.out.grow hg4)
      clear hg4
      go_wp2
      go_roundw
      case rel => exact ⟨k + 1, _, by omega, by omega, by go_num, HN4.out⟩
      case measure => simp [intOf]; omega
    · have hex : (k < l.length ∧ k = 30) ∨ k = l.length := by omega
      clear hgo
      rcases hex with ⟨h1, rfl⟩ | rfl
      all_goals
        have HN := Lib.hid hnd
        have HO := Lib.hid (open_gen hnd.rep (by have := hnd.len; omega))
        clear hnd
        go_wp2_with (first
          | (go_at_call 16; refine HO.out.mono ?_
             clear HO
             rintro e w2 (⟨r2, (rfl | rfl), rfl, _, hm2⟩ | ⟨p, G, D2, f, rfl, hop, hgd, hps, hds, hz, hln, _, hm2⟩)
             rotate_right
             have hwz := HN.out.mod.size
             have hD2l : D2.now.length ≤ 31 := by have := HN.out.len; omega
             have HM2 := Lib.hid (HN.out.mod.andThen hm2 (fun b hb hlt => by have := HN.out.new b hb; omega))
             have HX2 : Hid ((∀ b, PS p G b → w.heap.size ≤ b) ∧ (∀ b, DS G.d D2 b → w.heap.size ≤ b) ∧ G.d = d) := Lib.hid ⟨fun b hb => Nat.le_trans hwz (hps b hb), fun b hb => by rw [hgd] at hb; exact (hds b hb).elim (HN.out.new b) (fun e => Nat.le_trans hwz e), hgd⟩
             have HOp := Lib.hid hop
             have HNw := Lib.hid (new_any hop.pag)
             clear hop hgd hps hds hz hln hm2 hwz
             rotate_left
             have HML := Lib.hid (HN.out.mod.andThen hm2 (fun b hb hlt => by have := HN.out.new b hb; omega))
             clear hm2
             rotate_left
             have HML := Lib.hid (HN.out.mod.andThen hm2 (fun b hb hlt => by have := HN.out.new b hb; omega))
             clear hm2
             rotate_left)
          | (go_at_call 11; refine HNw.out.mono ?_
             clear HNw
             rintro e w3 (⟨n, hn1, hn2, rfl, hrep3, hm3⟩ | ⟨rfl, hm3⟩)
             rotate_left
             have HML := Lib.hid (HM2.out.andThen hm3 (fun b hb hlt => by have := HX2.out.1 b hb; omega))
             clear hm3
             rotate_left
             have HM3 := Lib.hid (HM2.out.andThen hm3 (fun b hb hlt => by have := HX2.out.1 b hb; omega))
             have HPt := Lib.hid (put_any hrep3 HOp.out.dirty A1 fr.length c1 fr (HF.out.non (by decide) HM3.out))
             have HM23 := Lib.hid hm3
             clear hrep3 hm3)
          | (go_at_call 17; refine HPt.out.mono ?_
             clear HPt
             rintro e w4 ⟨hre, G4, x4, ht, hrep4, hm4⟩
             have hm24 := HM23.out.trans hm4
             have HM4 := Lib.hid (HM3.out.andThen hm4 (fun b hb hlt => by have := HX2.out.1 b hb; omega))
             have hdk4 : DiskRep w4 G4.d D2 := by
               rw [ht.d]
               exact HOp.out.disk.mod hm24 (fun b hb hp => HOp.out.apart b hp hb)
             have hap4 : Apart p G4 D2 := fun b hb hd => HOp.out.apart b ((ht.ps p b).1 hb) (by rw [ht.d] at hd; exact hd)
             have HS4 : Hid (∀ b, (PS p G4 b ∨ DS G4.d D2 b) → w.heap.size ≤ b) := Lib.hid fun b hb => hb.elim (fun h => HX2.out.1 b ((ht.ps p b).1 h)) (fun h => HX2.out.2.1 b (by rw [ht.d] at h; exact h))
             have HLen := Lib.hid hrep4.len
             have HT := Lib.hid ht
             have HCm := Lib.hid (commit_gen hrep4 hdk4 hap4 (by rw [ht.root]; exact HOp.out.root) f HOp.out.look HOp.out.kept (ht.size.trans HOp.out.size) (by omega) [n] ht.dirty (by simp) (by simp) (by simp) (fun k hk => by simp at hk; omega) (fun k hk => by have := ht.few HOp.out.few hn1 hn2 k hk; omega))
             clear ht hrep4 hm4 hm24 hdk4 hap4 HM23
             rcases hre with ⟨rfl, hle4⟩ | ⟨rfl, hgt4⟩)
          | (go_at_call 18; refine HCm.out.mono ?_
             clear HCm
             rintro e w5 (⟨rfl, hm5⟩ | ⟨rfl, D5, f5, l5, sz5, hpl, hrep5d, hrep5p, hlk5, hsu5, hby5, hz5, hln5, hds5, hap5, hm5⟩)
             have HML := Lib.hid (HM4.out.andThen hm5 (fun b hb hlt => by have := HS4.out b hb; omega))
             clear hm5
             rotate_left
             have HM5 := Lib.hid (HM4.out.andThen hm5 (fun b hb hlt => by have := HS4.out b hb; omega))
             have hr5 : DiskRep w5 d D5 := by
               have := hrep5d
               rw [HT.out.d, HX2.out.2.2] at this
               exact this
             have HFl := Lib.hid (fail_ok hr5)
             have HPar := Lib.hid (parse_left HT.out HLen.out hn1 hn2 HOp.out.root HOp.out.few HOp.out.parse hpl hby5)
             have HG5 := Lib.hid hrep5p
             have HX5 := Lib.hid (And.intro hlk5 (And.intro hsu5 (And.intro hap5 hds5)))
             have hkl5 : D5.kept.length ≤ 32 := by omega
             clear hpl hrep5d hrep5p hlk5 hsu5 hby5 hz5 hln5 hds5 hap5 hm5 hr5
             rotate_right)
          | (go_at_call 19; refine HFl.out.mono ?_
             clear HFl
             rintro e w6 ⟨xd, E, rfl, hrep6, hx6, hds6, hz6, hln6, hlk6, hm6⟩
             have HM6 := Lib.hid (HM5.out.trans hm6)
             have HO2 := Lib.hid (open_gen hrep6 (by omega))
             have HE : Hid (∃ g root now, look E.now nameB = some g ∧ parse (E.by_ g) = .part root now true ∧ now n = some x4) := by
               obtain ⟨g, e1, e2⟩ := hlk6 nameB f5 HX5.out.1
               obtain ⟨root, now, e3, e4⟩ := HPar.out
               rw [HX5.out.2.1, List.take_length] at e2
               exact Lib.hid ⟨g, root, now, e1, by rw [e2]; exact e3, e4⟩
             have HX6 : Hid (∀ b, DS xd E b → DS d D5 b ∨ w5.heap.size ≤ b) := Lib.hid hds6
             have HM56 := Lib.hid hm6
             clear hrep6 hx6 hds6 hz6 hln6 hlk6 hm6)
          | (go_at_call 16; refine HO2.out.mono ?_
             clear HO2
             rintro e w7 (⟨r7, _, _, hno7, _⟩ | ⟨p2, G2, D7, f7, rfl, hop7, hgd7, hps7, hds7, hz7, hln7, hnow7, hm7⟩)
             exact HE.out.elim (fun g h => h.elim (fun root h => h.elim (fun now h => absurd h.2.1 (hno7 g root now h.1))))
             have hn7 : G2.now n = some x4 := by
               obtain ⟨g, root, now, e1, e2, e3⟩ := HE.out
               rw [hnow7 g root now e1 e2]
               exact e3
             have hnew7 : ∀ b, DS xd E b → w.heap.size ≤ b := fun b hb => (HX6.out b hb).elim (fun h => (HX5.out.2.2.2 b (by rw [HT.out.d, HX2.out.2.2]; exact h)).elim (fun h => HS4.out b (.inr h)) (fun e => by have := HM4.out.size; omega)) (fun e => by have := HM5.out.size; omega)
             have HM7 := Lib.hid (HM6.out.andThen hm7 (fun b hb hlt => by have := hnew7 b hb; omega))
             have hpg7 := (HG5.out.non HM56.out).mod hm7 (fun b hb hd => (HX6.out b hd).elim (fun h => HX5.out.2.2.1 b hb (by rw [HT.out.d, HX2.out.2.2]; exact h)) (fun e => by have := HG5.out.lt hb; omega))
             have HGet1 := Lib.hid (get_ok hpg7 n x4 HT.out.at_)
             have HQ7 := Lib.hid hop7.pag
             have HN7 := Lib.hid hn7
             clear hop7 hgd7 hps7 hds7 hz7 hln7 hnow7 hm7 hn7 hnew7 hpg7)
          | (go_at_call 12; refine HGet1.out.mono ?_
             clear HGet1
             rintro e w8 ⟨g8, rfl, hf8, hm8⟩
             have HM8 := Lib.hid (HM7.out.trans hm8)
             have HF8 := Lib.hid hf8.row
             have HGet2 := Lib.hid (get_ok (HQ7.out.non hm8) n x4 HN7.out)
             clear hf8 hm8)
          | (go_at_call 12; refine HGet2.out.mono ?_
             clear HGet2
             rintro e w9 ⟨g9, rfl, hf9, hm9⟩
             have HM9 := Lib.hid (HM8.out.trans hm9)
             have HSb := Lib.hid (same_bytes (c1 := 256) (c2 := 256) (HF8.out.non (by decide) hm9) hf9.row (by decide))
             clear hf9 hm9)
          | (go_at_call 20; refine HSb.out.mono ?_
             rintro e w10 ⟨rfl, hm10⟩
             have HML := Lib.hid (HM9.out.trans hm10)
             clear hm10)
          | (go_at_call 7; refine (lives_ok _).mono ?_; rintro e w20 ⟨rfl, hm20⟩))
        all_goals go_ret
        all_goals first
          | exact ⟨rfl, HML.out.trans hm20⟩
          | exact ⟨congrArg (fun b => Ending.returned (.bool !b)) (decide_eq_false (by omega : ¬ ((fr.length : Int) ≤ 256))), HML.out.trans hm20⟩
end
end Go.Proofs.Ytmclbechnfedmaa
