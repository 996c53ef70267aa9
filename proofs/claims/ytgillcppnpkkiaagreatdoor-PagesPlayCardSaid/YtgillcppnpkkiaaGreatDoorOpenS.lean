/- Open, of a new disk of 4 MiB: nothing is there. -/
import Derived.Test.YtgillcppnpkkiaaGreatDoorOpenW
namespace Go.Proofs.YtgillcppnpkkiaaGreatDoor
open Go Go.RowKit
section
variable {w w' : World} {p d : Nat} {G : Pg} {D : Dk}
def b00 : List UInt8 := [1, 0]
theorem new_record0 (d m1 m2 m3 : Nat) : (Pg.new d m1 m2 m3).record (used (Pg.new d m1 m2 m3).has 4000) = b00 := by
  rw [new_has, used_none]
  show enc (enc 0 ++ []).length ++ (enc 0 ++ []) = b00
  decide
theorem parse_b00 : parse b00 = .part 0 (fun _ => none) true := by
  rw [← new_record0 0 0 0 0]
  exact parse_record (by show 0 < _; decide) (fun k hk => (by cases hk)) (fun n x hx => (by cases hx))
theorem anew_first {m1 m2 m3 : Nat} (h1 : PagRep w p (Pg.new d m1 m2 m3)) (h2 : DiskRep w d (Dk.new 4194304)) (h3 : Apart p (Pg.new d m1 m2 m3) (Dk.new 4194304)) :
    Calls Tryz.prog 40 #[.pointer (some ⟨p, 0, none⟩)] w fun e w' => e = .returned (.int .i64 0) ∧ ∃ D' f, DiskRep w' d D' ∧ (∀ b, DS d D' b → DS d (Dk.new 4194304) b ∨ w.heap.size ≤ b) ∧ PagRep w' p { Pg.new d m1 m2 m3 with size := 2 } ∧
      OneFile D' f b00 ∧ Mod (fun b => PS p (Pg.new d m1 m2 m3) b ∨ DS d (Dk.new 4194304) b) w w' := by
  have hr := new_record0 d m1 m2 m3
  refine (anew_one h1 h2 h3 (by show 0 < _; decide) ⟨Nat.zero_le _, rfl, fun t _ _ => rfl⟩ (by rw [hr]; decide)).mono ?_
  rintro e w' ⟨he, D', f, g1, g2, g3, g4, g5⟩
  rw [hr] at g3 g4
  exact ⟨he, D', f, g1, g2, g3, g4, g5⟩
set_option maxHeartbeats 1000000 in
set_option maxRecDepth 100000 in
theorem open_first (h : DiskRep w d (Dk.new 4194304)) :
    Calls Tryz.prog 7 #[.pointer (some ⟨d, 0, none⟩)] w fun e w' => OpenOne w d (Dk.new 4194304) b00 0 (fun _ => none) e w' := by
  have HS := Lib.hid (size_none h nameB may_name rfl)
  unfold nameB at HS
  have H := Lib.hid h
  have tok1 : Hid True := trivial
  have tok2 : Hid True := trivial
  have tok3 : Hid True := trivial
  clear h
  go_enter Tryz.func7, Tryz.ntmps7
  go_wp2_with (first
    | (go_at_call 36; refine HS.out.mono ?_; rintro e w1 ⟨rfl, hm1⟩)
    | (clear tok1; refine wpl_makeMap rfl rfl ?_; intro w2 hA2 hmA2 hsA2)
    | (clear tok2; refine wpl_makeMap rfl rfl ?_; intro w3 hA3 hmA3 hsA3)
    | (clear tok3; refine wpl_makeMap rfl rfl ?_; intro w4 hA4 hmA4 hsA4
       have hb5 := Blk.new w4 86 (Pg.new d w1.heap.size w2.heap.size w3.heap.size).cells
       have cb5 := hb5.cell
       have fb5 := hb5.frozen
       unfold Pg.cells Pg.new at cb5 fb5
       have HB5 := Lib.hid (opened_now H.out hb5 hm1 hA2 hmA2 hsA2.out hA3 hmA3 hsA3.out hA4 hmA4 hsA4.out)
       clear hb5)
    | (go_at_call 40; refine (anew_first HB5.out.1 HB5.out.2.1 HB5.out.2.2.1).mono ?_; rintro e w6 ⟨rfl, D6, f6, hrep6, hold6, hpag6, hof6, hm6⟩
       have hnow6 := hof6.now
       have HR6 := Lib.hid (remove_none hrep6 freshB may_fresh (by rw [hnow6]; exact look_fresh f6))
       have HP6 := Lib.hid hpag6
       have hap6 : Apart w4.heap.size (Pg.new d w1.heap.size w2.heap.size w3.heap.size) D6 := fun b hb hd => (hold6 b hd).elim (HB5.out.2.2.1 b hb) (fun e => by have := HB5.out.1.lt hb; omega)
       have HX6 := Lib.hid (And.intro hap6 (And.intro hold6 (And.intro hof6 hm6)))
       have HD6 := Lib.hid hrep6
       unfold freshB at HR6
       clear hold6 hpag6 hnow6 hof6 hm6 hrep6)
    | (go_at_call 41; refine HR6.out.mono ?_; rintro e w7 ⟨rfl, hm7⟩)
    | (go_at_call 42; refine (names_ok (HD6.out.non hm7)).mono ?_; rintro e w8 ⟨rfl, vk, hst8⟩
       have hp8 := (HP6.out.non hm7).mod hst8.mod HX6.out.1
       have cp8 := hp8.blk.cell
       unfold Pg.cells Pg.new at cp8
       have HP8 := Lib.hid hp8
       have HS8 := Lib.hid hst8
       clear hst8 hp8)
    | (at_range; refine wpl_range rfl _ rfl und_mapPage rfl HP8.out.now ?_; intro w9 left0 hit0 hm9 hsz9))
  have HI9 := Lib.hid hit0
  have HM9 := Lib.hid hm9
  clear hit0 hm9 hsz9
  go_loopw [13] (fun _ wr => ∃ vis left, IterRep wr w8.heap.size w1.heap.size (mapV (fun _ => none)) vis left ∧ Mod Non w8 wr) (fun _ wr => iterLeft wr w1.heap.size w8.heap.size)
  case atStart => exact ⟨[], left0, HI9.out, HM9.out⟩
  case round =>
    obtain ⟨vis, left, hit, hm⟩ := hrel
    have HM := Lib.hid hm
    clear hm
    go_wp2_with (first
      | (at_next
         refine wpl_next rfl (.tmp 96) rfl rfl hit ?_ ?_
         intro w10 hm10 hall
         have HP10 := Lib.hid ((HP8.out.non HM.out).non hm10)
         rotate_left
         intro w10 k v left' hm10 hfk hnv hlt hit2 hent
         exact absurd hfk (by simp [mapV]))
      | (go_at_call 43; refine (keep_ok HP10.out).mono ?_; rintro e w11 ⟨rfl, hrep11, hm11⟩))
    go_ret2
    have hap8 : Apart w4.heap.size (Pg.new d w1.heap.size w2.heap.size w3.heap.size) (D6.setKept vk D6.now) := fun b hb hd => (HS8.out.old b hd).elim (HX6.out.1 b hb) (fun e => by have h1 := HP6.out.lt hb; have h2 := hm7.size; omega)
    have hm8 : Mod Non w8 w10 := HM.out.trans hm10
    obtain ⟨_, hold6, hof6, hm6⟩ := HX6.out
    have hDS : ∀ b, DS d (D6.setKept vk D6.now) b → b = d ∨ w.heap.size ≤ b := fun b hb => by
      have hsz := HB5.out.2.2.2.2.size
      rcases HS8.out.old b hb with h | h
      · rcases hold6 b h with h | h
        · exact .inl (new_DS h)
        · exact .inr (by omega)
      · have h1 := hm7.size
        have h2 := hm6.size
        exact .inr (by omega)
    have hma : Mod (One d) w w6 := (HB5.out.2.2.2.2.mono (fun _ x => x.elim)).andThen hm6 (fun b hb hlt => by
      rcases hb with hb | hb
      · have := HB5.out.2.2.2.1 b hb
        omega
      · exact new_DS hb)
    have hmb : Mod (One d) w w8 := (hma.trans (hm7.mono (fun _ x => x.elim))).andThen HS8.out.mod (fun b hb hlt => by
      rcases hold6 b hb with h | h
      · exact new_DS h
      · have hsz := HB5.out.2.2.2.2.size
        omega)
    have hmc : Mod (One d) w w11 := (hmb.trans (hm8.mono (fun _ x => x.elim))).andThen hm11 (fun b hb hlt => by
      have := HB5.out.2.2.2.1 b hb
      omega)
    have hda : DiskRep w11 d (D6.setKept vk D6.now) := (HS8.out.rep.non hm8).mod hm11 (fun b hb hd => hap8 b hd hb)
    exact ⟨w4.heap.size, _, D6.setKept vk D6.now, f6, rfl, hrep11, hda, ⟨hof6.now, rfl, hof6.bytes, hof6.sure, hof6.size⟩, rfl, rfl, rfl, rfl, by funext n; rfl, fun _ => rfl, rfl, by show 0 < _; decide, fun k hk => (by cases hk), hap8, HB5.out.2.2.2.1, fun b hb => (hDS b hb).imp (fun e => .inl e) id, hmc.mono (fun b hb => .inl hb)⟩

end
end Go.Proofs.YtgillcppnpkkiaaGreatDoor
