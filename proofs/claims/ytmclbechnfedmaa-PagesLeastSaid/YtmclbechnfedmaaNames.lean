/- Names; Remove of a name that is not there. -/
import Derived.Test.YtmclbechnfedmaaRemove
namespace Go.Proofs.Ytmclbechnfedmaa
open Go Go.RowKit
section
variable {w w' : World} {d : Nat} {D : Dk} {S : Nat → Prop}
set_option maxRecDepth 100000 in
theorem remove_none (h : DiskRep w d D) (s : ByteArray) (hm : mayB s = true) (hl : look D.now s = none) :
    Calls Try.prog 37 #[.pointer (some ⟨d, 0, none⟩), .string s] w fun e w' => e = .returned (.int .i64 7) ∧ Mod Non w w' := by
  have HG := Lib.hid (got_none h s hm hl _ (asked_okM h))
  clear h hl
  go_enter Try.func37, Try.ntmps37
  go_wp2_with (go_at_call 30; refine HG.out.mono ?_; rintro e w1 ⟨rfl, hm1⟩)
  go_ret
  exact ⟨rfl, hm1⟩

set_option maxHeartbeats 800000 in
set_option maxRecDepth 100000 in
theorem names_ok (h : DiskRep w d D) :
    Calls Try.prog 38 #[.pointer (some ⟨d, 0, none⟩)] w fun e w' => e = .returned (.int .i64 0) ∧ ∃ vk, DStep w d D w' (D.setKept vk D.now) := by
  have HA := Lib.hid (asked_ok h)
  obtain ⟨A1, c1, A2, c2, e1, e2, l1, l2, r1, r2⟩ := h.opens
  have hb := h.blk
  rw [e1, e2] at hb
  have cb := hb.cell
  have Hb := Lib.hid hb
  have HC := Lib.hid (clone_list h.now h.len)
  rw [e1] at HC
  have E1 := Lib.hid e1
  have H := Lib.hid h
  clear hb r1 r2 e1 e2 h
  go_enter Try.func38, Try.ntmps38
  go_wp2_with (first
    | (go_at_call 27; refine HA.out.mono ?_; rintro e w1 ⟨rfl, rfl⟩)
    | (go_at_call 43; refine HC.out.mono ?_; rintro e w3 ⟨v3, rfl, ho3, hm3⟩
       obtain ⟨A3, c3, rfl, hc3, _, _⟩ := owns_form ho3
       have HO3 := Lib.hid ho3
       have hb4 := Hb.out.mod hm3 (fun x => x)
       have cb4 := hb4.cell
       have fb4 := hb4.frozen
       have HB4 := Lib.hid hb4
       clear ho3 hb4))
  go_ret
  have hsub : ∀ x ∈ D.now, D.isFile x.2 := fun x hx => ⟨x, .inl hx, rfl⟩
  have hnew : ∀ b, (Value.slice A3 D.now.length c3).ownBlock = some b → w.heap.size ≤ b := fun b hb => (HO3.out.lt b hb).1
  have hmd : Mod (One d) w (w3.setCell ⟨d, 2, none⟩ (.slice A3 D.now.length c3)) := (hm3.mono (T := One d) (fun _ x => x.elim)).setCell (p := ⟨d, 2, none⟩) (.inl rfl) _
  refine ⟨rfl, .slice A3 D.now.length c3, ⟨H.out.setKept hmd ?_ (owns_keep (owns_base HO3.out) (fun b hb => Below.heap_setCell _ _ _ _ (fun e => ?_))) hnew hsub H.out.rising H.out.distinct H.out.len, hmd.mono (fun b x => .inl x), fun b hb => setKept_DS hnew hsub hb⟩⟩
  · have := HB4.out.set 2 (.slice A3 D.now.length c3)
    rw [E1.out]
    exact this
  · have h1 := hnew b hb
    have h2 := H.out.blk.lt
    simp at e
    omega
end
end Go.Proofs.Ytmclbechnfedmaa
