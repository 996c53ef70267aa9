/- Rename, where the new name stands behind all others. -/
import Derived.Test.YtmclbechnfedmaaNames
namespace Go.Proofs.Ytmclbechnfedmaa
open Go Go.RowKit
theorem other_ne {l : List (ByteArray × Nat)} {p : Nat} {s : ByteArray} {f : Nat} {a : ByteArray × Nat} (hd : l.Pairwise (fun a b => a.2 ≠ b.2)) (hx : l[p]? = some (s, f)) (ha : a ∈ l.eraseIdx p) : a.2 ≠ f := by
  obtain ⟨k, hk, he⟩ := List.mem_eraseIdx_iff_getElem?.1 ha
  obtain ⟨hp, ep⟩ := List.getElem?_eq_some_iff.1 hx
  obtain ⟨hkl, ek⟩ := List.getElem?_eq_some_iff.1 he
  rw [List.pairwise_iff_getElem] at hd
  rcases Nat.lt_or_gt_of_ne hk with h | h
  · have := hd k p hkl hp h
    rw [ek, ep] at this
    exact this
  · have := hd p k hp hkl h
    rw [ek, ep] at this
    exact fun e => this e.symm

section
variable {w w' : World} {d : Nat} {D : Dk} {S : Nat → Prop}
set_option maxHeartbeats 800000 in
set_option maxRecDepth 100000 in
theorem rename_end (h : DiskRep w d D) (s t : ByteArray) (hm : mayB s = true) (hmt : mayB t = true) (f : Nat) (hl : look D.now s = some f) (p : Nat) (hp : IsPos D.now s p) (hf : foundAt D.now s p = true)
    (hx : D.now[p]? = some (s, f)) (ht : ∀ x ∈ D.now.eraseIdx p, nlt x.1 t = true) :
    Calls Try.prog 54 #[.pointer (some ⟨d, 0, none⟩), .string s, .string t] w fun e w' => e = .returned (.int .i64 0) ∧ ∃ vn, DStep w d D w' (D.setNow vn (D.now.eraseIdx p ++ [(t, f)])) := by
  have HA := Lib.hid (asked_ok h)
  have HG := Lib.hid (got_some h s hm f hl _ (asked_okM h))
  have hsz : t.size ≤ maxLen := by
    unfold mayB at hmt; simp at hmt; unfold maxLen; omega
  have HM : ∀ W, Hid (Calls Try.prog 46 #[.string t] W fun e w' => e = .returned (.bool true) ∧ W = w') := fun W => by
    have := may_any t W hsz
    rw [hmt] at this
    exact Lib.hid this
  have hlen := h.len
  have hpl : p < D.now.length := (List.getElem?_eq_some_iff.1 hx).1
  have HR : ∀ W, Mod Non w W → Hid (Calls Try.prog 37 #[.pointer (some ⟨d, 0, none⟩), .string s] W fun e w' => e = .returned (.int .i64 0) ∧ ∃ vn, DStep W d D w' (D.setNow vn (D.now.eraseIdx p)) ∧ Mod (One d) W w' ∧ ∀ b, vn.ownBlock = some b → W.heap.size ≤ b) := fun W hW =>
    Lib.hid (remove_ok (h.non hW) s hm f hl p hp hf)
  have hle : (D.now.eraseIdx p).length = D.now.length - 1 := List.length_eraseIdx_of_lt hpl
  have hfo : foundAt (D.now.eraseIdx p) t (D.now.eraseIdx p).length = false := by
    unfold foundAt
    rw [List.getElem?_eq_none (Nat.le_refl _)]
  have hpt : IsPos (D.now.eraseIdx p) t (D.now.eraseIdx p).length := ⟨Nat.le_refl _, fun k x hk _ => ht x (List.mem_of_getElem? hk), fun k x hk hle' => by
    have := (List.getElem?_eq_some_iff.1 hk).1
    omega⟩
  have HPT := Lib.hid hpt
  have hll : (D.now.eraseIdx p).length ≤ 64 := by omega
  have HL := Lib.hid hle
  have HFO := Lib.hid hfo
  have HMT := Lib.hid hmt
  have HX := Lib.hid hx
  have H := Lib.hid h
  clear h hp hf hl hpt hle hx hmt hfo
  go_enter Try.func54, Try.ntmps54
  go_wp2_with (first
    | (go_at_call 27; refine HA.out.mono ?_; rintro e w1 ⟨rfl, rfl⟩)
    | (go_at_call 30; refine HG.out.mono ?_; rintro e w1 ⟨rfl, hm1⟩)
    | (go_at_call 46; refine (HM _).out.mono ?_; rintro e w2 ⟨rfl, rfl⟩)
    | (go_at_call 37; refine (HR _ hm1).out.mono ?_; rintro e w3 ⟨rfl, vn, hst, hm3, hnew⟩)
    | (go_at_call 28
       have ha := at_ok hst.rep t HMT.out (D.now.eraseIdx p).length HPT.out
       rw [if_neg (by have := HFO.out; simp only [Dk.setNow, this]; decide)] at ha
       refine ha.mono ?_
       rintro e w4 ⟨rfl, hm4⟩
       have h4 := hst.rep.non hm4
       obtain ⟨A1, c1, A2, c2, e1, e2, l1, l2, r1, r2⟩ := h4.opens
       have hb := h4.blk
       have hmW : Mod Non w4 (w4.alloc (.cells #[.string t, .pointer (some ⟨f, 0, none⟩)] 73)) := (Mod.refl _ _).alloc _
       have heW := Blk.new w4 73 #[.string t, .pointer (some ⟨f, 0, none⟩)]
       have hrW : RowAt (w4.alloc (.cells #[.string t, .pointer (some ⟨f, 0, none⟩)] 73)) (some ⟨w4.heap.size, 0, none⟩) 1 2 (ent (t, f)) := ⟨rfl, fun _ => ⟨_, rfl, fun j u hu => by
         rw [add_lit, heW.cell]
         simpa [ent] using hu⟩⟩
       have hi := insert_end (h4.non hmW).now hll (t, f) _ 1 hrW
       simp only [Dk.setNow] at e1 e2 hb l1 l2 hi
       have HN := Lib.hid (h4.non hmW).now
       rw [e1] at hi
       rw [e1, e2] at hb
       have cb := hb.cell
       have Hb := Lib.hid hb
       have HI := Lib.hid hi
       have HW := Lib.hid hmW
       have E1 := Lib.hid e1
       have E2 := Lib.hid e2
       clear hb hi e1 e2 r1 r2 hmW heW hrW ha h4)
    | (go_at_call 29; refine HI.out.mono ?_; rintro e w5 ⟨v5, rfl, ho5, hg5, ha5⟩
       obtain ⟨A5, c5, rfl, hc5, _, _⟩ := owns_form ho5
       have hm5 : Mod (fun k => vn.ownBlock = some k) w4 w5 := (HW.out.mono (fun _ x => x.elim)).trans (Mod.of_grown hg5 (fun k hk => by rw [E1.out]; exact hk))
       have hb5 := Hb.out.mod hm5 (fun e => by have h1 := hnew d e; have h2 := (H.out.non hm1).blk.lt; omega)
       have cb5 := hb5.cell
       have fb5 := hb5.frozen
       have HB5 := Lib.hid hb5
       have HO5 := Lib.hid ho5
       clear hb5 ho5))
  go_ret
  have h1 := H.out.non hm1
  have hvn : ∀ b, (Value.slice A5 ((D.now.eraseIdx p).length + 1) c5).ownBlock = some b → w1.heap.size ≤ b := fun b hb => by
    rcases ha5 with e | e
    · exact hnew b (by rw [E1.out, ← e]; exact hb)
    · rw [e] at hb
      cases hb
      exact Nat.le_trans hm3.size (Nat.le_trans hm4.size HW.out.size)
  have hm15 : Mod (One d) w1 w5 := (hm3.trans (hm4.mono (fun _ x => x.elim))).andThen hm5 (fun b hb hlt => absurd (hnew b hb) (by omega))
  have hmd : Mod (One d) w1 (w5.setCell ⟨d, 1, none⟩ (.slice A5 ((D.now.eraseIdx p).length + 1) c5)) := hm15.setCell (p := ⟨d, 1, none⟩) (.inl rfl) _
  have hsub : ∀ x ∈ D.now.eraseIdx p ++ [(t, f)], D.isFile x.2 := fun x hx => by
    rcases List.mem_append.1 hx with h | h
    · exact ⟨x, .inl (List.mem_of_mem_eraseIdx h), rfl⟩
    · simp at h
      subst h
      exact ⟨(s, f), .inl (List.mem_of_getElem? HX.out), rfl⟩
  have hrise : Rising (D.now.eraseIdx p ++ [(t, f)]) := List.pairwise_append.mpr ⟨List.Pairwise.sublist (List.eraseIdx_sublist _ _) H.out.rising, List.pairwise_singleton _ _, fun a ha b hb => by simp at hb; subst hb; exact ht a ha⟩
  have hdis : (D.now.eraseIdx p ++ [(t, f)]).Pairwise (fun a b => a.2 ≠ b.2) := List.pairwise_append.mpr ⟨List.Pairwise.sublist (List.eraseIdx_sublist _ _) H.out.distinct, List.pairwise_singleton _ _, fun a ha b hb => by
    simp at hb
    subst hb
    exact other_ne H.out.distinct HX.out ha⟩
  have hlt := h1.blk.lt
  refine ⟨rfl, .slice A5 ((D.now.eraseIdx p).length + 1) c5, DStep.after hm1 ⟨h1.setNow hmd ?_ (by
    rw [List.length_append, List.length_singleton]
    exact owns_keep HO5.out (fun b hb => Below.heap_setCell _ _ _ _ (fun e => by have := hvn b hb; simp at e; omega))) hvn hsub hrise hdis (by have := HL.out; rw [List.length_append, List.length_singleton]; omega), hmd.mono (fun b x => .inl x), fun b hb => setNow_DS hvn hsub hb⟩⟩
  have := HB5.out.set 1 (.slice A5 ((D.now.eraseIdx p).length + 1) c5)
  rw [E2.out]
  exact this
end
end Go.Proofs.Ytmclbechnfedmaa
