/- Rename: the new name is there, or not. -/
import Derived.Test.YtmclbechnfedmaaAny
namespace Go.Proofs.Ytmclbechnfedmaa
open Go Go.RowKit
section
variable {w w' : World} {d : Nat} {D : Dk} {S : Nat → Prop}
set_option maxHeartbeats 800000 in
set_option maxRecDepth 100000 in
theorem rename_new (h : DiskRep w d D) (s t : ByteArray) (hm : mayB s = true) (hmt : mayB t = true) (f : Nat) (hl : look D.now s = some f) (p : Nat) (hp : IsPos D.now s p) (hf : foundAt D.now s p = true)
    (hx : D.now[p]? = some (s, f)) (q : Nat) (hq : IsPos (D.now.eraseIdx p) t q) (hno : look (D.now.eraseIdx p) t = none) :
    Calls Try.prog 54 #[.pointer (some ⟨d, 0, none⟩), .string s, .string t] w fun e w' => e = .returned (.int .i64 0) ∧ ∃ vn, DStep w d D w' (D.setNow vn (putAt (D.now.eraseIdx p) q (t, f))) := by
  have HA := Lib.hid (asked_ok h)
  have HG := Lib.hid (got_some h s hm f hl _ (asked_okM h))
  have hsz : t.size ≤ maxLen := by
    unfold mayB at hmt; simp at hmt; unfold maxLen; omega
  have HM : ∀ W, Hid (Calls Try.prog 46 #[.string t] W fun e w' => e = .returned (.bool true) ∧ W = w') := fun W => by
    have := may_any t W hsz
    rw [hmt] at this
    exact Lib.hid this
  have hlen := h.len
  have hpl : p < D.now.length := (List.getElem?_eq_some_iff.1 hx).1
  have HR : ∀ W, Mod Non w W → Hid (Calls Try.prog 37 #[.pointer (some ⟨d, 0, none⟩), .string s] W fun e w' => e = .returned (.int .i64 0) ∧ ∃ vn, DStep W d D w' (D.setNow vn (D.now.eraseIdx p)) ∧ Mod (One d) W w' ∧ ∀ b, vn.ownBlock = some b → W.heap.size ≤ b) := fun W hW =>
    Lib.hid (remove_ok (h.non hW) s hm f hl p hp hf)
  have hle : (D.now.eraseIdx p).length = D.now.length - 1 := List.length_eraseIdx_of_lt hpl
  have hfo : foundAt (D.now.eraseIdx p) t q = false := not_found (List.Pairwise.sublist (List.eraseIdx_sublist _ _) h.rising) hq hno
  have hpt := hq
  have hql := hq.1
  have HPT := Lib.hid hpt
  have hll : (D.now.eraseIdx p).length ≤ 64 := by omega
  have HL := Lib.hid hle
  have HFO := Lib.hid hfo
  have HMT := Lib.hid hmt
  have HX := Lib.hid hx
  have H := Lib.hid h
  have HNo := Lib.hid hno
  clear h hp hf hl hpt hle hx hmt hfo hq hno
  go_enter Try.func54, Try.ntmps54
  go_wp2_with (first
    | (go_at_call 27; refine HA.out.mono ?_; rintro e w1 ⟨rfl, rfl⟩)
    | (go_at_call 30; refine HG.out.mono ?_; rintro e w1 ⟨rfl, hm1⟩)
    | (go_at_call 46; refine (HM _).out.mono ?_; rintro e w2 ⟨rfl, rfl⟩)
    | (go_at_call 37; refine (HR _ hm1).out.mono ?_; rintro e w3 ⟨rfl, vn, hst, hm3, hnew⟩)
    | (go_at_call 28
       have ha := at_ok hst.rep t HMT.out q HPT.out
       rw [if_neg (by have := HFO.out; simp only [Dk.setNow, this]; decide)] at ha
       refine ha.mono ?_
       rintro e w4 ⟨rfl, hm4⟩
       have h4 := hst.rep.non hm4
       obtain ⟨A1, c1, A2, c2, e1, e2, l1, l2, r1, r2⟩ := h4.opens
       have hb := h4.blk
       have hmW : Mod Non w4 (w4.alloc (.cells #[.string t, .pointer (some ⟨f, 0, none⟩)] 73)) := (Mod.refl _ _).alloc _
       have heW := Blk.new w4 73 #[.string t, .pointer (some ⟨f, 0, none⟩)]
       have hvbW : (D.setNow vn (D.now.eraseIdx p)).vn.ownBlock ≠ some w4.heap.size := fun e => by have := (h4.now.lt _ e).2; omega
       have hi := insert_any (h4.non hmW).now hll (t, f) w4.heap.size heW hvbW q hql
       simp only [Dk.setNow] at e1 e2 hb l1 l2 hi
       have HN := Lib.hid (h4.non hmW).now
       rw [e1] at hi
       rw [e1, e2] at hb
       have cb := hb.cell
       have Hb := Lib.hid hb
       have HI := Lib.hid hi
       have HW := Lib.hid hmW
       have E1 := Lib.hid e1
       have E2 := Lib.hid e2
       clear hb hi e1 e2 r1 r2 hmW heW hvbW ha h4)
    | (go_at_call 29; refine HI.out.mono ?_; rintro e w5 ⟨v5, rfl, ho5, hg5, ha5⟩
       obtain ⟨A5, c5, rfl, hc5, _, _⟩ := owns_form ho5
       have hm5 : Mod (fun k => vn.ownBlock = some k) w4 w5 := (HW.out.mono (fun _ x => x.elim)).trans ((E1.out ▸ hg5))
       have hb5 := Hb.out.mod hm5 (fun e => by have h1 := hnew d e; have h2 := (H.out.non hm1).blk.lt; omega)
       have cb5 := hb5.cell
       have fb5 := hb5.frozen
       have HB5 := Lib.hid hb5
       have HO5 := Lib.hid ho5
       clear hb5 ho5))
  go_ret
  have h1 := H.out.non hm1
  have hvn : ∀ b, (Value.slice A5 ((D.now.eraseIdx p).length + 1) c5).ownBlock = some b → w1.heap.size ≤ b := fun b hb => by
    rcases ha5 with e | e
    · exact hnew b (by rw [E1.out, ← e]; exact hb)
    · rw [e] at hb
      cases hb
      exact Nat.le_trans hm3.size (Nat.le_trans hm4.size HW.out.size)
  have hm15 : Mod (One d) w1 w5 := (hm3.trans (hm4.mono (fun _ x => x.elim))).andThen hm5 (fun b hb hlt => absurd (hnew b hb) (by omega))
  have hmd : Mod (One d) w1 (w5.setCell ⟨d, 1, none⟩ (.slice A5 ((D.now.eraseIdx p).length + 1) c5)) := hm15.setCell (p := ⟨d, 1, none⟩) (.inl rfl) _
  have hsub : ∀ x ∈ putAt (D.now.eraseIdx p) q (t, f), D.isFile x.2 := fun x hx => by
    rcases mem_put hx with rfl | h
    · exact ⟨(s, f), .inl (List.mem_of_getElem? HX.out), rfl⟩
    · exact ⟨x, .inl (List.mem_of_mem_eraseIdx h), rfl⟩
  have hrise : Rising (putAt (D.now.eraseIdx p) q (t, f)) := rising_put (List.Pairwise.sublist (List.eraseIdx_sublist _ _) H.out.rising) HPT.out HNo.out
  have hdis : (putAt (D.now.eraseIdx p) q (t, f)).Pairwise (fun a b => a.2 ≠ b.2) := pairwise_put (R := fun a b => a.2 ≠ b.2) (List.Pairwise.sublist (List.eraseIdx_sublist _ _) H.out.distinct) (fun a _ ha => other_ne H.out.distinct HX.out ha) (fun a _ ha e => other_ne H.out.distinct HX.out ha e.symm)
  have hlt := h1.blk.lt
  refine ⟨rfl, .slice A5 ((D.now.eraseIdx p).length + 1) c5, DStep.after hm1 ⟨h1.setNow hmd ?_ (by
    rw [put_length hql]
    exact owns_keep HO5.out (fun b hb => Below.heap_setCell _ _ _ _ (fun e => by have := hvn b hb; simp at e; omega))) hvn hsub hrise hdis (by have := HL.out; rw [put_length hql]; omega), hmd.mono (fun b x => .inl x), fun b hb => setNow_DS hvn hsub hb⟩⟩
  have := HB5.out.set 1 (.slice A5 ((D.now.eraseIdx p).length + 1) c5)
  rw [E2.out]
  exact this
theorem ents_set {l : List (ByteArray × Nat)} {q f f0 : Nat} {t : ByteArray} (h : l[q]? = some (t, f0)) : ents (l.set q (t, f)) = (ents l).set (q * 2 + 1) (.pointer (some ⟨f, 0, none⟩)) := by
  induction l generalizing q with
  | nil => simp at h
  | cons x l ih =>
    cases q with
    | zero =>
      simp at h
      subst h
      rw [List.set_cons_zero, ents_cons, ents_cons]
      rfl
    | succ q =>
      simp at h
      rw [List.set_cons_succ, ents_cons, ents_cons, ih h]
      show ent x ++ _ = _
      rw [List.set_append_right _ _ (by show 2 ≤ _; omega)]
      congr 2
      show q * 2 + 1 = (q + 1) * 2 + 1 - 2
      omega
theorem set_self_of {α : Type} {l : List α} {q : Nat} {x : α} (h : l[q]? = some x) : l.set q x = l := by
  obtain ⟨hq, e⟩ := List.getElem?_eq_some_iff.1 h
  rw [← e, List.set_getElem_self]
theorem owns_open {w : World} {base : Nat} {e : TypeId} {size : Nat} {v : Value} {n : Nat} {xs : List Value} (h : w.ownsRow base e size v n xs) (hn : 0 < n) : ∃ g c cur, v = .slice (some ⟨g, 0, none⟩) n c ∧ Blk w g e cur ∧ n ≤ c ∧ c ≤ maxLen ∧ cur.size = c * size ∧ cur.toList.take (n * size) = xs := by
  rcases h.2 with ⟨_, h0⟩ | ⟨g, cap, cur, e1, hb, hg, h1, h2, h3, h4⟩
  · omega
  · exact ⟨g, cap, cur, e1, hg, h1, h2, h3, h4⟩
theorem row_ptr {cur : Array Value} {l : List (ByteArray × Nat)} {q f0 : Nat} {t : ByteArray} (hct : cur.toList.take (l.length * 2) = ents l) (h : l[q]? = some (t, f0)) : cur[q * 2 + 1]? = some (.pointer (some ⟨f0, 0, none⟩)) := by
  have hq := (List.getElem?_eq_some_iff.1 h).1
  have h1 := (ents_get h).2
  rw [← hct, List.getElem?_take_of_lt (by omega)] at h1
  simpa using h1
set_option maxHeartbeats 800000 in
set_option maxRecDepth 100000 in
theorem rename_over (h : DiskRep w d D) (s t : ByteArray) (hm : mayB s = true) (hmt : mayB t = true) (f : Nat) (hl : look D.now s = some f) (p : Nat) (hp : IsPos D.now s p) (hf : foundAt D.now s p = true)
    (hx : D.now[p]? = some (s, f)) (q f0 : Nat) (hq : IsPos (D.now.eraseIdx p) t q) (hfq : foundAt (D.now.eraseIdx p) t q = true) (hxq : (D.now.eraseIdx p)[q]? = some (t, f0)) :
    Calls Try.prog 54 #[.pointer (some ⟨d, 0, none⟩), .string s, .string t] w fun e w' => e = .returned (.int .i64 0) ∧ ∃ vn, DStep w d D w' (D.setNow vn ((D.now.eraseIdx p).set q (t, f))) := by
  have HA := Lib.hid (asked_ok h)
  have HG := Lib.hid (got_some h s hm f hl _ (asked_okM h))
  have hsz : t.size ≤ maxLen := by
    unfold mayB at hmt; simp at hmt; unfold maxLen; omega
  have HM : ∀ W, Hid (Calls Try.prog 46 #[.string t] W fun e w' => e = .returned (.bool true) ∧ W = w') := fun W => by
    have := may_any t W hsz
    rw [hmt] at this
    exact Lib.hid this
  have hlen := h.len
  have hpl : p < D.now.length := (List.getElem?_eq_some_iff.1 hx).1
  have HR : ∀ W, Mod Non w W → Hid (Calls Try.prog 37 #[.pointer (some ⟨d, 0, none⟩), .string s] W fun e w' => e = .returned (.int .i64 0) ∧ ∃ vn, DStep W d D w' (D.setNow vn (D.now.eraseIdx p)) ∧ Mod (One d) W w' ∧ ∀ b, vn.ownBlock = some b → W.heap.size ≤ b) := fun W hW =>
    Lib.hid (remove_ok (h.non hW) s hm f hl p hp hf)
  have hle : (D.now.eraseIdx p).length = D.now.length - 1 := List.length_eraseIdx_of_lt hpl
  have hfo := hfq
  have hpt := hq
  have hql := hq.1
  have HPT := Lib.hid hpt
  have hll : (D.now.eraseIdx p).length ≤ 64 := by omega
  have HL := Lib.hid hle
  have HFO := Lib.hid hfo
  have HMT := Lib.hid hmt
  have HX := Lib.hid hx
  have H := Lib.hid h
  have HXQ := Lib.hid hxq
  have hqlt : q < (D.now.eraseIdx p).length := (List.getElem?_eq_some_iff.1 hxq).1
  clear h hp hf hl hpt hle hx hmt hfo hfq hq hxq
  go_enter Try.func54, Try.ntmps54
  go_wp2_with (first
    | (go_at_call 27; refine HA.out.mono ?_; rintro e w1 ⟨rfl, rfl⟩)
    | (go_at_call 30; refine HG.out.mono ?_; rintro e w1 ⟨rfl, hm1⟩)
    | (go_at_call 46; refine (HM _).out.mono ?_; rintro e w2 ⟨rfl, rfl⟩)
    | (go_at_call 37; refine (HR _ hm1).out.mono ?_; rintro e w3 ⟨rfl, vn, hst, hm3, hnew⟩)
    | (go_at_call 28
       have ha := at_ok hst.rep t HMT.out q HPT.out
       rw [if_pos (show foundAt (D.setNow vn (D.now.eraseIdx p)).now t q = true from HFO.out)] at ha
       refine ha.mono ?_
       rintro e w4 ⟨rfl, hm4⟩
       have h4 := hst.rep.non hm4
       obtain ⟨A1, c1, A2, c2, e1, e2, l1, l2, r1, r2⟩ := h4.opens
       have hb := h4.blk
       have hn4 : w4.ownsRow 0 73 2 vn (D.now.eraseIdx p).length (ents (D.now.eraseIdx p)) := h4.now
       obtain ⟨g, cv, cur, hvg, hgb, hcn, hcm, hcs, hct⟩ := owns_open hn4 (by omega)
       simp only [Dk.setNow] at e2 hb
       rw [hvg, e2] at hb
       have cb := hb.cell
       have cg := hgb.cell
       have fg := hgb.frozen
       have hgc := row_ptr hct HXQ.out
       have Hb := Lib.hid hb
       have HGB := Lib.hid hgb
       have HCT := Lib.hid hct
       have HCS := Lib.hid hcs
       have E2 := Lib.hid e2
       have HV := Lib.hid hvg
       clear hb e1 e2 r1 r2 ha h4 hn4 hgb hct hcs hvg))
  go_ret
  have h1 := H.out.non hm1
  have hlt := h1.blk.lt
  have hgn : w1.heap.size ≤ g := hnew g (by rw [HV.out]; rfl)
  have hmd : Mod (One d) w1 (w4.setCell ⟨g, q * 2 + 1, none⟩ (.pointer (some ⟨f, 0, none⟩))) := (hm3.trans (hm4.mono (fun _ x => x.elim))).setCell (p := ⟨g, q * 2 + 1, none⟩) (.inr hgn) _
  have hsub : ∀ x ∈ (D.now.eraseIdx p).set q (t, f), D.isFile x.2 := fun x hx => by
    rcases List.mem_or_eq_of_mem_set hx with h | rfl
    · exact ⟨x, .inl (List.mem_of_mem_eraseIdx h), rfl⟩
    · exact ⟨(s, f), .inl (List.mem_of_getElem? HX.out), rfl⟩
  have hname : ((D.now.eraseIdx p).set q (t, f)).map (·.1) = (D.now.eraseIdx p).map (·.1) := by
    rw [List.map_set]
    apply set_self_of
    rw [List.getElem?_map, HXQ.out]
    rfl
  have hrise : Rising ((D.now.eraseIdx p).set q (t, f)) := by
    have h0 : Rising (D.now.eraseIdx p) := List.Pairwise.sublist (List.eraseIdx_sublist _ _) H.out.rising
    unfold Rising at h0 ⊢
    have e : ∀ l : List (ByteArray × Nat), l.Pairwise (fun a b => nlt a.1 b.1 = true) ↔ (l.map (·.1)).Pairwise (fun a b => nlt a b = true) := fun l => (List.pairwise_map (f := fun x : ByteArray × Nat => x.1) (R := fun a b => nlt a b = true)).symm
    rw [e] at h0 ⊢
    rw [hname]
    exact h0
  have hdis : ((D.now.eraseIdx p).set q (t, f)).Pairwise (fun a b => a.2 ≠ b.2) := by
    have h0 : (D.now.eraseIdx p).Pairwise (fun a b => a.2 ≠ b.2) := List.Pairwise.sublist (List.eraseIdx_sublist _ _) H.out.distinct
    have hno : ∀ a ∈ D.now.eraseIdx p, a.2 ≠ f := fun a ha => other_ne H.out.distinct HX.out ha
    rw [List.pairwise_iff_getElem] at h0 ⊢
    intro i j hi hj hij
    rw [List.getElem_set, List.getElem_set]
    rw [List.length_set] at hi hj
    by_cases e1 : q = i
    · rw [if_pos e1, if_neg (by omega)]
      exact fun e => hno _ (List.getElem_mem hj) e.symm
    · rw [if_neg e1]
      by_cases e2 : q = j
      · rw [if_pos e2]
        exact hno _ (List.getElem_mem hi)
      · rw [if_neg e2]
        exact h0 i j hi hj hij
  have hrow : (w4.setCell ⟨g, q * 2 + 1, none⟩ (.pointer (some ⟨f, 0, none⟩))).ownsRow 0 73 2 (.slice (some ⟨g, 0, none⟩) (D.now.eraseIdx p).length cv) ((D.now.eraseIdx p).set q (t, f)).length (ents ((D.now.eraseIdx p).set q (t, f))) := by
    rw [List.length_set, ents_set HXQ.out]
    refine ⟨by rw [List.length_set, ents_length], .inr ⟨g, cv, _, rfl, Nat.zero_le _, HGB.out.set (q * 2 + 1) (.pointer (some ⟨f, 0, none⟩)), hcn, hcm, ?_, ?_⟩⟩
    · rw [Array.size_setIfInBounds]
      exact HCS.out
    · rw [Array.toList_setIfInBounds, ← HCT.out, List.take_set]
  refine ⟨rfl, .slice (some ⟨g, 0, none⟩) (D.now.eraseIdx p).length cv, DStep.after hm1 ⟨h1.setNow hmd ?_ hrow (fun b hb => by cases hb; exact hgn) hsub hrise hdis (by rw [List.length_set]; omega), hmd.mono (fun b x => .inl x), fun b hb => setNow_DS (fun b hb => by cases hb; exact hgn) hsub hb⟩⟩
  rw [E2.out]
  exact Hb.out.far (fun e => by simp at e; omega) _
theorem look_set {l : List (ByteArray × Nat)} {q f f0 : Nat} {t : ByteArray} (hq : IsPos l t q) (hx : l[q]? = some (t, f0)) : look (l.set q (t, f)) t = some f := by
  have hlt := (List.getElem?_eq_some_iff.1 hx).1
  rw [List.set_eq_take_append_cons_drop, if_pos hlt, look_append, look_cons]
  have h0 : look (l.take q) t = none := by
    unfold look
    rw [Option.map_eq_none_iff, List.find?_eq_none]
    intro y hy
    simp only [decide_eq_true_eq]
    intro e
    obtain ⟨k, hk⟩ := List.mem_iff_getElem?.1 hy
    have hkq : k < q := by
      have := (List.getElem?_eq_some_iff.1 hk).1
      rw [List.length_take] at this
      omega
    rw [List.getElem?_take_of_lt hkq] at hk
    have := hq.2.1 k y hk hkq
    rw [e, nlt_irrefl] at this
    cases this
  rw [h0]
  simp
/-- Rename: the name has the file. -/
theorem rename_gen (h : DiskRep w d D) (s t : ByteArray) (hm : mayB s = true) (hmt : mayB t = true) (f : Nat) (hl : look D.now s = some f) :
    Calls Try.prog 54 #[.pointer (some ⟨d, 0, none⟩), .string s, .string t] w fun e w' => e = .returned (.int .i64 0) ∧ ∃ vn l, DStep w d D w' (D.setNow vn l) ∧ look l t = some f ∧ l.length ≤ D.now.length := by
  obtain ⟨p, hp, hf, hx⟩ := pos_at h.rising hl
  have hpl := (List.getElem?_eq_some_iff.1 hx).1
  have hr : Rising (D.now.eraseIdx p) := List.Pairwise.sublist (List.eraseIdx_sublist _ _) h.rising
  have hle : (D.now.eraseIdx p).length = D.now.length - 1 := List.length_eraseIdx_of_lt hpl
  cases hlt : look (D.now.eraseIdx p) t with
  | none =>
    obtain ⟨q, hq⟩ := hr.pos t
    refine (rename_new h s t hm hmt f hl p hp hf hx q hq hlt).mono ?_
    rintro e w' ⟨he, vn, hst⟩
    exact ⟨he, vn, _, hst, look_put_same hlt, by rw [put_length hq.1]; omega⟩
  | some f0 =>
    obtain ⟨q, hq, hfq, hxq⟩ := pos_at hr hlt
    refine (rename_over h s t hm hmt f hl p hp hf hx q f0 hq hfq hxq).mono ?_
    rintro e w' ⟨he, vn, hst⟩
    exact ⟨he, vn, _, hst, look_set hq hxq, by rw [List.length_set]; omega⟩
end
end Go.Proofs.Ytmclbechnfedmaa
