/- Append, Remove, Create, Rename, whatever the names are. -/
import Derived.Test.YtmclbechnfedmaaPlace
namespace Go.Proofs.Ytmclbechnfedmaa
open Go Go.RowKit
section
variable {w w' : World} {d : Nat} {D : Dk}
set_option maxHeartbeats 800000 in
set_option maxRecDepth 100000 in
theorem append_full (h : DiskRep w d D) (s : ByteArray) (hm : mayB s = true) (f : Nat) (hl : look D.now s = some f) (A : Option Addr) (m c : Nat) (hfull : ¬ (m ≤ D.left ∧ m + (D.by_ f).length ≤ 1048576)) (hm63 : m ≤ maxLen) :
    Calls Try.prog 15 #[.pointer (some ⟨d, 0, none⟩), .string s, .slice A m c] w fun e w' => e = .returned (.int .i64 6) ∧ Mod Non w w' := by
  have hfile : D.isFile f := ⟨_, .inl (look_some hl), rfl⟩
  have HG := Lib.hid (got_some h s hm f hl _ (asked_okM h))
  have hs2 := h.s2
  have hleft : D.left ≤ 8388608 := by unfold Dk.left; omega
  have H := Lib.hid h
  have hby := (h.file f hfile).2.2.2
  have hm64 : m ≤ 9223372036854775807 := hm63
  clear h hl
  go_enter Try.func15, Try.ntmps15
  go_wp2_with (go_at_call 30; refine HG.out.mono ?_; rintro e w1 ⟨rfl, hm1⟩)
  refine wp_plan [(0, false), (1, false), (2, false), (4, false), (5, false), (6, false), (7, false), (8, false), (9, false), (3, true), (10, false), (11, false)] Non (by kernel_rfl) (by kernel_rfl) (fun c d v a w h => by cases d <;> exact h) (fun w2 hm2 => ?_)
  have h2 := (H.out.non hm1).non hm2
  obtain ⟨fb, fr, fs, fl⟩ := h2.file f hfile
  obtain ⟨A', c', ev, hcc, hrow, _⟩ := owns_form fr
  rw [ev] at fb
  have hwr : IntKind.i64.wrap (1048576 - ((D.by_ f).length : Int)) = 1048576 - ((D.by_ f).length : Int) := by rw [IntKind.wrap_i64]; omega
  have hcell : ∀ W, Mod Non w2 W → ∀ i, W.cell? ⟨f, i, none⟩ = #[Value.slice A' (D.by_ f).length c', Value.int .i64 (D.sure f)][i]? := fun W hW => (fb.mod hW (fun x => x)).cell
  refine wpp_read _ rfl rfl (fun W hW => by have cW := hcell W hW; first | (go_simp; done) | (go_simp; rfl) | rfl) ?_
  go_frame
  refine wpp_read _ rfl rfl (fun W hW => by have cW := hcell W hW; first | (go_simp; done) | (go_simp; rfl) | rfl) ?_
  go_frame
  refine wpp_read _ rfl rfl (fun W hW => by have cW := hcell W hW; first | (go_simp; done) | (go_simp; rfl) | rfl) ?_
  go_frame
  refine wpp_read _ rfl rfl (fun W hW => by have cW := hcell W hW; first | (go_simp; done) | (go_simp; rfl) | rfl) ?_
  go_frame
  refine wpp_read _ rfl rfl (fun W hW => by have cW := hcell W hW; first | (go_simp; done) | (go_simp; rfl) | rfl) ?_
  go_frame
  refine wpp_read _ rfl rfl (fun W hW => by have cW := hcell W hW; first | (go_simp; done) | (go_simp; rfl) | rfl) ?_
  go_frame
  refine wpp_read _ rfl rfl (fun W hW => by have cW := hcell W hW; first | (go_simp; done) | (go_simp; rfl) | rfl) ?_
  go_frame
  refine wpp_read _ rfl rfl (fun W hW => by have cW := hcell W hW; first | (go_simp; done) | (go_simp; rfl) | rfl) ?_
  go_frame
  refine wpp_read _ rfl rfl (fun W hW => by have cW := hcell W hW; first | (go_simp; done) | (go_simp; rfl) | rfl) ?_
  go_frame
  refine wpp_act rfl rfl ?_
  go_simp
  refine (left_ok h2).mono ?_
  rintro e w3 ⟨rfl, hm3⟩
  refine ⟨hm3, ?_⟩
  try go_frame
  refine wpp_read _ rfl rfl (fun W hW => by first | (go_simp; done) | (go_simp; rfl) | rfl) ?_
  go_frame
  refine wpp_read _ rfl rfl (fun W hW => by first | (go_simp; done) | (go_simp; rfl) | rfl) ?_
  go_frame
  refine wpp_nil ?_
  clear hcell h2 fb fr hrow hcc ev
  have hlt : min (D.left : Int) (1048576 - ((D.by_ f).length : Int)) < (m : Int) := by omega
  go_wp2
  go_ret
  exact ⟨rfl, (hm1.trans hm2).trans hm3⟩

set_option maxRecDepth 100000 in
theorem append_none (h : DiskRep w d D) (s : ByteArray) (hm : mayB s = true) (hl : look D.now s = none) (v : Value) :
    Calls Try.prog 15 #[.pointer (some ⟨d, 0, none⟩), .string s, v] w fun e w' => e = .returned (.int .i64 7) ∧ Mod Non w w' := by
  have HG := Lib.hid (got_none h s hm hl _ (asked_okM h))
  clear h hl
  go_enter Try.func15, Try.ntmps15
  go_wp2_with (go_at_call 30; refine HG.out.mono ?_; rintro e w1 ⟨rfl, hm1⟩)
  go_ret
  exact ⟨rfl, hm1⟩
set_option maxRecDepth 100000 in
theorem append_bad (h : DiskRep w d D) (s : ByteArray) (hs : s.size ≤ maxLen) (hm : mayB s = false) (v : Value) :
    Calls Try.prog 15 #[.pointer (some ⟨d, 0, none⟩), .string s, v] w fun e w' => e = .returned (.int .i64 1) ∧ Mod Non w w' := by
  have HG := Lib.hid (got_bad s hs hm _ _ (asked_okM h))
  clear h
  go_enter Try.func15, Try.ntmps15
  go_wp2_with (go_at_call 30; refine HG.out.mono ?_; rintro e w1 ⟨rfl, hm1⟩)
  go_ret
  exact ⟨rfl, hm1⟩
/-- What a step of the law's own loop comes to. -/
structure Grown (w : World) (d : Nat) (D : Dk) (w' : World) (D' : Dk) (n : Nat) : Prop where
  step : DStep w d D w' D'
  size : D'.size = D.size
  len : D'.now.length ≤ D.now.length + n
theorem Grown.same (h : DiskRep w d D) (hm : Mod Non w w') (n : Nat) : Grown w d D w' D n := ⟨.of_non h hm, rfl, Nat.le_add_right _ _⟩
theorem append_any (h : DiskRep w d D) (s : ByteArray) (hs : s.size ≤ maxLen) (A : Option Addr) (m c : Nat) (l : List UInt8) (hr : RowAt w A m 1 (bv l)) (hm63 : m ≤ maxLen) :
    Calls Try.prog 15 #[.pointer (some ⟨d, 0, none⟩), .string s, .slice A m c] w fun e w' => (∃ r, e = .returned (.int .i64 r)) ∧ ∃ D', Grown w d D w' D' 0 := by
  cases hm : mayB s with
  | false => exact (append_bad h s hs hm _).mono fun e w' ⟨h1, h2⟩ => ⟨⟨_, h1⟩, D, Grown.same h h2 0⟩
  | true =>
    cases hl : look D.now s with
    | none => exact (append_none h s hm hl _).mono fun e w' ⟨h1, h2⟩ => ⟨⟨_, h1⟩, D, Grown.same h h2 0⟩
    | some f =>
      by_cases hroom : m ≤ D.left ∧ m + (D.by_ f).length ≤ 1048576
      · exact (append_ok h s hm f hl A m c l hr hroom).mono fun e w' ⟨h1, v, h2⟩ => ⟨⟨_, h1⟩, _, h2, rfl, Nat.le_refl _⟩
      · exact (append_full h s hm f hl A m c hroom hm63).mono fun e w' ⟨h1, h2⟩ => ⟨⟨_, h1⟩, D, Grown.same h h2 0⟩

set_option maxRecDepth 100000 in
theorem create_bad (h : DiskRep w d D) (s : ByteArray) (hs : s.size ≤ maxLen) (hm : mayB s = false) :
    Calls Try.prog 14 #[.pointer (some ⟨d, 0, none⟩), .string s] w fun e w' => e = .returned (.int .i64 1) ∧ Mod Non w w' := by
  have HA := Lib.hid (asked_ok h)
  clear h
  go_enter Try.func14, Try.ntmps14
  go_wp2_with (first
    | (go_at_call 27; refine HA.out.mono ?_; rintro e w1 ⟨rfl, rfl⟩)
    | (go_at_call 28; refine (at_bad s hs hm _).mono ?_; rintro e w2 ⟨rfl, rfl⟩))
  go_ret
  exact ⟨rfl, Mod.refl _ _⟩
set_option maxRecDepth 100000 in
theorem create_there (h : DiskRep w d D) (s : ByteArray) (hm : mayB s = true) (p : Nat) (hp : IsPos D.now s p) (hf : foundAt D.now s p = true) :
    Calls Try.prog 14 #[.pointer (some ⟨d, 0, none⟩), .string s] w fun e w' => (∃ r, e = .returned (.int .i64 r)) ∧ Mod Non w w' := by
  have HA := Lib.hid (asked_ok h)
  have ha := at_ok h s hm p hp
  rw [if_pos hf] at ha
  have HT := Lib.hid ha
  clear h hp hf ha
  go_enter Try.func14, Try.ntmps14
  go_wp2_with (first
    | (go_at_call 27; refine HA.out.mono ?_; rintro e w1 ⟨rfl, rfl⟩)
    | (go_at_call 28; refine HT.out.mono ?_; rintro e w2 ⟨rfl, hm2⟩))
  go_ret
  exact ⟨⟨_, rfl⟩, hm2⟩
theorem create_gen (h : DiskRep w d D) (s : ByteArray) (hs : s.size ≤ maxLen) (hlen : D.now.length < 64) :
    Calls Try.prog 14 #[.pointer (some ⟨d, 0, none⟩), .string s] w fun e w' => (∃ r, e = .returned (.int .i64 r)) ∧ ∃ D', Grown w d D w' D' 1 := by
  cases hm : mayB s with
  | false => exact (create_bad h s hs hm).mono fun e w' ⟨h1, h2⟩ => ⟨⟨_, h1⟩, D, Grown.same h h2 1⟩
  | true =>
    obtain ⟨p, hp⟩ := h.rising.pos s
    by_cases hf : foundAt D.now s p = true
    · exact (create_there h s hm p hp hf).mono fun e w' ⟨h1, h2⟩ => ⟨h1, D, Grown.same h h2 1⟩
    · have hl := look_pos h.rising hp
      rw [if_neg hf] at hl
      exact (create_any h s hm p hp hl hlen).mono fun e w' ⟨h1, vn, f, _, h3⟩ => ⟨⟨_, h1⟩, _, h3, rfl, by rw [show (D.add p s vn f).now.length = D.now.length + 1 from put_length hp.1]; exact Nat.le_refl _⟩

theorem look_erase_other {l : List (ByteArray × Nat)} {s t : ByteArray} {p f : Nat} (hx : l[p]? = some (s, f)) (hne : s ≠ t) : look (l.eraseIdx p) t = look l t := by
  have hp := (List.getElem?_eq_some_iff.1 hx).1
  have e : l = l.take p ++ (s, f) :: l.drop (p + 1) := by
    conv => lhs; rw [← List.take_append_drop p l]
    congr 1
    rw [List.drop_eq_getElem_cons hp, (List.getElem?_eq_some_iff.1 hx).2]
  rw [List.eraseIdx_eq_take_drop_succ]
  conv => rhs; rw [e]
  rw [look_append, look_append, look_cons]
  simp [hne]
theorem rising_once {l : List (ByteArray × Nat)} {s : ByteArray} {p f : Nat} (h : Rising l) (hx : l[p]? = some (s, f)) : look (l.eraseIdx p) s = none := by
  unfold look
  rw [Option.map_eq_none_iff, List.find?_eq_none]
  intro y hy
  simp only [decide_eq_true_eq]
  intro e
  obtain ⟨k, hk, he⟩ := List.mem_eraseIdx_iff_getElem?.1 hy
  obtain ⟨hp, ep⟩ := List.getElem?_eq_some_iff.1 hx
  obtain ⟨hkl, ek⟩ := List.getElem?_eq_some_iff.1 he
  have hpw := List.pairwise_iff_getElem.1 h
  rcases Nat.lt_or_gt_of_ne hk with h1 | h1
  · have := hpw k p hkl hp h1
    rw [ek, ep, e, nlt_irrefl] at this
    cases this
  · have := hpw p k hp hkl h1
    rw [ek, ep, e, nlt_irrefl] at this
    cases this
theorem pos_at {l : List (ByteArray × Nat)} {s : ByteArray} {f : Nat} (h : Rising l) (hl : look l s = some f) : ∃ p, IsPos l s p ∧ foundAt l s p = true ∧ l[p]? = some (s, f) := by
  obtain ⟨p, hp⟩ := h.pos s
  have hlp := look_pos h hp
  by_cases hf : foundAt l s p = true
  · refine ⟨p, hp, hf, ?_⟩
    rw [if_pos hf, hl] at hlp
    unfold foundAt at hf
    cases hx : l[p]? with
    | none => rw [hx] at hf; cases hf
    | some x =>
      rw [hx] at hf hlp
      simp at hf hlp
      rw [← hf, hlp]
  · rw [if_neg hf, hl] at hlp
    cases hlp
/-- Remove of a name that may be, there or not: it is not there; the others are as they were. -/
theorem remove_gen (h : DiskRep w d D) (s : ByteArray) (hm : mayB s = true) :
    Calls Try.prog 37 #[.pointer (some ⟨d, 0, none⟩), .string s] w fun e w' => (∃ r, e = .returned (.int .i64 r)) ∧ ∃ vn l, DStep w d D w' (D.setNow vn l) ∧ look l s = none ∧ (∀ t, s ≠ t → look l t = look D.now t) ∧ l.length ≤ D.now.length := by
  cases hl : look D.now s with
  | none => exact (remove_none h s hm hl).mono fun e w' ⟨h1, h2⟩ => ⟨⟨_, h1⟩, D.vn, D.now, DStep.of_non h h2, hl, fun _ _ => rfl, Nat.le_refl _⟩
  | some f =>
    obtain ⟨p, hp, hf, hx⟩ := pos_at h.rising hl
    exact (remove_ok h s hm f hl p hp hf).mono fun e w' ⟨h1, vn, h2, _, _⟩ => ⟨⟨_, h1⟩, vn, _, h2, rising_once h.rising hx, fun t ht => look_erase_other hx ht, List.length_eraseIdx_le _ _⟩
end
end Go.Proofs.Ytmclbechnfedmaa
