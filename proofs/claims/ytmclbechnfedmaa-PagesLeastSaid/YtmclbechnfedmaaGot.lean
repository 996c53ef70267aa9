/- A name's file on a disk: got, Size, Sync. -/
import Derived.Test.YtmclbechnfedmaaDisk
namespace Go.Proofs.Ytmclbechnfedmaa
open Go Go.RowKit

/-- A name's file. -/
def look (l : List (ByteArray × Nat)) (s : ByteArray) : Option Nat := (l.find? fun x => decide (x.1 = s)).map (·.2)

theorem look_pos {l : List (ByteArray × Nat)} {s : ByteArray} {p : Nat} (hr : Rising l) (hp : IsPos l s p) : look l s = if foundAt l s p = true then (l[p]?).map (·.2) else none := by
  obtain ⟨hpl, h1, h2⟩ := hp
  unfold look
  by_cases hf : foundAt l s p = true
  · rw [if_pos hf]
    unfold foundAt at hf
    cases hx : l[p]? with
    | none => rw [hx] at hf; cases hf
    | some x =>
      rw [hx] at hf
      have hxs : x.1 = s := by simpa using hf
      have : l.find? (fun x => decide (x.1 = s)) = some x := by
        rw [List.find?_eq_some_iff_getElem]
        obtain ⟨hlt, rfl⟩ := List.getElem?_eq_some_iff.1 hx
        refine ⟨by simp [hxs], p, hlt, rfl, fun j hj => ?_⟩
        have := h1 j l[j] (List.getElem?_eq_getElem (by omega)) hj
        simp only [Bool.not_eq_true', decide_eq_false_iff_not]
        intro e
        rw [e, nlt_irrefl] at this
        cases this
      rw [this]
  · rw [if_neg hf]
    have : l.find? (fun x => decide (x.1 = s)) = none := by
      rw [List.find?_eq_none]
      intro y hy
      obtain ⟨k, hk⟩ := List.mem_iff_getElem?.1 hy
      simp only [decide_eq_true_eq]
      intro e
      rcases Nat.lt_trichotomy k p with hlt | rfl | hgt
      · have := h1 k y hk hlt
        rw [e, nlt_irrefl] at this
        cases this
      · apply hf
        unfold foundAt
        rw [hk]
        simp [e]
      · have hlt : p < l.length := by have := (List.getElem?_eq_some_iff.1 hk).1; omega
        obtain ⟨hkl, rfl⟩ := List.getElem?_eq_some_iff.1 hk
        have hpk := List.pairwise_iff_getElem.1 hr p k hlt hkl hgt
        have := h2 p l[p] (List.getElem?_eq_getElem hlt) (Nat.le_refl _)
        rw [e] at hpk
        rw [hpk] at this
        cases this
    rw [this]
    rfl

theorem look_some {l : List (ByteArray × Nat)} {s : ByteArray} {f : Nat} (h : look l s = some f) : (s, f) ∈ l := by
  unfold look at h
  cases hx : l.find? (fun x => decide (x.1 = s)) with
  | none => rw [hx] at h; cases h
  | some x =>
    rw [hx] at h
    simp at h
    have h1 := List.mem_of_find?_eq_some hx
    have h2 := List.find?_some hx
    simp at h2
    rw [← h2, ← h]
    exact h1

section
variable {w w' : World} {d : Nat} {D : Dk} {S : Nat → Prop}

theorem may_size {s : ByteArray} (hm : mayB s = true) : s.size ≤ maxLen := by
  unfold mayB at hm; simp at hm; unfold maxLen; omega

set_option maxRecDepth 100000 in
theorem got_some (h : DiskRep w d D) (s : ByteArray) (hm : mayB s = true) (f : Nat) (hl : look D.now s = some f) (nv : Value)
    (ha : Calls Try.prog 27 #[.pointer (some ⟨d, 0, none⟩), nv] w fun e w' => e = .returned (.int .i64 0) ∧ Mod Non w w') :
    Calls Try.prog 30 #[.pointer (some ⟨d, 0, none⟩), .string s, nv] w fun e w' => e = .returned (.tuple #[.pointer (some ⟨f, 0, none⟩), .int .i64 0]) ∧ Mod Non w w' := by
  obtain ⟨p, hp⟩ := h.rising.pos s
  have hlp := look_pos h.rising hp
  have hf : foundAt D.now s p = true := by
    cases hf : foundAt D.now s p with
    | true => rfl
    | false => rw [hf, hl] at hlp; cases hlp
  rw [hf, if_pos rfl, hl] at hlp
  obtain ⟨x, hx, hxf⟩ : ∃ x, D.now[p]? = some x ∧ x.2 = f := by
    cases hx : D.now[p]? with
    | none => rw [hx] at hlp; cases hlp
    | some x => rw [hx] at hlp; simp at hlp; exact ⟨x, rfl, hlp.symm⟩
  have hplt : p < D.now.length := (List.getElem?_eq_some_iff.1 hx).1
  have hlen := h.len
  have H := Lib.hid h
  have HA := Lib.hid ha
  have HP := Lib.hid hp
  have Hf := Lib.hid hf
  have Hx := Lib.hid hx
  have Hxf := Lib.hid hxf
  clear h ha hp hlp hl hf hx hxf
  go_enter Try.func30, Try.ntmps30
  go_wp2_with (first
    | (go_at_call 27; refine HA.out.mono ?_; rintro e w1 ⟨rfl, hm1⟩)
    | (go_at_call 28; refine (at_ok (H.out.non hm1) s hm p HP.out).mono ?_; rintro e w2 ⟨rfl, hm2⟩; rw [if_pos Hf.out]; have hm12 := hm1.trans hm2
       have h2 := H.out.non hm12
       obtain ⟨A1, c1, A2, c2, e1, e2, l1, l2, r1, r2⟩ := h2.opens
       have hb := h2.blk
       rw [e1, e2] at hb
       have cb := hb.cell
       obtain ⟨ad, rfl, hc⟩ := r1.2 (by omega)
       have hg := (ents_get Hx.out).2
       have c2' := hc _ _ hg
       rw [← add_of_add, Hxf.out] at c2'
       have cc : w2.cell? ⟨(ad.add (p * 2)).block, (ad.add (p * 2)).off + 1, none⟩ = some (.pointer (some ⟨f, 0, none⟩)) := c2'
       clear h2 e1 e2 hb hg hc c2' r1 r2))
  go_ret2
  exact ⟨rfl, hm12⟩

set_option maxRecDepth 100000 in
theorem got_none (h : DiskRep w d D) (s : ByteArray) (hm : mayB s = true) (hl : look D.now s = none) (nv : Value)
    (ha : Calls Try.prog 27 #[.pointer (some ⟨d, 0, none⟩), nv] w fun e w' => e = .returned (.int .i64 0) ∧ Mod Non w w') :
    Calls Try.prog 30 #[.pointer (some ⟨d, 0, none⟩), .string s, nv] w fun e w' => e = .returned (.tuple #[.pointer none, .int .i64 7]) ∧ Mod Non w w' := by
  obtain ⟨p, hp⟩ := h.rising.pos s
  have hlp := look_pos h.rising hp
  have hf : ¬ foundAt D.now s p = true := by
    intro hf
    rw [if_pos hf, hl] at hlp
    unfold foundAt at hf
    cases hx : D.now[p]? with
    | none => rw [hx] at hf; cases hf
    | some x => rw [hx] at hlp; cases hlp
  have H := Lib.hid h
  have HA := Lib.hid ha
  have HP := Lib.hid hp
  have Hf := Lib.hid hf
  clear h ha hp hlp hl hf
  go_enter Try.func30, Try.ntmps30
  go_wp2_with (first
    | (go_at_call 27; refine HA.out.mono ?_; rintro e w1 ⟨rfl, hm1⟩)
    | (go_at_call 28; refine (at_ok (H.out.non hm1) s hm p HP.out).mono ?_; rintro e w2 ⟨rfl, hm2⟩; rw [if_neg Hf.out]))
  go_ret2
  exact ⟨rfl, hm1.trans hm2⟩

theorem got_bad (s : ByteArray) (hs : s.size ≤ maxLen) (hm : mayB s = false) (v nv : Value)
    (ha : Calls Try.prog 27 #[v, nv] w fun e w' => e = .returned (.int .i64 0) ∧ Mod Non w w') :
    Calls Try.prog 30 #[v, .string s, nv] w fun e w' => e = .returned (.tuple #[.pointer none, .int .i64 1]) ∧ Mod Non w w' := by
  have HA := Lib.hid ha
  clear ha
  go_enter Try.func30, Try.ntmps30
  go_wp2_with (first
    | (go_at_call 27; refine HA.out.mono ?_; rintro e w1 ⟨rfl, hm1⟩)
    | (go_at_call 28; refine (at_bad s hs hm _).mono ?_; rintro e w2 ⟨rfl, rfl⟩))
  go_ret2
  exact ⟨rfl, hm1⟩

theorem asked_okM (h : DiskRep w d D) : Calls Try.prog 27 #[.pointer (some ⟨d, 0, none⟩), .slice none 0 0] w fun e w' => e = .returned (.int .i64 0) ∧ Mod Non w w' :=
  (asked_ok h).mono fun _ _ ⟨h1, h2⟩ => ⟨h1, h2 ▸ Mod.refl _ _⟩

set_option maxRecDepth 100000 in
theorem size_some (h : DiskRep w d D) (s : ByteArray) (hm : mayB s = true) (f : Nat) (hl : look D.now s = some f) :
    Calls Try.prog 32 #[.pointer (some ⟨d, 0, none⟩), .string s] w fun e w' => e = .returned (.tuple #[.int .i64 ((D.by_ f).length : Nat), .int .i64 0]) ∧ Mod Non w w' := by
  have hfile : D.isFile f := ⟨_, .inl (look_some hl), rfl⟩
  have HG := Lib.hid (got_some h s hm f hl _ (asked_okM h))
  have H := Lib.hid h
  clear h hl
  go_enter Try.func32, Try.ntmps32
  go_wp2_with (go_at_call 30; refine HG.out.mono ?_; rintro e w1 ⟨rfl, hm1⟩
               obtain ⟨hb, hr, _, _⟩ := (H.out.non hm1).file f hfile
               obtain ⟨A, c, ev, hc, hrow, _⟩ := owns_form hr
               rw [ev] at hb
               have cb := hb.cell
               clear hb hr ev hrow)
  go_ret2
  exact ⟨rfl, hm1⟩

theorem size_none (h : DiskRep w d D) (s : ByteArray) (hm : mayB s = true) (hl : look D.now s = none) :
    Calls Try.prog 32 #[.pointer (some ⟨d, 0, none⟩), .string s] w fun e w' => e = .returned (.tuple #[.int .i64 0, .int .i64 7]) ∧ Mod Non w w' := by
  have HG := Lib.hid (got_none h s hm hl _ (asked_okM h))
  clear h hl
  go_enter Try.func32, Try.ntmps32
  go_wp2_with (go_at_call 30; refine HG.out.mono ?_; rintro e w1 ⟨rfl, hm1⟩)
  go_ret2
  exact ⟨rfl, hm1⟩

theorem size_nil (w : World) (s : ByteArray) :
    Calls Try.prog 32 #[.pointer none, .string s] w fun e w' => e = .returned (.tuple #[.int .i64 0, .int .i64 2]) ∧ w = w' := by
  have hg : ∀ w, Calls Try.prog 30 #[.pointer none, .string s, .slice none 0 0] w fun e w' => e = .returned (.tuple #[.pointer none, .int .i64 2]) ∧ w = w' := by
    intro w
    go_enter Try.func30, Try.ntmps30
    go_wp2_with (go_at_call 27; refine (asked_nil _ _).mono ?_; rintro e w1 ⟨rfl, rfl⟩)
    go_ret2
    exact ⟨rfl, rfl⟩
  have HG := Lib.hid hg
  clear hg
  go_enter Try.func32, Try.ntmps32
  go_wp2_with (go_at_call 30; refine (HG.out _).mono ?_; rintro e w1 ⟨rfl, rfl⟩)
  go_ret2
  exact ⟨rfl, rfl⟩
end
end Go.Proofs.Ytmclbechnfedmaa
