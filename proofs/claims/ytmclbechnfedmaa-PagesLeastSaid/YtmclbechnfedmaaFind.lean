/- Lists of entries (a name, a file), rising by their names; where a name stands. -/
import Derived.Test.YtmclbechnfedmaaStr
namespace Go.Proofs.Ytmclbechnfedmaa
open Go Go.RowKit

theorem add_of_add (a : Addr) (i j : Nat) : (a.add i).add j = a.add (i + j) := by
  unfold Addr.add
  by_cases hi : i = 0 <;> by_cases hj : j = 0 <;> simp [hi, hj, Nat.add_assoc]

/-- An entry's cells: its name, and where its file lies. -/
def ent (x : ByteArray × Nat) : List Value := [.string x.1, .pointer (some ⟨x.2, 0, none⟩)]
def ents (l : List (ByteArray × Nat)) : List Value := l.flatMap ent
theorem ents_length (l : List (ByteArray × Nat)) : (ents l).length = l.length * 2 := by
  induction l with
  | nil => rfl
  | cons x l ih => simp only [ents, List.flatMap_cons, List.length_append, ent, List.length_cons, List.length_nil] at *; omega
theorem ents_cons (x : ByteArray × Nat) (l : List (ByteArray × Nat)) : ents (x :: l) = ent x ++ ents l := by simp [ents]
theorem ents_append (l k : List (ByteArray × Nat)) : ents (l ++ k) = ents l ++ ents k := by simp [ents]
theorem ents_get {l : List (ByteArray × Nat)} {i : Nat} {x : ByteArray × Nat} (h : l[i]? = some x) : (ents l)[i * 2]? = some (.string x.1) ∧ (ents l)[i * 2 + 1]? = some (.pointer (some ⟨x.2, 0, none⟩)) := by
  induction l generalizing i with
  | nil => simp at h
  | cons y l ih =>
    rw [ents_cons]
    cases i with
    | zero => simp at h; subst h; simp [ent]
    | succ i =>
      simp at h
      have := ih h
      have e1 : (i + 1) * 2 = i * 2 + 2 := by omega
      have e2 : (ent y).length = 2 := rfl
      rw [e1, List.getElem?_append_right (by omega), List.getElem?_append_right (by omega), e2]
      exact this
theorem ents_one (l : List (ByteArray × Nat)) : ∀ u ∈ ents l, u.oneCell' = true := by
  intro u hu
  obtain ⟨x, _, hx⟩ := List.mem_flatMap.1 hu
  simp only [ent, List.mem_cons, List.not_mem_nil, or_false] at hx
  rcases hx with rfl | rfl <;> rfl

/-- s stands, or would stand, at place p. -/
def IsPos (l : List (ByteArray × Nat)) (s : ByteArray) (p : Nat) : Prop :=
  p ≤ l.length ∧ (∀ k x, l[k]? = some x → k < p → nlt x.1 s = true) ∧ (∀ k x, l[k]? = some x → p ≤ k → nlt x.1 s = false)
def Rising (l : List (ByteArray × Nat)) : Prop := l.Pairwise (fun a b => nlt a.1 b.1 = true)

theorem Rising.pos {l : List (ByteArray × Nat)} (h : Rising l) (s : ByteArray) : ∃ p, IsPos l s p := by
  induction l with
  | nil => exact ⟨0, Nat.le_refl _, by simp, by simp⟩
  | cons x l ih =>
    obtain ⟨hx, hl⟩ := List.pairwise_cons.1 h
    by_cases hs : nlt x.1 s = true
    · obtain ⟨p, hp, h1, h2⟩ := ih hl
      refine ⟨p + 1, by simp; omega, ?_, ?_⟩
      · intro k y hk hlt
        cases k with
        | zero => simp at hk; subst hk; exact hs
        | succ k => simp at hk; exact h1 k y hk (by omega)
      · intro k y hk hle
        cases k with
        | zero => omega
        | succ k => simp at hk; exact h2 k y hk (by omega)
    · have hs' : nlt x.1 s = false := by simpa using hs
      refine ⟨0, Nat.zero_le _, fun k y _ hlt => absurd hlt (by omega), ?_⟩
      intro k y hk _
      cases k with
      | zero => simp at hk; subst hk; exact hs'
      | succ k =>
        simp at hk
        rw [Bool.eq_false_iff]
        intro hy
        have := nlt_trans (hx y (List.mem_of_getElem? hk)) hy
        rw [hs'] at this
        cases this
/-- Whether the name at the place is the one. -/
def foundAt (l : List (ByteArray × Nat)) (s : ByteArray) (p : Nat) : Bool := match l[p]? with | some x => decide (x.1 = s) | none => false

theorem und_list : Try.prog.underlying 64 = some (.slice 73) := by kernel_rfl
theorem size_entry : (Try.prog.info? 73).map (fun i => (i.size, i.bytes)) = some (2, 24) := by kernel_rfl

theorem find_cmp (a s : ByteArray) (v : Value) (hv : ∃ f, v = .pointer f) (w : World) :
    Calls Try.prog 60 #[.agg #[.string a, v], .string s] w fun e w' => e = .returned (.int .i64 (cmpS a s)) ∧ Mod Non w w' := by
  obtain ⟨f, rfl⟩ := hv
  go_enter Try.func60, Try.ntmps60
  go_wp2_with (go_at_call 61; refine (cmp_strings _ _ _).mono ?_; rintro e w' ⟨rfl, rfl⟩)
  go_ret
  exact ⟨rfl, (Mod.refl _ _).alloc _⟩

theorem cmpS_lt {a s : ByteArray} (h : nlt a s = true) : decide (cmpS a s < 0) = true := by unfold cmpS; rw [if_pos h]; rfl
theorem cmpS_ge {a s : ByteArray} (h : nlt a s = false) : decide (cmpS a s < 0) = false := by
  unfold cmpS; rw [if_neg (by simp [h])]; split <;> rfl

set_option maxHeartbeats 800000 in
set_option maxRecDepth 100000 in
theorem search_ok (A : Option Addr) (c : Nat) (l : List (ByteArray × Nat)) (s : ByteArray) (w : World) (hr : RowAt w A l.length 2 (ents l)) (hn : l.length ≤ 1048576) (p : Nat) (hp : IsPos l s p) :
    Calls Try.prog 59 #[.slice A l.length c, .string s, .func (.func 60) #[] #[]] w fun e w' => e = .returned (.tuple #[.int .i64 p, .bool (foundAt l s p)]) ∧ Mod Non w w' := by
  have hpl := hp.1
  have HP := Lib.hid hp
  clear hp
  go_enter Try.func59, Try.ntmps59
  go_wp2
  go_loopw [9, 10] (fun i j wr => ∃ a b : Nat, a ≤ p ∧ p ≤ b ∧ b ≤ l.length ∧ i = .int .i64 a ∧ j = .int .i64 b ∧ Mod Non w wr) (fun i j _ => (intOf j - intOf i).toNat)
  case atStart => exact ⟨0, l.length, Nat.zero_le _, hpl, Nat.le_refl _, rfl, rfl, Mod.refl _ _⟩
  case round =>
    obtain ⟨i, j, hip, hpj, hjl, rfl, rfl, hm⟩ := hrel
    by_cases hij : i < j
    · have hh : (i + j) / 2 < l.length := by omega
      obtain ⟨x, hx⟩ : ∃ x, l[(i + j) / 2]? = some x := ⟨_, List.getElem?_eq_getElem hh⟩
      obtain ⟨ad, rfl, hc⟩ := (hr.non (by omega) hm).2 (by omega)
      have hg := ents_get hx
      have c0 := hc _ _ hg.1
      have c1 := hc _ _ hg.2
      rw [← add_of_add] at c1
      have c2 : wr.cell? ⟨(ad.add ((i + j) / 2 * 2)).block, (ad.add ((i + j) / 2 * 2)).off + 1, none⟩ = some (.pointer (some ⟨x.2, 0, none⟩)) := c1
      clear c1
      have hcm : decide (cmpS x.1 s < 0) = decide ((i + j) / 2 < p) := by
        by_cases hlt : (i + j) / 2 < p
        · rw [cmpS_lt (HP.out.2.1 _ _ hx hlt)]; simp [hlt]
        · rw [cmpS_ge (HP.out.2.2 _ _ hx (by omega))]; simp [hlt]
      have Hm := Lib.hid hm
      clear hg hc hr hx hm
      by_cases hlt : (i + j) / 2 < p
      · have ht : decide (cmpS x.1 s < 0) = true := by rw [hcm]; simp [hlt]
        clear hcm
        go_wp2_with (go_at_call 60; refine (find_cmp _ _ _ ⟨_, rfl⟩ _).mono ?_; rintro e w1 ⟨rfl, hm1⟩)
        go_roundw
        case rel => exact ⟨(i + j) / 2 + 1, j, by omega, hpj, hjl, by go_num, rfl, Hm.out.trans hm1⟩
        case measure => simp [intOf]; omega
      · have ht : decide (cmpS x.1 s < 0) = false := by rw [hcm]; simp [hlt]
        clear hcm
        go_wp2_with (go_at_call 60; refine (find_cmp _ _ _ ⟨_, rfl⟩ _).mono ?_; rintro e w1 ⟨rfl, hm1⟩)
        go_roundw
        case rel => exact ⟨i, (i + j) / 2, hip, by omega, by omega, rfl, by go_num, Hm.out.trans hm1⟩
        case measure => simp [intOf]; omega
    · obtain rfl : i = p := by omega
      obtain rfl : j = i := by omega
      clear hij hip hpj hjl
      have Hm := Lib.hid hm
      by_cases hil : j < l.length
      · obtain ⟨x, hx⟩ : ∃ x, l[j]? = some x := ⟨_, List.getElem?_eq_getElem hil⟩
        obtain ⟨ad, rfl, hc⟩ := (hr.non (by omega) hm).2 (by omega)
        have hg := ents_get hx
        have c0 := hc _ _ hg.1
        have c1 := hc _ _ hg.2
        rw [← add_of_add] at c1
        have c2 : wr.cell? ⟨(ad.add (j * 2)).block, (ad.add (j * 2)).off + 1, none⟩ = some (.pointer (some ⟨x.2, 0, none⟩)) := c1
        clear c1
        have hf : foundAt l s j = (cmpS x.1 s == 0) := by
          have := HP.out.2.2 _ _ hx (Nat.le_refl _)
          unfold foundAt cmpS
          rw [hx, if_neg (by simp [this])]
          by_cases he : x.1 = s <;> simp [he]
        have HF := Lib.hid hf
        clear hg hc hr hx hm hf
        go_wp2_with (go_at_call 60; refine (find_cmp _ _ _ ⟨_, rfl⟩ _).mono ?_; rintro e w1 ⟨rfl, hm1⟩)
        go_ret2
        exact ⟨by rw [HF.out]; rfl, Hm.out.trans hm1⟩
      · have hf : foundAt l s j = false := by
          unfold foundAt; rw [List.getElem?_eq_none (by omega)]
        have HF := Lib.hid hf
        clear hr hm hf
        go_wp2
        go_ret2
        exact ⟨by rw [HF.out]; rfl, Hm.out⟩

theorem find_ok (A : Option Addr) (c : Nat) (l : List (ByteArray × Nat)) (s : ByteArray) (w : World) (hr : RowAt w A l.length 2 (ents l)) (hn : l.length ≤ 1048576) (p : Nat) (hp : IsPos l s p) :
    Calls Try.prog 47 #[.slice A l.length c, .string s] w fun e w' => e = .returned (.tuple #[.int .i64 p, .bool (foundAt l s p)]) ∧ Mod Non w w' := by
  have HS := Lib.hid (search_ok A c l s w hr hn p hp)
  clear hr hp
  go_enter Try.func47, Try.ntmps47
  go_wp2_with (go_at_call 59; refine HS.out.mono ?_; rintro e w1 ⟨rfl, hm1⟩)
  go_ret2
  exact ⟨rfl, hm1⟩
end Go.Proofs.Ytmclbechnfedmaa
