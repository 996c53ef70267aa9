/- Names: their order; cmp.Compare of strings; 'may'. -/
import Derived.Test.YtmclbechnfedmaaPagKeep
import Derived.Sort.Walk0
namespace Go.Proofs.Ytmclbechnfedmaa
open Go Go.RowKit

/-- A name stands ahead of another one. -/
def nlt (a b : ByteArray) : Bool := Op.bytesLess a.toList b.toList
theorem nlt_iff (a b : ByteArray) : nlt a b = true ↔ a.toList < b.toList := by unfold nlt; rw [bytesLess_eq]; simp
theorem nlt_irrefl (a : ByteArray) : nlt a a = false := by
  rw [Bool.eq_false_iff]; intro h; exact List.lt_irrefl _ ((nlt_iff a a).1 h)
theorem nlt_trans {a b c : ByteArray} (h : nlt a b = true) (k : nlt b c = true) : nlt a c = true :=
  (nlt_iff a c).2 (List.lt_trans ((nlt_iff a b).1 h) ((nlt_iff b c).1 k))
theorem name_ext {a b : ByteArray} (h : a.toList = b.toList) : a = b := by
  rw [ByteArray.toList_eq, ByteArray.toList_eq] at h
  exact ByteArray.ext (Array.toList_inj.1 h)
theorem nlt_tri {a b : ByteArray} (h : nlt a b = false) (k : nlt b a = false) : a = b := by
  apply name_ext
  have h1 : ¬ a.toList < b.toList := fun x => by rw [(nlt_iff a b).2 x] at h; cases h
  have h2 : ¬ b.toList < a.toList := fun x => by rw [(nlt_iff b a).2 x] at k; cases k
  exact List.le_antisymm (List.not_lt.1 h2) (List.not_lt.1 h1)
theorem nlt_asymm {a b : ByteArray} (h : nlt a b = true) : nlt b a = false := by
  rw [Bool.eq_false_iff]; intro k; have := nlt_trans h k; rw [nlt_irrefl] at this; cases this
theorem name_beq (a b : ByteArray) : (a.toList == b.toList) = decide (a = b) := by
  by_cases h : a = b
  · subst h; simp
  · have : ¬ a.toList = b.toList := fun e => h (name_ext e)
    simp [h, this]

/-- cmp.Compare's answer. -/
def cmpS (a b : ByteArray) : Int := if nlt a b = true then -1 else if a = b then 0 else 1

theorem cmp_strings (a b : ByteArray) (w : World) :
    Calls Try.prog 61 #[.string a, .string b] w fun e w' => e = .returned (.int .i64 (cmpS a b)) ∧ w = w' := by
  have hN : ∀ (s : ByteArray) (w : World), Calls Try.prog 76 #[.string s] w fun e w' => e = .returned (.bool false) ∧ w = w' := by
    intro s w
    go_enter Try.func76, Try.ntmps76
    go_wp2
    go_ret
    exact ⟨by simp, rfl⟩
  unfold cmpS
  by_cases h1 : nlt a b = true
  · have h1' : Op.bytesLess a.toList b.toList = true := h1
    rw [if_pos h1]
    clear h1
    have HN := Lib.hid hN
    clear hN
    go_enter Try.func61, Try.ntmps61
    go_wp2_with (go_at_call 76; refine (HN.out _ _).mono ?_; rintro e w' ⟨rfl, rfl⟩)
    go_ret
    exact ⟨rfl, rfl⟩
  · have h1' : Op.bytesLess a.toList b.toList = false := by simpa [nlt] using h1
    rw [if_neg h1]
    clear h1
    have HN := Lib.hid hN
    clear hN
    by_cases h2 : a = b
    · have h2' : (a.toList == b.toList) = true := by simp [h2]
      rw [if_pos h2]
      clear h2
      go_enter Try.func61, Try.ntmps61
      go_wp2_with (go_at_call 76; refine (HN.out _ _).mono ?_; rintro e w' ⟨rfl, rfl⟩)
      go_ret
      exact ⟨rfl, rfl⟩
    · have h2' : (a.toList == b.toList) = false := by rw [name_beq]; simp [h2]
      rw [if_neg h2]
      clear h2
      go_enter Try.func61, Try.ntmps61
      go_wp2_with (go_at_call 76; refine (HN.out _ _).mono ?_; rintro e w' ⟨rfl, rfl⟩)
      go_ret
      exact ⟨rfl, rfl⟩

/-- May a byte stand in a name of a file? -/
def okc (c : UInt8) : Bool := (97 ≤ c.toNat && c.toNat ≤ 122) || (48 ≤ c.toNat && c.toNat ≤ 57) || c.toNat == 45 || c.toNat == 46
def mayB (s : ByteArray) : Bool := s.data.toList.all okc && decide (s.size ≠ 0) && decide (s.size ≤ 16)

theorem mayB_no {s : ByteArray} {k : Nat} (hk : k < s.size) (h : okc s[k] = false) : mayB s = false := by
  have hm : s[k] ∈ s.data.toList := by
    have : s[k] = s.data.toList[k]'(by simpa using hk) := rfl
    rw [this]; exact List.getElem_mem _
  unfold mayB
  have : s.data.toList.all okc = false := by
    rw [List.all_eq_false]
    exact ⟨_, hm, by simp [h]⟩
  simp [this]
theorem mayB_end {s : ByteArray} (h : ∀ j, (hj : j < s.size) → okc s[j] = true) : mayB s = (decide (s.size ≠ 0) && decide (s.size ≤ 16)) := by
  unfold mayB
  have : s.data.toList.all okc = true := by
    rw [List.all_eq_true]
    intro c hc
    obtain ⟨j, hj, rfl⟩ := List.mem_iff_getElem.1 hc
    exact h j (by simpa using hj)
  simp [this]

set_option maxHeartbeats 400000 in
theorem may_any (s : ByteArray) (w : World) (hs : s.size ≤ maxLen) :
    Calls Try.prog 46 #[.string s] w fun e w' => e = .returned (.bool (mayB s)) ∧ w = w' := by
  unfold maxLen at hs
  go_enter Try.func46, Try.ntmps46
  go_wp2
  go_loop [7] (fun i => ∃ k : Nat, k ≤ s.size ∧ i = .int .i64 k ∧ Hid (∀ j, j < k → (hj : j < s.size) → okc s[j] = true)) (fun i => s.size - (intOf i).toNat)
  case atStart => exact ⟨0, Nat.zero_le _, rfl, Lib.hid (fun j hj => absurd hj (by omega))⟩
  case round =>
    obtain ⟨k, hk, rfl, hall⟩ := hrel
    have hstep : ∀ (hlt : k < s.size), okc s[k] = true → Hid (∀ j, j < k + 1 → (hj : j < s.size) → okc s[j] = true) := fun hlt hc => Lib.hid (fun j hj hjs => by
      by_cases hjk : j = k
      · subst hjk; exact hc
      · exact hall.out j (by omega) hjs)
    by_cases hlt : k < s.size
    · have HS := Lib.hid (hstep hlt)
      have HN := Lib.hid (mayB_no (s := s) hlt)
      clear hstep hall
      go_wp2
      all_goals first
        | (go_round
           case rel => exact ⟨k + 1, by omega, by go_num, HS.out (by unfold okc; simp_all; omega)⟩
           case measure => simp [intOf]; omega)
        | (go_ret
           have hn : okc s[k] = false := by unfold okc; simp_all; omega
           exact ⟨congrArg (fun b => Ending.returned (.bool b)) (HN.out hn).symm, rfl⟩)
    · have hend : mayB s = (decide (s.size ≠ 0) && decide (s.size ≤ 16)) := mayB_end (fun j hj => hall.out j (by omega) hj)
      have HE := Lib.hid hend
      clear hend hstep hall
      go_wp2
      · have he : s.toList = [] := by assumption
        go_ret
        have h0 : s.size = 0 := by
          rw [ByteArray.toList_eq] at he
          have := congrArg List.length he
          simpa using this
        exact ⟨by rw [HE.out, h0]; rfl, rfl⟩
      · have he : ¬ s.toList = [] := by assumption
        go_ret
        have h0 : s.size ≠ 0 := fun h0 => he (by
          rw [ByteArray.toList_eq]
          exact List.eq_nil_of_length_eq_zero (by simpa using h0))
        have h1 : s.toList.isEmpty = false := by simpa using he
        refine ⟨?_, rfl⟩
        rw [HE.out]
        simp [h0, h1]
        omega
end Go.Proofs.Ytmclbechnfedmaa
