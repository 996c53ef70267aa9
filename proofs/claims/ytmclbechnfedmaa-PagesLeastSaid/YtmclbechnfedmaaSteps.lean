/- The disk along anew: six steps, on a disk whose list is empty. -/
import Derived.Test.YtmclbechnfedmaaAnewFns
namespace Go.Proofs.Ytmclbechnfedmaa
open Go Go.RowKit

/-- The disk ahead of step k. -/
def AState (D : Dk) (rec : List UInt8) (k : Nat) (E : Dk) : Prop :=
  E.size = D.size ∧ match k with
  | 0 => E.now = []
  | 1 => ∃ f, E.now = [(freshB, f)] ∧ E.by_ f = []
  | 2 => ∃ f, E.now = [(freshB, f)] ∧ E.by_ f = rec
  | 3 => ∃ f, E.now = [(freshB, f)] ∧ E.by_ f = rec ∧ E.sure f = rec.length
  | 4 => ∃ f, E.now = [(freshB, f)] ∧ E.by_ f = rec ∧ E.sure f = rec.length ∧ E.kept = E.now
  | 5 => ∃ f, E.now = [(nameB, f)] ∧ E.by_ f = rec ∧ E.sure f = rec.length
  | _ => ∃ f, E.now = [(nameB, f)] ∧ E.by_ f = rec ∧ E.sure f = rec.length ∧ E.kept = E.now

section
variable {w : World} {d : Nat} {D E : Dk} {rec : List UInt8}
theorem look_one (s : ByteArray) (f : Nat) : look [(s, f)] s = some f := by simp [look]

theorem a_create (h : DiskRep w d E) (hs : AState D rec 0 E) : Calls Try.prog 14 #[.pointer (some ⟨d, 0, none⟩), .string freshB] w fun e w' => e = .returned (.int .i64 0) ∧ ∃ E', DStep w d E w' E' ∧ AState D rec 1 E' := by
  have hn : E.now = [] := hs.2
  refine (create_ok h freshB may_fresh (by rw [hn]; simp) (by rw [hn]; simp)).mono ?_
  rintro e w' ⟨rfl, vn, f, _, hst⟩
  exact ⟨rfl, _, hst, hs.1, f, by simp [Dk.create, hn], by simp [Dk.create, upd_same]⟩

theorem a_append (h : DiskRep w d E) (hs : AState D rec 1 E) (A : Option Addr) (m c : Nat) (hr : RowAt w A m 1 (bv rec)) (hm : m ≤ D.size) (hm2 : m ≤ 1048576) :
    Calls Try.prog 15 #[.pointer (some ⟨d, 0, none⟩), .string freshB, .slice A m c] w fun e w' => e = .returned (.int .i64 0) ∧ ∃ E', DStep w d E w' E' ∧ AState D rec 2 E' := by
  obtain ⟨hz, f, hn, hb⟩ := hs
  have hleft : E.left = E.size := by unfold Dk.left; rw [hn]; simp [sumLen, hb]
  refine (append_ok h freshB may_fresh f (by rw [hn]; exact look_one _ _) A m c rec hr ⟨by rw [hleft, hz]; exact hm, by rw [hb]; simpa using hm2⟩).mono ?_
  rintro e w' ⟨rfl, v, hst⟩
  exact ⟨rfl, _, hst, hz, f, hn, by simp [Dk.setFile, hb, upd_same]⟩

theorem a_sync (h : DiskRep w d E) (hs : AState D rec 2 E) : Calls Try.prog 42 #[.pointer (some ⟨d, 0, none⟩), .string freshB] w fun e w' => e = .returned (.int .i64 0) ∧ ∃ E', DStep w d E w' E' ∧ AState D rec 3 E' := by
  obtain ⟨hz, f, hn, hb⟩ := hs
  refine (sync_ok h freshB may_fresh f (by rw [hn]; exact look_one _ _)).mono ?_
  rintro e w' ⟨rfl, hst⟩
  exact ⟨rfl, _, hst, hz, f, hn, by simp [Dk.setFile, hb, upd_same], by simp [Dk.setFile, hb, upd_same]⟩

theorem a_names (h : DiskRep w d E) (hs : AState D rec 3 E) : Calls Try.prog 38 #[.pointer (some ⟨d, 0, none⟩)] w fun e w' => e = .returned (.int .i64 0) ∧ ∃ E', DStep w d E w' E' ∧ AState D rec 4 E' := by
  obtain ⟨hz, f, hn, hb, hu⟩ := hs
  refine (names_ok h).mono ?_
  rintro e w' ⟨rfl, vk, hst⟩
  exact ⟨rfl, _, hst, hz, f, hn, hb, hu, rfl⟩

theorem a_rename (h : DiskRep w d E) (hs : AState D rec 4 E) : Calls Try.prog 54 #[.pointer (some ⟨d, 0, none⟩), .string freshB, .string nameB] w fun e w' => e = .returned (.int .i64 0) ∧ ∃ E', DStep w d E w' E' ∧ AState D rec 5 E' := by
  obtain ⟨hz, f, hn, hb, hu, _⟩ := hs
  refine (rename_end h freshB nameB may_fresh may_name f (by rw [hn]; exact look_one _ _) 0 (by
    rw [hn]
    refine ⟨by simp, fun k x hk hlt => absurd hlt (by omega), fun k x hk _ => ?_⟩
    cases k with
    | zero => simp at hk; subst hk; exact nlt_irrefl _
    | succ k => simp at hk) (by rw [hn]; simp [foundAt]) (by rw [hn]; rfl) (by rw [hn]; simp)).mono ?_
  rintro e w' ⟨rfl, vn, hst⟩
  exact ⟨rfl, _, hst, hz, f, by simp [Dk.setNow, hn], hb, hu⟩

theorem a_names2 (h : DiskRep w d E) (hs : AState D rec 5 E) : Calls Try.prog 38 #[.pointer (some ⟨d, 0, none⟩)] w fun e w' => e = .returned (.int .i64 0) ∧ ∃ E', DStep w d E w' E' ∧ AState D rec 6 E' := by
  obtain ⟨hz, f, hn, hb, hu⟩ := hs
  refine (names_ok h).mono ?_
  rintro e w' ⟨rfl, vk, hst⟩
  exact ⟨rfl, _, hst, hz, f, hn, hb, hu, rfl⟩
end
end Go.Proofs.Ytmclbechnfedmaa
