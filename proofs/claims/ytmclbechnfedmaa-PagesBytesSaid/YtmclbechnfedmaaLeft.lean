/- Disk.Left: the room that is left. -/
import Derived.Test.YtmclbechnfedmaaPlan
namespace Go.Proofs.Ytmclbechnfedmaa
open Go Go.RowKit

/-- The bytes of the first k files of a list. -/
def sumLen (g : Nat → List UInt8) : List (ByteArray × Nat) → Nat → Nat
  | [], _ => 0
  | _, 0 => 0
  | x :: l, k + 1 => (g x.2).length + sumLen g l k
theorem sumLen_zero (g : Nat → List UInt8) (l : List (ByteArray × Nat)) : sumLen g l 0 = 0 := by cases l <;> rfl
theorem sumLen_succ (g : Nat → List UInt8) {l : List (ByteArray × Nat)} {k : Nat} {x : ByteArray × Nat} (h : l[k]? = some x) : sumLen g l (k + 1) = sumLen g l k + (g x.2).length := by
  induction l generalizing k with
  | nil => simp at h
  | cons y l ih =>
    cases k with
    | zero => simp at h; subst h; simp [sumLen, sumLen_zero]
    | succ k => simp at h; simp only [sumLen]; rw [ih h]; omega
theorem sumLen_le (g : Nat → List UInt8) {l : List (ByteArray × Nat)} {m : Nat} (hm : ∀ x ∈ l, (g x.2).length ≤ m) (k : Nat) : sumLen g l k ≤ l.length * m := by
  induction l generalizing k with
  | nil => simp [sumLen]
  | cons y l ih =>
    cases k with
    | zero => simp [sumLen]
    | succ k =>
      simp only [sumLen, List.length_cons, Nat.add_mul, Nat.one_mul]
      have h1 := hm y (by simp)
      have h2 := ih (fun x hx => hm x (by simp [hx])) k
      omega

section
variable {w w' : World} {d : Nat} {D : Dk}
def Dk.left (D : Dk) : Nat := D.size - sumLen D.by_ D.now D.now.length

set_option maxHeartbeats 800000 in
set_option maxRecDepth 100000 in
theorem left_ok (h : DiskRep w d D) :
    Calls Try.prog 31 #[.pointer (some ⟨d, 0, none⟩)] w fun e w' => e = .returned (.int .i64 D.left) ∧ Mod Non w w' := by
  have hlen := h.len
  have hs2 := h.s2
  have hsum := fun k => sumLen_le D.by_ (l := D.now) (m := 1048576) (fun x hx => (h.file x.2 ⟨x, .inl hx, rfl⟩).2.2.2) k
  obtain ⟨A1, c1, A2, c2, e1, e2, l1, l2, r1, r2⟩ := h.opens
  have hb := h.blk
  rw [e1, e2] at hb
  have cb := hb.cell
  have E1 := Lib.hid e1
  have E2 := Lib.hid e2
  have H := Lib.hid h
  clear h e1 e2 r1 r2 hb
  go_enter Try.func31, Try.ntmps31
  go_wp2
  clear cb
  go_loopw [3, 17] (fun n i wr => ∃ k : Nat, k ≤ D.now.length ∧ i = .int .i64 k ∧ n = .int .i64 ((D.size : Int) - (sumLen D.by_ D.now k : Nat)) ∧ Mod Non w wr) (fun _ i _ => D.now.length - (intOf i).toNat)
  case atStart => exact ⟨0, Nat.zero_le _, rfl, by rw [sumLen_zero]; simp, Mod.refl _ _⟩
  case round =>
    obtain ⟨k, hk, rfl, rfl, hm⟩ := hrel
    have hsk := hsum k
    by_cases hlt : k < D.now.length
    · obtain ⟨x, hx⟩ : ∃ x, D.now[k]? = some x := ⟨_, List.getElem?_eq_getElem hlt⟩
      have hr := H.out.non hm
      have hfile : D.isFile x.2 := ⟨x, .inl (List.mem_of_getElem? hx), rfl⟩
      obtain ⟨fb, fr, _, fl⟩ := hr.file _ hfile
      obtain ⟨A, c, ev, hc, hrow, _⟩ := owns_form fr
      rw [ev] at fb
      have cf := fb.cell
      obtain ⟨B1, c1', B2, c2', e1', e2', _, _, r1', _⟩ := hr.opens
      rw [E1.out] at e1'
      injection e1' with ea _ _
      subst ea
      obtain ⟨ad, rfl, hcc⟩ := r1'.2 (by omega)
      have hg := ents_get hx
      have c0 := hcc _ _ hg.1
      have c1'' := hcc _ _ hg.2
      rw [← add_of_add] at c1''
      have cc : wr.cell? ⟨(ad.add (k * 2)).block, (ad.add (k * 2)).off + 1, none⟩ = some (.pointer (some ⟨x.2, 0, none⟩)) := c1''
      have Hs := Lib.hid (sumLen_succ D.by_ hx)
      have hlt1 : x.2 < wr.heap.size := fb.lt
      have hne : ¬ x.2 = wr.heap.size := by omega
      have Hm := Lib.hid hm
      clear hr fb fr ev hrow e2' r1' hcc hg c1'' hx hm hsum
      go_wp2
      go_roundw
      case rel => exact ⟨k + 1, by omega, by go_num, by rw [Hs.out]; congr 1; simp; omega, Hm.out.alloc _⟩
      case measure => simp [intOf]; omega
    · obtain rfl : k = D.now.length := by omega
      clear hlt
      go_wp2
      go_ret
      refine ⟨?_, hm⟩
      have e : max (0 : Int) ((D.size : Int) - (sumLen D.by_ D.now D.now.length : Nat)) = ((D.left : Nat) : Int) := by unfold Dk.left; omega
      exact congrArg (fun n => Ending.returned (.int .i64 n)) e
end
end Go.Proofs.Ytmclbechnfedmaa
