/- What a disk's memory reads as; asked, at, got, Size. -/
import Derived.Test.YtmclbechnfedmaaFind
namespace Go.Proofs.Ytmclbechnfedmaa
open Go Go.RowKit

/-- A disk as it is: its lists, where they lie; of each file its bytes, and how many are sure. -/
structure Dk where
  size : Nat
  vn : Value
  vk : Value
  now : List (ByteArray × Nat)
  kept : List (ByteArray × Nat)
  fv : Nat → Value
  by_ : Nat → List UInt8
  sure : Nat → Nat

def Dk.isFile (D : Dk) (f : Nat) : Prop := ∃ x, (x ∈ D.now ∨ x ∈ D.kept) ∧ x.2 = f

structure DiskRep (w : World) (d : Nat) (D : Dk) : Prop where
  blk : Blk w d 66 #[.int .i64 D.size, D.vn, D.vk]
  now : w.ownsRow 0 73 2 D.vn D.now.length (ents D.now)
  kept : w.ownsRow 0 73 2 D.vk D.kept.length (ents D.kept)
  rows : ∀ b, D.vn.ownBlock = some b → D.vk.ownBlock ≠ some b
  file : ∀ f, D.isFile f → Blk w f 75 #[D.fv f, .int .i64 (D.sure f)] ∧ w.ownsRow 0 5 1 (D.fv f) (D.by_ f).length (bv (D.by_ f)) ∧ D.sure f ≤ (D.by_ f).length ∧ (D.by_ f).length ≤ 1048576
  sep : ∀ f g b, D.isFile f → D.isFile g → f ≠ g → (D.fv f).ownBlock = some b → (D.fv g).ownBlock ≠ some b
  rising : Rising D.now
  risingK : Rising D.kept
  distinct : D.now.Pairwise (fun a b => a.2 ≠ b.2)
  distinctK : D.kept.Pairwise (fun a b => a.2 ≠ b.2)
  len : D.now.length ≤ 64
  lenK : D.kept.length ≤ 64
  s1 : 1 ≤ D.size
  s2 : D.size ≤ 8388608

/-- The blocks of a disk. -/
def DS (d : Nat) (D : Dk) : Nat → Prop := fun b => b = d ∨ D.vn.ownBlock = some b ∨ D.vk.ownBlock = some b ∨ ∃ f, D.isFile f ∧ (b = f ∨ (D.fv f).ownBlock = some b)

theorem owns_keep {w w' : World} {base : Nat} {e : TypeId} {size : Nat} {v : Value} {n : Nat} {xs : List Value} (h : w.ownsRow base e size v n xs) (hk : ∀ b, v.ownBlock = some b → w'.heap[b]? = w.heap[b]?) : w'.ownsRow base e size v n xs := by
  refine ⟨h.1, ?_⟩
  rcases h.2 with hn | ⟨g, cap, cur, hv, hb, hg, r⟩
  · exact .inl hn
  · exact .inr ⟨g, cap, cur, hv, hb, (hk g (by rw [hv]; rfl)).trans hg, r⟩

section
variable {w w' : World} {d : Nat} {D : Dk} {S : Nat → Prop}

theorem DiskRep.lt (h : DiskRep w d D) {b : Nat} (hb : DS d D b) : b < w.heap.size := by
  rcases hb with rfl | hb | hb | ⟨f, hf, rfl | hb⟩
  · exact h.blk.lt
  · exact (h.now.lt b hb).2
  · exact (h.kept.lt b hb).2
  · exact (h.file b hf).1.lt
  · exact ((h.file f hf).2.1.lt b hb).2

theorem DiskRep.mod (h : DiskRep w d D) (hm : Mod S w w') (hn : ∀ b, DS d D b → ¬ S b) : DiskRep w' d D := by
  have hk : ∀ b, DS d D b → w'.heap[b]? = w.heap[b]? := fun b hb => hm.block b (h.lt hb) (hn b hb)
  refine ⟨(hk d (.inl rfl)).trans h.blk, owns_keep h.now (fun b hb => hk b (.inr (.inl hb))), owns_keep h.kept (fun b hb => hk b (.inr (.inr (.inl hb)))), h.rows, fun f hf => ?_, h.sep, h.rising, h.risingK, h.distinct, h.distinctK, h.len, h.lenK, h.s1, h.s2⟩
  obtain ⟨h1, h2, h3⟩ := h.file f hf
  exact ⟨(hk f (.inr (.inr (.inr ⟨f, hf, .inl rfl⟩)))).trans h1, owns_keep h2 (fun b hb => hk b (.inr (.inr (.inr ⟨f, hf, .inr hb⟩)))), h3⟩
theorem DiskRep.non (h : DiskRep w d D) (hm : Mod Non w w') : DiskRep w' d D := h.mod hm (fun _ _ x => x)

theorem DiskRep.opens (h : DiskRep w d D) : ∃ A1 c1 A2 c2, D.vn = .slice A1 D.now.length c1 ∧ D.vk = .slice A2 D.kept.length c2 ∧ D.now.length ≤ c1 ∧ D.kept.length ≤ c2 ∧ RowAt w A1 D.now.length 2 (ents D.now) ∧ RowAt w A2 D.kept.length 2 (ents D.kept) := by
  obtain ⟨A1, c1, e1, l1, r1, _⟩ := owns_form h.now
  obtain ⟨A2, c2, e2, l2, r2, _⟩ := owns_form h.kept
  exact ⟨A1, c1, A2, c2, e1, e2, l1, l2, r1, r2⟩

/-- A method on no disk. -/
theorem asked_nil (w : World) (v : Value) : Calls Try.prog 27 #[.pointer none, v] w fun e w' => e = .returned (.int .i64 2) ∧ w = w' := by
  go_enter Try.func27, Try.ntmps27
  go_wp2
  go_ret
  exact ⟨rfl, rfl⟩
theorem asked_ok (h : DiskRep w d D) : Calls Try.prog 27 #[.pointer (some ⟨d, 0, none⟩), .slice none 0 0] w fun e w' => e = .returned (.int .i64 0) ∧ w = w' := by
  have c := h.blk.cell
  have hs := h.s1
  have h0 : ((D.size : Int) == 0) = false := by simp; omega
  clear h
  go_enter Try.func27, Try.ntmps27
  go_wp2
  go_ret
  exact ⟨rfl, rfl⟩

theorem at_bad (s : ByteArray) (hs : s.size ≤ maxLen) (hm : mayB s = false) (v : Value) : Calls Try.prog 28 #[v, .string s] w fun e w' => e = .returned (.tuple #[.int .i64 0, .int .i64 1]) ∧ w = w' := by
  have HM := Lib.hid (may_any s w hs)
  go_enter Try.func28, Try.ntmps28
  go_wp2_with (go_at_call 46; refine HM.out.mono ?_; rintro e w1 ⟨rfl, rfl⟩)
  go_ret2
  exact ⟨rfl, rfl⟩

set_option maxRecDepth 100000 in
theorem at_ok (h : DiskRep w d D) (s : ByteArray) (hm : mayB s = true) (p : Nat) (hp : IsPos D.now s p) :
    Calls Try.prog 28 #[.pointer (some ⟨d, 0, none⟩), .string s] w fun e w' => e = .returned (.tuple #[.int .i64 p, .int .i64 (if foundAt D.now s p = true then 0 else 7)]) ∧ Mod Non w w' := by
  obtain ⟨A1, c1, A2, c2, e1, e2, l1, l2, r1, r2⟩ := h.opens
  have hb := h.blk
  rw [e1, e2] at hb
  have c := hb.cell
  have hlen := h.len
  have hsz : s.size ≤ maxLen := by
    unfold mayB at hm; simp at hm; unfold maxLen; omega
  have HM := Lib.hid (may_any s w hsz)
  have HF := Lib.hid (find_ok A1 c1 D.now s w r1 (by omega) p hp)
  have Hb := Lib.hid hb
  clear h hb e1 e2 hp r1 r2
  by_cases hf : foundAt D.now s p = true
  · rw [if_pos hf]
    have Hf := Lib.hid hf
    go_enter Try.func28, Try.ntmps28
    go_wp2_with (first
      | (go_at_call 46; refine HM.out.mono ?_; rintro e w1 ⟨rfl, rfl⟩)
      | (go_at_call 47; refine HF.out.mono ?_; rintro e w2 ⟨rfl, hm2⟩))
    go_ret2
    exact ⟨rfl, hm2⟩
  · rw [if_neg hf]
    have hf' : foundAt D.now s p = false := by simpa using hf
    clear hf
    go_enter Try.func28, Try.ntmps28
    go_wp2_with (first
      | (go_at_call 46; refine HM.out.mono ?_; rintro e w1 ⟨rfl, rfl⟩)
      | (go_at_call 47; refine HF.out.mono ?_; rintro e w2 ⟨rfl, hm2⟩))
    go_ret2
    exact ⟨rfl, hm2⟩
end
end Go.Proofs.Ytmclbechnfedmaa
