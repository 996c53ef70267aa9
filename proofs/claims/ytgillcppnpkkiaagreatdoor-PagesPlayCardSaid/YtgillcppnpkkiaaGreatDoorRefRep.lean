/- The reference of the pages: what its memory reads as; New, Root, SetRoot, Commit, Undo, Again, find, Get. -/
import Derived.Test.YtgillcppnpkkiaaGreatDoorPagKeep
import Derived.Laws.Rows
namespace Go.Proofs.YtgillcppnpkkiaaGreatDoor
open Go Go.RowKit

/-- A page of the reference: its number, where its bytes lie, and these. -/
structure RP where
  n : Nat
  a : Addr
  b : List UInt8
def pgc (x : RP) : List Value := [.int .u32 x.n, .slice (some x.a) 256 256]
def pgs (l : List RP) : List Value := l.flatMap pgc
theorem pgs_length (l : List RP) : (pgs l).length = l.length * 2 := by
  induction l with
  | nil => rfl
  | cons x l ih => simp only [pgs, List.flatMap_cons, List.length_append, List.length_cons] at ih ⊢; rw [ih]; simp [pgc]; omega
theorem pgs_cons (x : RP) (l : List RP) : pgs (x :: l) = pgc x ++ pgs l := by simp [pgs]
theorem pgs_append (l k : List RP) : pgs (l ++ k) = pgs l ++ pgs k := by simp [pgs]
theorem pgs_get {l : List RP} {i : Nat} {x : RP} (h : l[i]? = some x) : (pgs l)[i * 2]? = some (.int .u32 x.n) ∧ (pgs l)[i * 2 + 1]? = some (.slice (some x.a) 256 256) := by
  induction l generalizing i with
  | nil => simp at h
  | cons y l ih =>
    rw [pgs_cons]
    cases i with
    | zero =>
      simp at h
      subst h
      simp [pgc]
    | succ i =>
      simp at h
      obtain ⟨h1, h2⟩ := ih h
      have hl : (pgc y).length = 2 := rfl
      refine ⟨?_, ?_⟩
      · rw [List.getElem?_append_right (by omega), show (i + 1) * 2 - (pgc y).length = i * 2 by omega]; exact h1
      · rw [List.getElem?_append_right (by omega), show (i + 1) * 2 + 1 - (pgc y).length = i * 2 + 1 by omega]; exact h2
theorem pgs_one (l : List RP) : ∀ u ∈ pgs l, u.oneCell' = true := by
  intro u hu
  obtain ⟨x, _, hx⟩ := List.mem_flatMap.1 hu
  simp only [pgc, List.mem_cons, List.not_mem_nil, or_false] at hx
  rcases hx with rfl | rfl <;> rfl
theorem pgs_take (l : List RP) (k : Nat) : (pgs l).take (k * 2) = pgs (l.take k) := by
  induction l generalizing k with
  | nil => simp [pgs]
  | cons x l ih =>
    cases k with
    | zero => simp [pgs]
    | succ k =>
      rw [pgs_cons, List.take_succ_cons, pgs_cons, ← ih, List.take_append]
      have hl : (pgc x).length = 2 := rfl
      rw [List.take_of_length_le (by omega), show (k + 1) * 2 - (pgc x).length = k * 2 by omega]
theorem pgs_drop (l : List RP) (k : Nat) : (pgs l).drop (k * 2) = pgs (l.drop k) := by
  induction l generalizing k with
  | nil => simp [pgs]
  | cons x l ih =>
    cases k with
    | zero => simp [pgs]
    | succ k =>
      have hl : (pgc x).length = 2 := rfl
      rw [pgs_cons, List.drop_succ_cons, ← ih, List.drop_append, List.drop_of_length_le (by omega), List.nil_append, show (k + 1) * 2 - (pgc x).length = k * 2 by omega]

/-- The reference as it is. -/
structure Rf where
  an : Option Addr
  cn : Nat
  now : List RP
  root : Nat
  ak : Option Addr
  ck : Nat
  kept : List RP
  was : Nat
/-- Blocks that are never written again. -/
def RI (R : Rf) : Nat → Prop := fun b => (∃ ad, R.an = some ad ∧ b = ad.block) ∨ (∃ ad, R.ak = some ad ∧ b = ad.block) ∨ ∃ x, (x ∈ R.now ∨ x ∈ R.kept) ∧ b = x.a.block
def RS (m : Nat) (R : Rf) : Nat → Prop := fun b => b = m ∨ RI R b
structure RefRep (w : World) (m : Nat) (R : Rf) : Prop where
  blk : Blk w m 97 #[.slice R.an R.now.length R.cn, .int .u32 R.root, .slice R.ak R.kept.length R.ck, .int .u32 R.was]
  now : RowAt w R.an R.now.length 2 (pgs R.now)
  kept : RowAt w R.ak R.kept.length 2 (pgs R.kept)
  page : ∀ x, x ∈ R.now ∨ x ∈ R.kept → RowAt w (some x.a) 256 1 (bv x.b) ∧ x.b.length = 256
  apart : ¬ RI R m
  old : ∀ b, RI R b → b < w.heap.size
  capN : R.now.length ≤ R.cn
  capK : R.kept.length ≤ R.ck
  cmN : R.cn ≤ maxLen
  cmK : R.ck ≤ maxLen
section
variable {w w' : World} {m : Nat} {R : Rf} {S : Nat → Prop}
theorem RefRep.lt (h : RefRep w m R) {b : Nat} (hb : RS m R b) : b < w.heap.size := hb.elim (fun e => by rw [e]; exact h.blk.lt) (h.old b)
theorem RefRep.pages (h : RefRep w m R) (hm : Mod S w w') (hn : ∀ b, RI R b → ¬ S b) : RowAt w' R.an R.now.length 2 (pgs R.now) ∧ RowAt w' R.ak R.kept.length 2 (pgs R.kept) ∧ ∀ x, x ∈ R.now ∨ x ∈ R.kept → RowAt w' (some x.a) 256 1 (bv x.b) ∧ x.b.length = 256 :=
  ⟨h.now.mod (by decide) hm (fun ad e _ => hn _ (.inl ⟨ad, e, rfl⟩)), h.kept.mod (by decide) hm (fun ad e _ => hn _ (.inr (.inl ⟨ad, e, rfl⟩))), fun x hx => ⟨(h.page x hx).1.mod (by decide) hm (fun ad e _ => by cases e; exact hn _ (.inr (.inr ⟨x, hx, rfl⟩))), (h.page x hx).2⟩⟩
theorem RefRep.mod (h : RefRep w m R) (hm : Mod S w w') (hn : ∀ b, RS m R b → ¬ S b) : RefRep w' m R := by
  obtain ⟨h1, h2, h3⟩ := h.pages hm (fun b hb => hn b (.inr hb))
  exact ⟨h.blk.mod hm (hn m (.inl rfl)), h1, h2, h3, h.apart, fun b hb => Nat.lt_of_lt_of_le (h.old b hb) hm.size, h.capN, h.capK, h.cmN, h.cmK⟩
theorem RefRep.non (h : RefRep w m R) (hm : Mod Non w w') : RefRep w' m R := h.mod hm (fun _ _ x => x)
def Rf.new : Rf := ⟨none, 0, [], 0, none, 0, [], 0⟩
theorem ref_new (w : World) : Calls Tryz.prog 8 #[] w fun e w' => ∃ m, e = .returned (.pointer (some ⟨m, 0, none⟩)) ∧ w.heap.size ≤ m ∧ RefRep w' m .new ∧ Mod Non w w' := by
  go_enter Tryz.func8, Tryz.ntmps8
  go_wp2
  go_ret
  have hb := Blk.new w 97 #[.slice none 0 0, .int .u32 0, .slice none 0 0, .int .u32 0]
  have hno : ∀ b, ¬ RI Rf.new b := fun b hb => by
    rcases hb with ⟨_, e, _⟩ | ⟨_, e, _⟩ | ⟨x, hx | hx, _⟩
    · cases e
    · cases e
    · cases hx
    · cases hx
  exact ⟨w.heap.size, rfl, Nat.le_refl _, ⟨hb, .none, .none, fun x hx => (by rcases hx with h | h <;> cases h), hno _, fun b hb => absurd hb (hno b), Nat.le_refl _, Nat.le_refl _, Nat.zero_le _, Nat.zero_le _⟩, (Mod.refl _ _).alloc _⟩
theorem ref_root (h : RefRep w m R) : Calls Tryz.prog 32 #[.pointer (some ⟨m, 0, none⟩)] w fun e w' => e = .returned (.int .u32 R.root) ∧ w = w' := by
  have c := h.blk.cell
  go_enter Tryz.func32, Tryz.ntmps32
  go_wp2
  go_ret
  exact ⟨rfl, rfl⟩
theorem ref_setroot (h : RefRep w m R) (n : Nat) : Calls Tryz.prog 18 #[.pointer (some ⟨m, 0, none⟩), .int .u32 n] w fun e w' => e = .returned (.tuple #[]) ∧ RefRep w' m { R with root := n } ∧ Mod (One m) w w' := by
  have c := h.blk.cell
  have f := h.blk.frozen
  have H := Lib.hid h
  clear h
  go_enter Tryz.func18, Tryz.ntmps18
  go_wp2
  go_end0
  have hm := (Mod.refl (One m) w).setCell (p := ⟨m, 1, none⟩) (.inl rfl) (.int .u32 n)
  obtain ⟨h1, h2, h3⟩ := H.out.pages hm (fun b hb e => H.out.apart (by cases e; exact hb))
  exact ⟨rfl, ⟨H.out.blk.set 1 _, h1, h2, h3, H.out.apart, fun b hb => Nat.lt_of_lt_of_le (H.out.old b hb) hm.size, H.out.capN, H.out.capK, H.out.cmN, H.out.cmK⟩, hm⟩
/-- The place of a page. -/
def Rf.at_ (R : Rf) (n : Nat) : Option Nat := R.now.findIdx? (fun x => x.n == n)
set_option maxHeartbeats 400000 in
theorem ref_find (h : RefRep w m R) (n : Nat) : Calls Tryz.prog 45 #[.pointer (some ⟨m, 0, none⟩), .int .u32 n] w fun e w' => e = .returned (.tuple #[.int .i64 ((R.at_ n).getD 0), .bool (R.at_ n).isSome]) ∧ w = w' := by
  have c := h.blk.cell
  have hcl : R.now.length ≤ 9223372036854775807 := Nat.le_trans h.capN h.cmN
  have HR := Lib.hid h.now
  clear h
  go_enter Tryz.func45, Tryz.ntmps45
  go_wp2
  go_loop [6] (fun i => ∃ k : Nat, k ≤ R.now.length ∧ i = .int .i64 k ∧ Hid (∀ j x, j < k → R.now[j]? = some x → x.n ≠ n)) (fun i => R.now.length - (intOf i).toNat)
  case atStart => exact ⟨0, Nat.zero_le _, rfl, Lib.hid (fun j x hj => by omega)⟩
  case round =>
    obtain ⟨k, hk, rfl, HN⟩ := hrel
    by_cases hlt : k < R.now.length
    · obtain ⟨x, hx⟩ : ∃ x, R.now[k]? = some x := ⟨_, List.getElem?_eq_getElem hlt⟩
      obtain ⟨ad, had, hcell⟩ := HR.out.2 (by omega)
      have c1 := hcell _ _ (pgs_get hx).1
      rw [had] at c
      have HX := Lib.hid hx
      clear hx hcell had
      by_cases hn : x.n = n
      · have hb : ((x.n : Int) == (n : Int)) = true := by simp [hn]
        have HE := Lib.hid hn
        clear hn
        go_wp2
        go_ret2
        have e : R.at_ n = some k := by
          unfold Rf.at_
          rw [List.findIdx?_eq_some_iff_getElem]
          refine ⟨hlt, ?_, ?_⟩
          · rw [List.getElem?_eq_getElem hlt] at HX
            have := Option.some.inj HX.out
            rw [this]
            simp [HE.out]
          · intro j hj
            have := HN.out j _ hj (List.getElem?_eq_getElem (by omega))
            simpa using this
        rw [e]
        exact ⟨rfl, rfl⟩
      · have hb : ((x.n : Int) == (n : Int)) = false := by simp; omega
        have HE := Lib.hid hn
        clear hn
        go_wp2
        go_round
        case rel => exact ⟨k + 1, by omega, by go_num, Lib.hid fun j y hj hy => by
          by_cases e : j = k
          · subst e
            rw [HX.out] at hy
            cases hy
            exact HE.out
          · exact HN.out j y (by omega) hy⟩
        case measure => simp [intOf]; omega
    · have : k = R.now.length := by omega
      subst this
      clear hlt
      go_wp2
      go_ret2
      have e : R.at_ n = none := by
        unfold Rf.at_
        rw [List.findIdx?_eq_none_iff]
        intro x hx
        obtain ⟨j, hj⟩ := List.mem_iff_getElem?.1 hx
        have := HN.out j x (List.getElem?_eq_some_iff.1 hj).1 hj
        simpa using this
      rw [e]
      exact ⟨rfl, rfl⟩
end
end Go.Proofs.YtgillcppnpkkiaaGreatDoor
