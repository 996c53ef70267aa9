/- The reference: Commit, Undo, Again, Get, Used. The reference: Used, Free, NewPage, Put. -/
import Derived.Test.YtgillcppnpkkiaaGreatDoorRefRep
import Derived.Test.YtgillcppnpkkiaaGreatDoorDisks
import Derived.Test.YtgillcppnpkkiaaGreatDoorFileOps
namespace Go.Proofs.YtgillcppnpkkiaaGreatDoor
open Go Go.RowKit
section
variable {w w' : World} {m : Nat} {R : Rf} {S : Nat → Prop}
def Rf.commit (R : Rf) : Rf := { R with ak := R.an, ck := R.cn, kept := R.now, was := R.root }
def Rf.undo (R : Rf) : Rf := { R with an := R.ak, cn := R.ck, now := R.kept, root := R.was }
theorem ri_commit {b : Nat} (h : RI R.commit b) : RI R b := by
  rcases h with h | h | ⟨x, hx, e⟩
  · exact .inl h
  · exact .inl h
  · exact .inr (.inr ⟨x, .inl (hx.elim id id), e⟩)
theorem ri_undo {b : Nat} (h : RI R.undo b) : RI R b := by
  rcases h with h | h | ⟨x, hx, e⟩
  · exact .inr (.inl h)
  · exact .inr (.inl h)
  · exact .inr (.inr ⟨x, .inr (hx.elim id id), e⟩)
theorem ref_commit (h : RefRep w m R) : Calls Tryz.prog 14 #[.pointer (some ⟨m, 0, none⟩)] w fun e w' => e = .returned (.tuple #[]) ∧ RefRep w' m R.commit ∧ Mod (One m) w w' := by
  have c := h.blk.cell
  have f := h.blk.frozen
  have H := Lib.hid h
  clear h
  go_enter Tryz.func14, Tryz.ntmps14
  go_wp2
  go_end0
  have hm := ((Mod.refl (One m) w).setCell (p := ⟨m, 2, none⟩) (.inl rfl) (.slice R.an R.now.length R.cn)).setCell (p := ⟨m, 3, none⟩) (.inl rfl) (.int .u32 R.root)
  obtain ⟨h1, h2, h3⟩ := H.out.pages hm (fun b hb e => H.out.apart (by cases e; exact hb))
  exact ⟨rfl, ⟨(H.out.blk.set 2 _).set 3 _, h1, h1, fun x hx => h3 x (.inl (hx.elim id id)), fun hb => H.out.apart (ri_commit hb), fun b hb => Nat.lt_of_lt_of_le (H.out.old b (ri_commit hb)) hm.size, H.out.capN, H.out.capN, H.out.cmN, H.out.cmN⟩, hm⟩
theorem ref_undo (h : RefRep w m R) : Calls Tryz.prog 16 #[.pointer (some ⟨m, 0, none⟩)] w fun e w' => e = .returned (.tuple #[]) ∧ RefRep w' m R.undo ∧ Mod (One m) w w' := by
  have c := h.blk.cell
  have f := h.blk.frozen
  have H := Lib.hid h
  clear h
  go_enter Tryz.func16, Tryz.ntmps16
  go_wp2
  go_end0
  have hm := ((Mod.refl (One m) w).setCell (p := ⟨m, 0, none⟩) (.inl rfl) (.slice R.ak R.kept.length R.ck)).setCell (p := ⟨m, 1, none⟩) (.inl rfl) (.int .u32 R.was)
  obtain ⟨h1, h2, h3⟩ := H.out.pages hm (fun b hb e => H.out.apart (by cases e; exact hb))
  exact ⟨rfl, ⟨(H.out.blk.set 0 _).set 1 _, h2, h2, fun x hx => h3 x (.inr (hx.elim id id)), fun hb => H.out.apart (ri_undo hb), fun b hb => Nat.lt_of_lt_of_le (H.out.old b (ri_undo hb)) hm.size, H.out.capK, H.out.capK, H.out.cmK, H.out.cmK⟩, hm⟩
/-- Another one, with what was kept; the old one is as it was. -/
theorem ref_again (h : RefRep w m R) : Calls Tryz.prog 24 #[.pointer (some ⟨m, 0, none⟩)] w fun e w' => ∃ m', e = .returned (.pointer (some ⟨m', 0, none⟩)) ∧ w.heap.size ≤ m' ∧ RefRep w' m' R.undo ∧ Mod Non w w' := by
  have c := h.blk.cell
  have f := h.blk.frozen
  have H := Lib.hid h
  clear h
  go_enter Tryz.func24, Tryz.ntmps24
  go_wp2
  go_region
  all_goals
    go_wp2
    go_ret
    have hm : Mod Non w (w.alloc (.cells #[.slice R.ak R.kept.length R.ck, .int .u32 R.was, .slice R.ak R.kept.length R.ck, .int .u32 R.was] 97)).drew := ((Mod.refl _ _).alloc _).drew
    obtain ⟨h1, h2, h3⟩ := H.out.pages hm (fun b hb e => e)
    have hri : ∀ b, RI R.undo b → RI R b := fun b hb => ri_undo hb
    exact ⟨w.heap.size, rfl, Nat.le_refl _, ⟨Blk.new w _ _, h2, h2, fun x hx => h3 x (.inr (hx.elim id id)), fun hb => absurd (H.out.old _ (ri_undo hb)) (Nat.lt_irrefl _), fun b hb => Nat.lt_of_lt_of_le (H.out.old b (ri_undo hb)) hm.size, H.out.capK, H.out.capK, H.out.cmK, H.out.cmK⟩, hm⟩
set_option maxHeartbeats 400000 in
theorem ref_get (h : RefRep w m R) (n : Nat) : Calls Tryz.prog 20 #[.pointer (some ⟨m, 0, none⟩), .int .u32 n] w fun e w' => (∀ i x, R.at_ n = some i → R.now[i]? = some x → e = .returned (.tuple #[.slice (some x.a) 256 256, .int .i64 0])) ∧ (R.at_ n = none → e = .returned (.tuple #[.slice none 0 0, .int .i64 7])) ∧ w = w' := by
  have c := h.blk.cell
  have HF := Lib.hid (ref_find h n)
  have hcl : R.now.length ≤ 9223372036854775807 := Nat.le_trans h.capN h.cmN
  have HR := Lib.hid h.now
  clear h
  cases hi : R.at_ n with
  | none =>
    rw [hi] at HF
    clear hi
    go_enter Tryz.func20, Tryz.ntmps20
    go_wp2_with (go_at_call 45; refine HF.out.mono ?_; rintro e w1 ⟨rfl, rfl⟩)
    go_ret2
    exact ⟨fun i x h => (by cases h), fun _ => rfl, rfl⟩
  | some i =>
    rw [hi] at HF
    have hlt : i < R.now.length := by
      unfold Rf.at_ at hi
      rw [List.findIdx?_eq_some_iff_getElem] at hi
      exact hi.1
    obtain ⟨x, hx⟩ : ∃ x, R.now[i]? = some x := ⟨_, List.getElem?_eq_getElem hlt⟩
    obtain ⟨ad, had, hcell⟩ := HR.out.2 (by omega)
    have c1 := hcell _ _ (pgs_get hx).2
    rw [← add_of_add] at c1
    have c2 : w.cell? ⟨(ad.add (i * 2)).block, (ad.add (i * 2)).off + 1, none⟩ = some (.slice (some x.a) 256 256) := c1
    clear c1
    rw [had] at c
    have HX := Lib.hid hx
    clear hi hx had hcell
    go_enter Tryz.func20, Tryz.ntmps20
    go_wp2_with (go_at_call 45; refine HF.out.mono ?_; rintro e w1 ⟨rfl, rfl⟩)
    go_outline
    go_ret2
    exact ⟨fun j y h1 h2 => by cases h1; rw [HX.out] at h2; cases h2; rfl, fun h => (by cases h), rfl⟩
end
end Go.Proofs.YtgillcppnpkkiaaGreatDoor

namespace Go.Proofs.YtgillcppnpkkiaaGreatDoor
open Go Go.RowKit
theorem und_rps : Tryz.prog.underlying 93 = some (.slice 101) := by kernel_rfl
theorem info_rp : (Tryz.prog.info? 101).map (fun i => (i.zero.map (fun z => z.cells.size), i.size, i.bytes)) = some (some 2, 2, 32) := by kernel_rfl
theorem rp_info : ∃ i z, Tryz.prog.info? 101 = some i ∧ i.zero = some z ∧ z.cells.size = 2 ∧ i.size = 2 ∧ i.bytes = 32 := by
  have h := info_rp
  cases hi : Tryz.prog.info? 101 with
  | none => rw [hi] at h; simp at h
  | some i =>
    rw [hi] at h
    cases hz : i.zero with
    | none => simp [hz] at h
    | some z =>
      simp [hz] at h
      exact ⟨i, z, rfl, hz, h.1, h.2.1, h.2.2⟩
section
variable {w w' : World} {m : Nat} {R : Rf} {S : Nat → Prop}
def Rf.nums (R : Rf) : List Nat := R.now.map RP.n
set_option maxHeartbeats 400000 in
theorem ref_used (h : RefRep w m R) (hlen : R.now.length ≤ 1048576) : Calls Tryz.prog 29 #[.pointer (some ⟨m, 0, none⟩)] w fun e w' => ∃ v, e = .returned v ∧ w'.ownsRow w.heap.size 55 1 v R.nums.length (uv R.nums) ∧ Mod Non w w' := by
  obtain ⟨i0, hi, hz0, hz1, hz2⟩ := info_parts info_u32
  have H := Lib.hid h
  clear h
  go_enter Tryz.func29, Tryz.ntmps29
  go_wp2
  go_loopw [3, 4] (fun v i wr => ∃ k : Nat, k ≤ R.now.length ∧ i = .int .i64 k ∧ wr.ownsRow w.heap.size 55 1 v k (uv (R.nums.take k)) ∧ Mod Non w wr) (fun _ i _ => R.now.length - (intOf i).toNat)
  case atStart => exact ⟨0, Nat.zero_le _, rfl, World.ownsRow_nil _ _ _ _, Mod.refl _ _⟩
  case round =>
    obtain ⟨k, hk, rfl, hown, hm⟩ := hrel
    have h1 := H.out.non hm
    have c := h1.blk.cell
    by_cases hlt : k < R.now.length
    · obtain ⟨x, hx⟩ : ∃ x, R.now[k]? = some x := ⟨_, List.getElem?_eq_getElem hlt⟩
      obtain ⟨ad, had, hcell⟩ := h1.now.2 (by omega)
      have c1 := hcell _ _ (pgs_get hx).1
      rw [had] at c
      have hml : k + 1 ≤ maxLen := by unfold maxLen; omega
      have hone : ∀ (W : World), RowAt (W.alloc (.cells #[.int .u32 (x.n : Int)] 55)) (some ⟨W.heap.size, 0, none⟩) 1 1 [.int .u32 (x.n : Int)] := fun W =>
        ⟨rfl, fun _ => ⟨_, rfl, fun k u hu => by rw [add_lit, (Blk.new W _ _).cell]; simpa using hu⟩⟩
      have h1c : ∀ u ∈ [Value.int .u32 (x.n : Int)], u.oneCell' = true := by simp [Value.oneCell']
      have HE : Hid (uv (R.nums.take (k + 1)) = uv (R.nums.take k) ++ [.int .u32 (x.n : Int)]) := by
        refine Lib.hid ?_
        unfold Rf.nums uv
        rw [List.take_add_one]
        simp [hx]
      have hszw := hm.size
      clear hx hcell had h1
      go_wp2_with (at_builtin; refine wpl_append rfl (.tmp 15) (.tmp 25) _ rfl w.heap.size 55 i0 (.int .u32 0) 1 4 und_u32s hi hz0 hz1 hz2 rfl (by omega) rfl (hown.alloc _) rfl (hone wr) h1c hml (by omega) (by simp; omega) ?_; intro v' w3 hown3 hg3 hnil3)
      go_roundw
      case rel => exact ⟨k + 1, by omega, by go_num, by rw [HE.out]; exact hown3, (hm.alloc _).owned (hown.alloc _) hg3 (Nat.le_refl _)⟩
      case measure => simp [intOf]; omega
    · have : k = R.now.length := by omega
      subst this
      clear hlt
      have hl : R.nums.length = R.now.length := by simp [Rf.nums]
      have HO := Lib.hid hown
      clear hown
      go_wp2
      go_ret
      refine ⟨_, rfl, ?_, hm⟩
      have := HO.out
      rw [List.take_of_length_le (by omega)] at this
      rw [hl]
      exact this

/-- One page more or less: the list that is now is another one. -/
theorem RefRep.turn (h : RefRep w m R) (hm : Mod (One m) w w') {A : Option Addr} {c : Nat} {l : List RP} (hb : Blk w' m 97 #[.slice A l.length c, .int .u32 R.root, .slice R.ak R.kept.length R.ck, .int .u32 R.was])
    (hr : RowAt w' A l.length 2 (pgs l)) (hA : ∀ ad, A = some ad → (w.heap.size ≤ ad.block ∧ ad.block < w'.heap.size)) (hp : ∀ x ∈ l, (x ∈ R.now ∨ (w.heap.size ≤ x.a.block ∧ x.a.block < w'.heap.size ∧ RowAt w' (some x.a) 256 1 (bv x.b) ∧ x.b.length = 256))) (hc : l.length ≤ c) (hcm : c ≤ maxLen) :
    RefRep w' m { R with an := A, cn := c, now := l } ∧ ∀ b, RI { R with an := A, cn := c, now := l } b → RI R b ∨ w.heap.size ≤ b := by
  obtain ⟨h1, h2, h3⟩ := h.pages hm (fun b hb e => h.apart (by cases e; exact hb))
  have hri : ∀ b, RI { R with an := A, cn := c, now := l } b → RI R b ∨ (w.heap.size ≤ b ∧ b < w'.heap.size) := fun b hb => by
    rcases hb with ⟨ad, e, rfl⟩ | hb | ⟨x, hx | hx, rfl⟩
    · exact .inr (hA ad e)
    · exact .inl (.inr (.inl hb))
    · rcases hp x hx with h | ⟨h, h', _⟩
      · exact .inl (.inr (.inr ⟨x, .inl h, rfl⟩))
      · exact .inr ⟨h, h'⟩
    · exact .inl (.inr (.inr ⟨x, .inr hx, rfl⟩))
  refine ⟨⟨hb, hr, h2, fun x hx => ?_, fun hb => ?_, fun b hb => ?_, hc, h.capK, hcm, h.cmK⟩, fun b hb => (hri b hb).imp id (fun h => h.1)⟩
  · rcases hx with hx | hx
    · rcases hp x hx with h | ⟨_, _, h4, h5⟩
      · exact h3 x (.inl h)
      · exact ⟨h4, h5⟩
    · exact h3 x (.inr hx)
  · rcases hri m hb with h4 | h4
    · exact h.apart h4
    · have := h.blk.lt; omega
  · rcases hri b hb with h4 | h4
    · exact Nat.lt_of_lt_of_le (h.old b h4) hm.size
    · exact h4.2
end
end Go.Proofs.YtgillcppnpkkiaaGreatDoor
