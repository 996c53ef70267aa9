/- What the walk of PagesBytes leans on: files that came in, Put of any length, what a commit left. -/
import Derived.Test.YtmclbechnfedmaaNewG
import Derived.Test.YtmclbechnfedmaaFit
namespace Go.Proofs.Ytmclbechnfedmaa
open Go Go.RowKit
/-- Names with bytes, as a slice of them leads to them. -/
def RowsF (w : World) (A : Option Addr) (l : List (ByteArray × List UInt8)) : Prop := ∀ (i : Nat) (x : ByteArray × List UInt8), l[i]? = some x → ∃ ad A' c, A = some ad ∧ w.cell? (ad.add (i * 2)) = some (.string x.1) ∧ w.cell? (ad.add (i * 2 + 1)) = some (.slice A' x.2.length c) ∧ RowAt w A' x.2.length 1 (bv x.2) ∧ x.1.size ≤ maxLen ∧ x.2.length ≤ maxLen
theorem RowsF.non {w w' : World} {A : Option Addr} {l : List (ByteArray × List UInt8)} (h : RowsF w A l) (hm : Mod Non w w') : RowsF w' A l := by
  intro i b hb
  obtain ⟨ad, A', c, e, hc, hc2, hr, hs, hl⟩ := h i b hb
  exact ⟨ad, A', c, e, (World.cell?_of_block (w := w) (hm.block _ (World.block_lt_of_cell? w _ hc) (fun x => x))).trans hc, (World.cell?_of_block (w := w) (hm.block _ (World.block_lt_of_cell? w _ hc2) (fun x => x))).trans hc2, hr.non (by decide) hm, hs, hl⟩

section
variable {w : World} {p d : Nat} {G : Pg} {D : Dk}
/-- A pager whose page n was turned, and no other one. -/
structure Turned (G G4 : Pg) (n : Nat) (x : List UInt8) : Prop where
  d : G4.d = G.d
  root : G4.root = G.root
  size : G4.size = G.size
  m1 : G4.m1 = G.m1
  m2 : G4.m2 = G.m2
  m3 : G4.m3 = G.m3
  at_ : G4.now n = some x
  other : ∀ k, k ≠ n → G4.now k = G.now k
  dirty : ∀ k, G4.dirty k = true ↔ k ∈ [n]
theorem Turned.ps {G4 : Pg} {n : Nat} {x : List UInt8} (h : Turned G G4 n x) (p b : Nat) : PS p G4 b ↔ PS p G b := by unfold PS; rw [h.m1, h.m2, h.m3]
theorem Turned.few {G4 : Pg} {n : Nat} {x : List UInt8} (h : Turned G G4 n x) (hf : Few G.now) (h1 : 1 ≤ n) (h2 : n ≤ 4000) : Few G4.now := fun k hk => by
  by_cases e : k = n
  · omega
  · rw [h.other k e] at hk
    exact hf k hk
theorem dirty_one {f : Nat → Bool} (hf : ∀ k, f k = false) (n k : Nat) : upd f n true k = true ↔ k ∈ [n] := by
  by_cases e : k = n
  · subst e
    rw [upd_same]
    simp
  · rw [upd_other _ _ e, hf]
    simp [e]
def PutSays (w : World) (p : Nat) (G : Pg) (n m : Nat) (e : Ending) (w' : World) : Prop :=
  ((e = .returned (.int .i64 0) ∧ m ≤ 256) ∨ (e = .returned (.int .i64 1) ∧ 256 < m)) ∧ ∃ G4 x, Turned G G4 n x ∧ PagRep w' p G4 ∧ Mod (PS p G) w w'
/-- Put, of any length, on the page that is new. -/
theorem put_any {n : Nat} (h : PagRep w p (G.newed n)) (hd : ∀ k, G.dirty k = false) (A : Option Addr) (m c : Nat) (l : List UInt8) (hr : RowAt w A m 1 (bv l)) :
    Calls Try.prog 17 #[.pointer (some ⟨p, 0, none⟩), .int .u32 n, .slice A m c] w fun e w' => PutSays w p G n m e w' := by
  by_cases hm : m ≤ 256
  · refine (put_ok h n zero256 (upd_same _ _ _) A m c l hr hm).mono fun e w' ⟨h1, h2, h3⟩ => ⟨.inl ⟨h1, hm⟩, (G.newed n).puts n l, padded l, ⟨rfl, rfl, rfl, rfl, rfl, rfl, upd_same _ _ _, fun k hk => ?_, fun k => ?_⟩, h2, h3⟩
    · show upd (upd G.now n _) n _ k = _
      rw [upd_other _ _ hk, upd_other _ _ hk]
    · show upd (upd G.dirty n true) n true k = true ↔ _
      by_cases e : k = n
      · subst e
        rw [upd_same]
        simp
      · rw [upd_other _ _ e]
        exact dirty_one hd n k
  · refine (put_long h n zero256 (upd_same _ _ _) A m c (by omega)).mono fun e w' ⟨h1, h2⟩ => ⟨.inr ⟨h1, by omega⟩, G.newed n, zero256, ⟨rfl, rfl, rfl, rfl, rfl, rfl, upd_same _ _ _, fun k hk => upd_other _ _ hk, dirty_one hd n⟩, h.non h2, h2.mono (fun _ x => x.elim)⟩

/-- What a commit left of the file is read as the pages. -/
theorem parse_left {G4 : Pg} {D' D5 : Dk} {f f5 n : Nat} {x : List UInt8} {l : List Nat} (ht : Turned G G4 n x) (hlen : ∀ k y, G4.now k = some y → y.length = 256) (hn1 : 1 ≤ n) (hn2 : n ≤ 4000) (hroot : G.root < 4294967296) (hfew : Few G.now) (hp : parse (D'.by_ f) = .part G.root G.now true) (hl : l.Perm [n])
    (hby : D5.by_ f5 = D'.by_ f ++ G4.record l ∨ D5.by_ f5 = G4.record (used G4.has 4000)) : ∃ root now, parse (D5.by_ f5) = .part root now true ∧ now n = some x := by
  have hr4 : G4.root < 4294967296 := by rw [ht.root]; exact hroot
  rcases hby with e | e
  · have hl2 : l = [n] := List.perm_singleton.1 hl
    refine ⟨G4.root, turn G4 G.now l, ?_, ?_⟩
    · rw [e]
      exact parse_append hr4 hlen l (fun k hk => by rw [hl2] at hk; simp at hk; omega) (by rw [hl2]; simp) hp
    · rw [turn_at, hl2, if_pos (by simp)]
      exact ht.at_
  · exact ⟨_, _, by rw [e]; exact parse_record hr4 (ht.few hfew hn1 hn2) hlen, ht.at_⟩
end
end Go.Proofs.Ytmclbechnfedmaa
