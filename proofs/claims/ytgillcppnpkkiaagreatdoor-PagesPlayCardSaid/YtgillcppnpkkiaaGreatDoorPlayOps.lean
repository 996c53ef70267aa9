/- PagesPlay: each call that an act makes, of the pager, the disk, the reference and the Book beside each other. -/
import Derived.Test.YtgillcppnpkkiaaGreatDoorPlayInv
import Derived.Test.YtgillcppnpkkiaaGreatDoorLooks
namespace Go.Proofs.YtgillcppnpkkiaaGreatDoor
open Go Go.RowKit
section
variable {w0 w w' : World} {X : Nat → Prop} {d p m k i : Nat} {G : Pg} {D : Dk} {R : Rf} {B : Bk}
theorem Core.len (h : Core w0 X w d p m k G D R B) : ∀ n x, G.now n = some x → x.length = 256 := h.pag.len
/- New -/
theorem c_new (h : Core w0 X w d p m k G D R B) {L : Nat} (h4 : L < 4000) (hlow : ∀ m, 1 ≤ m → m < L + 1 → (G.now m).isSome = true) (hnone : G.now (L + 1) = none) :
    Calls Tryz.prog 9 #[.pointer (some ⟨p, 0, none⟩)] w fun e w' => e = .returned (.tuple #[.int .u32 (L + 1 : Nat), .int .i64 0]) ∧ Core w0 X w' d p m k (G.newed (L + 1)) D R B ∧ Mod (Off X) w w' :=
  (new_least h.pag (L + 1) (by omega) (by omega) hlow hnone).mono fun _ _ ⟨h1, h2, h3⟩ => ⟨h1, h.pagS h3 h2 rfl (fun _ hb => hb), h.offP h3⟩
theorem c_newpage (h : Core w0 X w d p m k G D R B) (hlen : R.now.length < 4000) {L : Nat} (hL : L ≤ R.now.length) (hlow : ∀ j x, j < L → R.now[j]? = some x → x.n = j + 1) (hnext : ∀ x, R.now[L]? = some x → x.n ≠ L + 1) (hnum : ∀ x ∈ R.now, x.n < 4294967296) :
    Calls Tryz.prog 10 #[.pointer (some ⟨m, 0, none⟩)] w fun e w' => e = .returned (.tuple #[.int .u32 (L + 1 : Nat), .int .i64 0]) ∧ (∃ A c ad, Core w0 X w' d p m k G D (R.cut A c (R.now.take L ++ ⟨L + 1, ad, zero256⟩ :: R.now.drop L)) B) ∧ Mod (Off X) w w' :=
  (ref_newpage h.ref hlen L hL hlow hnext hnum).mono fun _ _ ⟨h1, A, c, ad, h2, h3, h4⟩ => ⟨h1, ⟨A, c, ad, h.refS h4 h2 h3⟩, h.offR h4⟩
/- Free -/
def codeAt (G : Pg) (n : Nat) : Int := if (G.now n).isSome then 0 else 7
def Pg.freeN (G : Pg) (n : Nat) : Pg := if (G.now n).isSome then G.freed n else G
theorem c_free (h : Core w0 X w d p m k G D R B) (n : Nat) :
    Calls Tryz.prog 11 #[.pointer (some ⟨p, 0, none⟩), .int .u32 n] w fun e w' => e = .returned (.int .i64 (codeAt G n)) ∧ Core w0 X w' d p m k (G.freeN n) D R B ∧ Mod (Off X) w w' := by
  unfold codeAt Pg.freeN
  cases hn : G.now n with
  | none => exact (free_none h.pag n hn).mono fun _ _ ⟨h1, h2⟩ => ⟨h1, h.non h2, h.offN h2⟩
  | some l => exact (free_ok h.pag n l hn).mono fun _ _ ⟨h1, h2, h3⟩ => ⟨h1, h.pagS h3 h2 rfl (fun _ hb => hb), h.offP h3⟩
theorem Inv.atSome (hi : Inv i G D R) (n : Nat) : (G.now n).isSome = (R.at_ n).isSome := by
  rw [Bool.eq_iff_iff, hi.sameN.isSome]
  constructor
  · rintro ⟨x, hx, rfl⟩
    obtain ⟨j, hj⟩ := List.mem_iff_getElem?.1 hx
    rw [at_mem hi.sameN hj]
    rfl
  · intro hs
    obtain ⟨q, hq⟩ := Option.isSome_iff_exists.1 hs
    obtain ⟨x, hx, e⟩ := at_some hq
    exact ⟨x, List.mem_of_getElem? hx, e⟩
def Rf.freeN (R : Rf) (n : Nat) (A : Option Addr) (c : Nat) : Rf := match R.at_ n with | some q => R.cut A c (R.now.take q ++ R.now.drop (q + 1)) | none => R
theorem c_rfree {G' : Pg} (h : Core w0 X w d p m k G' D R B) (hi : Inv i G D R) (hlen : R.now.length ≤ 1048576) (n : Nat) :
    Calls Tryz.prog 12 #[.pointer (some ⟨m, 0, none⟩), .int .u32 n] w fun e w' => e = .returned (.int .i64 (codeAt G n)) ∧ (∃ A c, Core w0 X w' d p m k G' D (R.freeN n A c) B) ∧ Mod (Off X) w w' := by
  unfold Rf.freeN codeAt
  rw [hi.atSome]
  cases hn : R.at_ n with
  | none => exact (ref_free_none h.ref n hn).mono fun _ _ ⟨h1, h2⟩ => by subst h2; exact ⟨h1, ⟨none, 0, h⟩, h.offN (Mod.refl _ _)⟩
  | some q => exact (ref_free h.ref hlen n q hn).mono fun _ _ ⟨h1, A, c, h2, h3, h4⟩ => ⟨h1, ⟨A, c, h.refS h4 h2 h3⟩, h.offR h4⟩
theorem Inv.freed (hi : Inv i G D R) (n : Nat) (A : Option Addr) (c : Nat) : Inv i (G.freeN n) D (R.freeN n A c) := by
  unfold Rf.freeN Pg.freeN
  rw [hi.atSome]
  cases hn : R.at_ n with
  | none => exact hi
  | some q =>
    obtain ⟨x, hx, e⟩ := at_some hn
    exact hi.free hx e A c
/- Commit -/
theorem c_commit (h : Core w0 X w d p m k G D R B) (hi : Inv i G D R) (h300 : i ≤ 300) :
    Calls Tryz.prog 13 #[.pointer (some ⟨p, 0, none⟩)] w fun e w' => e = .returned (.int .i64 0) ∧ ∃ G' D', Core w0 X w' d p m k G' D' R B ∧ Inv i G' D' R.commit := by
  by_cases hc : (∀ n, G.dirty n = false) ∧ G.root = G.was
  · exact (commit_same h.pag hc.1 hc.2).mono fun _ _ ⟨h1, h2⟩ => ⟨h1, G, D, h.non h2, hi.commit0 hc.1 hc.2⟩
  · obtain ⟨f, b, hof, hp, hsz⟩ := hi.file
    refine (commit_one h.pag h.disk h.pd hi.rootN f b hof hsz (hi.record h300 h.len) (used G.dirty 4000) (fun n => ?_) ((used_sorted _ _).imp (fun h => Nat.ne_of_lt h)) ?_ (Nat.le_trans (used_length _ _) (by omega)) (fun n hn => by have := mem_used.1 hn; omega) (fun n hn => by have := hi.few n hn; omega)).mono ?_
    · rw [mem_used]
      exact ⟨fun hd => ⟨(hi.dirty n hd).1, (hi.dirty n hd).2, hd⟩, fun h => h.2.2⟩
    · rcases Nat.eq_zero_or_pos (used G.dirty 4000).length with h0 | h0
      · refine .inr fun e => hc ⟨fun n => ?_, e⟩
        cases hd : G.dirty n
        · rfl
        · have : n ∈ used G.dirty 4000 := mem_used.2 ⟨(hi.dirty n hd).1, (hi.dirty n hd).2, hd⟩
          rw [List.length_eq_zero_iff.1 h0] at this
          cases this
      · exact .inl h0
    · rintro e w' ⟨h1, D', f', l, sz, b', g1, g2, g3, g4, g5, g6, g7, g8, g9⟩
      exact ⟨h1, _, D', h.both g9 g3 g2 rfl (fun _ hb => hb) g7 g8, hi.commit h.len hp g1 g4 g5 g6⟩
theorem c_rcommit (h : Core w0 X w d p m k G D R B) :
    Calls Tryz.prog 14 #[.pointer (some ⟨m, 0, none⟩)] w fun e w' => e = .returned (.tuple #[]) ∧ Core w0 X w' d p m k G D R.commit B :=
  (ref_commit h.ref).mono fun _ _ ⟨h1, h2, h3⟩ => ⟨h1, h.refS h3 h2 (fun _ hb => .inl (ri_commit hb))⟩
/- Undo -/
theorem c_undo (h : Core w0 X w d p m k G D R B) :
    Calls Tryz.prog 15 #[.pointer (some ⟨p, 0, none⟩)] w fun e w' => e = .returned (.int .i64 0) ∧ Core w0 X w' d p m k G.undone D R B :=
  (undo_ok h.pag).mono fun _ _ ⟨h1, h2, h3⟩ => ⟨h1, h.pagS h3 h2 rfl (fun _ hb => hb)⟩
theorem c_rundo (h : Core w0 X w d p m k G D R B) :
    Calls Tryz.prog 16 #[.pointer (some ⟨m, 0, none⟩)] w fun e w' => e = .returned (.tuple #[]) ∧ Core w0 X w' d p m k G D R.undo B :=
  (ref_undo h.ref).mono fun _ _ ⟨h1, h2, h3⟩ => ⟨h1, h.refS h3 h2 (fun _ hb => .inl (ri_undo hb))⟩
/- SetRoot -/
theorem c_setroot (h : Core w0 X w d p m k G D R B) (n : Nat) :
    Calls Tryz.prog 17 #[.pointer (some ⟨p, 0, none⟩), .int .u32 n] w fun e w' => e = .returned (.int .i64 0) ∧ Core w0 X w' d p m k { G with root := n } D R B ∧ Mod (Off X) w w' :=
  (setroot_ok h.pag n).mono fun _ _ ⟨h1, h2, h3⟩ => ⟨h1, h.pagS (h3.mono fun _ e => .inl e) h2 rfl (fun _ hb => hb), h.offP (h3.mono fun _ e => .inl e)⟩
theorem c_rsetroot (h : Core w0 X w d p m k G D R B) (n : Nat) :
    Calls Tryz.prog 18 #[.pointer (some ⟨m, 0, none⟩), .int .u32 n] w fun e w' => e = .returned (.tuple #[]) ∧ Core w0 X w' d p m k G D { R with root := n } B :=
  (ref_setroot h.ref n).mono fun _ _ ⟨h1, h2, h3⟩ => ⟨h1, h.refS h3 h2 (fun _ hb => .inl hb)⟩
/- Get -/
def bytesAt (G : Pg) (n : Nat) : List UInt8 := (G.now n).getD []
def hbk (g : Option Nat) (len cap : Nat) : HB := ⟨g, len, cap, .slice none 0 0, 0⟩
/-- A list of bytes that the call made. -/
structure HeldP (w w' : World) (g : Option Nat) (A : Option Addr) (cap : Nat) (l : List UInt8) : Prop where
  ok : HbOk w' (hbk g l.length cap)
  a : A = (hbk g l.length cap).a
  row : RowAt w' A l.length 1 (bv l)
  new : ∀ b, g = some b → w.heap.size ≤ b ∧ b < w'.heap.size
  le : l.length ≤ 256
theorem c_get (h : Core w0 X w d p m k G D R B) (n : Nat) :
    Calls Tryz.prog 19 #[.pointer (some ⟨p, 0, none⟩), .int .u32 n] w fun e w' => ∃ (g : Option Nat) (A : Option Addr) (cap : Nat), e = .returned (.tuple #[.slice A (bytesAt G n).length cap, .int .i64 (codeAt G n)]) ∧ HeldP w w' g A cap (bytesAt G n) ∧ Mod Non w w' := by
  unfold bytesAt codeAt
  cases hn : G.now n with
  | none =>
    exact (get_none h.pag n hn).mono fun _ _ ⟨h1, h2⟩ => ⟨none, none, 0, h1, ⟨⟨fun g e => (by cases e), fun _ => ⟨rfl, rfl⟩, Nat.le_refl _, ⟨Nat.zero_le _, Nat.zero_le _⟩⟩, rfl, .none, fun g e => (by cases e), Nat.zero_le _⟩, h2⟩
  | some l =>
    refine (get_ok h.pag n l hn).mono ?_
    rintro e w' ⟨g, h1, h2, h3⟩
    obtain ⟨g', cap', cur, e1, hb, hk, hnc, hcs, hcm, ht, hlen⟩ := h2
    cases e1
    have hll : l.length = 256 := h.len n l hn
    show ∃ (g : Option Nat) (A : Option Addr) (cap : Nat), e = .returned (.tuple #[.slice A l.length cap, .int .i64 0]) ∧ HeldP w w' g A cap l ∧ Mod Non w w'
    rw [hll]
    refine ⟨some g, _, 256, h1, ⟨?_, ?_, ?_, fun g2 e2 => ?_, by omega⟩, h3⟩
    · rw [hll]
      exact ⟨fun g2 e2 => by cases e2; exact ⟨cur, hk, by show 256 ≤ cur.size; simpa using hcs⟩, fun e => (by cases e), Nat.le_refl _, ⟨(by decide : 256 ≤ 2097152), (by decide : 256 ≤ 9223372036854775807)⟩⟩
    · rfl
    · rw [hll]
      refine ⟨hlen, fun _ => ⟨_, rfl, fun j u hu => ?_⟩⟩
      rw [add_lit, hk.cell, ← Array.getElem?_toList]
      rw [← ht, List.getElem?_take] at hu
      split at hu
      · exact hu
      · cases hu
    · cases e2
      exact ⟨hb, hk.lt⟩
theorem c_rget (h : Core w0 X w d p m k G D R B) (hi : Inv i G D R) (n : Nat) :
    Calls Tryz.prog 20 #[.pointer (some ⟨m, 0, none⟩), .int .u32 n] w fun e w' => w = w' ∧ ∃ A, e = .returned (.tuple #[.slice A (bytesAt G n).length (bytesAt G n).length, .int .i64 (codeAt G n)]) ∧ RowAt w A (bytesAt G n).length 1 (bv (bytesAt G n)) := by
  refine (ref_get h.ref n).mono ?_
  rintro e w' ⟨h1, h2, h3⟩
  refine ⟨h3, ?_⟩
  unfold bytesAt codeAt
  rw [hi.atSome]
  cases hq : R.at_ n with
  | none =>
    have hn : G.now n = none := hi.sameN.none (at_none hq)
    rw [hn]
    exact ⟨none, h2 hq, .none⟩
  | some q =>
    obtain ⟨x, hx, hxn⟩ := at_some hq
    have hn : G.now n = some x.b := (hi.sameN.val n x.b).2 ⟨x, List.mem_of_getElem? hx, hxn, rfl⟩
    obtain ⟨g1, g2⟩ := h.ref.page x (.inl (List.mem_of_getElem? hx))
    rw [hn]
    show ∃ A, e = .returned (.tuple #[.slice A x.b.length x.b.length, .int .i64 0]) ∧ RowAt w A x.b.length 1 (bv x.b)
    rw [g2]
    exact ⟨_, h1 q x hq hx, g1⟩
theorem codeAt_used (hi : Inv i G D R) {j n : Nat} (hj : R.nums[j]? = some n) : codeAt G n = 0 := by
  unfold codeAt
  unfold Rf.nums at hj
  rw [List.getElem?_map, Option.map_eq_some_iff] at hj
  obtain ⟨x, hx, rfl⟩ := hj
  rw [if_pos ((hi.sameN.isSome x.n).2 ⟨x, List.mem_of_getElem? hx, rfl⟩)]
def Withs (X : Nat → Prop) (g : Option Nat) : Nat → Prop := fun b => X b ∨ g = some b
theorem Core.takes {g : Option Nat} (h : Core w0 X w d p m k G D R B) (hm : Mod Non w w') (hg : ∀ b, g = some b → w.heap.size ≤ b ∧ b < w'.heap.size) : Core w0 (Withs X g) w' d p m k G D R B :=
  { h.non hm with
    px := fun b hb e => e.elim (h.px b hb) (fun e => by have := hg b e; have := h.pag.lt hb; omega)
    dx := fun b hb e => e.elim (h.dx b hb) (fun e => by have := hg b e; have := h.disk.lt hb; omega)
    rx := fun b hb e => e.elim (h.rx b hb) (fun e => by have := hg b e; have := h.ref.lt hb; omega)
    bx := fun b hb e => e.elim (h.bx b hb) (fun e => by have := hg b e; have := h.book.lt hb; omega)
    xlt := fun b e => e.elim (fun e => Nat.lt_of_lt_of_le (h.xlt b e) hm.size) (fun e => (hg b e).2)
    newX := fun b e => e.elim (h.newX b) (fun e => Nat.le_trans h.mod.size (hg b e).1) }
theorem c_samebytes {A C : Option Addr} {c1 c2 n : Nat} {l : List UInt8} (ha : RowAt w A n 1 (bv l)) (hb : RowAt w C n 1 (bv l)) (hn : n ≤ 256) :
    Calls Tryz.prog 21 #[.slice A n c1, .slice C n c2] w fun e w' => e = .returned (.bool true) ∧ Mod Non w w' :=
  same_bytes ha hb (by unfold maxLen; omega)
/- a list is kept -/
theorem c_book (h : Core w0 X w d p m k G D R B) (hn : B.n ≤ 100000) {g : Option Nat} {A : Option Addr} {len cap : Nat} (hx : HbOk w (hbk g len cap)) (hA : A = (hbk g len cap).a) (hX : ∀ b, g = some b → X b) :
    Calls Tryz.prog 22 #[.pointer (some ⟨k, 0, none⟩), .slice A len cap] w fun e w' => e = .returned (.tuple #[]) ∧ ∃ v, Core w0 Non w' d p m k G D R (B.keep v g len cap) := by
  subst hA
  exact (book_bytes h.book hn (hbk g len cap) hx (fun g e hb => h.bx g hb (hX g e))).mono fun _ _ hk => ⟨hk.1, h.kept hk hX⟩
/- Fail, Open, Again -/
theorem c_fail (h : Core w0 X w d p m k G D R B) {f : Nat} {b : List UInt8} (hof : OneFile D f b) (keep : Nat) (names : Bool) :
    Calls Tryz.prog 23 #[.pointer (some ⟨d, 0, none⟩), .int .i64 (keep : Nat), .bool names] w fun e w' => FailOne w d D b e w' := by
  have hg := h.gd
  subst hg
  exact fail_one h.disk hof keep names
theorem c_open {w1 : World} (h : Core w0 X w d p m k G D R B) (hi : Inv i G D R) {b : List UInt8} (hp : parse b = .part G.was G.kept true) {x g : Nat} {E : Dk} (hE : DiskRep w1 x E) (hD : ∀ b, DS x E b → DS d D b ∨ w.heap.size ≤ b) (hof : OneFile E g b) (hm : Mod Non w w1) :
    Calls Tryz.prog 7 #[.pointer (some ⟨x, 0, none⟩)] w1 fun e w' => ∃ p' G' D', e = .returned (.tuple #[.pointer (some ⟨p', 0, none⟩), .int .i64 0]) ∧ Core w0 X w' x p' m k G' D' R B ∧ Inv i G' D' R.undo := by
  have hg := h.gd
  subst hg
  refine (open_one hE hof hp).mono ?_
  rintro e w' ⟨p', G', D', f', h1, h2, h3, h4, h5, h6, h7, h8, h9, h10, h11, _, _, h14, h15, h16, h17⟩
  exact ⟨p', G', D', h1, h.reopen hm hD h17 h2 h3 h5 h14 h15 h16, hi.again hp h4 h6 h7 h8 h9 h10 h11⟩
theorem c_again (h : Core w0 X w d p m k G D R B) :
    Calls Tryz.prog 24 #[.pointer (some ⟨m, 0, none⟩)] w fun e w' => ∃ m', e = .returned (.pointer (some ⟨m', 0, none⟩)) ∧ Core w0 X w' d p m' k G D R.undo B :=
  (ref_again h.ref).mono fun _ _ ⟨m', h1, h2, h3, h4⟩ => ⟨m', h1, h.again h4 h2 h3 (fun _ hb => ri_undo hb)⟩
/- Put -/
def putC (is : Bool) (n : Nat) : Int := if is then (if n ≤ 256 then 0 else 1) else 7
def codePut (G : Pg) (n len : Nat) : Int := putC (G.now n).isSome len
def Pg.putN (G : Pg) (n : Nat) (l : List UInt8) : Pg := if (G.now n).isSome = true ∧ l.length ≤ 256 then G.puts n l else G
def Rf.putN (R : Rf) (n : Nat) (l : List UInt8) (A : Option Addr) (c : Nat) (ad : Addr) : Rf :=
  match R.at_ n with
  | some q => if l.length ≤ 256 then R.cut A c (R.now.set q ⟨n, ad, padded l⟩) else R
  | none => R
section
variable {n q : Nat} {l : List UInt8} {A : Option Addr} {c : Nat} {ad : Addr}
theorem pput_yes (h : (G.now n).isSome = true) (hl : l.length ≤ 256) : G.putN n l = G.puts n l := if_pos ⟨h, hl⟩
theorem pput_none (h : G.now n = none) : G.putN n l = G := if_neg (fun hh => by rw [h] at hh; cases hh.1)
theorem pput_long (hl : ¬ l.length ≤ 256) : G.putN n l = G := if_neg (fun hh => hl hh.2)
theorem rput_yes (h : R.at_ n = some q) (hl : l.length ≤ 256) : R.putN n l A c ad = R.cut A c (R.now.set q ⟨n, ad, padded l⟩) := by
  unfold Rf.putN
  rw [h]
  exact if_pos hl
theorem rput_none (h : R.at_ n = none) : R.putN n l A c ad = R := by unfold Rf.putN; rw [h]
theorem rput_long (hl : ¬ l.length ≤ 256) : R.putN n l A c ad = R := by
  unfold Rf.putN
  cases R.at_ n with
  | none => rfl
  | some q => exact if_neg hl
theorem putC_yes {n : Nat} (h : n ≤ 256) : putC true n = 0 := by unfold putC; rw [if_pos rfl, if_pos h]
theorem putC_long {n : Nat} (h : ¬ n ≤ 256) : putC true n = 1 := by unfold putC; rw [if_pos rfl, if_neg h]
end
theorem c_put {g c : Nat} {l : List UInt8} (h : Core w0 X w d p m k G D R B) (ht : Twin w g c l) (n : Nat) :
    Calls Tryz.prog 26 #[.pointer (some ⟨p, 0, none⟩), .int .u32 n, .slice (some ⟨g, 0, none⟩) l.length c] w fun e w' => e = .returned (.int .i64 (codePut G n l.length)) ∧ Core w0 X w' d p m k (G.putN n l) D R B ∧ Mod (Off X) w w' := by
  unfold codePut
  cases hn : G.now n with
  | none =>
    rw [pput_none hn]
    exact (put_none h.pag n hn _ _ _).mono fun _ _ ⟨h1, h2⟩ => ⟨h1, h.non h2, h.offN h2⟩
  | some l0 =>
    by_cases hl : l.length ≤ 256
    · rw [pput_yes (by rw [hn]; rfl) hl, Option.isSome_some, putC_yes hl]
      exact (put_ok h.pag n l0 hn _ _ _ l ht.bytes hl).mono fun _ _ ⟨h1, h2, h3⟩ => ⟨h1, h.pagS h3 h2 rfl (fun _ hb => hb), h.offP h3⟩
    · rw [pput_long hl, Option.isSome_some, putC_long hl]
      exact (put_long h.pag n l0 hn _ _ _ (by omega)).mono fun _ _ ⟨h1, h2⟩ => ⟨h1, h.non h2, h.offN h2⟩
theorem c_rput {G' : Pg} {c' : Nat} {A : Option Addr} {l : List UInt8} (h : Core w0 X w d p m k G' D R B) (hi : Inv i G D R) (hr : RowAt w A l.length 1 (bv l)) (hlen : R.now.length ≤ 1048576) (n : Nat) :
    Calls Tryz.prog 27 #[.pointer (some ⟨m, 0, none⟩), .int .u32 n, .slice A l.length c'] w fun e w' => e = .returned (.int .i64 (codePut G n l.length)) ∧ (∃ A c ad, Core w0 X w' d p m k G' D (R.putN n l A c ad) B) ∧ Mod (Off X) w w' := by
  unfold codePut
  rw [hi.atSome]
  cases hn : R.at_ n with
  | none =>
    refine (ref_put_none h.ref n hn _ _ _).mono ?_
    rintro e w' ⟨h1, rfl⟩
    exact ⟨h1, ⟨none, 0, ⟨0, 0, none⟩, by rw [rput_none hn]; exact h⟩, h.offN (Mod.refl _ _)⟩
  | some q =>
    by_cases hl : l.length ≤ 256
    · rw [Option.isSome_some, putC_yes hl]
      refine (ref_put h.ref hlen n q hn hr hl).mono ?_
      rintro e w' ⟨h1, A, c, ad, h2, h3, h4⟩
      exact ⟨h1, ⟨A, c, ad, by rw [rput_yes hn hl]; exact h.refS h4 h2 h3⟩, h.offR h4⟩
    · rw [Option.isSome_some, putC_long hl]
      refine (ref_put_long h.ref n q hn _ _ _ (by omega)).mono ?_
      rintro e w' ⟨h1, rfl⟩
      exact ⟨h1, ⟨none, 0, ⟨0, 0, none⟩, by rw [rput_long hl]; exact h⟩, h.offN (Mod.refl _ _)⟩
theorem Inv.putN (hi : Inv i G D R) (n : Nat) (l : List UInt8) (A : Option Addr) (c : Nat) (ad : Addr) : Inv i (G.putN n l) D (R.putN n l A c ad) := by
  by_cases hl : l.length ≤ 256
  · cases hn : R.at_ n with
    | none =>
      rw [rput_none hn, pput_none (by have := hi.atSome n; rw [hn] at this; cases e : G.now n with | none => rfl | some x => rw [e] at this; cases this)]
      exact hi
    | some q =>
      obtain ⟨x, hx, e⟩ := at_some hn
      rw [rput_yes hn hl, pput_yes (by rw [hi.atSome, hn]; rfl) hl]
      exact hi.put hx e A c ad l
  · rw [rput_long hl, pput_long hl]
    exact hi
theorem Twin.hb {g c : Nat} {l : List UInt8} (ht : Twin w g c l) (hl : l.length ≤ 2097152) : HbOk w (hbk (some g) l.length c) := by
  obtain ⟨⟨cur, h1, h2, _⟩, h3, h4⟩ := ht
  exact ⟨fun g' e => by cases e; exact ⟨cur, h1, Nat.le_of_eq h2.symm⟩, fun e => (by cases e), Nat.le_of_succ_le h3, hl, h4⟩
end
end Go.Proofs.YtgillcppnpkkiaaGreatDoor
