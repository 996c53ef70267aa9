/- Lists of entries (a name, a file), rising by their names; where a name stands. What a disk's memory reads as; asked, at, got, Size. A name's file on a disk: got, Size, Sync. A file of a disk that turns; Sync, Append. -/
import Derived.Test.YtgillcppnpkkiaaGreatDoorPagKeep
namespace Go.Proofs.YtgillcppnpkkiaaGreatDoor
open Go Go.RowKit

theorem add_of_add (a : Addr) (i j : Nat) : (a.add i).add j = a.add (i + j) := by
  unfold Addr.add
  by_cases hi : i = 0 <;> by_cases hj : j = 0 <;> simp [hi, hj, Nat.add_assoc]

/-- An entry's cells: its name, and where its file lies. -/
def ent (x : ByteArray × Nat) : List Value := [.string x.1, .pointer (some ⟨x.2, 0, none⟩)]
def ents (l : List (ByteArray × Nat)) : List Value := l.flatMap ent
theorem ents_length (l : List (ByteArray × Nat)) : (ents l).length = l.length * 2 := by
  induction l with
  | nil => rfl
  | cons x l ih => simp only [ents, List.flatMap_cons, List.length_append, ent, List.length_cons, List.length_nil] at *; omega
theorem ents_cons (x : ByteArray × Nat) (l : List (ByteArray × Nat)) : ents (x :: l) = ent x ++ ents l := by simp [ents]
theorem ents_append (l k : List (ByteArray × Nat)) : ents (l ++ k) = ents l ++ ents k := by simp [ents]
theorem ents_get {l : List (ByteArray × Nat)} {i : Nat} {x : ByteArray × Nat} (h : l[i]? = some x) : (ents l)[i * 2]? = some (.string x.1) ∧ (ents l)[i * 2 + 1]? = some (.pointer (some ⟨x.2, 0, none⟩)) := by
  induction l generalizing i with
  | nil => simp at h
  | cons y l ih =>
    rw [ents_cons]
    cases i with
    | zero => simp at h; subst h; simp [ent]
    | succ i =>
      simp at h
      have := ih h
      have e1 : (i + 1) * 2 = i * 2 + 2 := by omega
      have e2 : (ent y).length = 2 := rfl
      rw [e1, List.getElem?_append_right (by omega), List.getElem?_append_right (by omega), e2]
      exact this
theorem ents_one (l : List (ByteArray × Nat)) : ∀ u ∈ ents l, u.oneCell' = true := by
  intro u hu
  obtain ⟨x, _, hx⟩ := List.mem_flatMap.1 hu
  simp only [ent, List.mem_cons, List.not_mem_nil, or_false] at hx
  rcases hx with rfl | rfl <;> rfl

/-- s stands, or would stand, at place p. -/
def IsPos (l : List (ByteArray × Nat)) (s : ByteArray) (p : Nat) : Prop :=
  p ≤ l.length ∧ (∀ k x, l[k]? = some x → k < p → nlt x.1 s = true) ∧ (∀ k x, l[k]? = some x → p ≤ k → nlt x.1 s = false)
def Rising (l : List (ByteArray × Nat)) : Prop := l.Pairwise (fun a b => nlt a.1 b.1 = true)

theorem Rising.pos {l : List (ByteArray × Nat)} (h : Rising l) (s : ByteArray) : ∃ p, IsPos l s p := by
  induction l with
  | nil => exact ⟨0, Nat.le_refl _, by simp, by simp⟩
  | cons x l ih =>
    obtain ⟨hx, hl⟩ := List.pairwise_cons.1 h
    by_cases hs : nlt x.1 s = true
    · obtain ⟨p, hp, h1, h2⟩ := ih hl
      refine ⟨p + 1, by simp; omega, ?_, ?_⟩
      · intro k y hk hlt
        cases k with
        | zero => simp at hk; subst hk; exact hs
        | succ k => simp at hk; exact h1 k y hk (by omega)
      · intro k y hk hle
        cases k with
        | zero => omega
        | succ k => simp at hk; exact h2 k y hk (by omega)
    · have hs' : nlt x.1 s = false := by simpa using hs
      refine ⟨0, Nat.zero_le _, fun k y _ hlt => absurd hlt (by omega), ?_⟩
      intro k y hk _
      cases k with
      | zero => simp at hk; subst hk; exact hs'
      | succ k =>
        simp at hk
        rw [Bool.eq_false_iff]
        intro hy
        have := nlt_trans (hx y (List.mem_of_getElem? hk)) hy
        rw [hs'] at this
        cases this
/-- Whether the name at the place is the one. -/
def foundAt (l : List (ByteArray × Nat)) (s : ByteArray) (p : Nat) : Bool := match l[p]? with | some x => decide (x.1 = s) | none => false

theorem und_list : Tryz.prog.underlying 78 = some (.slice 112) := by kernel_rfl
theorem size_entry : (Tryz.prog.info? 112).map (fun i => (i.size, i.bytes)) = some (2, 24) := by kernel_rfl

theorem find_cmp (a s : ByteArray) (v : Value) (hv : ∃ f, v = .pointer f) (w : World) :
    Calls Tryz.prog 187 #[.agg #[.string a, v], .string s] w fun e w' => e = .returned (.int .i64 (cmpS a s)) ∧ Mod Non w w' := by
  obtain ⟨f, rfl⟩ := hv
  go_enter Tryz.func187, Tryz.ntmps187
  go_wp2_with (go_at_call 188; refine (cmp_strings _ _ _).mono ?_; rintro e w' ⟨rfl, rfl⟩)
  go_ret
  exact ⟨rfl, (Mod.refl _ _).alloc _⟩

theorem cmpS_lt {a s : ByteArray} (h : nlt a s = true) : decide (cmpS a s < 0) = true := by unfold cmpS; rw [if_pos h]; rfl
theorem cmpS_ge {a s : ByteArray} (h : nlt a s = false) : decide (cmpS a s < 0) = false := by
  unfold cmpS; rw [if_neg (by simp [h])]; split <;> rfl

set_option maxHeartbeats 800000 in
set_option maxRecDepth 100000 in
theorem search_ok (A : Option Addr) (c : Nat) (l : List (ByteArray × Nat)) (s : ByteArray) (w : World) (hr : RowAt w A l.length 2 (ents l)) (hn : l.length ≤ 1048576) (p : Nat) (hp : IsPos l s p) :
    Calls Tryz.prog 186 #[.slice A l.length c, .string s, .func (.func 187) #[] #[]] w fun e w' => e = .returned (.tuple #[.int .i64 p, .bool (foundAt l s p)]) ∧ Mod Non w w' := by
  have hpl := hp.1
  have HP := Lib.hid hp
  clear hp
  go_enter Tryz.func186, Tryz.ntmps186
  go_wp2
  go_loopw [9, 10] (fun i j wr => ∃ a b : Nat, a ≤ p ∧ p ≤ b ∧ b ≤ l.length ∧ i = .int .i64 a ∧ j = .int .i64 b ∧ Mod Non w wr) (fun i j _ => (intOf j - intOf i).toNat)
  case atStart => exact ⟨0, l.length, Nat.zero_le _, hpl, Nat.le_refl _, rfl, rfl, Mod.refl _ _⟩
  case round =>
    obtain ⟨i, j, hip, hpj, hjl, rfl, rfl, hm⟩ := hrel
    by_cases hij : i < j
    · have hh : (i + j) / 2 < l.length := by omega
      obtain ⟨x, hx⟩ : ∃ x, l[(i + j) / 2]? = some x := ⟨_, List.getElem?_eq_getElem hh⟩
      obtain ⟨ad, rfl, hc⟩ := (hr.non (by omega) hm).2 (by omega)
      have hg := ents_get hx
      have c0 := hc _ _ hg.1
      have c1 := hc _ _ hg.2
      rw [← add_of_add] at c1
      have c2 : wr.cell? ⟨(ad.add ((i + j) / 2 * 2)).block, (ad.add ((i + j) / 2 * 2)).off + 1, none⟩ = some (.pointer (some ⟨x.2, 0, none⟩)) := c1
      clear c1
      have hcm : decide (cmpS x.1 s < 0) = decide ((i + j) / 2 < p) := by
        by_cases hlt : (i + j) / 2 < p
        · rw [cmpS_lt (HP.out.2.1 _ _ hx hlt)]; simp [hlt]
        · rw [cmpS_ge (HP.out.2.2 _ _ hx (by omega))]; simp [hlt]
      have Hm := Lib.hid hm
      clear hg hc hr hx hm
      by_cases hlt : (i + j) / 2 < p
      · have ht : decide (cmpS x.1 s < 0) = true := by rw [hcm]; simp [hlt]
        clear hcm
        go_wp2_with (go_at_call 187; refine (find_cmp _ _ _ ⟨_, rfl⟩ _).mono ?_; rintro e w1 ⟨rfl, hm1⟩)
        go_roundw
        case rel => exact ⟨(i + j) / 2 + 1, j, by omega, hpj, hjl, by go_num, rfl, Hm.out.trans hm1⟩
        case measure => simp [intOf]; omega
      · have ht : decide (cmpS x.1 s < 0) = false := by rw [hcm]; simp [hlt]
        clear hcm
        go_wp2_with (go_at_call 187; refine (find_cmp _ _ _ ⟨_, rfl⟩ _).mono ?_; rintro e w1 ⟨rfl, hm1⟩)
        go_roundw
        case rel => exact ⟨i, (i + j) / 2, hip, by omega, by omega, rfl, by go_num, Hm.out.trans hm1⟩
        case measure => simp [intOf]; omega
    · obtain rfl : i = p := by omega
      obtain rfl : j = i := by omega
      clear hij hip hpj hjl
      have Hm := Lib.hid hm
      by_cases hil : j < l.length
      · obtain ⟨x, hx⟩ : ∃ x, l[j]? = some x := ⟨_, List.getElem?_eq_getElem hil⟩
        obtain ⟨ad, rfl, hc⟩ := (hr.non (by omega) hm).2 (by omega)
        have hg := ents_get hx
        have c0 := hc _ _ hg.1
        have c1 := hc _ _ hg.2
        rw [← add_of_add] at c1
        have c2 : wr.cell? ⟨(ad.add (j * 2)).block, (ad.add (j * 2)).off + 1, none⟩ = some (.pointer (some ⟨x.2, 0, none⟩)) := c1
        clear c1
        have hf : foundAt l s j = (cmpS x.1 s == 0) := by
          have := HP.out.2.2 _ _ hx (Nat.le_refl _)
          unfold foundAt cmpS
          rw [hx, if_neg (by simp [this])]
          by_cases he : x.1 = s <;> simp [he]
        have HF := Lib.hid hf
        clear hg hc hr hx hm hf
        go_wp2_with (go_at_call 187; refine (find_cmp _ _ _ ⟨_, rfl⟩ _).mono ?_; rintro e w1 ⟨rfl, hm1⟩)
        go_ret2
        exact ⟨by rw [HF.out]; rfl, Hm.out.trans hm1⟩
      · have hf : foundAt l s j = false := by
          unfold foundAt; rw [List.getElem?_eq_none (by omega)]
        have HF := Lib.hid hf
        clear hr hm hf
        go_wp2
        go_ret2
        exact ⟨by rw [HF.out]; rfl, Hm.out⟩

theorem find_ok (A : Option Addr) (c : Nat) (l : List (ByteArray × Nat)) (s : ByteArray) (w : World) (hr : RowAt w A l.length 2 (ents l)) (hn : l.length ≤ 1048576) (p : Nat) (hp : IsPos l s p) :
    Calls Tryz.prog 169 #[.slice A l.length c, .string s] w fun e w' => e = .returned (.tuple #[.int .i64 p, .bool (foundAt l s p)]) ∧ Mod Non w w' := by
  have HS := Lib.hid (search_ok A c l s w hr hn p hp)
  clear hr hp
  go_enter Tryz.func169, Tryz.ntmps169
  go_wp2_with (go_at_call 186; refine HS.out.mono ?_; rintro e w1 ⟨rfl, hm1⟩)
  go_ret2
  exact ⟨rfl, hm1⟩
end Go.Proofs.YtgillcppnpkkiaaGreatDoor

namespace Go.Proofs.YtgillcppnpkkiaaGreatDoor
open Go Go.RowKit

/-- A disk as it is: its lists, where they lie; of each file its bytes, and how many are sure. -/
structure Dk where
  size : Nat
  vn : Value
  vk : Value
  now : List (ByteArray × Nat)
  kept : List (ByteArray × Nat)
  fv : Nat → Value
  by_ : Nat → List UInt8
  sure : Nat → Nat

def Dk.isFile (D : Dk) (f : Nat) : Prop := ∃ x, (x ∈ D.now ∨ x ∈ D.kept) ∧ x.2 = f

structure DiskRep (w : World) (d : Nat) (D : Dk) : Prop where
  blk : Blk w d 80 #[.int .i64 D.size, D.vn, D.vk]
  now : w.ownsRow 0 112 2 D.vn D.now.length (ents D.now)
  kept : w.ownsRow 0 112 2 D.vk D.kept.length (ents D.kept)
  rows : ∀ b, D.vn.ownBlock = some b → D.vk.ownBlock ≠ some b
  file : ∀ f, D.isFile f → Blk w f 118 #[D.fv f, .int .i64 (D.sure f)] ∧ w.ownsRow 0 5 1 (D.fv f) (D.by_ f).length (bv (D.by_ f)) ∧ D.sure f ≤ (D.by_ f).length ∧ (D.by_ f).length ≤ 1048576
  sep : ∀ f g b, D.isFile f → D.isFile g → f ≠ g → (D.fv f).ownBlock = some b → (D.fv g).ownBlock ≠ some b
  rising : Rising D.now
  risingK : Rising D.kept
  distinct : D.now.Pairwise (fun a b => a.2 ≠ b.2)
  distinctK : D.kept.Pairwise (fun a b => a.2 ≠ b.2)
  len : D.now.length ≤ 64
  lenK : D.kept.length ≤ 64
  s1 : 1 ≤ D.size
  s2 : D.size ≤ 8388608

/-- The blocks of a disk. -/
def DS (d : Nat) (D : Dk) : Nat → Prop := fun b => b = d ∨ D.vn.ownBlock = some b ∨ D.vk.ownBlock = some b ∨ ∃ f, D.isFile f ∧ (b = f ∨ (D.fv f).ownBlock = some b)

theorem owns_keep {w w' : World} {base : Nat} {e : TypeId} {size : Nat} {v : Value} {n : Nat} {xs : List Value} (h : w.ownsRow base e size v n xs) (hk : ∀ b, v.ownBlock = some b → w'.heap[b]? = w.heap[b]?) : w'.ownsRow base e size v n xs := by
  refine ⟨h.1, ?_⟩
  rcases h.2 with hn | ⟨g, cap, cur, hv, hb, hg, r⟩
  · exact .inl hn
  · exact .inr ⟨g, cap, cur, hv, hb, (hk g (by rw [hv]; rfl)).trans hg, r⟩

section
variable {w w' : World} {d : Nat} {D : Dk} {S : Nat → Prop}

theorem DiskRep.lt (h : DiskRep w d D) {b : Nat} (hb : DS d D b) : b < w.heap.size := by
  rcases hb with rfl | hb | hb | ⟨f, hf, rfl | hb⟩
  · exact h.blk.lt
  · exact (h.now.lt b hb).2
  · exact (h.kept.lt b hb).2
  · exact (h.file b hf).1.lt
  · exact ((h.file f hf).2.1.lt b hb).2

theorem DiskRep.mod (h : DiskRep w d D) (hm : Mod S w w') (hn : ∀ b, DS d D b → ¬ S b) : DiskRep w' d D := by
  have hk : ∀ b, DS d D b → w'.heap[b]? = w.heap[b]? := fun b hb => hm.block b (h.lt hb) (hn b hb)
  refine ⟨(hk d (.inl rfl)).trans h.blk, owns_keep h.now (fun b hb => hk b (.inr (.inl hb))), owns_keep h.kept (fun b hb => hk b (.inr (.inr (.inl hb)))), h.rows, fun f hf => ?_, h.sep, h.rising, h.risingK, h.distinct, h.distinctK, h.len, h.lenK, h.s1, h.s2⟩
  obtain ⟨h1, h2, h3⟩ := h.file f hf
  exact ⟨(hk f (.inr (.inr (.inr ⟨f, hf, .inl rfl⟩)))).trans h1, owns_keep h2 (fun b hb => hk b (.inr (.inr (.inr ⟨f, hf, .inr hb⟩)))), h3⟩
theorem DiskRep.non (h : DiskRep w d D) (hm : Mod Non w w') : DiskRep w' d D := h.mod hm (fun _ _ x => x)

theorem DiskRep.opens (h : DiskRep w d D) : ∃ A1 c1 A2 c2, D.vn = .slice A1 D.now.length c1 ∧ D.vk = .slice A2 D.kept.length c2 ∧ D.now.length ≤ c1 ∧ D.kept.length ≤ c2 ∧ RowAt w A1 D.now.length 2 (ents D.now) ∧ RowAt w A2 D.kept.length 2 (ents D.kept) := by
  obtain ⟨A1, c1, e1, l1, r1, _⟩ := owns_form h.now
  obtain ⟨A2, c2, e2, l2, r2, _⟩ := owns_form h.kept
  exact ⟨A1, c1, A2, c2, e1, e2, l1, l2, r1, r2⟩

/-- A method on no disk. -/
theorem asked_nil (w : World) (v : Value) : Calls Tryz.prog 53 #[.pointer none, v] w fun e w' => e = .returned (.int .i64 2) ∧ w = w' := by
  go_enter Tryz.func53, Tryz.ntmps53
  go_wp2
  go_ret
  exact ⟨rfl, rfl⟩
theorem asked_ok (h : DiskRep w d D) : Calls Tryz.prog 53 #[.pointer (some ⟨d, 0, none⟩), .slice none 0 0] w fun e w' => e = .returned (.int .i64 0) ∧ w = w' := by
  have c := h.blk.cell
  have hs := h.s1
  have h0 : ((D.size : Int) == 0) = false := by simp; omega
  clear h
  go_enter Tryz.func53, Tryz.ntmps53
  go_wp2
  go_ret
  exact ⟨rfl, rfl⟩

theorem at_bad (s : ByteArray) (hs : s.size ≤ maxLen) (hm : mayB s = false) (v : Value) : Calls Tryz.prog 122 #[v, .string s] w fun e w' => e = .returned (.tuple #[.int .i64 0, .int .i64 1]) ∧ w = w' := by
  have HM := Lib.hid (may_any s w hs)
  go_enter Tryz.func122, Tryz.ntmps122
  go_wp2_with (go_at_call 168; refine HM.out.mono ?_; rintro e w1 ⟨rfl, rfl⟩)
  go_ret2
  exact ⟨rfl, rfl⟩

set_option maxRecDepth 100000 in
theorem at_ok (h : DiskRep w d D) (s : ByteArray) (hm : mayB s = true) (p : Nat) (hp : IsPos D.now s p) :
    Calls Tryz.prog 122 #[.pointer (some ⟨d, 0, none⟩), .string s] w fun e w' => e = .returned (.tuple #[.int .i64 p, .int .i64 (if foundAt D.now s p = true then 0 else 7)]) ∧ Mod Non w w' := by
  obtain ⟨A1, c1, A2, c2, e1, e2, l1, l2, r1, r2⟩ := h.opens
  have hb := h.blk
  rw [e1, e2] at hb
  have c := hb.cell
  have hlen := h.len
  have hsz : s.size ≤ maxLen := by
    unfold mayB at hm; simp at hm; unfold maxLen; omega
  have HM := Lib.hid (may_any s w hsz)
  have HF := Lib.hid (find_ok A1 c1 D.now s w r1 (by omega) p hp)
  have Hb := Lib.hid hb
  clear h hb e1 e2 hp r1 r2
  by_cases hf : foundAt D.now s p = true
  · rw [if_pos hf]
    have Hf := Lib.hid hf
    go_enter Tryz.func122, Tryz.ntmps122
    go_wp2_with (first
      | (go_at_call 168; refine HM.out.mono ?_; rintro e w1 ⟨rfl, rfl⟩)
      | (go_at_call 169; refine HF.out.mono ?_; rintro e w2 ⟨rfl, hm2⟩))
    go_ret2
    exact ⟨rfl, hm2⟩
  · rw [if_neg hf]
    have hf' : foundAt D.now s p = false := by simpa using hf
    clear hf
    go_enter Tryz.func122, Tryz.ntmps122
    go_wp2_with (first
      | (go_at_call 168; refine HM.out.mono ?_; rintro e w1 ⟨rfl, rfl⟩)
      | (go_at_call 169; refine HF.out.mono ?_; rintro e w2 ⟨rfl, hm2⟩))
    go_ret2
    exact ⟨rfl, hm2⟩
end
end Go.Proofs.YtgillcppnpkkiaaGreatDoor

namespace Go.Proofs.YtgillcppnpkkiaaGreatDoor
open Go Go.RowKit

/-- A name's file. -/
def look (l : List (ByteArray × Nat)) (s : ByteArray) : Option Nat := (l.find? fun x => decide (x.1 = s)).map (·.2)

theorem look_pos {l : List (ByteArray × Nat)} {s : ByteArray} {p : Nat} (hr : Rising l) (hp : IsPos l s p) : look l s = if foundAt l s p = true then (l[p]?).map (·.2) else none := by
  obtain ⟨hpl, h1, h2⟩ := hp
  unfold look
  by_cases hf : foundAt l s p = true
  · rw [if_pos hf]
    unfold foundAt at hf
    cases hx : l[p]? with
    | none => rw [hx] at hf; cases hf
    | some x =>
      rw [hx] at hf
      have hxs : x.1 = s := by simpa using hf
      have : l.find? (fun x => decide (x.1 = s)) = some x := by
        rw [List.find?_eq_some_iff_getElem]
        obtain ⟨hlt, rfl⟩ := List.getElem?_eq_some_iff.1 hx
        refine ⟨by simp [hxs], p, hlt, rfl, fun j hj => ?_⟩
        have := h1 j l[j] (List.getElem?_eq_getElem (by omega)) hj
        simp only [Bool.not_eq_true', decide_eq_false_iff_not]
        intro e
        rw [e, nlt_irrefl] at this
        cases this
      rw [this]
  · rw [if_neg hf]
    have : l.find? (fun x => decide (x.1 = s)) = none := by
      rw [List.find?_eq_none]
      intro y hy
      obtain ⟨k, hk⟩ := List.mem_iff_getElem?.1 hy
      simp only [decide_eq_true_eq]
      intro e
      rcases Nat.lt_trichotomy k p with hlt | rfl | hgt
      · have := h1 k y hk hlt
        rw [e, nlt_irrefl] at this
        cases this
      · apply hf
        unfold foundAt
        rw [hk]
        simp [e]
      · have hlt : p < l.length := by have := (List.getElem?_eq_some_iff.1 hk).1; omega
        obtain ⟨hkl, rfl⟩ := List.getElem?_eq_some_iff.1 hk
        have hpk := List.pairwise_iff_getElem.1 hr p k hlt hkl hgt
        have := h2 p l[p] (List.getElem?_eq_getElem hlt) (Nat.le_refl _)
        rw [e] at hpk
        rw [hpk] at this
        cases this
    rw [this]
    rfl

theorem look_some {l : List (ByteArray × Nat)} {s : ByteArray} {f : Nat} (h : look l s = some f) : (s, f) ∈ l := by
  unfold look at h
  cases hx : l.find? (fun x => decide (x.1 = s)) with
  | none => rw [hx] at h; cases h
  | some x =>
    rw [hx] at h
    simp at h
    have h1 := List.mem_of_find?_eq_some hx
    have h2 := List.find?_some hx
    simp at h2
    rw [← h2, ← h]
    exact h1

section
variable {w w' : World} {d : Nat} {D : Dk} {S : Nat → Prop}

theorem may_size {s : ByteArray} (hm : mayB s = true) : s.size ≤ maxLen := by
  unfold mayB at hm; simp at hm; unfold maxLen; omega

set_option maxRecDepth 100000 in
theorem got_some (h : DiskRep w d D) (s : ByteArray) (hm : mayB s = true) (f : Nat) (hl : look D.now s = some f) (nv : Value)
    (ha : Calls Tryz.prog 53 #[.pointer (some ⟨d, 0, none⟩), nv] w fun e w' => e = .returned (.int .i64 0) ∧ Mod Non w w') :
    Calls Tryz.prog 115 #[.pointer (some ⟨d, 0, none⟩), .string s, nv] w fun e w' => e = .returned (.tuple #[.pointer (some ⟨f, 0, none⟩), .int .i64 0]) ∧ Mod Non w w' := by
  obtain ⟨p, hp⟩ := h.rising.pos s
  have hlp := look_pos h.rising hp
  have hf : foundAt D.now s p = true := by
    cases hf : foundAt D.now s p with
    | true => rfl
    | false => rw [hf, hl] at hlp; cases hlp
  rw [hf, if_pos rfl, hl] at hlp
  obtain ⟨x, hx, hxf⟩ : ∃ x, D.now[p]? = some x ∧ x.2 = f := by
    cases hx : D.now[p]? with
    | none => rw [hx] at hlp; cases hlp
    | some x => rw [hx] at hlp; simp at hlp; exact ⟨x, rfl, hlp.symm⟩
  have hplt : p < D.now.length := (List.getElem?_eq_some_iff.1 hx).1
  have hlen := h.len
  have H := Lib.hid h
  have HA := Lib.hid ha
  have HP := Lib.hid hp
  have Hf := Lib.hid hf
  have Hx := Lib.hid hx
  have Hxf := Lib.hid hxf
  clear h ha hp hlp hl hf hx hxf
  go_enter Tryz.func115, Tryz.ntmps115
  go_wp2_with (first
    | (go_at_call 53; refine HA.out.mono ?_; rintro e w1 ⟨rfl, hm1⟩)
    | (go_at_call 122; refine (at_ok (H.out.non hm1) s hm p HP.out).mono ?_; rintro e w2 ⟨rfl, hm2⟩; rw [if_pos Hf.out]; have hm12 := hm1.trans hm2
       have h2 := H.out.non hm12
       obtain ⟨A1, c1, A2, c2, e1, e2, l1, l2, r1, r2⟩ := h2.opens
       have hb := h2.blk
       rw [e1, e2] at hb
       have cb := hb.cell
       obtain ⟨ad, rfl, hc⟩ := r1.2 (by omega)
       have hg := (ents_get Hx.out).2
       have c2' := hc _ _ hg
       rw [← add_of_add, Hxf.out] at c2'
       have cc : w2.cell? ⟨(ad.add (p * 2)).block, (ad.add (p * 2)).off + 1, none⟩ = some (.pointer (some ⟨f, 0, none⟩)) := c2'
       clear h2 e1 e2 hb hg hc c2' r1 r2))
  go_ret2
  exact ⟨rfl, hm12⟩

set_option maxRecDepth 100000 in
theorem got_none (h : DiskRep w d D) (s : ByteArray) (hm : mayB s = true) (hl : look D.now s = none) (nv : Value)
    (ha : Calls Tryz.prog 53 #[.pointer (some ⟨d, 0, none⟩), nv] w fun e w' => e = .returned (.int .i64 0) ∧ Mod Non w w') :
    Calls Tryz.prog 115 #[.pointer (some ⟨d, 0, none⟩), .string s, nv] w fun e w' => e = .returned (.tuple #[.pointer none, .int .i64 7]) ∧ Mod Non w w' := by
  obtain ⟨p, hp⟩ := h.rising.pos s
  have hlp := look_pos h.rising hp
  have hf : ¬ foundAt D.now s p = true := by
    intro hf
    rw [if_pos hf, hl] at hlp
    unfold foundAt at hf
    cases hx : D.now[p]? with
    | none => rw [hx] at hf; cases hf
    | some x => rw [hx] at hlp; cases hlp
  have H := Lib.hid h
  have HA := Lib.hid ha
  have HP := Lib.hid hp
  have Hf := Lib.hid hf
  clear h ha hp hlp hl hf
  go_enter Tryz.func115, Tryz.ntmps115
  go_wp2_with (first
    | (go_at_call 53; refine HA.out.mono ?_; rintro e w1 ⟨rfl, hm1⟩)
    | (go_at_call 122; refine (at_ok (H.out.non hm1) s hm p HP.out).mono ?_; rintro e w2 ⟨rfl, hm2⟩; rw [if_neg Hf.out]))
  go_ret2
  exact ⟨rfl, hm1.trans hm2⟩

theorem got_bad (s : ByteArray) (hs : s.size ≤ maxLen) (hm : mayB s = false) (v nv : Value)
    (ha : Calls Tryz.prog 53 #[v, nv] w fun e w' => e = .returned (.int .i64 0) ∧ Mod Non w w') :
    Calls Tryz.prog 115 #[v, .string s, nv] w fun e w' => e = .returned (.tuple #[.pointer none, .int .i64 1]) ∧ Mod Non w w' := by
  have HA := Lib.hid ha
  clear ha
  go_enter Tryz.func115, Tryz.ntmps115
  go_wp2_with (first
    | (go_at_call 53; refine HA.out.mono ?_; rintro e w1 ⟨rfl, hm1⟩)
    | (go_at_call 122; refine (at_bad s hs hm _).mono ?_; rintro e w2 ⟨rfl, rfl⟩))
  go_ret2
  exact ⟨rfl, hm1⟩

theorem asked_okM (h : DiskRep w d D) : Calls Tryz.prog 53 #[.pointer (some ⟨d, 0, none⟩), .slice none 0 0] w fun e w' => e = .returned (.int .i64 0) ∧ Mod Non w w' :=
  (asked_ok h).mono fun _ _ ⟨h1, h2⟩ => ⟨h1, h2 ▸ Mod.refl _ _⟩

set_option maxRecDepth 100000 in
theorem size_some (h : DiskRep w d D) (s : ByteArray) (hm : mayB s = true) (f : Nat) (hl : look D.now s = some f) :
    Calls Tryz.prog 36 #[.pointer (some ⟨d, 0, none⟩), .string s] w fun e w' => e = .returned (.tuple #[.int .i64 ((D.by_ f).length : Nat), .int .i64 0]) ∧ Mod Non w w' := by
  have hfile : D.isFile f := ⟨_, .inl (look_some hl), rfl⟩
  have HG := Lib.hid (got_some h s hm f hl _ (asked_okM h))
  have H := Lib.hid h
  clear h hl
  go_enter Tryz.func36, Tryz.ntmps36
  go_wp2_with (go_at_call 115; refine HG.out.mono ?_; rintro e w1 ⟨rfl, hm1⟩
               obtain ⟨hb, hr, _, _⟩ := (H.out.non hm1).file f hfile
               obtain ⟨A, c, ev, hc, hrow, _⟩ := owns_form hr
               rw [ev] at hb
               have cb := hb.cell
               clear hb hr ev hrow)
  go_ret2
  exact ⟨rfl, hm1⟩

theorem size_none (h : DiskRep w d D) (s : ByteArray) (hm : mayB s = true) (hl : look D.now s = none) :
    Calls Tryz.prog 36 #[.pointer (some ⟨d, 0, none⟩), .string s] w fun e w' => e = .returned (.tuple #[.int .i64 0, .int .i64 7]) ∧ Mod Non w w' := by
  have HG := Lib.hid (got_none h s hm hl _ (asked_okM h))
  clear h hl
  go_enter Tryz.func36, Tryz.ntmps36
  go_wp2_with (go_at_call 115; refine HG.out.mono ?_; rintro e w1 ⟨rfl, hm1⟩)
  go_ret2
  exact ⟨rfl, hm1⟩

theorem size_nil (w : World) (s : ByteArray) :
    Calls Tryz.prog 36 #[.pointer none, .string s] w fun e w' => e = .returned (.tuple #[.int .i64 0, .int .i64 2]) ∧ w = w' := by
  have hg : ∀ w, Calls Tryz.prog 115 #[.pointer none, .string s, .slice none 0 0] w fun e w' => e = .returned (.tuple #[.pointer none, .int .i64 2]) ∧ w = w' := by
    intro w
    go_enter Tryz.func115, Tryz.ntmps115
    go_wp2_with (go_at_call 53; refine (asked_nil _ _).mono ?_; rintro e w1 ⟨rfl, rfl⟩)
    go_ret2
    exact ⟨rfl, rfl⟩
  have HG := Lib.hid hg
  clear hg
  go_enter Tryz.func36, Tryz.ntmps36
  go_wp2_with (go_at_call 115; refine (HG.out _).mono ?_; rintro e w1 ⟨rfl, rfl⟩)
  go_ret2
  exact ⟨rfl, rfl⟩
end
end Go.Proofs.YtgillcppnpkkiaaGreatDoor

namespace Go.Proofs.YtgillcppnpkkiaaGreatDoor
open Go Go.RowKit

theorem own_blk {w : World} {base : Nat} {e : TypeId} {size : Nat} {v : Value} {n : Nat} {xs : List Value} {b : Nat} (h : w.ownsRow base e size v n xs) (hb : v.ownBlock = some b) : ∃ cur, Blk w b e cur := by
  rcases h.2 with ⟨rfl, _⟩ | ⟨g, cap, cur, rfl, _, hg, _⟩
  · simp [Value.ownBlock] at hb
  · simp [Value.ownBlock] at hb
    subst hb
    exact ⟨cur, hg⟩
theorem own_blk_ne {w : World} {base : Nat} {e t : TypeId} {size : Nat} {v : Value} {n g : Nat} {xs : List Value} {cs : Array Value} (h : w.ownsRow base e size v n xs) (hk : Blk w g t cs) (hne : e ≠ t) : v.ownBlock ≠ some g := by
  intro hb
  obtain ⟨cur, hc⟩ := own_blk h hb
  exact hc.ne hk hne rfl
theorem own_own_ne {w : World} {base base' : Nat} {e e' : TypeId} {size size' : Nat} {v v' : Value} {n n' : Nat} {xs xs' : List Value} (h : w.ownsRow base e size v n xs) (k : w.ownsRow base' e' size' v' n' xs') (hne : e ≠ e') (b : Nat) (hb : v.ownBlock = some b) : v'.ownBlock ≠ some b := by
  obtain ⟨cur, hc⟩ := own_blk h hb
  exact own_blk_ne k hc (fun e => hne e.symm)

section
variable {w w' : World} {d : Nat} {D : Dk} {S : Nat → Prop}

def Dk.setFile (D : Dk) (f : Nat) (v : Value) (l : List UInt8) (s : Nat) : Dk := { D with fv := upd D.fv f v, by_ := upd D.by_ f l, sure := upd D.sure f s }

theorem DiskRep.setFile (h : DiskRep w d D) {f : Nat} (hf : D.isFile f) (hm : Mod S w w') (hS : ∀ b, S b → b = f ∨ (D.fv f).ownBlock = some b) {v : Value} {l : List UInt8} {s : Nat}
    (hb : Blk w' f 118 #[v, .int .i64 s]) (hr : w'.ownsRow 0 5 1 v l.length (bv l)) (hv : ∀ b, v.ownBlock = some b → (D.fv f).ownBlock = some b ∨ w.heap.size ≤ b) (hs : s ≤ l.length) (hl : l.length ≤ 1048576) :
    DiskRep w' d (D.setFile f v l s) := by
  obtain ⟨fb, fr, fs, fl⟩ := h.file f hf
  have hkeep : ∀ b, b < w.heap.size → b ≠ f → (D.fv f).ownBlock ≠ some b → w'.heap[b]? = w.heap[b]? := fun b hlt h1 h2 => hm.block b hlt (fun hs => (hS b hs).elim h1 h2)
  have hd : w'.heap[d]? = w.heap[d]? := hkeep d h.blk.lt (h.blk.ne fb (by decide)) (own_blk_ne fr h.blk (by decide))
  have hvn : ∀ b, D.vn.ownBlock = some b → w'.heap[b]? = w.heap[b]? := fun b hb' => by
    obtain ⟨cur, hc⟩ := own_blk h.now hb'
    exact hkeep b hc.lt (hc.ne fb (by decide)) (own_blk_ne fr hc (by decide))
  have hvk : ∀ b, D.vk.ownBlock = some b → w'.heap[b]? = w.heap[b]? := fun b hb' => by
    obtain ⟨cur, hc⟩ := own_blk h.kept hb'
    exact hkeep b hc.lt (hc.ne fb (by decide)) (own_blk_ne fr hc (by decide))
  refine ⟨hd.trans h.blk, owns_keep h.now hvn, owns_keep h.kept hvk, h.rows, fun g hg => ?_, fun g k b hg hk hgk hb' => ?_, h.rising, h.risingK, h.distinct, h.distinctK, h.len, h.lenK, h.s1, h.s2⟩
  · by_cases hgf : g = f
    · subst hgf
      simp only [Dk.setFile, upd_same]
      exact ⟨hb, hr, hs, hl⟩
    · obtain ⟨gb, gr, gs⟩ := h.file g hg
      simp only [Dk.setFile, upd_other _ _ hgf]
      refine ⟨(hkeep g gb.lt hgf (own_blk_ne fr gb (by decide))).trans gb, owns_keep gr (fun b hb' => ?_), gs⟩
      obtain ⟨cur, hc⟩ := own_blk gr hb'
      exact hkeep b hc.lt (hc.ne fb (by decide)) (fun e => h.sep g f b hg hf hgf hb' e)
  · simp only [Dk.setFile] at hb' ⊢
    by_cases hgf : g = f
    · subst hgf
      rw [upd_same] at hb'
      rw [upd_other _ _ (fun e => hgk e.symm)]
      rcases hv b hb' with e | e
      · exact h.sep g k b hg hk hgk e
      · intro hkb
        have := ((h.file k hk).2.1.lt b hkb).2
        omega
    · rw [upd_other _ _ hgf] at hb'
      by_cases hkf : k = f
      · subst hkf
        rw [upd_same]
        intro hvb
        rcases hv b hvb with e | e
        · exact h.sep g k b hg hk hgk hb' e
        · have := ((h.file g hg).2.1.lt b hb').2
          omega
      · rw [upd_other _ _ hkf]
        exact h.sep g k b hg hk hgk hb'

theorem setFile_DS {f : Nat} {v : Value} {l : List UInt8} {s : Nat} (hv : ∀ b, v.ownBlock = some b → (D.fv f).ownBlock = some b ∨ w.heap.size ≤ b) {b : Nat} (hb : DS d (D.setFile f v l s) b) : DS d D b ∨ w.heap.size ≤ b := by
  rcases hb with h | h | h | ⟨g, hg, h | h⟩
  · exact .inl (.inl h)
  · exact .inl (.inr (.inl h))
  · exact .inl (.inr (.inr (.inl h)))
  · exact .inl (.inr (.inr (.inr ⟨g, hg, .inl h⟩)))
  · simp only [Dk.setFile] at h
    by_cases hgf : g = f
    · subst hgf
      rw [upd_same] at h
      rcases hv b h with e | e
      · exact .inl (.inr (.inr (.inr ⟨g, hg, .inr e⟩)))
      · exact .inr e
    · rw [upd_other _ _ hgf] at h
      exact .inl (.inr (.inr (.inr ⟨g, hg, .inr h⟩)))

/-- What a step on a disk comes to: it is another one, of the old blocks and of new ones. -/
structure DStep (w : World) (d : Nat) (D : Dk) (w' : World) (D' : Dk) : Prop where
  rep : DiskRep w' d D'
  mod : Mod (DS d D) w w'
  old : ∀ b, DS d D' b → DS d D b ∨ w.heap.size ≤ b

theorem DStep.of_non (h : DiskRep w d D) (hm : Mod Non w w') : DStep w d D w' D := ⟨h.non hm, hm.mono (fun _ x => x.elim), fun _ h => .inl h⟩
theorem DStep.trans {w'' : World} {D' D'' : Dk} (h : DStep w d D w' D') (k : DStep w' d D' w'' D'') : DStep w d D w'' D'' :=
  ⟨k.rep, h.mod.andThen k.mod (fun b hb hlt => (h.old b hb).elim id (fun e => by omega)), fun b hb => (k.old b hb).elim (h.old b) (fun e => .inr (Nat.le_trans h.mod.size e))⟩
theorem DStep.after {D' : Dk} {w0 : World} (hm : Mod Non w0 w) (h : DStep w d D w' D') : DStep w0 d D w' D' :=
  ⟨h.rep, (hm.mono (fun _ x => x.elim)).trans h.mod, fun b hb => (h.old b hb).imp id (fun e => Nat.le_trans hm.size e)⟩
theorem DStep.then {D' : Dk} {w'' : World} (h : DStep w d D w' D') (hm : Mod Non w' w'') : DStep w d D w'' D' :=
  h.trans (.of_non h.rep hm)

set_option maxRecDepth 100000 in
theorem sync_ok (h : DiskRep w d D) (s : ByteArray) (hm : mayB s = true) (f : Nat) (hl : look D.now s = some f) :
    Calls Tryz.prog 49 #[.pointer (some ⟨d, 0, none⟩), .string s] w fun e w' => e = .returned (.int .i64 0) ∧ DStep w d D w' (D.setFile f (D.fv f) (D.by_ f) (D.by_ f).length) := by
  have hfile : D.isFile f := ⟨_, .inl (look_some hl), rfl⟩
  have HG := Lib.hid (got_some h s hm f hl _ (asked_okM h))
  have H := Lib.hid h
  clear h hl
  go_enter Tryz.func49, Tryz.ntmps49
  go_wp2_with (go_at_call 115; refine HG.out.mono ?_; rintro e w1 ⟨rfl, hm1⟩
               obtain ⟨hb, hr, hsu, hle⟩ := (H.out.non hm1).file f hfile
               obtain ⟨A, c, ev, hc, hrow, _⟩ := owns_form hr
               have Hb := Lib.hid hb
               have Ev := Lib.hid ev
               rw [ev] at hb
               have cb := hb.cell
               have fb := hb.frozen
               clear hb ev hrow hc)
  go_ret
  have hbf : ∀ b, (D.fv f).ownBlock = some b → b ≠ f := by
    intro b hb e
    rw [e] at hb
    exact own_blk_ne hr Hb.out (by decide) hb
  refine ⟨rfl, DStep.after hm1 ⟨(H.out.non hm1).setFile hfile ((Mod.refl (One f) w1).setCell (p := ⟨f, 1, none⟩) (.inl rfl) _) (fun b hb => .inl hb) ?_ (owns_keep hr (fun b hb => Below.heap_setCell _ _ _ _ (hbf b hb))) (fun b hb => .inl hb) (Nat.le_refl _) hle, (Mod.refl (DS d D) w1).setCell (p := ⟨f, 1, none⟩) (.inl (.inr (.inr (.inr ⟨f, hfile, .inl rfl⟩)))) _, fun b hb => setFile_DS (w := w1) (fun b hb => .inl hb) hb⟩⟩
  exact Hb.out.set 1 _
end
end Go.Proofs.YtgillcppnpkkiaaGreatDoor
