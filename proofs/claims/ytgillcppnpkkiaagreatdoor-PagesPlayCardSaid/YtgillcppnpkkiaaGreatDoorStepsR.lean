/- The disk along anew, where it has one file at most, and room. -/
import Derived.Test.YtgillcppnpkkiaaGreatDoorAnews
import Derived.Test.YtgillcppnpkkiaaGreatDoorOpens
namespace Go.Proofs.YtgillcppnpkkiaaGreatDoor
open Go Go.RowKit
theorem look_set_other {l : List (ByteArray × Nat)} {q f f0 : Nat} {t u : ByteArray} (hx : l[q]? = some (t, f0)) (hne : t ≠ u) : look (l.set q (t, f)) u = look l u := by
  have hlt := (List.getElem?_eq_some_iff.1 hx).1
  have e : l = l.take q ++ (t, f0) :: l.drop (q + 1) := by
    have h1 := (List.getElem?_eq_some_iff.1 hx).2
    conv => lhs; rw [← List.take_append_drop q l, List.drop_eq_getElem_cons hlt, h1]
  conv => rhs; rw [e, look_append, look_cons, if_neg hne]
  rw [List.set_eq_take_append_cons_drop, if_pos hlt, look_append, look_cons, if_neg hne]
/-- A list of names that tells one name only. -/
theorem only_one {l : List (ByteArray × Nat)} {s : ByteArray} {f : Nat} (hr : Rising l) (hl : look l s = some f) (ho : ∀ t, t ≠ s → look l t = none) : l = [(s, f)] := by
  have hall : ∀ x ∈ l, x.1 = s := fun x hx => by
    by_cases e : x.1 = s
    · exact e
    · exact absurd rfl (look_none (ho x.1 e) x hx)
  match l, hr, hl, hall with
  | [], _, hl, _ => cases hl
  | [x], _, hl, hall =>
    have e := hall x (by simp)
    obtain ⟨a, b⟩ := x
    subst e
    rw [look_cons, if_pos rfl] at hl
    cases hl
    rfl
  | x :: y :: r, hr, _, hall =>
    have h1 := hall x (by simp)
    have h2 := hall y (by simp)
    have h3 := (List.pairwise_cons.1 hr).1 y (by simp)
    rw [h1, h2, nlt_irrefl] at h3
    cases h3
section
variable {w : World} {d s0 : Nat} {E D : Dk} {rec : List UInt8}
theorem rename_all (h : DiskRep w d D) (s t : ByteArray) (hst0 : s ≠ t) (hm : mayB s = true) (hmt : mayB t = true) (f : Nat) (hl : look D.now s = some f) :
    Calls Tryz.prog 121 #[.pointer (some ⟨d, 0, none⟩), .string s, .string t] w fun e w' => e = .returned (.int .i64 0) ∧ ∃ vn l, DStep w d D w' (D.setNow vn l) ∧ look l t = some f ∧ l.length ≤ D.now.length ∧ look l s = none ∧ ∀ u, u ≠ s → u ≠ t → look l u = look D.now u := by
  obtain ⟨p, hp, hf, hx⟩ := pos_at h.rising hl
  have hpl := (List.getElem?_eq_some_iff.1 hx).1
  have hr : Rising (D.now.eraseIdx p) := List.Pairwise.sublist (List.eraseIdx_sublist _ _) h.rising
  have hle : (D.now.eraseIdx p).length = D.now.length - 1 := List.length_eraseIdx_of_lt hpl
  cases hlt : look (D.now.eraseIdx p) t with
  | none =>
    obtain ⟨q, hq⟩ := hr.pos t
    refine (rename_new h s t hm hmt f hl p hp hf hx q hq hlt).mono ?_
    rintro e w' ⟨he, vn, hst⟩
    exact ⟨he, vn, _, hst, look_put_same hlt, by rw [put_length hq.1]; omega, by rw [look_put_other (Ne.symm hst0)]; exact rising_once h.rising hx, fun u hu ht => by rw [look_put_other (Ne.symm ht)]; exact look_erase_other hx (Ne.symm hu)⟩
  | some f0 =>
    obtain ⟨q, hq, hfq, hxq⟩ := pos_at hr hlt
    refine (rename_over h s t hm hmt f hl p hp hf hx q f0 hq hfq hxq).mono ?_
    rintro e w' ⟨he, vn, hst⟩
    exact ⟨he, vn, _, hst, look_set hq hxq, by rw [List.length_set]; omega, by rw [look_set_other hxq (Ne.symm hst0)]; exact rising_once h.rising hx, fun u hu ht => by rw [look_set_other hxq (Ne.symm ht)]; exact look_erase_other hx (Ne.symm hu)⟩

/-- The disk ahead of step k: no names but the two. -/
def CState (s0 : Nat) (rec : List UInt8) (k : Nat) (E : Dk) : Prop :=
  E.size = s0 ∧ E.now.length ≤ 2 ∧ (∀ t, t ≠ freshB → t ≠ nameB → look E.now t = none) ∧ match k with
  | 0 => E.now.length ≤ 1 ∧ look E.now freshB = none
  | 1 => ∃ f, look E.now freshB = some f ∧ E.by_ f = []
  | 2 => ∃ f, look E.now freshB = some f ∧ E.by_ f = rec
  | 3 => ∃ f, look E.now freshB = some f ∧ E.by_ f = rec ∧ E.sure f = rec.length
  | 4 => ∃ f, look E.now freshB = some f ∧ E.by_ f = rec ∧ E.sure f = rec.length ∧ E.kept = E.now
  | 5 => look E.now freshB = none ∧ ∃ f, look E.now nameB = some f ∧ E.by_ f = rec ∧ E.sure f = rec.length
  | _ => look E.now freshB = none ∧ ∃ f, look E.now nameB = some f ∧ E.by_ f = rec ∧ E.sure f = rec.length ∧ E.kept = E.now
theorem CState.room {k : Nat} (h : DiskRep w d E) (hs : CState 4194304 rec k E) (hr : rec.length ≤ 1048576) : rec.length ≤ E.left ∧ rec.length + 0 ≤ 1048576 := by
  have h1 := sumLen_le E.by_ (l := E.now) (m := 1048576) (fun x hx => (h.file x.2 ⟨x, .inl hx, rfl⟩).2.2.2) E.now.length
  have h2 := hs.2.1
  have h3 := hs.1
  unfold Dk.left
  refine ⟨?_, by omega⟩
  have h4 : E.now.length * 1048576 ≤ 2 * 1048576 := Nat.mul_le_mul_right _ h2
  omega
theorem CState.one (h : DiskRep w d E) (hs : CState s0 rec 6 E) : ∃ f, E.now = [(nameB, f)] ∧ E.by_ f = rec ∧ E.sure f = rec.length ∧ E.kept = E.now := by
  obtain ⟨_, _, ho, hno, f, hl, h1, h2, h3⟩ := hs
  refine ⟨f, only_one h.rising hl (fun t ht => ?_), h1, h2, h3⟩
  by_cases e : t = freshB
  · rw [e]; exact hno
  · exact ho t e ht
theorem c_create (h : DiskRep w d E) (hs : CState s0 rec 0 E) : Calls Tryz.prog 117 #[.pointer (some ⟨d, 0, none⟩), .string freshB] w fun e w' => e = .returned (.int .i64 0) ∧ ∃ E', DStep w d E w' E' ∧ CState s0 rec 1 E' := by
  obtain ⟨hz, h2, ho, hl, hno⟩ := hs
  obtain ⟨p, hp⟩ := h.rising.pos freshB
  refine (create_any h freshB may_fresh p hp hno (by omega)).mono ?_
  rintro e w' ⟨rfl, vn, f, _, hst⟩
  exact ⟨rfl, _, hst, hz, by rw [show (E.add p freshB vn f).now.length = E.now.length + 1 from put_length hp.1]; omega, fun t h1 h2 => by show look (putAt _ _ _) t = none; rw [look_put_other (Ne.symm h1)]; exact ho t h1 h2, f, look_put_same hno, upd_same _ _ _⟩
theorem c_append (h : DiskRep w d E) (hs : CState 4194304 rec 1 E) (A : Option Addr) (c : Nat) (hr : RowAt w A rec.length 1 (bv rec)) (hm : rec.length ≤ 1048576) :
    Calls Tryz.prog 48 #[.pointer (some ⟨d, 0, none⟩), .string freshB, .slice A rec.length c] w fun e w' => e = .returned (.int .i64 0) ∧ ∃ E', DStep w d E w' E' ∧ CState 4194304 rec 2 E' := by
  have hroom := CState.room h hs hm
  obtain ⟨hz, h2, ho, f, hf, hb⟩ := hs
  refine (append_ok h freshB may_fresh f hf A rec.length c rec hr ⟨hroom.1, by rw [hb]; exact hroom.2⟩).mono ?_
  rintro e w' ⟨rfl, v, hst⟩
  exact ⟨rfl, _, hst, hz, h2, ho, f, hf, by show upd _ _ _ _ = _; rw [upd_same, hb]; rfl⟩
theorem c_sync (h : DiskRep w d E) (hs : CState s0 rec 2 E) : Calls Tryz.prog 49 #[.pointer (some ⟨d, 0, none⟩), .string freshB] w fun e w' => e = .returned (.int .i64 0) ∧ ∃ E', DStep w d E w' E' ∧ CState s0 rec 3 E' := by
  obtain ⟨hz, h2, ho, f, hf, hb⟩ := hs
  refine (sync_ok h freshB may_fresh f hf).mono ?_
  rintro e w' ⟨rfl, hst⟩
  exact ⟨rfl, _, hst, hz, h2, ho, f, hf, by show upd _ _ _ _ = _; rw [upd_same, hb], by show upd _ _ _ _ = _; rw [upd_same, hb]⟩
theorem c_names (h : DiskRep w d E) (hs : CState s0 rec 3 E) : Calls Tryz.prog 42 #[.pointer (some ⟨d, 0, none⟩)] w fun e w' => e = .returned (.int .i64 0) ∧ ∃ E', DStep w d E w' E' ∧ CState s0 rec 4 E' := by
  obtain ⟨hz, h2, ho, f, hf, hb, hu⟩ := hs
  refine (names_ok h).mono ?_
  rintro e w' ⟨rfl, vk, hst⟩
  exact ⟨rfl, _, hst, hz, h2, ho, f, hf, hb, hu, rfl⟩
theorem c_rename (h : DiskRep w d E) (hs : CState s0 rec 4 E) : Calls Tryz.prog 121 #[.pointer (some ⟨d, 0, none⟩), .string freshB, .string nameB] w fun e w' => e = .returned (.int .i64 0) ∧ ∃ E', DStep w d E w' E' ∧ CState s0 rec 5 E' := by
  obtain ⟨hz, h2, ho, f, hf, hb, hu, _⟩ := hs
  refine (rename_all h freshB nameB name_ne may_fresh may_name f hf).mono ?_
  rintro e w' ⟨rfl, vn, l, hst, hlk, hle, hno, hoth⟩
  exact ⟨rfl, _, hst, hz, Nat.le_trans hle h2, fun t h1 h2 => (hoth t h1 h2).trans (ho t h1 h2), hno, f, hlk, hb, hu⟩
theorem c_names2 (h : DiskRep w d E) (hs : CState s0 rec 5 E) : Calls Tryz.prog 42 #[.pointer (some ⟨d, 0, none⟩)] w fun e w' => e = .returned (.int .i64 0) ∧ ∃ E', DStep w d E w' E' ∧ CState s0 rec 6 E' := by
  obtain ⟨hz, h2, ho, hno, f, hf, hb, hu⟩ := hs
  refine (names_ok h).mono ?_
  rintro e w' ⟨rfl, vk, hst⟩
  exact ⟨rfl, _, hst, hz, h2, ho, hno, f, hf, hb, hu, rfl⟩
end
end Go.Proofs.YtgillcppnpkkiaaGreatDoor
