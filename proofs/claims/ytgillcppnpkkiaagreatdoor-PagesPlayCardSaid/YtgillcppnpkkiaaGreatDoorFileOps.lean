/- Disk.Left: the room that is left. append, and where the row then stands. Disk.Append. slices.Insert behind all; Create in an empty list. slices.Clone and slices.Delete at lists of entries. A disk's list is another one; Remove. Names; Remove of a name that is not there. Rename, where the new name stands behind all others. files.New. -/
import Derived.Test.YtgillcppnpkkiaaGreatDoorPlan
import Derived.Maps.AppendAt
namespace Go.Proofs.YtgillcppnpkkiaaGreatDoor
open Go Go.RowKit

/-- The bytes of the first k files of a list. -/
def sumLen (g : Nat → List UInt8) : List (ByteArray × Nat) → Nat → Nat
  | [], _ => 0
  | _, 0 => 0
  | x :: l, k + 1 => (g x.2).length + sumLen g l k
theorem sumLen_zero (g : Nat → List UInt8) (l : List (ByteArray × Nat)) : sumLen g l 0 = 0 := by cases l <;> rfl
theorem sumLen_succ (g : Nat → List UInt8) {l : List (ByteArray × Nat)} {k : Nat} {x : ByteArray × Nat} (h : l[k]? = some x) : sumLen g l (k + 1) = sumLen g l k + (g x.2).length := by
  induction l generalizing k with
  | nil => simp at h
  | cons y l ih =>
    cases k with
    | zero => simp at h; subst h; simp [sumLen, sumLen_zero]
    | succ k => simp at h; simp only [sumLen]; rw [ih h]; omega
theorem sumLen_le (g : Nat → List UInt8) {l : List (ByteArray × Nat)} {m : Nat} (hm : ∀ x ∈ l, (g x.2).length ≤ m) (k : Nat) : sumLen g l k ≤ l.length * m := by
  induction l generalizing k with
  | nil => simp [sumLen]
  | cons y l ih =>
    cases k with
    | zero => simp [sumLen]
    | succ k =>
      simp only [sumLen, List.length_cons, Nat.add_mul, Nat.one_mul]
      have h1 := hm y (by simp)
      have h2 := ih (fun x hx => hm x (by simp [hx])) k
      omega

section
variable {w w' : World} {d : Nat} {D : Dk}
def Dk.left (D : Dk) : Nat := D.size - sumLen D.by_ D.now D.now.length

set_option maxHeartbeats 800000 in
set_option maxRecDepth 100000 in
theorem left_ok (h : DiskRep w d D) :
    Calls Tryz.prog 127 #[.pointer (some ⟨d, 0, none⟩)] w fun e w' => e = .returned (.int .i64 D.left) ∧ Mod Non w w' := by
  have hlen := h.len
  have hs2 := h.s2
  have hsum := fun k => sumLen_le D.by_ (l := D.now) (m := 1048576) (fun x hx => (h.file x.2 ⟨x, .inl hx, rfl⟩).2.2.2) k
  obtain ⟨A1, c1, A2, c2, e1, e2, l1, l2, r1, r2⟩ := h.opens
  have hb := h.blk
  rw [e1, e2] at hb
  have cb := hb.cell
  have E1 := Lib.hid e1
  have E2 := Lib.hid e2
  have H := Lib.hid h
  clear h e1 e2 r1 r2 hb
  go_enter Tryz.func127, Tryz.ntmps127
  go_wp2
  clear cb
  go_loopw [3, 17] (fun n i wr => ∃ k : Nat, k ≤ D.now.length ∧ i = .int .i64 k ∧ n = .int .i64 ((D.size : Int) - (sumLen D.by_ D.now k : Nat)) ∧ Mod Non w wr) (fun _ i _ => D.now.length - (intOf i).toNat)
  case atStart => exact ⟨0, Nat.zero_le _, rfl, by rw [sumLen_zero]; simp, Mod.refl _ _⟩
  case round =>
    obtain ⟨k, hk, rfl, rfl, hm⟩ := hrel
    have hsk := hsum k
    by_cases hlt : k < D.now.length
    · obtain ⟨x, hx⟩ : ∃ x, D.now[k]? = some x := ⟨_, List.getElem?_eq_getElem hlt⟩
      have hr := H.out.non hm
      have hfile : D.isFile x.2 := ⟨x, .inl (List.mem_of_getElem? hx), rfl⟩
      obtain ⟨fb, fr, _, fl⟩ := hr.file _ hfile
      obtain ⟨A, c, ev, hc, hrow, _⟩ := owns_form fr
      rw [ev] at fb
      have cf := fb.cell
      obtain ⟨B1, c1', B2, c2', e1', e2', _, _, r1', _⟩ := hr.opens
      rw [E1.out] at e1'
      injection e1' with ea _ _
      subst ea
      obtain ⟨ad, rfl, hcc⟩ := r1'.2 (by omega)
      have hg := ents_get hx
      have c0 := hcc _ _ hg.1
      have c1'' := hcc _ _ hg.2
      rw [← add_of_add] at c1''
      have cc : wr.cell? ⟨(ad.add (k * 2)).block, (ad.add (k * 2)).off + 1, none⟩ = some (.pointer (some ⟨x.2, 0, none⟩)) := c1''
      have Hs := Lib.hid (sumLen_succ D.by_ hx)
      have hlt1 : x.2 < wr.heap.size := fb.lt
      have hne : ¬ x.2 = wr.heap.size := by omega
      have Hm := Lib.hid hm
      clear hr fb fr ev hrow e2' r1' hcc hg c1'' hx hm hsum
      go_wp2
      go_roundw
      case rel => exact ⟨k + 1, by omega, by go_num, by rw [Hs.out]; congr 1; simp; omega, Hm.out.alloc _⟩
      case measure => simp [intOf]; omega
    · obtain rfl : k = D.now.length := by omega
      clear hlt
      go_wp2
      go_ret
      refine ⟨?_, hm⟩
      have e : max (0 : Int) ((D.size : Int) - (sumLen D.by_ D.now D.now.length : Nat)) = ((D.left : Nat) : Int) := by unfold Dk.left; omega
      exact congrArg (fun n => Ending.returned (.int .i64 n)) e
end
end Go.Proofs.YtgillcppnpkkiaaGreatDoor

namespace Go.Proofs.YtgillcppnpkkiaaGreatDoor
open Go Go.RowKit
section
variable {P : Program} {w : World}
/-- append onto a row of one's own, the source nil, empty or not. -/
theorem run_append_row_at (base : Nat) (t ty e : TypeId) (i : TypeInfo) (z : Value) (size bytes : Nat) (ht : P.underlying t = some (.slice e)) (hi : P.info? e = some i) (hz : i.zero = some z)
    (hsize : i.size = size) (hby : i.bytes = bytes) (hzs : z.cells.size = size) (hsz : 0 < size)
    {v : Value} {n : Nat} {xs : List Value} (hown : w.ownsRow base e size v n xs) {A : Option Addr} {m c : Nat} {news : List Value} (hr : RowAt w A m size news) (h1 : ∀ u ∈ news, u.oneCell' = true)
    (h63 : n + m ≤ maxLen) (hbytes : (n + m) * bytes ≤ 140737488355328) (hbase : base ≤ w.heap.size) :
    ∃ v' w', (Builtin.append_ #[t, t] ty #[v, .slice A m c]).run P w = .ok v' w' ∧ w'.ownsRow base e size v' (n + m) (xs ++ news) ∧ w.grownBy w' v.ownBlock ∧
      (v' = .slice none 0 0 ↔ v = .slice none 0 0 ∧ m = 0) ∧ (v'.ownBlock = v.ownBlock ∨ v'.ownBlock = some w.heap.size) := by
  by_cases hA : ∃ ad, A = some ad
  · obtain ⟨ad, rfl⟩ := hA
    refine run_append_own_at (P := P) w base t ty e i z size bytes ht hi hz hsize hby hzs hsz v n xs hown ad m c news hr.1 (fun j u hu => ?_) h1 h63 hbytes hbase
    have hm : 0 < m := by
      rcases Nat.eq_zero_or_pos m with h0 | h0
      · subst h0; rw [hr.nil_of] at hu; simp at hu
      · exact h0
    obtain ⟨ad', e', hc⟩ := hr.2 hm
    cases e'
    exact hc j u hu
  · have hA' : A = none := by
      cases A with
      | none => rfl
      | some ad => exact absurd ⟨ad, rfl⟩ hA
    subst hA'
    have hm : m = 0 := by
      rcases Nat.eq_zero_or_pos m with h0 | h0
      · exact h0
      · obtain ⟨ad, e', _⟩ := hr.2 h0; cases e'
    subst hm
    have hn : news = [] := hr.nil_of
    subst hn
    refine ⟨v, w, ?_, by simpa using hown, World.grownBy.refl w _, by simp⟩
    rcases hown.2 with ⟨rfl, rfl⟩ | ⟨g, cap, cur, rfl, _, _, hnc, _⟩
    · simp [Builtin.append_, run_underlying ht, sizeOf, typeInfo, hi, Builtin.lenOf, Builtin.firstCells]
    · simp [Builtin.append_, run_underlying ht, sizeOf, typeInfo, hi, Builtin.lenOf, Builtin.firstCells, hnc, storeCells]

theorem wpl_append_at {ops : Array Oper} {rest : List Oper} {o : Oper} {a : Act} {Q : Exit → Act → World → Prop} (hg : o.guard = none) (s x : Operand) (t : TypeId)
    (ho : o.op = .call { callee := .builtin .append, args := #[s, x], argTypes := #[t, t] })
    (base : Nat) (e : TypeId) (i : TypeInfo) (z : Value) (size bytes : Nat) (ht : P.underlying t = some (.slice e)) (hi : P.info? e = some i) (hz : i.zero = some z)
    (hsize : i.size = size) (hby : i.bytes = bytes) (hzs : z.cells.size = size) (hsz : 0 < size)
    {v : Value} {n : Nat} {xs : List Value} (hs : a.eval s = v) (hown : w.ownsRow base e size v n xs) {A : Option Addr} {m c : Nat} {news : List Value} (hx : a.eval x = .slice A m c) (hr : RowAt w A m size news) (h1 : ∀ u ∈ news, u.oneCell' = true)
    (h63 : n + m ≤ maxLen) (hbytes : (n + m) * bytes ≤ 140737488355328) (hbase : base ≤ w.heap.size)
    (h : ∀ v' w', w'.ownsRow base e size v' (n + m) (xs ++ news) → w.grownBy w' v.ownBlock → (v' = .slice none 0 0 ↔ v = .slice none 0 0 ∧ m = 0) → (v'.ownBlock = v.ownBlock ∨ v'.ownBlock = some w.heap.size) → wpList P ops Q rest (a.put o.dst v') w') : wpList P ops Q (o :: rest) a w := by
  obtain ⟨v', w', hrun, h2, h3, h4, h5⟩ := run_append_row_at (P := P) base t o.type e i z size bytes ht hi hz hsize hby hzs hsz hown (c := c) hr h1 h63 hbytes hbase
  refine wpl_run hg ?_ (h v' w' h2 h3 h4 h5)
  simp [execOp, ho, hs, hx, hrun, resolve, invoke, builtin]
end
end Go.Proofs.YtgillcppnpkkiaaGreatDoor

namespace Go.Proofs.YtgillcppnpkkiaaGreatDoor
open Go Go.RowKit
section
variable {w w' : World} {d : Nat} {D : Dk}
set_option maxHeartbeats 800000 in
set_option maxRecDepth 100000 in
theorem append_ok (h : DiskRep w d D) (s : ByteArray) (hm : mayB s = true) (f : Nat) (hl : look D.now s = some f) (A : Option Addr) (m c : Nat) (l : List UInt8) (hr : RowAt w A m 1 (bv l)) (hroom : m ≤ D.left ∧ m + (D.by_ f).length ≤ 1048576) :
    Calls Tryz.prog 48 #[.pointer (some ⟨d, 0, none⟩), .string s, .slice A m c] w fun e w' => e = .returned (.int .i64 0) ∧ ∃ v, DStep w d D w' (D.setFile f v (D.by_ f ++ l) (D.sure f)) := by
  have hml : l.length = m := by have := hr.1; rw [bv_length] at this; omega
  have hfile : D.isFile f := ⟨_, .inl (look_some hl), rfl⟩
  obtain ⟨i0, hi, hz0, hz1, hz2⟩ := info_parts info_u8
  have HG := Lib.hid (got_some h s hm f hl _ (asked_okM h))
  have hs2 := h.s2
  have hleft : D.left ≤ 8388608 := by unfold Dk.left; omega
  have H := Lib.hid h
  have Hml := Lib.hid hml
  obtain ⟨hroom1, hroom2⟩ := hroom
  clear h hl hml
  go_enter Tryz.func48, Tryz.ntmps48
  go_wp2_with (go_at_call 115; refine HG.out.mono ?_; rintro e w1 ⟨rfl, hm1⟩)
  refine wp_plan [(0, false), (1, false), (2, false), (4, false), (5, false), (6, false), (7, false), (8, false), (9, false), (3, true), (10, false), (11, false)] Non (by kernel_rfl) (by kernel_rfl) (fun c d v a w h => by cases d <;> exact h) (fun w2 hm2 => ?_)
  have h2 := (H.out.non hm1).non hm2
  obtain ⟨fb, fr, fs, fl⟩ := h2.file f hfile
  obtain ⟨A', c', ev, hcc, hrow, _⟩ := owns_form fr
  have Fb := Lib.hid fb
  rw [ev] at fb
  have hcell : ∀ W, Mod Non w2 W → ∀ i, W.cell? ⟨f, i, none⟩ = #[Value.slice A' (D.by_ f).length c', Value.int .i64 (D.sure f)][i]? := fun W hW => (fb.mod hW (fun x => x)).cell
  refine wpp_read _ rfl rfl (fun W hW => by have cW := hcell W hW; first | (go_simp; done) | (go_simp; rfl) | rfl) ?_
  go_frame
  refine wpp_read _ rfl rfl (fun W hW => by have cW := hcell W hW; first | (go_simp; done) | (go_simp; rfl) | rfl) ?_
  go_frame
  refine wpp_read _ rfl rfl (fun W hW => by have cW := hcell W hW; first | (go_simp; done) | (go_simp; rfl) | rfl) ?_
  go_frame
  refine wpp_read _ rfl rfl (fun W hW => by have cW := hcell W hW; first | (go_simp; done) | (go_simp; rfl) | rfl) ?_
  go_frame
  refine wpp_read _ rfl rfl (fun W hW => by have cW := hcell W hW; first | (go_simp; done) | (go_simp; rfl) | rfl) ?_
  go_frame
  refine wpp_read _ rfl rfl (fun W hW => by have cW := hcell W hW; first | (go_simp; done) | (go_simp; rfl) | rfl) ?_
  go_frame
  refine wpp_read _ rfl rfl (fun W hW => by have cW := hcell W hW; first | (go_simp; done) | (go_simp; rfl) | rfl) ?_
  go_frame
  refine wpp_read _ rfl rfl (fun W hW => by have cW := hcell W hW; first | (go_simp; done) | (go_simp; rfl) | rfl) ?_
  go_frame
  refine wpp_read _ rfl rfl (fun W hW => by have cW := hcell W hW; first | (go_simp; done) | (go_simp; rfl) | rfl) ?_
  go_frame
  refine wpp_act rfl rfl ?_
  go_simp
  refine (left_ok h2).mono ?_
  rintro e w3 ⟨rfl, hm3⟩
  refine ⟨hm3, ?_⟩
  try go_frame
  refine wpp_read _ rfl rfl (fun W hW => by first | (go_simp; done) | (go_simp; rfl) | rfl) ?_
  go_frame
  refine wpp_read _ rfl rfl (fun W hW => by first | (go_simp; done) | (go_simp; rfl) | rfl) ?_
  go_frame
  refine wpp_nil ?_
  have h3 := h2.non hm3
  obtain ⟨fb3, fr3, _, _⟩ := h3.file f hfile
  have Fb3 := Lib.hid fb3
  have H3 := Lib.hid h3
  rw [ev] at fb3
  have cf3 := fb3.cell
  have ff3 := fb3.frozen
  have hr3 := ((hr.non (by omega) hm1).non (by omega) hm2).non (by omega) hm3
  have hfv3 : w3.ownsRow 0 5 1 (.slice A' (D.by_ f).length c') (D.by_ f).length (bv (D.by_ f)) := ev ▸ fr3
  clear hcell h2 h3 fb3 fr3 fb fr hrow hcc
  have hmax : (D.by_ f).length + m ≤ maxLen := by unfold maxLen; omega
  go_wp2_with (at_builtin; refine wpl_append_at rfl (.tmp 34) (.tmp 35) _ rfl 0 5 i0 (.int .u8 0) 1 1 und_bytes hi hz0 hz1 hz2 rfl (by omega) (v := .slice A' (D.by_ f).length c') rfl hfv3 rfl hr3 (bv_one l) hmax (by omega) (Nat.zero_le _) ?_
               intro v4 w4 ho4 hg4 hn4 ha4
               obtain ⟨A4, c4, rfl, hnc4, hr4, _⟩ := owns_form ho4
               have hm4 : Mod (fun k => (D.fv f).ownBlock = some k) w3 w4 := Mod.of_grown hg4 (fun k hk => by rw [ev]; exact hk)
               have Fb4 := Fb3.out.mod hm4 (fun e => own_blk_ne (H3.out.file f hfile).2.1 Fb3.out (by decide) e)
               have FB4 := Lib.hid Fb4
               rw [ev] at Fb4
               have cf4 := Fb4.cell
               have ff4 := Fb4.frozen
               clear Fb4
               clear hr4)
  · exfalso
    have hh : min (D.left : Int) (IntKind.i64.wrap (1048576 - ((D.by_ f).length : Int))) < (m : Int) := by assumption
    rw [IntKind.wrap_i64] at hh
    omega
  go_ret
  have hh3 := H3.out
  have hdf : DS d D f := .inr (.inr (.inr ⟨f, hfile, .inl rfl⟩))
  have hdo : ∀ b, (D.fv f).ownBlock = some b → DS d D b := fun b hb => .inr (.inr (.inr ⟨f, hfile, .inr hb⟩))
  have hlen' : (D.by_ f ++ l).length = (D.by_ f).length + m := by rw [List.length_append, Hml.out]
  have hnew : ∀ b, (Value.slice A4 ((D.by_ f).length + m) c4).ownBlock = some b → (D.fv f).ownBlock = some b ∨ w3.heap.size ≤ b := fun b hb => by
    rw [ev]
    rcases ha4 with e | e
    · exact .inl (e ▸ hb)
    · rw [e] at hb; cases hb; exact .inr (Nat.le_refl _)
  have hst : DStep w3 d D (w4.setCell ⟨f, 0, none⟩ (.slice A4 ((D.by_ f).length + m) c4)) (D.setFile f (.slice A4 ((D.by_ f).length + m) c4) (D.by_ f ++ l) (D.sure f)) :=
    ⟨hh3.setFile hfile ((hm4.mono (S := fun k => (D.fv f).ownBlock = some k) (T := fun k => k = f ∨ (D.fv f).ownBlock = some k) (fun _ x => .inr x)).setCell (p := ⟨f, 0, none⟩) (.inl (.inl rfl)) _) (fun b hb => hb) (FB4.out.set 0 _) (by
      rw [hlen', bv_append]
      exact owns_keep ho4 (fun b hb => Below.heap_setCell _ _ _ _ (fun e => own_blk_ne ho4 FB4.out (by decide) (by rw [hb, e])))) hnew (by omega) (by omega),
     (hm4.mono (fun b x => hdo b x)).setCell (p := ⟨f, 0, none⟩) (.inl hdf) _, fun b hb => setFile_DS hnew hb⟩
  exact ⟨rfl, _, DStep.after (hm1.trans (hm2.trans hm3)) hst⟩
end
end Go.Proofs.YtgillcppnpkkiaaGreatDoor

namespace Go.Proofs.YtgillcppnpkkiaaGreatDoor
open Go Go.RowKit

theorem und_entries : Tryz.prog.underlying 77 = some (.slice 112) := by kernel_rfl
theorem info_entry : (Tryz.prog.info? 112).map (fun i => (i.zero.map (fun z => z.cells.size), i.size, i.bytes)) = some (some 2, 2, 24) := by kernel_rfl
theorem entry_info : ∃ i z, Tryz.prog.info? 112 = some i ∧ i.zero = some z ∧ z.cells.size = 2 ∧ i.size = 2 ∧ i.bytes = 24 := by
  have h := info_entry
  cases hi : Tryz.prog.info? 112 with
  | none => rw [hi] at h; simp at h
  | some i =>
    rw [hi] at h
    cases hz : i.zero with
    | none => simp [hz] at h
    | some z =>
      simp [hz] at h
      exact ⟨i, z, rfl, hz, h.1, h.2.1, h.2.2⟩

section
variable {P : Program} {w : World}
theorem run_append_types {t t' ty e : TypeId} (ht : P.underlying t = some (.slice e)) (ht' : P.underlying t' = some (.slice e)) {i : TypeInfo} (hi : P.info? e = some i) (A B : Option Addr) (n c m k : Nat) :
    (Builtin.append_ #[t, t'] ty #[.slice A n c, .slice B m k]).run P w = (Builtin.append_ #[t, t] ty #[.slice A n c, .slice B m k]).run P w := by
  simp [Builtin.append_, run_underlying ht, run_underlying ht', sizeOf, typeInfo, hi]
theorem wpl_append_two {ops : Array Oper} {rest : List Oper} {o : Oper} {a : Act} {Q : Exit → Act → World → Prop} (hg : o.guard = none) (s x : Operand) (t t' : TypeId)
    (ho : o.op = .call { callee := .builtin .append, args := #[s, x], argTypes := #[t, t'] })
    (base : Nat) (e : TypeId) (i : TypeInfo) (z : Value) (size bytes : Nat) (ht : P.underlying t = some (.slice e)) (ht' : P.underlying t' = some (.slice e)) (hi : P.info? e = some i) (hz : i.zero = some z)
    (hsize : i.size = size) (hby : i.bytes = bytes) (hzs : z.cells.size = size) (hsz : 0 < size)
    {v : Value} {n : Nat} {xs : List Value} (hs : a.eval s = v) (hown : w.ownsRow base e size v n xs) {A : Option Addr} {m c : Nat} {news : List Value} (hx : a.eval x = .slice A m c) (hr : RowAt w A m size news) (h1 : ∀ u ∈ news, u.oneCell' = true)
    (h63 : n + m ≤ maxLen) (hbytes : (n + m) * bytes ≤ 140737488355328) (hbase : base ≤ w.heap.size)
    (h : ∀ v' w', w'.ownsRow base e size v' (n + m) (xs ++ news) → w.grownBy w' v.ownBlock → (v' = .slice none 0 0 ↔ v = .slice none 0 0 ∧ m = 0) → (v'.ownBlock = v.ownBlock ∨ v'.ownBlock = some w.heap.size) → wpList P ops Q rest (a.put o.dst v') w') : wpList P ops Q (o :: rest) a w := by
  obtain ⟨v', w', hrun, h2, h3, h4, h5⟩ := run_append_row_at (P := P) base t o.type e i z size bytes ht hi hz hsize hby hzs hsz hown (c := c) hr h1 h63 hbytes hbase
  obtain ⟨A0, c0, rfl, _⟩ := owns_form hown
  rw [← run_append_types ht ht' hi] at hrun
  refine wpl_run hg ?_ (h v' w' h2 h3 h4 h5)
  simp [execOp, ho, hs, hx, hrun, resolve, invoke, builtin]
end

section
variable {w w' : World}
set_option maxRecDepth 100000 in
theorem insert_end {v : Value} {l : List (ByteArray × Nat)} (hown : w.ownsRow 0 112 2 v l.length (ents l)) (hlen : l.length ≤ 64) (x : ByteArray × Nat) (A : Option Addr) (c : Nat) (hr : RowAt w A 1 2 (ent x)) :
    Calls Tryz.prog 167 #[v, .int .i64 l.length, .slice A 1 c] w fun e w' => ∃ v', e = .returned v' ∧ w'.ownsRow 0 112 2 v' (l.length + 1) (ents (l ++ [x])) ∧ w.grownBy w' v.ownBlock ∧ (v'.ownBlock = v.ownBlock ∨ v'.ownBlock = some w.heap.size) := by
  obtain ⟨i0, z0, hi, hz0, hz3, hz1, hz2⟩ := entry_info
  obtain ⟨A0, c0, rfl, hc0, _, _⟩ := owns_form hown
  have hone : ∀ u ∈ ent x, u.oneCell' = true := by intro u hu; exact ents_one [x] u (by simpa [ents] using hu)
  go_enter Tryz.func167, Tryz.ntmps167
  go_wp2_with (at_builtin; refine wpl_append_two rfl (.tmp 23) (.tmp 24) _ _ rfl 0 112 i0 z0 2 24 und_list und_entries hi hz0 hz1 hz2 hz3 (by omega) (v := .slice A0 l.length c0) rfl hown rfl hr hone (by unfold maxLen; omega) (by omega) (Nat.zero_le _) ?_
               intro v4 w4 ho4 hg4 hn4 ha4
               obtain ⟨A4, c4, rfl, hnc4, hr4, _⟩ := owns_form ho4)
  all_goals
    have hfin : w4.ownsRow 0 112 2 (.slice A4 (l.length + 1) c4) (l.length + 1) (ents (l ++ [x])) := by
      rw [ents_append]
      simpa [ents] using ho4
    go_ret
    refine ⟨.slice A4 (l.length + 1) c4, rfl, hfin, ?_, ?_⟩
    · cases A0 <;> exact hg4
    · cases A0 <;> exact ha4
end

section
variable {w w' : World} {d : Nat} {D : Dk} {S : Nat → Prop}
def Dk.create (D : Dk) (s : ByteArray) (vn : Value) (f : Nat) : Dk :=
  { D with vn := vn, now := D.now ++ [(s, f)], fv := upd D.fv f (.slice none 0 0), by_ := upd D.by_ f [], sure := upd D.sure f 0 }

theorem DiskRep.not_new (h : DiskRep w d D) {f : Nat} (hf : w.heap.size ≤ f) : ¬ D.isFile f := fun hk => by
  have := (h.file f hk).1.lt
  omega

theorem DiskRep.create (h : DiskRep w d D) {s : ByteArray} {f : Nat} {vn : Value} (hm : Mod S w w') (hS : ∀ b, S b → b = d ∨ D.vn.ownBlock = some b) (hf : w.heap.size ≤ f)
    (hb : Blk w' d 80 #[.int .i64 D.size, vn, D.vk]) (hfb : Blk w' f 118 #[.slice none 0 0, .int .i64 0])
    (hv : w'.ownsRow 0 112 2 vn (D.now.length + 1) (ents (D.now ++ [(s, f)]))) (hvn : ∀ b, vn.ownBlock = some b → D.vn.ownBlock = some b ∨ w.heap.size ≤ b)
    (hs : ∀ x ∈ D.now, nlt x.1 s = true) (hlen : D.now.length < 64) : DiskRep w' d (D.create s vn f) := by
  have hnf := h.not_new hf
  have hkeep : ∀ b, b < w.heap.size → b ≠ d → D.vn.ownBlock ≠ some b → w'.heap[b]? = w.heap[b]? := fun b hlt h1 h2 => hm.block b hlt (fun hs => (hS b hs).elim h1 h2)
  have hvk : ∀ b, D.vk.ownBlock = some b → w'.heap[b]? = w.heap[b]? := fun b hb' => by
    obtain ⟨cur, hc⟩ := own_blk h.kept hb'
    exact hkeep b hc.lt (hc.ne h.blk (by decide)) (fun e => h.rows b e hb')
  have old : ∀ g, D.isFile g → g ≠ f := fun g hg e => hnf (e ▸ hg)
  have hold : ∀ g, (D.create s vn f).isFile g → g = f ∨ D.isFile g := by
    rintro g ⟨x, hx | hx, rfl⟩
    · simp only [Dk.create, List.mem_append, List.mem_singleton] at hx
      rcases hx with hx | rfl
      · exact .inr ⟨x, .inl hx, rfl⟩
      · exact .inl rfl
    · exact .inr ⟨x, .inr hx, rfl⟩
  refine ⟨hb, by simpa [Dk.create] using hv, owns_keep h.kept hvk, fun b hb' hk => ?_, fun g hg => ?_, fun g k b hg hk hgk hb' => ?_, ?_, h.risingK, ?_, h.distinctK, ?_, h.lenK, h.s1, h.s2⟩
  · rcases hvn b hb' with e | e
    · exact h.rows b e hk
    · have := (h.kept.lt b hk).2
      omega
  · rcases hold g hg with rfl | hg
    · simp only [Dk.create, upd_same]
      exact ⟨hfb, World.ownsRow_nil _ _ _ _, Nat.le_refl _, Nat.zero_le _⟩
    · simp only [Dk.create, upd_other _ _ (old g hg)]
      obtain ⟨gb, gr, gs⟩ := h.file g hg
      refine ⟨(hkeep g gb.lt (gb.ne h.blk (by decide)) (own_blk_ne h.now gb (by decide))).trans gb, owns_keep gr (fun b hb' => ?_), gs⟩
      obtain ⟨cur, hc⟩ := own_blk gr hb'
      exact hkeep b hc.lt (hc.ne h.blk (by decide)) (own_blk_ne h.now hc (by decide))
  · simp only [Dk.create] at hb' ⊢
    rcases hold g hg with rfl | hg
    · rw [upd_same] at hb'
      simp [Value.ownBlock] at hb'
    · rw [upd_other _ _ (old g hg)] at hb'
      rcases hold k hk with rfl | hk
      · rw [upd_same]
        simp [Value.ownBlock]
      · rw [upd_other _ _ (old k hk)]
        exact h.sep g k b hg hk hgk hb'
  · exact List.pairwise_append.mpr ⟨h.rising, List.pairwise_singleton _ _, fun a ha b hb => by simp at hb; subst hb; exact hs a ha⟩
  · exact List.pairwise_append.mpr ⟨h.distinct, List.pairwise_singleton _ _, fun a ha b hb => by simp at hb; subst hb; exact old _ ⟨a, .inl ha, rfl⟩⟩
  · simp only [Dk.create, List.length_append, List.length_singleton]
    omega

theorem create_DS {s : ByteArray} {f : Nat} {vn : Value} (hf : w.heap.size ≤ f) (hvn : ∀ b, vn.ownBlock = some b → D.vn.ownBlock = some b ∨ w.heap.size ≤ b) {b : Nat} (hb : DS d (D.create s vn f) b) : DS d D b ∨ w.heap.size ≤ b := by
  rcases hb with h | h | h | ⟨g, ⟨x, hx, hg⟩, h⟩
  · exact .inl (.inl h)
  · exact (hvn b h).imp (fun e => .inr (.inl e)) id
  · exact .inl (.inr (.inr (.inl h)))
  · by_cases hgf : g = f
    · subst hgf
      rcases h with h | h
      · exact .inr (h ▸ hf)
      · simp only [Dk.create, upd_same] at h
        simp [Value.ownBlock] at h
    · have hg' : D.isFile g := by
        rcases hx with hx | hx
        · simp only [Dk.create, List.mem_append, List.mem_singleton] at hx
          rcases hx with hx | rfl
          · exact ⟨x, .inl hx, hg⟩
          · exact absurd hg.symm hgf
        · exact ⟨x, .inr hx, hg⟩
      simp only [Dk.create, upd_other _ _ hgf] at h
      exact .inl (.inr (.inr (.inr ⟨g, hg', h⟩)))

set_option maxHeartbeats 800000 in
set_option maxRecDepth 100000 in
theorem create_ok (h : DiskRep w d D) (s : ByteArray) (hm : mayB s = true) (hs : ∀ x ∈ D.now, nlt x.1 s = true) (hlen : D.now.length < 64) :
    Calls Tryz.prog 117 #[.pointer (some ⟨d, 0, none⟩), .string s] w fun e w' => e = .returned (.int .i64 0) ∧ ∃ vn f, w.heap.size ≤ f ∧ DStep w d D w' (D.create s vn f) := by
  have hp : IsPos D.now s D.now.length := ⟨Nat.le_refl _, fun k x hk _ => hs x (List.mem_of_getElem? hk), fun k x hk hle => by
    have := (List.getElem?_eq_some_iff.1 hk).1
    omega⟩
  have HA := Lib.hid (asked_ok h)
  have HT := Lib.hid (at_ok h s hm _ hp)
  have hfo : foundAt D.now s D.now.length = false := by simp [foundAt]
  rw [hfo] at HT
  have H := Lib.hid h
  clear h hp hfo
  go_enter Tryz.func117, Tryz.ntmps117
  go_wp2_with (first
    | (go_at_call 53; refine HA.out.mono ?_; rintro e w1 ⟨rfl, rfl⟩)
    | (go_at_call 122; refine HT.out.mono ?_; rintro e w1 ⟨rfl, hm1⟩
       obtain ⟨A1, c1, A2, c2, e1, e2, l1, l2, r1, r2⟩ := (H.out.non hm1).opens
       have hb := (H.out.non hm1).blk
       rw [e1, e2] at hb
       have cb := hb.cell
       have Hb := Lib.hid hb
       clear hb r1 r2
       have E1 := Lib.hid e1
       have hnow := (H.out.non hm1).now
       rw [e1] at hnow
       have E1 := Lib.hid e1
       have E2 := Lib.hid e2
       clear e1 e2
       have hmW : Mod Non w1 ((w1.alloc (.cells #[.slice none 0 0, .int .i64 0] 118)).alloc (.cells #[.string s, .pointer (some ⟨w1.heap.size, 0, none⟩)] 112)) := ((Mod.refl _ _).alloc _).alloc _
       have hfW := (Blk.new w1 118 #[.slice none 0 0, .int .i64 0]).alloc (.cells #[.string s, .pointer (some ⟨w1.heap.size, 0, none⟩)] 112)
       have heW := Blk.new (w1.alloc (.cells #[.slice none 0 0, .int .i64 0] 118)) 112 #[.string s, .pointer (some ⟨w1.heap.size, 0, none⟩)]
       have hsz1 : (w1.alloc (.cells #[.slice none 0 0, .int .i64 0] 118)).heap.size = w1.heap.size + 1 := by simp
       rw [hsz1] at heW
       have hrW : RowAt ((w1.alloc (.cells #[.slice none 0 0, .int .i64 0] 118)).alloc (.cells #[.string s, .pointer (some ⟨w1.heap.size, 0, none⟩)] 112)) (some ⟨w1.heap.size + 1, 0, none⟩) 1 2 (ent (s, w1.heap.size)) := ⟨rfl, fun _ => ⟨_, rfl, fun j u hu => by
         rw [add_lit, heW.cell]
         simpa [ent] using hu⟩⟩
       have HI := Lib.hid (insert_end (((H.out.non hm1).non hmW).now) (by omega) (s, w1.heap.size) _ 1 hrW)
       rw [E1.out] at HI
       have HW := Lib.hid hmW
       have FW := Lib.hid hfW
       clear hmW hfW heW hrW hnow hsz1)
    | (go_at_call 167; refine HI.out.mono ?_; rintro e w3 ⟨v3, rfl, ho3, hg3, ha3⟩
       obtain ⟨A3, c3, rfl, hc3, _, _⟩ := owns_form ho3
       have hm3 : Mod (fun k => D.vn.ownBlock = some k) w1 w3 := (HW.out.mono (fun _ x => x.elim)).trans (Mod.of_grown hg3 (fun k hk => by rw [E1.out]; exact hk))
       have hb3 := Hb.out.mod hm3 (own_blk_ne (H.out.non hm1).now Hb.out (by decide))
       have cb3 := hb3.cell
       have fb3 := hb3.frozen
       have HB3 := Lib.hid hb3
       clear hb3))
  go_ret
  have h1 := H.out.non hm1
  have hszW : w1.heap.size ≤ ((w1.alloc (.cells #[.slice none 0 0, .int .i64 0] 118)).alloc (.cells #[.string s, .pointer (some ⟨w1.heap.size, 0, none⟩)] 112)).heap.size := HW.out.size
  have hvn : ∀ b, (Value.slice A3 (D.now.length + 1) c3).ownBlock = some b → D.vn.ownBlock = some b ∨ w1.heap.size ≤ b := fun b hb => by
    rcases ha3 with e | e
    · exact .inl (by rw [E1.out, ← e]; exact hb)
    · rw [e] at hb; cases hb; exact .inr hszW
  have hf3 : Blk w3 w1.heap.size 118 #[.slice none 0 0, .int .i64 0] := FW.out.mod (Mod.of_grown (S := fun k => D.vn.ownBlock = some k) hg3 (fun k hk => by rw [E1.out]; exact hk)) (own_blk_ne (h1.non HW.out).now FW.out (by decide))
  have hlt : d < w1.heap.size := h1.blk.lt
  refine ⟨rfl, .slice A3 (D.now.length + 1) c3, w1.heap.size, hm1.size, DStep.after hm1 ⟨h1.create (S := fun b => b = d ∨ D.vn.ownBlock = some b) ((hm3.mono (fun b x => .inr x)).setCell (p := ⟨d, 1, none⟩) (.inl (.inl rfl)) _) (fun b x => x) (Nat.le_refl _) ?_ (hf3.far (fun e => by simp at e; omega) _) (owns_keep ho3 (fun b hb => Below.heap_setCell _ _ _ _ (fun e => own_blk_ne ho3 HB3.out (by decide) (by rw [hb, e])))) hvn hs hlen, (hm3.mono (T := DS d D) (fun b x => .inr (.inl x))).setCell (p := ⟨d, 1, none⟩) (.inl (.inl rfl)) _, fun b hb => create_DS (Nat.le_refl _) hvn hb⟩⟩
  have := HB3.out.set 1 (.slice A3 (D.now.length + 1) c3)
  rw [E2.out]
  exact this
end
end Go.Proofs.YtgillcppnpkkiaaGreatDoor

namespace Go.Proofs.YtgillcppnpkkiaaGreatDoor
open Go Go.RowKit

section
variable {P : Program} {ops : Array Oper} {a : Act} {w w' : World} {rest : List Oper} {o : Oper} {Q : Exit → Act → World → Prop}
theorem wpo_run {v : Value} {K : Act → World → Prop} (hrun : (execOp a.eval o).run P w = .ok (.value v) w') (h : K (a.put o.dst v) w') : o.wp P a w K Q := by
  unfold Oper.wp; rw [hrun]; exact h

theorem wpo_append {v v' u : Value} {K : Act → World → Prop} (s x : Operand) (ts : Array TypeId) (ho : o.op = .call { callee := .builtin .append, args := #[s, x], argTypes := ts }) (hs : a.eval s = v) (hx : a.eval x = u)
    (hr : (Builtin.append_ ts o.type #[v, u]).run P w = .ok v' w') (h : K (a.put o.dst v') w') : o.wp P a w K Q :=
  wpo_run (by simp [execOp, ho, hs, hx, hr, resolve, invoke, builtin]) h

/-- clear(s[k:k+1]). -/
theorem wpl_clear_one (hg : o.guard = none) (x : Operand) (t e : TypeId) (i : TypeInfo) (z : Value) (ho : o.op = .call { callee := .builtin .clear, args := #[x], argTypes := #[t] }) (ht : P.underlying t = some (.slice e)) (hi : P.info? e = some i) (hz : i.zero = some z)
    (h1 : ∀ u ∈ z.cells, u.oneCell' = true) {g off k : Nat} (hx : a.eval x = .slice (some ⟨g, off, none⟩) 1 k) {cur : Array Value} (hb : w.heap[g]? = some (.cells cur e (0, 0))) (hfit : off + z.cells.size ≤ cur.size)
    (h : ∀ cur' : Array Value, cur'.size = cur.size → cur'.toList.take off = cur.toList.take off → wpList P ops Q rest (a.put o.dst (.tuple #[])) (w.setRow g cur')) : wpList P ops Q (o :: rest) a w := by
  have hzc : (Builtin.zeroCells z.cells 1).toList = z.cells.toList := by
    apply List.ext_getElem (by simp [Builtin.zeroCells])
    intro j h1 h2
    have hj : j < z.cells.size := by simpa using h2
    simp [Builtin.zeroCells, Nat.mod_eq_of_lt hj, hj]
  have hst := run_storeCells_at P g off e z.cells.toList 0 cur w hb (by simpa using hfit) (by simpa using h1)
  simp only [Nat.add_zero] at hst
  have hl : off ≤ cur.toList.length := by simp; omega
  refine wpl_run hg ?_ (h (cur.toList.take off ++ z.cells.toList ++ cur.toList.drop (off + z.cells.toList.length)).toArray ?_ ?_)
  · simp [execOp, ho, hx, resolve, invoke, builtin, Builtin.clear_, run_underlying ht, zeroValue, typeInfo, hi, hz, hzc, hst]
  · simp; omega
  · have hl2 : (cur.toList.take off).length = off := by rw [List.length_take, Nat.min_eq_left hl]
    show (cur.toList.take off ++ z.cells.toList ++ cur.toList.drop (off + z.cells.toList.length)).take off = _
    rw [List.append_assoc]
    conv => lhs; arg 1; rw [← hl2]
    rw [List.take_left]
end

theorem info_ones : (Tryz.prog.info? 112).map (fun i => i.zero.map (fun z => z.cells.toList.all (fun u => u.oneCell'))) = some (some true) := by kernel_rfl
theorem entry_ones {i : TypeInfo} {z : Value} (hi : Tryz.prog.info? 112 = some i) (hz : i.zero = some z) : ∀ u ∈ z.cells, u.oneCell' = true := by
  have h := info_ones
  rw [hi] at h
  simp only [Option.map_some, hz, Option.some.injEq, List.all_eq_true] at h
  exact fun u hu => h u (by simpa using hu)
theorem ents_take {l : List (ByteArray × Nat)} {k : Nat} (hk : k ≤ l.length) : ents (l.take k) = (ents l).take (k * 2) := by
  have h : ents l = ents (l.take k) ++ ents (l.drop k) := by rw [← ents_append, List.take_append_drop]
  rw [h]
  have hl : (ents (l.take k)).length = k * 2 := by rw [ents_length, List.length_take, Nat.min_eq_left hk]
  rw [← hl, List.take_left]
theorem ents_drop {l : List (ByteArray × Nat)} {k : Nat} (hk : k ≤ l.length) : ents (l.drop k) = (ents l).drop (k * 2) := by
  have h : ents l = ents (l.take k) ++ ents (l.drop k) := by rw [← ents_append, List.take_append_drop]
  have hl : (ents (l.take k)).length = k * 2 := by rw [ents_length, List.length_take, Nat.min_eq_left hk]
  conv => rhs; rw [h]
  rw [← hl, List.drop_left]

section
variable {w w' : World}
set_option maxHeartbeats 400000 in
set_option maxRecDepth 100000 in
theorem clone_list {v : Value} {l : List (ByteArray × Nat)} (h : w.ownsRow 0 112 2 v l.length (ents l)) (hlen : l.length ≤ 64) :
    Calls Tryz.prog 54 #[v] w fun e w' => ∃ v', e = .returned v' ∧ w'.ownsRow w.heap.size 112 2 v' l.length (ents l) ∧ Mod Non w w' := by
  have hq := fun (W : World) a n c n' c' => Lib.run_eql_slice_nil (P := Tryz.prog) W 78 112 a n c n' c' und_list
  obtain ⟨i0, z0, hi, hz0, hz3, hz1, hz2⟩ := entry_info
  have hone := ents_one l
  have hn0 : v = .slice none 0 0 → l = [] := fun e => by
    rcases h.2 with ⟨_, h0⟩ | ⟨g, cap, cur, e', _⟩
    · exact List.length_eq_zero_iff.1 h0
    · rw [e] at e'; cases e'
  obtain ⟨A, c, ev, hc, hr, _⟩ := owns_form h
  clear h
  cases A with
  | none =>
    have hl0 : l = [] := by
      by_cases h0 : l.length = 0
      · exact List.length_eq_zero_iff.1 h0
      · obtain ⟨ad, e, _⟩ := hr.2 (by omega); cases e
    subst hl0 ev
    clear hr hn0
    go_enter Tryz.func54, Tryz.ntmps54
    go_wp2
    go_ret
    exact ⟨_, rfl, World.ownsRow_nil _ _ _ _, Mod.refl _ _⟩
  | some ad =>
    subst ev
    clear hn0
    have hown : (w.alloc (.cells #[] 112)).ownsRow w.heap.size 112 2 (.slice (some ⟨w.heap.size, 0, none⟩) 0 0) 0 [] := World.ownsRow_made w #[] 0 (Nat.le_refl _) (Nat.zero_le _) (by simp)
    have hm1 : Mod Non w (w.alloc (.cells #[] 112)) := (Mod.refl _ _).alloc _
    have hr1 := hr.non (by omega) hm1
    have hml : (0 + l.length) ≤ maxLen := by unfold maxLen; omega
    clear hr
    go_enter Tryz.func54, Tryz.ntmps54
    go_wp2_with (at_builtin; refine wpl_append_two rfl (.tmp 5) (.tmp 6) _ _ rfl w.heap.size 112 i0 z0 2 24 und_list und_list hi hz0 hz1 hz2 hz3 (by omega) (v := .slice (some ⟨w.heap.size, 0, none⟩) 0 0) rfl hown rfl hr1 hone hml (by omega) hm1.size ?_; intro v' w1 ho1 hg1 hnil hat1)
    go_ret
    refine ⟨v', rfl, by simpa using ho1, hm1.andThen (Mod.of_grown (S := One w.heap.size) hg1 (fun k hk => by simp [Value.ownBlock] at hk; exact hk.symm)) (fun b hb hlt => by cases hb; omega)⟩

set_option maxHeartbeats 800000 in
set_option maxRecDepth 100000 in
theorem delete_ok {base g c : Nat} {l : List (ByteArray × Nat)} (h : w.ownsRow base 112 2 (.slice (some ⟨g, 0, none⟩) l.length c) l.length (ents l)) (hlen : l.length ≤ 64) (i : Nat) (hi' : i < l.length) :
    Calls Tryz.prog 123 #[.slice (some ⟨g, 0, none⟩) l.length c, .int .i64 i, .int .i64 (i + 1)] w fun e w' => e = .returned (.slice (some ⟨g, 0, none⟩) (l.length - 1) c) ∧ w'.ownsRow base 112 2 (.slice (some ⟨g, 0, none⟩) (l.length - 1) c) (l.length - 1) (ents (l.eraseIdx i)) ∧ Mod (One g) w w' := by
  obtain ⟨i0, z0, hi, hz0, hz3, hz1, hz2⟩ := entry_info
  have hone0 : ∀ u ∈ z0.cells, u.oneCell' = true := entry_ones hi hz0
  rcases h.2 with ⟨e, _⟩ | ⟨g', cap, cur, e, hb, hg, hnc, hcm, hcs, ht⟩
  · cases e
  cases e
  have HG := Lib.hid hg
  have HT := Lib.hid ht
  have HS := Lib.hid hcs
  clear h hg ht hcs
  go_enter Tryz.func123, Tryz.ntmps123
  go_wp2
  refine wp_plan [(0, false), (1, false), (2, false), (3, false), (4, false), (5, false), (6, true), (7, false)] (One g) (by kernel_rfl) (by kernel_rfl) (fun c d v a w h => by cases d <;> exact h) (fun w2 hm2 => ?_)
  refine wpp_read _ rfl rfl (fun W hW => by first | (go_simp; done) | (go_simp; rfl) | rfl) ?_
  simp only [List.getElem_toArray, List.getElem_cons_zero]
  go_frame
  refine wpp_read _ rfl rfl (fun W hW => by first | (go_simp; done) | (go_simp; rfl) | rfl) ?_
  simp only [List.getElem_toArray, List.getElem_cons_succ, List.getElem_cons_zero]
  go_frame
  refine wpp_read (.slice (some ⟨g, 0, none⟩) i c) rfl rfl (fun W hW => by go_simp; intro hh; omega) ?_
  simp only [List.getElem_toArray, List.getElem_cons_succ, List.getElem_cons_zero]
  go_frame
  refine wpp_read _ rfl rfl (fun W hW => by first | (go_simp; done) | (go_simp; rfl) | rfl) ?_
  simp only [List.getElem_toArray, List.getElem_cons_succ, List.getElem_cons_zero]
  go_frame
  refine wpp_read _ rfl rfl (fun W hW => by first | (go_simp; done) | (go_simp; rfl) | rfl) ?_
  simp only [List.getElem_toArray, List.getElem_cons_succ, List.getElem_cons_zero]
  go_frame
  refine wpp_read (.slice (some (if c = i + 1 then ⟨g, 0, none⟩ else ⟨g, (i + 1) * 2, none⟩)) (l.length - (i + 1)) (c - (i + 1))) rfl rfl (fun W hW => by go_simp; rw [if_pos ⟨by omega, by omega⟩]; by_cases hc' : c = i + 1 <;> simp [hc']) ?_
  simp only [List.getElem_toArray, List.getElem_cons_succ, List.getElem_cons_zero]
  go_frame
  refine wpp_act rfl rfl ?_
  have hg2 : w2.heap[g]? = some (.cells cur 112 (0, 0)) := by
    have hlt : g < w.heap.size := (Array.getElem?_eq_some_iff.1 HG.out).1
    rw [hm2.block g hlt (fun x => x)]; exact HG.out
  have hel : (ents (l.drop (i + 1))).length = (l.length - (i + 1)) * i0.size := by rw [ents_length, hz1, List.length_drop]
  have hnews : ∀ j u, (ents (l.drop (i + 1)))[j]? = some u → w2.cell? ((if c = i + 1 then (⟨g, 0, none⟩ : Addr) else ⟨g, (i + 1) * 2, none⟩).add j) = some u := fun j u hu => by
    have hj : j < (ents (l.drop (i + 1))).length := (List.getElem?_eq_some_iff.1 hu).1
    rw [hel, hz1] at hj
    rw [if_neg (by omega), ents_drop (by omega), ← HT.out, List.getElem?_drop, List.getElem?_take_of_lt (by omega)] at *
    rw [show (⟨g, (i + 1) * 2, none⟩ : Addr).add j = ⟨g, (i + 1) * 2 + j, none⟩ from by unfold Addr.add; split <;> simp_all]
    rw [cell_of_row w2 g _ cur _ (0, 0) hg2]
    simpa using hu
  have hr := run_append_room (P := Tryz.prog) w2 78 78 112 i0 und_list hi g i c cur hg2 (if c = i + 1 then ⟨g, 0, none⟩ else ⟨g, (i + 1) * 2, none⟩) (l.length - (i + 1)) (c - (i + 1)) (ents (l.drop (i + 1))) hel hnews (ents_one _) (by omega) (by rw [hel, hz1, HS.out]; omega)
  rw [show i + (l.length - (i + 1)) = l.length - 1 by omega] at hr
  refine wpo_append _ _ _ rfl rfl rfl hr ?_
  have hel2 : (ents (l.drop (i + 1))).length = (l.length - (i + 1)) * 2 := by rw [hel, hz1]
  rw [hz1, hel2]
  obtain ⟨w3, hw3⟩ : ∃ w3, w3 = w2.setRow g (cur.toList.take (i * 2) ++ ents (l.drop (i + 1)) ++ cur.toList.drop (i * 2 + (l.length - (i + 1)) * 2)).toArray := ⟨_, rfl⟩
  have hl1 : (cur.toList.take (i * 2)).length = i * 2 := by rw [List.length_take, Array.length_toList, HS.out, Nat.min_eq_left (by omega)]
  have hg3 : ∃ cur3 : Array Value, w3.heap[g]? = some (.cells cur3 112 (0, 0)) ∧ cur3.size = c * 2 ∧ cur3.toList.take ((l.length - 1) * 2) = ents (l.eraseIdx i) := by
    refine ⟨_, by rw [hw3]; exact setRow_heap w2 g cur _ _ _ hg2, ?_, ?_⟩
    · simp only [List.size_toArray, List.length_append, hl1, hel2, List.length_drop, Array.length_toList, HS.out]
      omega
    · show (cur.toList.take (i * 2) ++ ents (l.drop (i + 1)) ++ cur.toList.drop (i * 2 + (l.length - (i + 1)) * 2)).take ((l.length - 1) * 2) = _
      have hl2 : (cur.toList.take (i * 2) ++ ents (l.drop (i + 1))).length = (l.length - 1) * 2 := by rw [List.length_append, hl1, hel2]; omega
      rw [← hl2, List.take_left, List.eraseIdx_eq_take_drop_succ, ents_append, ents_take (by omega), ← HT.out, List.take_take, Nat.min_eq_left (by omega)]
  have hm3 : Mod (One g) w2 w3 := by
    rw [hw3]
    exact ⟨rfl, rfl, rfl, by simp, fun k _ hk => setRow_other w2 g k _ (fun e => hk e)⟩
  rw [← hw3]
  refine ⟨hm3, ?_⟩
  clear hw3 hr hnews hel hl1 hg2 hel2
  generalize (if c = i + 1 then (⟨g, 0, none⟩ : Addr) else ⟨g, (i + 1) * 2, none⟩) = X
  obtain ⟨cur3, hc3, hs3, ht3⟩ := hg3
  have HC3 := Lib.hid hc3
  have HS3 := Lib.hid hs3
  have HT3 := Lib.hid ht3
  clear hc3 hs3 ht3
  simp only [List.getElem_toArray, List.getElem_cons_succ, List.getElem_cons_zero]
  go_frame
  refine wpp_read _ rfl rfl (fun W hW => by first | (go_simp; done) | (go_simp; rfl) | rfl) ?_
  simp only [List.getElem_toArray, List.getElem_cons_succ, List.getElem_cons_zero]
  go_frame
  refine wpp_nil ?_
  go_wp2_with (refine wpl_clear_one rfl (.tmp 31) 78 112 i0 z0 rfl und_list hi hz0 hone0 (g := g) (off := (l.length - 1) * 2) (k := c - (l.length - 1)) (by go_simp; omega) HC3.out (by rw [HS3.out, hz3]; omega) ?_
               intro cur4 hs4 ht4
               have HS4 := Lib.hid hs4
               have HT4 := Lib.hid ht4
               clear hs4 ht4)
  go_ret
  refine ⟨rfl, ⟨?_, .inr ⟨g, c, cur4, rfl, hb, setRow_heap w3 g cur3 _ _ _ HC3.out, by omega, hcm, by rw [HS4.out, HS3.out], by rw [HT4.out, HT3.out]⟩⟩, ?_⟩
  · rw [ents_length, List.length_eraseIdx_of_lt hi']
  · exact ((hm2.mono (fun _ x => x.elim)).trans hm3).trans ⟨rfl, rfl, rfl, by simp, fun k _ hk => setRow_other w3 g k _ (fun e => hk e)⟩
end
end Go.Proofs.YtgillcppnpkkiaaGreatDoor

namespace Go.Proofs.YtgillcppnpkkiaaGreatDoor
open Go Go.RowKit
section
variable {w w' : World} {d : Nat} {D : Dk} {S : Nat → Prop}
def Dk.setNow (D : Dk) (vn : Value) (l : List (ByteArray × Nat)) : Dk := { D with vn := vn, now := l }
def Dk.setKept (D : Dk) (vk : Value) (l : List (ByteArray × Nat)) : Dk := { D with vk := vk, kept := l }

theorem Dk.setNow_file {vn : Value} {l : List (ByteArray × Nat)} (hsub : ∀ x ∈ l, D.isFile x.2) {g : Nat} (hg : (D.setNow vn l).isFile g) : D.isFile g := by
  obtain ⟨x, hx | hx, rfl⟩ := hg
  · exact hsub x hx
  · exact ⟨x, .inr hx, rfl⟩
theorem Dk.setKept_file {vn : Value} {l : List (ByteArray × Nat)} (hsub : ∀ x ∈ l, D.isFile x.2) {g : Nat} (hg : (D.setKept vn l).isFile g) : D.isFile g := by
  obtain ⟨x, hx | hx, rfl⟩ := hg
  · exact ⟨x, .inl hx, rfl⟩
  · exact hsub x hx

theorem DiskRep.setNow (h : DiskRep w d D) (hm : Mod (One d) w w') {vn : Value} {l : List (ByteArray × Nat)} (hb : Blk w' d 80 #[.int .i64 D.size, vn, D.vk]) (hv : w'.ownsRow 0 112 2 vn l.length (ents l))
    (hvn : ∀ b, vn.ownBlock = some b → w.heap.size ≤ b) (hsub : ∀ x ∈ l, D.isFile x.2) (hr : Rising l) (hd : l.Pairwise (fun a b => a.2 ≠ b.2)) (hl : l.length ≤ 64) : DiskRep w' d (D.setNow vn l) := by
  have hkeep : ∀ b, b < w.heap.size → b ≠ d → w'.heap[b]? = w.heap[b]? := fun b hlt h1 => hm.block b hlt h1
  refine ⟨hb, hv, owns_keep h.kept (fun b hb' => ?_), fun b hb' hk => ?_, fun g hg => ?_, fun g k b hg hk hgk hb' => ?_, hr, h.risingK, hd, h.distinctK, hl, h.lenK, h.s1, h.s2⟩
  · obtain ⟨cur, hc⟩ := own_blk h.kept hb'
    exact hkeep b hc.lt (hc.ne h.blk (by decide))
  · have h1 := hvn b hb'
    have h2 := (h.kept.lt b hk).2
    omega
  · obtain ⟨gb, gr, gs⟩ := h.file g (Dk.setNow_file hsub hg)
    refine ⟨(hkeep g gb.lt (gb.ne h.blk (by decide))).trans gb, owns_keep gr (fun b hb' => ?_), gs⟩
    obtain ⟨cur, hc⟩ := own_blk gr hb'
    exact hkeep b hc.lt (hc.ne h.blk (by decide))
  · exact h.sep g k b (Dk.setNow_file hsub hg) (Dk.setNow_file hsub hk) hgk hb'
theorem setNow_DS {vn : Value} {l : List (ByteArray × Nat)} (hvn : ∀ b, vn.ownBlock = some b → w.heap.size ≤ b) (hsub : ∀ x ∈ l, D.isFile x.2) {b : Nat} (hb : DS d (D.setNow vn l) b) : DS d D b ∨ w.heap.size ≤ b := by
  rcases hb with h | h | h | ⟨g, hg, h⟩
  · exact .inl (.inl h)
  · exact .inr (hvn b h)
  · exact .inl (.inr (.inr (.inl h)))
  · exact .inl (.inr (.inr (.inr ⟨g, Dk.setNow_file hsub hg, h⟩)))

theorem DiskRep.setKept (h : DiskRep w d D) (hm : Mod (One d) w w') {vk : Value} {l : List (ByteArray × Nat)} (hb : Blk w' d 80 #[.int .i64 D.size, D.vn, vk]) (hv : w'.ownsRow 0 112 2 vk l.length (ents l))
    (hvk : ∀ b, vk.ownBlock = some b → w.heap.size ≤ b) (hsub : ∀ x ∈ l, D.isFile x.2) (hr : Rising l) (hd : l.Pairwise (fun a b => a.2 ≠ b.2)) (hl : l.length ≤ 64) : DiskRep w' d (D.setKept vk l) := by
  have hkeep : ∀ b, b < w.heap.size → b ≠ d → w'.heap[b]? = w.heap[b]? := fun b hlt h1 => hm.block b hlt h1
  refine ⟨hb, owns_keep h.now (fun b hb' => ?_), hv, fun b hb' hk => ?_, fun g hg => ?_, fun g k b hg hk hgk hb' => ?_, h.rising, hr, h.distinct, hd, h.len, hl, h.s1, h.s2⟩
  · obtain ⟨cur, hc⟩ := own_blk h.now hb'
    exact hkeep b hc.lt (hc.ne h.blk (by decide))
  · have h1 := hvk b hk
    have h2 := (h.now.lt b hb').2
    omega
  · obtain ⟨gb, gr, gs⟩ := h.file g (Dk.setKept_file hsub hg)
    refine ⟨(hkeep g gb.lt (gb.ne h.blk (by decide))).trans gb, owns_keep gr (fun b hb' => ?_), gs⟩
    obtain ⟨cur, hc⟩ := own_blk gr hb'
    exact hkeep b hc.lt (hc.ne h.blk (by decide))
  · exact h.sep g k b (Dk.setKept_file hsub hg) (Dk.setKept_file hsub hk) hgk hb'
theorem setKept_DS {vk : Value} {l : List (ByteArray × Nat)} (hvk : ∀ b, vk.ownBlock = some b → w.heap.size ≤ b) (hsub : ∀ x ∈ l, D.isFile x.2) {b : Nat} (hb : DS d (D.setKept vk l) b) : DS d D b ∨ w.heap.size ≤ b := by
  rcases hb with h | h | h | ⟨g, hg, h⟩
  · exact .inl (.inl h)
  · exact .inl (.inr (.inl h))
  · exact .inr (hvk b h)
  · exact .inl (.inr (.inr (.inr ⟨g, Dk.setKept_file hsub hg, h⟩)))

theorem DiskRep.erase (h : DiskRep w d D) (hm : Mod (One d) w w') {vn : Value} {p : Nat} (hb : Blk w' d 80 #[.int .i64 D.size, vn, D.vk]) (hv : w'.ownsRow 0 112 2 vn (D.now.eraseIdx p).length (ents (D.now.eraseIdx p)))
    (hvn : ∀ b, vn.ownBlock = some b → w.heap.size ≤ b) : DStep w d D w' (D.setNow vn (D.now.eraseIdx p)) := by
  have hsub : ∀ x ∈ D.now.eraseIdx p, D.isFile x.2 := fun x hx => ⟨x, .inl (List.mem_of_mem_eraseIdx hx), rfl⟩
  exact ⟨h.setNow hm hb hv hvn hsub (List.Pairwise.sublist (List.eraseIdx_sublist _ _) h.rising) (List.Pairwise.sublist (List.eraseIdx_sublist _ _) h.distinct) (Nat.le_trans (List.length_eraseIdx_le _ _) h.len), hm.mono (fun b x => .inl x), fun b hb => setNow_DS hvn hsub hb⟩

theorem owns_base {base : Nat} {e : TypeId} {size : Nat} {v : Value} {n : Nat} {xs : List Value} (h : w.ownsRow base e size v n xs) : w.ownsRow 0 e size v n xs :=
  ⟨h.1, h.2.imp id (fun ⟨g, cap, cur, e, _, r⟩ => ⟨g, cap, cur, e, Nat.zero_le _, r⟩)⟩
theorem owns_some {base : Nat} {e : TypeId} {size : Nat} {v : Value} {n : Nat} {xs : List Value} (h : w.ownsRow base e size v n xs) (hn : 0 < n) : ∃ g c, v = .slice (some ⟨g, 0, none⟩) n c ∧ base ≤ g := by
  rcases h.2 with ⟨_, h0⟩ | ⟨g, cap, cur, e, hb, _⟩
  · omega
  · exact ⟨g, cap, e, hb⟩

set_option maxHeartbeats 800000 in
set_option maxRecDepth 100000 in
theorem remove_ok (h : DiskRep w d D) (s : ByteArray) (hm : mayB s = true) (f : Nat) (hl : look D.now s = some f) (p : Nat) (hp : IsPos D.now s p) (hf : foundAt D.now s p = true) :
    Calls Tryz.prog 41 #[.pointer (some ⟨d, 0, none⟩), .string s] w fun e w' => e = .returned (.int .i64 0) ∧ ∃ vn, DStep w d D w' (D.setNow vn (D.now.eraseIdx p)) ∧ Mod (One d) w w' ∧ ∀ b, vn.ownBlock = some b → w.heap.size ≤ b := by
  have HG := Lib.hid (got_some h s hm f hl _ (asked_okM h))
  have hlen := h.len
  have hpl : p < D.now.length := by
    unfold foundAt at hf
    cases hx : D.now[p]? with
    | none => rw [hx] at hf; cases hf
    | some x => exact (List.getElem?_eq_some_iff.1 hx).1
  have HT : ∀ W, Mod Non w W → Hid (Calls Tryz.prog 122 #[.pointer (some ⟨d, 0, none⟩), .string s] W fun e w' => e = .returned (.tuple #[.int .i64 p, .int .i64 0]) ∧ Mod Non W w') := fun W hW => by
    have := at_ok (h.non hW) s hm p hp
    rw [if_pos hf] at this
    exact Lib.hid this
  have H := Lib.hid h
  clear h hp hf hl
  go_enter Tryz.func41, Tryz.ntmps41
  go_wp2_with (first
    | (go_at_call 115; refine HG.out.mono ?_; rintro e w1 ⟨rfl, hm1⟩)
    | (go_at_call 122; refine (HT _ hm1).out.mono ?_; rintro e w2 ⟨rfl, hm2⟩
       have hm02 := hm1.trans hm2
       obtain ⟨A1, c1, A2, c2, e1, e2, l1, l2, r1, r2⟩ := (H.out.non hm02).opens
       have hb := (H.out.non hm02).blk
       rw [e1, e2] at hb
       have cb := hb.cell
       have Hb := Lib.hid hb
       have HC := Lib.hid (clone_list (H.out.non hm02).now (H.out.len))
       rw [e1] at HC
       have E1 := Lib.hid e1
       have E2 := Lib.hid e2
       clear hb r1 r2 e1 e2)
    | (go_at_call 54; refine HC.out.mono ?_; rintro e w3 ⟨v3, rfl, ho3, hm3⟩
       obtain ⟨g3, c3, rfl, hg3⟩ := owns_some ho3 (by omega)
       have HO3 := Lib.hid ho3
       clear ho3)
    | (go_at_call 123; refine (delete_ok HO3.out H.out.len p hpl).mono ?_; rintro e w4 ⟨rfl, ho4, hm4⟩
       have hm24 : Mod Non w2 w4 := hm3.andThen hm4 (fun b hb hlt => by cases hb; omega)
       have hb4 := Hb.out.mod hm24 (fun x => x)
       have cb4 := hb4.cell
       have fb4 := hb4.frozen
       have HB4 := Lib.hid hb4
       have HO4 := Lib.hid ho4
       clear hb4 ho4))
  go_ret
  have hle : (D.now.eraseIdx p).length = D.now.length - 1 := List.length_eraseIdx_of_lt hpl
  have h2 := H.out.non hm02
  have hgd : g3 ≠ d := by have := h2.blk.lt; omega
  have hmd : Mod (One d) w2 (w4.setCell ⟨d, 1, none⟩ (.slice (some ⟨g3, 0, none⟩) (D.now.length - 1) c3)) := (hm24.mono (T := One d) (fun _ x => x.elim)).setCell (p := ⟨d, 1, none⟩) (.inl rfl) _
  refine ⟨rfl, _, DStep.after hm02 (h2.erase (vn := .slice (some ⟨g3, 0, none⟩) (D.now.length - 1) c3) (p := p) hmd ?_ ?_ (fun b hb => by cases hb; exact hg3)), (hm02.mono (fun _ x => x.elim)).trans hmd, fun b hb => by cases hb; exact Nat.le_trans hm02.size hg3⟩
  · have := HB4.out.set 1 (.slice (some ⟨g3, 0, none⟩) (D.now.length - 1) c3)
    rw [E2.out]
    exact this
  · rw [hle]
    exact owns_keep (owns_base HO4.out) (fun b hb => Below.heap_setCell _ _ _ _ (by cases hb; exact hgd))
end
end Go.Proofs.YtgillcppnpkkiaaGreatDoor

namespace Go.Proofs.YtgillcppnpkkiaaGreatDoor
open Go Go.RowKit
section
variable {w w' : World} {d : Nat} {D : Dk} {S : Nat → Prop}
set_option maxRecDepth 100000 in
theorem remove_none (h : DiskRep w d D) (s : ByteArray) (hm : mayB s = true) (hl : look D.now s = none) :
    Calls Tryz.prog 41 #[.pointer (some ⟨d, 0, none⟩), .string s] w fun e w' => e = .returned (.int .i64 7) ∧ Mod Non w w' := by
  have HG := Lib.hid (got_none h s hm hl _ (asked_okM h))
  clear h hl
  go_enter Tryz.func41, Tryz.ntmps41
  go_wp2_with (go_at_call 115; refine HG.out.mono ?_; rintro e w1 ⟨rfl, hm1⟩)
  go_ret
  exact ⟨rfl, hm1⟩

set_option maxHeartbeats 800000 in
set_option maxRecDepth 100000 in
theorem names_ok (h : DiskRep w d D) :
    Calls Tryz.prog 42 #[.pointer (some ⟨d, 0, none⟩)] w fun e w' => e = .returned (.int .i64 0) ∧ ∃ vk, DStep w d D w' (D.setKept vk D.now) := by
  have HA := Lib.hid (asked_ok h)
  obtain ⟨A1, c1, A2, c2, e1, e2, l1, l2, r1, r2⟩ := h.opens
  have hb := h.blk
  rw [e1, e2] at hb
  have cb := hb.cell
  have Hb := Lib.hid hb
  have HC := Lib.hid (clone_list h.now h.len)
  rw [e1] at HC
  have E1 := Lib.hid e1
  have H := Lib.hid h
  clear hb r1 r2 e1 e2 h
  go_enter Tryz.func42, Tryz.ntmps42
  go_wp2_with (first
    | (go_at_call 53; refine HA.out.mono ?_; rintro e w1 ⟨rfl, rfl⟩)
    | (go_at_call 54; refine HC.out.mono ?_; rintro e w3 ⟨v3, rfl, ho3, hm3⟩
       obtain ⟨A3, c3, rfl, hc3, _, _⟩ := owns_form ho3
       have HO3 := Lib.hid ho3
       have hb4 := Hb.out.mod hm3 (fun x => x)
       have cb4 := hb4.cell
       have fb4 := hb4.frozen
       have HB4 := Lib.hid hb4
       clear ho3 hb4))
  go_ret
  have hsub : ∀ x ∈ D.now, D.isFile x.2 := fun x hx => ⟨x, .inl hx, rfl⟩
  have hnew : ∀ b, (Value.slice A3 D.now.length c3).ownBlock = some b → w.heap.size ≤ b := fun b hb => (HO3.out.lt b hb).1
  have hmd : Mod (One d) w (w3.setCell ⟨d, 2, none⟩ (.slice A3 D.now.length c3)) := (hm3.mono (T := One d) (fun _ x => x.elim)).setCell (p := ⟨d, 2, none⟩) (.inl rfl) _
  refine ⟨rfl, .slice A3 D.now.length c3, ⟨H.out.setKept hmd ?_ (owns_keep (owns_base HO3.out) (fun b hb => Below.heap_setCell _ _ _ _ (fun e => ?_))) hnew hsub H.out.rising H.out.distinct H.out.len, hmd.mono (fun b x => .inl x), fun b hb => setKept_DS hnew hsub hb⟩⟩
  · have := HB4.out.set 2 (.slice A3 D.now.length c3)
    rw [E1.out]
    exact this
  · have h1 := hnew b hb
    have h2 := H.out.blk.lt
    simp at e
    omega
end
end Go.Proofs.YtgillcppnpkkiaaGreatDoor

namespace Go.Proofs.YtgillcppnpkkiaaGreatDoor
open Go Go.RowKit
theorem other_ne {l : List (ByteArray × Nat)} {p : Nat} {s : ByteArray} {f : Nat} {a : ByteArray × Nat} (hd : l.Pairwise (fun a b => a.2 ≠ b.2)) (hx : l[p]? = some (s, f)) (ha : a ∈ l.eraseIdx p) : a.2 ≠ f := by
  obtain ⟨k, hk, he⟩ := List.mem_eraseIdx_iff_getElem?.1 ha
  obtain ⟨hp, ep⟩ := List.getElem?_eq_some_iff.1 hx
  obtain ⟨hkl, ek⟩ := List.getElem?_eq_some_iff.1 he
  rw [List.pairwise_iff_getElem] at hd
  rcases Nat.lt_or_gt_of_ne hk with h | h
  · have := hd k p hkl hp h
    rw [ek, ep] at this
    exact this
  · have := hd p k hp hkl h
    rw [ek, ep] at this
    exact fun e => this e.symm

section
variable {w w' : World} {d : Nat} {D : Dk} {S : Nat → Prop}
set_option maxHeartbeats 800000 in
set_option maxRecDepth 100000 in
theorem rename_end (h : DiskRep w d D) (s t : ByteArray) (hm : mayB s = true) (hmt : mayB t = true) (f : Nat) (hl : look D.now s = some f) (p : Nat) (hp : IsPos D.now s p) (hf : foundAt D.now s p = true)
    (hx : D.now[p]? = some (s, f)) (ht : ∀ x ∈ D.now.eraseIdx p, nlt x.1 t = true) :
    Calls Tryz.prog 121 #[.pointer (some ⟨d, 0, none⟩), .string s, .string t] w fun e w' => e = .returned (.int .i64 0) ∧ ∃ vn, DStep w d D w' (D.setNow vn (D.now.eraseIdx p ++ [(t, f)])) := by
  have HA := Lib.hid (asked_ok h)
  have HG := Lib.hid (got_some h s hm f hl _ (asked_okM h))
  have hsz : t.size ≤ maxLen := by
    unfold mayB at hmt; simp at hmt; unfold maxLen; omega
  have HM : ∀ W, Hid (Calls Tryz.prog 168 #[.string t] W fun e w' => e = .returned (.bool true) ∧ W = w') := fun W => by
    have := may_any t W hsz
    rw [hmt] at this
    exact Lib.hid this
  have hlen := h.len
  have hpl : p < D.now.length := (List.getElem?_eq_some_iff.1 hx).1
  have HR : ∀ W, Mod Non w W → Hid (Calls Tryz.prog 41 #[.pointer (some ⟨d, 0, none⟩), .string s] W fun e w' => e = .returned (.int .i64 0) ∧ ∃ vn, DStep W d D w' (D.setNow vn (D.now.eraseIdx p)) ∧ Mod (One d) W w' ∧ ∀ b, vn.ownBlock = some b → W.heap.size ≤ b) := fun W hW =>
    Lib.hid (remove_ok (h.non hW) s hm f hl p hp hf)
  have hle : (D.now.eraseIdx p).length = D.now.length - 1 := List.length_eraseIdx_of_lt hpl
  have hfo : foundAt (D.now.eraseIdx p) t (D.now.eraseIdx p).length = false := by
    unfold foundAt
    rw [List.getElem?_eq_none (Nat.le_refl _)]
  have hpt : IsPos (D.now.eraseIdx p) t (D.now.eraseIdx p).length := ⟨Nat.le_refl _, fun k x hk _ => ht x (List.mem_of_getElem? hk), fun k x hk hle' => by
    have := (List.getElem?_eq_some_iff.1 hk).1
    omega⟩
  have HPT := Lib.hid hpt
  have hll : (D.now.eraseIdx p).length ≤ 64 := by omega
  have HL := Lib.hid hle
  have HFO := Lib.hid hfo
  have HMT := Lib.hid hmt
  have HX := Lib.hid hx
  have H := Lib.hid h
  clear h hp hf hl hpt hle hx hmt hfo
  go_enter Tryz.func121, Tryz.ntmps121
  go_wp2_with (first
    | (go_at_call 53; refine HA.out.mono ?_; rintro e w1 ⟨rfl, rfl⟩)
    | (go_at_call 115; refine HG.out.mono ?_; rintro e w1 ⟨rfl, hm1⟩)
    | (go_at_call 168; refine (HM _).out.mono ?_; rintro e w2 ⟨rfl, rfl⟩)
    | (go_at_call 41; refine (HR _ hm1).out.mono ?_; rintro e w3 ⟨rfl, vn, hst, hm3, hnew⟩)
    | (go_at_call 122
       have ha := at_ok hst.rep t HMT.out (D.now.eraseIdx p).length HPT.out
       rw [if_neg (by have := HFO.out; simp only [Dk.setNow, this]; decide)] at ha
       refine ha.mono ?_
       rintro e w4 ⟨rfl, hm4⟩
       have h4 := hst.rep.non hm4
       obtain ⟨A1, c1, A2, c2, e1, e2, l1, l2, r1, r2⟩ := h4.opens
       have hb := h4.blk
       have hmW : Mod Non w4 (w4.alloc (.cells #[.string t, .pointer (some ⟨f, 0, none⟩)] 112)) := (Mod.refl _ _).alloc _
       have heW := Blk.new w4 112 #[.string t, .pointer (some ⟨f, 0, none⟩)]
       have hrW : RowAt (w4.alloc (.cells #[.string t, .pointer (some ⟨f, 0, none⟩)] 112)) (some ⟨w4.heap.size, 0, none⟩) 1 2 (ent (t, f)) := ⟨rfl, fun _ => ⟨_, rfl, fun j u hu => by
         rw [add_lit, heW.cell]
         simpa [ent] using hu⟩⟩
       have hi := insert_end (h4.non hmW).now hll (t, f) _ 1 hrW
       simp only [Dk.setNow] at e1 e2 hb l1 l2 hi
       have HN := Lib.hid (h4.non hmW).now
       rw [e1] at hi
       rw [e1, e2] at hb
       have cb := hb.cell
       have Hb := Lib.hid hb
       have HI := Lib.hid hi
       have HW := Lib.hid hmW
       have E1 := Lib.hid e1
       have E2 := Lib.hid e2
       clear hb hi e1 e2 r1 r2 hmW heW hrW ha h4)
    | (go_at_call 167; refine HI.out.mono ?_; rintro e w5 ⟨v5, rfl, ho5, hg5, ha5⟩
       obtain ⟨A5, c5, rfl, hc5, _, _⟩ := owns_form ho5
       have hm5 : Mod (fun k => vn.ownBlock = some k) w4 w5 := (HW.out.mono (fun _ x => x.elim)).trans (Mod.of_grown hg5 (fun k hk => by rw [E1.out]; exact hk))
       have hb5 := Hb.out.mod hm5 (fun e => by have h1 := hnew d e; have h2 := (H.out.non hm1).blk.lt; omega)
       have cb5 := hb5.cell
       have fb5 := hb5.frozen
       have HB5 := Lib.hid hb5
       have HO5 := Lib.hid ho5
       clear hb5 ho5))
  go_ret
  have h1 := H.out.non hm1
  have hvn : ∀ b, (Value.slice A5 ((D.now.eraseIdx p).length + 1) c5).ownBlock = some b → w1.heap.size ≤ b := fun b hb => by
    rcases ha5 with e | e
    · exact hnew b (by rw [E1.out, ← e]; exact hb)
    · rw [e] at hb
      cases hb
      exact Nat.le_trans hm3.size (Nat.le_trans hm4.size HW.out.size)
  have hm15 : Mod (One d) w1 w5 := (hm3.trans (hm4.mono (fun _ x => x.elim))).andThen hm5 (fun b hb hlt => absurd (hnew b hb) (by omega))
  have hmd : Mod (One d) w1 (w5.setCell ⟨d, 1, none⟩ (.slice A5 ((D.now.eraseIdx p).length + 1) c5)) := hm15.setCell (p := ⟨d, 1, none⟩) (.inl rfl) _
  have hsub : ∀ x ∈ D.now.eraseIdx p ++ [(t, f)], D.isFile x.2 := fun x hx => by
    rcases List.mem_append.1 hx with h | h
    · exact ⟨x, .inl (List.mem_of_mem_eraseIdx h), rfl⟩
    · simp at h
      subst h
      exact ⟨(s, f), .inl (List.mem_of_getElem? HX.out), rfl⟩
  have hrise : Rising (D.now.eraseIdx p ++ [(t, f)]) := List.pairwise_append.mpr ⟨List.Pairwise.sublist (List.eraseIdx_sublist _ _) H.out.rising, List.pairwise_singleton _ _, fun a ha b hb => by simp at hb; subst hb; exact ht a ha⟩
  have hdis : (D.now.eraseIdx p ++ [(t, f)]).Pairwise (fun a b => a.2 ≠ b.2) := List.pairwise_append.mpr ⟨List.Pairwise.sublist (List.eraseIdx_sublist _ _) H.out.distinct, List.pairwise_singleton _ _, fun a ha b hb => by
    simp at hb
    subst hb
    exact other_ne H.out.distinct HX.out ha⟩
  have hlt := h1.blk.lt
  refine ⟨rfl, .slice A5 ((D.now.eraseIdx p).length + 1) c5, DStep.after hm1 ⟨h1.setNow hmd ?_ (by
    rw [List.length_append, List.length_singleton]
    exact owns_keep HO5.out (fun b hb => Below.heap_setCell _ _ _ _ (fun e => by have := hvn b hb; simp at e; omega))) hvn hsub hrise hdis (by have := HL.out; rw [List.length_append, List.length_singleton]; omega), hmd.mono (fun b x => .inl x), fun b hb => setNow_DS hvn hsub hb⟩⟩
  have := HB5.out.set 1 (.slice A5 ((D.now.eraseIdx p).length + 1) c5)
  rw [E2.out]
  exact this
end
end Go.Proofs.YtgillcppnpkkiaaGreatDoor

namespace Go.Proofs.YtgillcppnpkkiaaGreatDoor
open Go Go.RowKit
section
variable {w w' : World}
def Dk.new (n : Nat) : Dk := { size := n, vn := .slice none 0 0, vk := .slice none 0 0, now := [], kept := [], fv := fun _ => .slice none 0 0, by_ := fun _ => [], sure := fun _ => 0 }
theorem DiskRep.fresh {d n : Nat} (hb : Blk w d 80 #[.int .i64 n, .slice none 0 0, .slice none 0 0]) (h1 : 1 ≤ n) (h2 : n ≤ 8388608) : DiskRep w d (Dk.new n) := by
  refine ⟨hb, World.ownsRow_nil _ _ _ _, World.ownsRow_nil _ _ _ _, fun b hb => by simp [Dk.new, Value.ownBlock] at hb, fun f hf => ?_, fun f g b hf => ?_, .nil, .nil, .nil, .nil, Nat.zero_le _, Nat.zero_le _, h1, h2⟩
  · obtain ⟨x, hx, _⟩ := hf
    simp [Dk.new] at hx
  · obtain ⟨x, hx, _⟩ := hf
    simp [Dk.new] at hx
theorem new_DS {d n b : Nat} (h : DS d (Dk.new n) b) : b = d := by
  rcases h with h | h | h | ⟨f, ⟨x, hx, _⟩, _⟩
  · exact h
  · simp [Dk.new, Value.ownBlock] at h
  · simp [Dk.new, Value.ownBlock] at h
  · simp [Dk.new] at hx

theorem disk_new (w : World) (n : Nat) (h1 : 1 ≤ n) (h2 : n ≤ 8388608) :
    Calls Tryz.prog 6 #[.int .i64 n] w fun e w' => ∃ d, e = .returned (.tuple #[.pointer (some ⟨d, 0, none⟩), .int .i64 0]) ∧ w.heap.size ≤ d ∧ DiskRep w' d (Dk.new n) ∧ Mod Non w w' := by
  go_enter Tryz.func6, Tryz.ntmps6
  go_wp2
  go_ret2
  exact ⟨w.heap.size, rfl, Nat.le_refl _, .fresh (Blk.new w _ _) h1 h2, (Mod.refl _ _).alloc _⟩
end
end Go.Proofs.YtgillcppnpkkiaaGreatDoor
