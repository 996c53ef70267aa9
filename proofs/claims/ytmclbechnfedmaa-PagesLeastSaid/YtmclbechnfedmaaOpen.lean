/- Open, on a new disk. -/
import Derived.Test.YtmclbechnfedmaaAnew
namespace Go.Proofs.Ytmclbechnfedmaa
open Go Go.RowKit
section
variable {w w' : World} {p d : Nat} {G : Pg} {D : Dk}
theorem wpl_makeMap {P : Program} {ops : Array Oper} {Q : Exit → Act → World → Prop} {a : Act} {rest : List Oper} {o : Oper} {t : TypeId} (hg : o.guard = none) (ho : o.op = .makeMap t none)
    (hK : ∀ w', MapRep w' w.heap.size (fun _ => none) → Mod Non w w' → Hid (w'.heap.size = w.heap.size + 1) → wpList P ops Q rest (a.put o.dst (.map (some w.heap.size))) w') : wpList P ops Q (o :: rest) a w :=
  wpl_run (v := .map (some w.heap.size)) (w' := w.alloc (.map #[] 0)) hg (by simp [execOp, ho, Instr.makeMap, newObj, Sem.run]) (hK _ (MapRep.new w) ((Mod.refl _ _).alloc _) (Lib.hid (by simp)))

/-- A pager of nothing. -/
def Pg.new (d m1 m2 m3 : Nat) : Pg := { d := d, m1 := m1, m2 := m2, m3 := m3, root := 0, was := 0, size := 0, now := fun _ => none, kept := fun _ => none, dirty := fun _ => false }
theorem used_none (n : Nat) : used (fun _ => false) n = [] := by
  cases h : used (fun _ => false) n with
  | nil => rfl
  | cons a l => have := (mem_used.1 (h ▸ List.mem_cons_self : a ∈ used (fun _ => false) n)).2.2; cases this
theorem new_has (d m1 m2 m3 : Nat) : (Pg.new d m1 m2 m3).has = fun _ => false := by funext n; rfl
theorem new_record (d m1 m2 m3 : Nat) : ((Pg.new d m1 m2 m3).record (used (Pg.new d m1 m2 m3).has 4000)).length = 2 := by
  rw [new_has, used_none]
  show (enc (enc 0 ++ []).length ++ (enc 0 ++ [])).length = 2
  decide
theorem PagRep.fresh {m1 m2 m3 : Nat} (hb : Blk w p 60 (Pg.new d m1 m2 m3).cells) (h1 : MapRep w m1 (fun _ => none)) (h2 : MapRep w m2 (fun _ => none)) (h3 : MapRep w m3 (fun _ => none)) (n12 : m1 ≠ m2) (n13 : m1 ≠ m3) (n23 : m2 ≠ m3) :
    PagRep w p (Pg.new d m1 m2 m3) := by
  refine ⟨hb, ?_, ?_, ⟨_, h3, fun _ => rfl, fun _ _ h => (by cases h)⟩, n12, n13, n23, fun _ _ h => (by cases h), fun _ _ h => (by cases h)⟩
  · exact h1
  · exact h2

theorem opened_now {w1 w2 w3 w4 : World} {n : Nat} (h : DiskRep w d (Dk.new n)) (hb : Blk (w4.alloc (.cells (Pg.new d w1.heap.size w2.heap.size w3.heap.size).cells 60)) w4.heap.size 60 (Pg.new d w1.heap.size w2.heap.size w3.heap.size).cells)
    (hm1 : Mod Non w w1) (h2 : MapRep w2 w1.heap.size (fun _ => none)) (hm2 : Mod Non w1 w2) (hs2 : w2.heap.size = w1.heap.size + 1) (h3 : MapRep w3 w2.heap.size (fun _ => none)) (hm3 : Mod Non w2 w3) (hs3 : w3.heap.size = w2.heap.size + 1)
    (h4 : MapRep w4 w3.heap.size (fun _ => none)) (hm4 : Mod Non w3 w4) (hs4 : w4.heap.size = w3.heap.size + 1) :
    PagRep (w4.alloc (.cells (Pg.new d w1.heap.size w2.heap.size w3.heap.size).cells 60)) w4.heap.size (Pg.new d w1.heap.size w2.heap.size w3.heap.size) ∧
    DiskRep (w4.alloc (.cells (Pg.new d w1.heap.size w2.heap.size w3.heap.size).cells 60)) d (Dk.new n) ∧ Apart w4.heap.size (Pg.new d w1.heap.size w2.heap.size w3.heap.size) (Dk.new n) ∧
    (∀ b, PS w4.heap.size (Pg.new d w1.heap.size w2.heap.size w3.heap.size) b → w.heap.size ≤ b) ∧ Mod Non w (w4.alloc (.cells (Pg.new d w1.heap.size w2.heap.size w3.heap.size).cells 60)) := by
  have hm : Mod Non w (w4.alloc (.cells (Pg.new d w1.heap.size w2.heap.size w3.heap.size).cells 60)) := ((((hm1.trans hm2).trans hm3).trans hm4)).alloc _
  have hz := hm1.size
  have hPS : ∀ b, PS w4.heap.size (Pg.new d w1.heap.size w2.heap.size w3.heap.size) b → w.heap.size ≤ b := by
    intro b hb
    rcases hb with h | h | h | h
    · omega
    · have h : b = w1.heap.size := h
      omega
    · have h : b = w2.heap.size := h
      omega
    · have h : b = w3.heap.size := h
      omega
  have hl := h.blk.lt
  exact ⟨.fresh hb ((h2.mod (hm3.trans hm4) (fun x => x)).alloc _) ((h3.mod hm4 (fun x => x)).alloc _) (h4.alloc _) (by omega) (by omega) (by omega), h.non hm, fun b hb hd => by have := hPS b hb; have : b = d := new_DS hd; omega, hPS, hm⟩

theorem look_fresh (f : Nat) : look [(nameB, f)] freshB = none := by
  have h : ¬ nameB = freshB := by decide
  simp [look, h]
theorem anew_new {n m1 m2 m3 : Nat} (hn : 2 ≤ n) (h1 : PagRep w p (Pg.new d m1 m2 m3)) (h2 : DiskRep w d (Dk.new n)) (h3 : Apart p (Pg.new d m1 m2 m3) (Dk.new n)) :
    Calls Try.prog 36 #[.pointer (some ⟨p, 0, none⟩)] w fun e w' => e = .returned (.int .i64 0) ∧ ∃ D' f, DiskRep w' d D' ∧ (∀ b, DS d D' b → DS d (Dk.new n) b ∨ w.heap.size ≤ b) ∧ PagRep w' p { Pg.new d m1 m2 m3 with size := 2 } ∧
      D'.size = n ∧ D'.now = [(nameB, f)] ∧ (D'.by_ f).length = 2 ∧ Mod (fun b => PS p (Pg.new d m1 m2 m3) b ∨ DS d (Dk.new n) b) w w' := by
  have hr := new_record d m1 m2 m3
  refine (anew_empty h1 h2 h3 (by show 0 < _; decide) rfl (by rw [hr]; exact ⟨hn, by decide⟩)).mono ?_
  rintro e w' ⟨he, D', f, g1, g2, g3, g4, g5, g6, _, _, g7⟩
  rw [hr] at g3
  exact ⟨he, D', f, g1, g2, g3, g4, g5, by rw [g6]; exact hr, g7⟩

set_option maxHeartbeats 1000000 in
set_option maxRecDepth 100000 in
theorem open_new {n : Nat} (h : DiskRep w d (Dk.new n)) (hn : 2 ≤ n) :
    Calls Try.prog 16 #[.pointer (some ⟨d, 0, none⟩)] w fun e w' => ∃ p m1 m2 m3 D f, e = .returned (.tuple #[.pointer (some ⟨p, 0, none⟩), .int .i64 0]) ∧
      PagRep w' p { Pg.new d m1 m2 m3 with size := 2 } ∧ DiskRep w' d D ∧ (∀ b, PS p (Pg.new d m1 m2 m3) b → w.heap.size ≤ b) ∧ Apart p (Pg.new d m1 m2 m3) D ∧
      D.size = n ∧ D.now = [(nameB, f)] ∧ (D.by_ f).length = 2 ∧ (∀ b, DS d D b → b = d ∨ w.heap.size ≤ b) ∧ Mod (One d) w w' := by
  have HS := Lib.hid (size_none h nameB may_name rfl)
  unfold nameB at HS
  have H := Lib.hid h
  have tok1 : Hid True := trivial
  have tok2 : Hid True := trivial
  have tok3 : Hid True := trivial
  clear h
  go_enter Try.func16, Try.ntmps16
  go_wp2_with (first
    | (go_at_call 32; refine HS.out.mono ?_; rintro e w1 ⟨rfl, hm1⟩)
    | (clear tok1; refine wpl_makeMap rfl rfl ?_; intro w2 hA2 hmA2 hsA2)
    | (clear tok2; refine wpl_makeMap rfl rfl ?_; intro w3 hA3 hmA3 hsA3)
    | (clear tok3; refine wpl_makeMap rfl rfl ?_; intro w4 hA4 hmA4 hsA4
       have hb5 := Blk.new w4 60 (Pg.new d w1.heap.size w2.heap.size w3.heap.size).cells
       have cb5 := hb5.cell
       have fb5 := hb5.frozen
       unfold Pg.cells Pg.new at cb5 fb5
       have HB5 := Lib.hid (opened_now H.out hb5 hm1 hA2 hmA2 hsA2.out hA3 hmA3 hsA3.out hA4 hmA4 hsA4.out)
       clear hb5)
    | (go_at_call 36; refine (anew_new hn HB5.out.1 HB5.out.2.1 HB5.out.2.2.1).mono ?_; rintro e w6 ⟨rfl, D6, f6, hrep6, hold6, hpag6, hz6, hnow6, hby6, hm6⟩
       have HR6 := Lib.hid (remove_none hrep6 freshB may_fresh (by rw [hnow6]; exact look_fresh f6))
       have HP6 := Lib.hid hpag6
       have hap6 : Apart w4.heap.size (Pg.new d w1.heap.size w2.heap.size w3.heap.size) D6 := fun b hb hd => (hold6 b hd).elim (HB5.out.2.2.1 b hb) (fun e => by have := HB5.out.1.lt hb; omega)
       have HX6 := Lib.hid (And.intro hap6 (And.intro hold6 (And.intro hz6 (And.intro hnow6 (And.intro hby6 hm6)))))
       have HD6 := Lib.hid hrep6
       unfold freshB at HR6
       clear hold6 hpag6 hz6 hnow6 hby6 hm6 hrep6)
    | (go_at_call 37; refine HR6.out.mono ?_; rintro e w7 ⟨rfl, hm7⟩)
    | (go_at_call 38; refine (names_ok (HD6.out.non hm7)).mono ?_; rintro e w8 ⟨rfl, vk, hst8⟩
       have hp8 := (HP6.out.non hm7).mod hst8.mod HX6.out.1
       have cp8 := hp8.blk.cell
       unfold Pg.cells Pg.new at cp8
       have HP8 := Lib.hid hp8
       have HS8 := Lib.hid hst8
       clear hst8 hp8)
    | (at_range; refine wpl_range rfl _ rfl und_mapPage rfl HP8.out.now ?_; intro w9 left0 hit0 hm9 hsz9))
  have HI9 := Lib.hid hit0
  have HM9 := Lib.hid hm9
  clear hit0 hm9 hsz9
  go_loopw [13] (fun _ wr => ∃ vis left, IterRep wr w8.heap.size w1.heap.size (mapV (fun _ => none)) vis left ∧ Mod Non w8 wr) (fun _ wr => iterLeft wr w1.heap.size w8.heap.size)
  case atStart => exact ⟨[], left0, HI9.out, HM9.out⟩
  case round =>
    obtain ⟨vis, left, hit, hm⟩ := hrel
    have HM := Lib.hid hm
    clear hm
    go_wp2_with (first
      | (at_next
         refine wpl_next rfl (.tmp 96) rfl rfl hit ?_ ?_
         intro w10 hm10 hall
         have HP10 := Lib.hid ((HP8.out.non HM.out).non hm10)
         rotate_left
         intro w10 k v left' hm10 hfk hnv hlt hit2 hent
         exact absurd hfk (by simp [mapV]))
      | (go_at_call 39; refine (keep_ok HP10.out).mono ?_; rintro e w11 ⟨rfl, hrep11, hm11⟩))
    go_ret2
    have hap8 : Apart w4.heap.size (Pg.new d w1.heap.size w2.heap.size w3.heap.size) (D6.setKept vk D6.now) := fun b hb hd => (HS8.out.old b hd).elim (HX6.out.1 b hb) (fun e => by have h1 := HP6.out.lt hb; have h2 := hm7.size; omega)
    have hm8 : Mod Non w8 w10 := HM.out.trans hm10
    obtain ⟨_, hold6, hz6, hnow6, hby6, hm6⟩ := HX6.out
    have hDS : ∀ b, DS d (D6.setKept vk D6.now) b → b = d ∨ w.heap.size ≤ b := fun b hb => by
      have hsz := HB5.out.2.2.2.2.size
      rcases HS8.out.old b hb with h | h
      · rcases hold6 b h with h | h
        · exact .inl (new_DS h)
        · exact .inr (by omega)
      · have h1 := hm7.size
        have h2 := hm6.size
        exact .inr (by omega)
    have hma : Mod (One d) w w6 := (HB5.out.2.2.2.2.mono (fun _ x => x.elim)).andThen hm6 (fun b hb hlt => by
      rcases hb with hb | hb
      · have := HB5.out.2.2.2.1 b hb
        omega
      · exact new_DS hb)
    have hmb : Mod (One d) w w8 := (hma.trans (hm7.mono (fun _ x => x.elim))).andThen HS8.out.mod (fun b hb hlt => by
      rcases hold6 b hb with h | h
      · exact new_DS h
      · have hsz := HB5.out.2.2.2.2.size
        omega)
    have hmc : Mod (One d) w w11 := (hmb.trans (hm8.mono (fun _ x => x.elim))).andThen hm11 (fun b hb hlt => by
      have := HB5.out.2.2.2.1 b hb
      omega)
    exact ⟨w4.heap.size, w1.heap.size, w2.heap.size, w3.heap.size, D6.setKept vk D6.now, f6, rfl, hrep11, (HS8.out.rep.non hm8).mod hm11 (fun b hb hd => hap8 b hd hb), HB5.out.2.2.2.1, hap8, hz6, hnow6, hby6, hDS, hmc⟩

theorem open_nil (w : World) :
    Calls Try.prog 16 #[.pointer none] w fun e w' => e = .returned (.tuple #[.pointer none, .int .i64 2]) ∧ w = w' := by
  have HS := Lib.hid (size_nil w nameB)
  unfold nameB at HS
  go_enter Try.func16, Try.ntmps16
  go_wp2_with (first
    | (go_at_call 32; refine HS.out.mono ?_; rintro e w1 ⟨rfl, rfl⟩))
  go_ret2
  exact ⟨rfl, rfl⟩
end
end Go.Proofs.Ytmclbechnfedmaa
