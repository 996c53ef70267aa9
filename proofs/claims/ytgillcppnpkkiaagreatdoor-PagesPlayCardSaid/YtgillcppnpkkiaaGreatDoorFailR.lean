/- Fail, where the disk has the file p alone, all of it sure: whatever is kept, with the names or without. -/
import Derived.Test.YtgillcppnpkkiaaGreatDoorAnewR
namespace Go.Proofs.YtgillcppnpkkiaaGreatDoor
open Go Go.RowKit
section
variable {w w' : World} {d : Nat} {D : Dk}
set_option maxRecDepth 100000 in
theorem asked_k (h : DiskRep w d D) {g keep : Nat} (hb : Blk w g 3 #[.int .i64 (keep : Nat)]) :
    Calls Tryz.prog 53 #[.pointer (some ⟨d, 0, none⟩), .slice (some ⟨g, 0, none⟩) 1 1] w fun e w' => e = .returned (.int .i64 0) ∧ w' = w := by
  have c := h.blk.cell
  have hs := h.s1
  have h0 : ((D.size : Int) == 0) = false := by simp; omega
  have HM := Lib.hid (min_one hb)
  have hk0 : decide ((keep : Int) < 0) = false := decide_eq_false (by omega)
  clear h hb
  go_enter Tryz.func53, Tryz.ntmps53
  go_wp2_with (go_at_call 128; refine HM.out.mono ?_; rintro e w1 ⟨rfl, rfl⟩)
  go_ret
  exact ⟨rfl, rfl⟩

set_option maxHeartbeats 1000000 in
set_option maxRecDepth 100000 in
theorem left_k {f sure keep : Nat} {fv : Value} {b : List UInt8} (h : Blk w f 118 #[fv, .int .i64 sure]) (ho : w.ownsRow 0 5 1 fv b.length (bv b)) (hsl : sure = b.length) (hl : b.length ≤ 1048576) :
    Calls Tryz.prog 55 #[.pointer (some ⟨f, 0, none⟩), .int .i64 (keep : Nat)] w fun e w' => LeftSays w sure b e w' := by
  have hs : sure ≤ b.length := by omega
  have hs2 : b.length ≤ sure := by omega
  clear hsl
  have hmn : min (keep : Int) ((b.length : Int) - (sure : Int)) = 0 := by omega
  have hwr : IntKind.i64.wrap ((b.length : Int) - (sure : Int)) = (b.length : Int) - (sure : Int) := by rw [IntKind.wrap_i64]; omega
  rcases ho.2 with ⟨rfl, hn0⟩ | ⟨g, cap, cur, rfl, _, hg, hnc, hcm, hcs, ht⟩
  · have hnil : b = [] := List.length_eq_zero_iff.1 hn0
    subst hnil
    have hs0 : sure = 0 := by simpa using hs
    subst hs0
    have h' : Blk w f 118 #[.slice none 0 0, .int .i64 0] := h
    have c := h'.cell
    have hmn0 : min (keep : Int) 0 = 0 := by omega
    clear h h' ho hmn hwr
    go_enter Tryz.func55, Tryz.ntmps55
    go_wp2
    go_quiet (fail)
    have hmq : Mod Non w (w.drewN nq) := (Mod.refl _ _).drewN nq
    go_wp2_with (go_at_call 51; refine clone_nil.mono ?_; rintro e w2 ⟨rfl, hw2⟩; rw [hw2]; clear hw2)
    go_ret
    exact ⟨_, _, rfl, Nat.le_refl _, Blk.new _ _ _, World.ownsRow_nil _ _ _ _, hmq.alloc _⟩
  · have hrow : RowAt w (some ⟨g, 0, none⟩) b.length 1 (bv b) := by
      obtain ⟨A', c', e', _, hr', _⟩ := owns_form ho
      cases e'
      exact hr'
    have c := h.cell
    have HR := Lib.hid (row_take hrow hs)
    have hsc : sure ≤ cap := by omega
    have hcap : cap ≤ 9223372036854775807 := hcm
    clear h ho hrow hg hcs ht hcm
    go_enter Tryz.func55, Tryz.ntmps55
    go_wp2
    go_quiet (fail)
    have hmq : Mod Non w (w.drewN nq) := (Mod.refl _ _).drewN nq
    have hrq := HR.out.non (by decide) hmq
    have cq : ∀ i, (w.drewN nq).cell? ⟨f, i, none⟩ = w.cell? ⟨f, i, none⟩ := fun _ => rfl
    go_wp2_with (go_at_call 51; refine (clone_owns _ sure cap (b.take sure) hrq (by omega)).mono ?_; rintro e w2 ⟨v2, rfl, ho2, hm2⟩; obtain ⟨A2, c2, rfl, _, _, _⟩ := owns_form ho2)
    go_ret
    exact ⟨_, _, rfl, Nat.le_trans hmq.size hm2.size, Blk.new _ _ _, ho2.alloc _, (hmq.trans hm2).alloc _⟩
def FailOne (w : World) (d : Nat) (D : Dk) (b : List UInt8) (e : Ending) (w' : World) : Prop :=
  ∃ x E g, e = .returned (.tuple #[.pointer (some ⟨x, 0, none⟩), .int .i64 0]) ∧ DiskRep w' x E ∧ w.heap.size ≤ x ∧ (∀ b, DS x E b → DS d D b ∨ w.heap.size ≤ b) ∧ OneFile E g b ∧ Mod Non w w'
theorem fail_says {w1 w5 : World} {x f : Nat} {v vk5 : Value} {b : List UInt8} {E : Dk} (_ : DiskRep w d D) (hof : OneFile D f b) (hs0 : FSt w d D x v D.kept.length w1 E) (hst5 : DStep w1 x E w5 (E.setKept vk5 E.now)) (hm5 : Mod (One x) w1 w5) (hx : w.heap.size ≤ x) :
    FailOne w d D b (.returned (.tuple #[.pointer (some ⟨x, 0, none⟩), .int .i64 0])) w5 := by
  have hk : D.kept = [(nameB, f)] := hof.kept.trans hof.now
  obtain ⟨g, e1, e2, e3⟩ := hs0.done 0 nameB f (by rw [hk]; exact Nat.one_pos) (by rw [hk]; rfl)
  have hnow : E.now = [(nameB, g)] := by
    have hl := hs0.len
    rw [hk] at hl
    match hE : E.now, hl with
    | [y], _ => rw [hE] at e1; simpa using e1
  refine ⟨x, E.setKept vk5 E.now, g, rfl, hst5.rep, hx, fun b hb => ?_, ⟨hnow, rfl, ?_, ?_, hs0.size.trans hof.size⟩, hs0.mod.andThen hm5 (fun b hb hlt => by cases hb; omega)⟩
  · rcases hst5.old b hb with h1 | h1
    · exact hs0.ds b h1
    · exact .inr (Nat.le_trans hs0.mod.size h1)
  · show E.by_ g = b
    rw [e2, hof.bytes, hof.sure, List.take_length]
  · show E.sure g = b.length
    rw [e3, hof.sure]
set_option maxHeartbeats 2000000 in
set_option maxRecDepth 100000 in
theorem fail_no {f : Nat} {b : List UInt8} (h : DiskRep w d D) (hof : OneFile D f b) (keep : Nat) : Calls Tryz.prog 23 #[.pointer (some ⟨d, 0, none⟩), .int .i64 (keep : Nat), .bool false] w fun e w' => FailOne w d D b e w' := by
  have HA : ∀ W, Mod Non w W → Hid (Calls Tryz.prog 53 #[.pointer (some ⟨d, 0, none⟩), .slice (some ⟨W.heap.size, 0, none⟩) 1 1] (W.alloc (.cells #[.int .i64 (keep : Nat)] 3)) fun e w' => e = .returned (.int .i64 0) ∧ w' = W.alloc (.cells #[.int .i64 (keep : Nat)] 3)) := fun W hW =>
    Lib.hid (asked_k (h.non (hW.alloc _)) (Blk.new W 3 #[.int .i64 (keep : Nat)]))
  obtain ⟨A1, c1, A2, c2, e1, e2, l1, l2, r1, r2⟩ := h.opens
  have HOF := Lib.hid hof
  have HKN := Lib.hid hof.kept
  have hln : D.now.length = D.kept.length := by rw [hof.kept]
  rw [hln] at e1 l1
  have HLN := Lib.hid hln
  have HSU : ∀ g, D.isFile g → Hid (D.sure g = (D.by_ g).length) := fun g ⟨y, hy, e⟩ => Lib.hid (by
    have : y ∈ D.now := hy.elim id (fun h => by rw [← hof.kept]; exact h)
    rw [hof.now, List.mem_singleton] at this
    rw [← e, this, hof.sure, hof.bytes])
  clear hof hln
  have E1 := Lib.hid e1
  have H := Lib.hid h
  have hlenK := h.lenK
  have hb0 := h.blk
  rw [e1, e2] at hb0
  have HB0 := Lib.hid hb0
  have E2 := Lib.hid e2
  clear h hb0 e1 e2 r1 r2
  go_enter Tryz.func23, Tryz.ntmps23
  go_wp2_with (go_at_call 53; refine (HA w (Mod.refl _ _)).out.mono ?_; rintro e w1 ⟨rfl, hw1⟩; rw [hw1]; clear hw1)
  refine wp_plan [(0, false), (1, false), (2, false), (3, false), (4, false), (5, false), (6, false), (7, false), (8, true), (9, false), (10, true), (11, false)] Non (by kernel_rfl) (by kernel_rfl) (fun c d v a w h => by cases d <;> exact h) (fun w2 hm2 => ?_)
  have hm02 : Mod Non w w2 := ((Mod.refl _ w).alloc _).trans hm2
  have HB := Lib.hid (HB0.out.mod hm02 (fun x => x))
  refine wpp_read _ rfl rfl (fun W hW => by have cW := (HB.out.mod hW (fun x => x)).cell; first | (go_simp; done) | (go_simp; rfl) | rfl) ?_
  simp only [List.getElem_toArray, List.getElem_cons_zero]
  go_frame
  refine wpp_read _ rfl rfl (fun W hW => by have cW := (HB.out.mod hW (fun x => x)).cell; first | (go_simp; done) | (go_simp; rfl) | rfl) ?_
  simp only [List.getElem_toArray, List.getElem_cons_succ, List.getElem_cons_zero]
  go_frame
  refine wpp_read _ rfl rfl (fun W hW => by have cW := (HB.out.mod hW (fun x => x)).cell; first | (go_simp; done) | (go_simp; rfl) | rfl) ?_
  simp only [List.getElem_toArray, List.getElem_cons_succ, List.getElem_cons_zero]
  go_frame
  refine wpp_read _ rfl rfl (fun W hW => by have cW := (HB.out.mod hW (fun x => x)).cell; first | (go_simp; done) | (go_simp; rfl) | rfl) ?_
  simp only [List.getElem_toArray, List.getElem_cons_succ, List.getElem_cons_zero]
  go_frame
  refine wpp_read _ rfl rfl (fun W hW => by have cW := (HB.out.mod hW (fun x => x)).cell; first | (go_simp; done) | (go_simp; rfl) | rfl) ?_
  simp only [List.getElem_toArray, List.getElem_cons_succ, List.getElem_cons_zero]
  go_frame
  refine wpp_read _ rfl rfl (fun W hW => by have cW := (HB.out.mod hW (fun x => x)).cell; first | (go_simp; done) | (go_simp; rfl) | rfl) ?_
  simp only [List.getElem_toArray, List.getElem_cons_succ, List.getElem_cons_zero]
  go_frame
  refine wpp_read _ rfl rfl (fun W hW => by have cW := (HB.out.mod hW (fun x => x)).cell; first | (go_simp; done) | (go_simp; rfl) | rfl) ?_
  simp only [List.getElem_toArray, List.getElem_cons_succ, List.getElem_cons_zero]
  go_frame
  refine wpp_read _ rfl rfl (fun W hW => by have cW := (HB.out.mod hW (fun x => x)).cell; first | (go_simp; done) | (go_simp; rfl) | rfl) ?_
  simp only [List.getElem_toArray, List.getElem_cons_succ, List.getElem_cons_zero]
  go_frame
  refine wpp_act rfl rfl ?_
  have hcl := clone_list (H.out.non hm02).kept hlenK
  rw [E2.out] at hcl
  go_simp
  refine hcl.mono ?_
  rintro e w3 ⟨v3, rfl, ho3, hm3⟩
  obtain ⟨A3, c3, rfl, hc3, _, _⟩ := owns_form ho3
  have HO3 := Lib.hid ho3
  clear ho3 hcl
  refine ⟨hm3, ?_⟩
  try simp only [List.getElem_toArray, List.getElem_cons_succ, List.getElem_cons_zero]
  try go_frame
  refine wpp_read _ rfl rfl (fun W hW => by first | (go_simp; done) | (go_simp; rfl) | rfl) ?_
  simp only [List.getElem_toArray, List.getElem_cons_succ, List.getElem_cons_zero]
  go_frame
  refine wpp_act rfl rfl ?_
  go_simp
  have hm4 : Mod Non w3 (w3.alloc (.cells #[.int .i64 D.size, .slice A3 D.kept.length c3, .slice none 0 0] 80)) := (Mod.refl _ _).alloc _
  refine ⟨hm3.trans hm4, ?_⟩
  refine wpp_read _ rfl rfl (fun W hW => by first | (go_simp; done) | (go_simp; rfl) | rfl) ?_
  simp only [List.getElem_toArray, List.getElem_cons_succ, List.getElem_cons_zero]
  go_frame
  refine wpp_nil ?_
  have HM4 := Lib.hid (hm02.trans (hm3.trans hm4))
  have hxn := Nat.le_trans hm02.size hm3.size
  have hvn : ∀ b, (Value.slice A3 D.kept.length c3).ownBlock = some b → w.heap.size ≤ b := fun b hb => Nat.le_trans hm02.size (HO3.out.lt b hb).1
  have HF := Lib.hid (FSt.start H.out HM4.out (Blk.new w3 80 #[.int .i64 D.size, .slice A3 D.kept.length c3, .slice none 0 0]) ((owns_base HO3.out).alloc _) hxn hvn)
  have HNN := Lib.hid (H.out.non HM4.out).now
  have hbx := Blk.new w3 80 #[.int .i64 D.size, .slice A3 D.kept.length c3, .slice none 0 0]
  have hm4' := HM4.out
  clear hm4 hm3 hm2
  generalize hW4 : w3.alloc (.cells #[.int .i64 D.size, .slice A3 D.kept.length c3, .slice none 0 0] 80) = w4 at *
  generalize hX : w3.heap.size = x at *
  have hst : ∃ (A4 : Option Addr) (c4 : Nat), True := ⟨A3, c3, trivial⟩
  clear hst
  have c4x := hbx.cell
  have f4x := hbx.frozen
  have HBX := Lib.hid hbx
  have hdx : ∀ W, Mod (One x) w4 W → W.heap[d]? = w4.heap[d]? := fun W hW => hW.block d ((H.out.non hm4').blk.lt) (fun e => by have e : d = x := e; have := H.out.blk.lt; omega)
  have HB4 := Lib.hid (HB0.out.mod hm4' (fun x => x))
  have cb4 := HB4.out.cell
  have HCL := Lib.hid (clone_list (H.out.non hm4').now (by rw [HLN.out]; exact hlenK))
  rw [E1.out, HLN.out] at HCL
  clear hbx hW4 hX HNN
  clear HCL cb4 hdx
  have cbx := c4x
  clear c4x f4x
  go_wp2
  clear cbx
  go_loopw [44] (fun i wr => ∃ k E, k ≤ D.kept.length ∧ i = .int .i64 k ∧ FSt w d D x (.slice A3 D.kept.length c3) k wr E) (fun i _ => D.kept.length - (intOf i).toNat)
  case atStart => exact ⟨0, _, Nat.zero_le _, rfl, HF.out⟩
  case round =>
    obtain ⟨k, E, hk, rfl, hst⟩ := hrel
    by_cases hlt : k < D.kept.length
    · obtain ⟨y, hy⟩ : ∃ y, D.kept[k]? = some y := ⟨_, List.getElem?_eq_getElem hlt⟩
      obtain ⟨s, f⟩ := y
      have hek := (hst.rest k (Nat.le_refl _)).trans hy
      have hnow := hst.rep.now
      rw [hst.vn, hst.len] at hnow
      obtain ⟨gb, c', cur, e1, hgb, hnc, hcm, hcs, hct⟩ := owns_open hnow (by omega)
      obtain ⟨rfl, rfl⟩ : A3 = some ⟨gb, 0, none⟩ ∧ c3 = c' := by
        injection e1 with h1 _ h2
        exact ⟨h1, h2⟩
      have hg := ents_get hek
      have hfile : D.isFile f := ⟨_, .inr (List.mem_of_getElem? hy), rfl⟩
      have hfE : E.isFile f := ⟨_, .inl (List.mem_of_getElem? hek), rfl⟩
      obtain ⟨sa1, sa2, sa3⟩ := hst.same f (H.out.file f hfile).1.lt
      obtain ⟨fb, fr, fs, fl⟩ := hst.rep.file f hfE
      rw [sa1, sa3] at fb
      rw [sa1, sa2] at fr
      rw [sa3, sa2] at fs
      rw [sa2] at fl
      have hbk := hst.rep.blk
      rw [hst.vn, hst.vk, hst.size] at hbk
      have hlt0 : gb < wr.heap.size := hgb.lt
      have hltx := hbk.lt
      have hltf := fb.lt
      have hrow : cur[k * 2]? = some (.string s) ∧ cur[k * 2 + 1]? = some (.pointer (some ⟨f, 0, none⟩)) := by
        rw [hst.len.symm] at hct
        have hq := (List.getElem?_eq_some_iff.1 hek).1
        rw [← hct, List.getElem?_take_of_lt (by omega), List.getElem?_take_of_lt (by omega)] at hg
        simpa using hg
      have hxg : x ≠ gb := hbk.ne hgb (by decide)
      have hfg : f ≠ gb := fb.ne hgb (by decide)
      have cg := hgb.cell
      have c0 : wr.cell? ⟨gb, k * 2, none⟩ = some (.string s) := (cg _).trans hrow.1
      have c1 : wr.cell? ⟨gb, k * 2 + 1, none⟩ = some (.pointer (some ⟨f, 0, none⟩)) := (cg _).trans hrow.2
      have HST := Lib.hid hst
      have HY := Lib.hid hy
      have HFB := Lib.hid fb
      have HFR := Lib.hid fr
      have HBK := Lib.hid hbk
      have HGB := Lib.hid hgb
      have HROW := Lib.hid hrow
      have hne : ¬ f = wr.heap.size := by omega
      clear hst hy hek hnow e1 hg sa1 sa2 sa3 fb fr hbk hgb hcs hct cg hrow
      go_wp2
      refine wp_plan [(0, false), (1, false), (2, false), (3, false), (4, false), (5, false), (6, false), (7, false), (8, true), (9, false), (10, false), (11, true)] (One gb) (by kernel_rfl) (by kernel_rfl) (fun c d v a w h => by cases d <;> exact h) (fun w5 hm5 => ?_)
      have hm05 : Mod Non wr w5 := ((Mod.refl _ wr).alloc _).trans hm5
      have HB5 := Lib.hid (HBK.out.mod hm05 (fun x => x))
      have HE := Lib.hid ((Blk.new wr 112 #[.string s, .pointer (some ⟨f, 0, none⟩)]).mod hm5 (fun x => x))
      have hXg : ¬ One gb x := hxg
      have hEg : ¬ One gb wr.heap.size := fun e => by have e : wr.heap.size = gb := e; omega
      have hlk : k < D.kept.length := hlt
      refine wpp_read _ rfl rfl (fun W hW => by have cW := (HB5.out.mod hW hXg).cell; have cE := (HE.out.mod hW hEg).cell; first | (go_simp; done) | (go_simp; rfl) | rfl) ?_
      simp only [List.getElem_toArray, List.getElem_cons_zero]
      go_frame
      refine wpp_read _ rfl rfl (fun W hW => by have cW := (HB5.out.mod hW hXg).cell; have cE := (HE.out.mod hW hEg).cell; first | (go_simp; done) | (go_simp; rfl) | rfl) ?_
      simp only [List.getElem_toArray, List.getElem_cons_succ, List.getElem_cons_zero]
      go_frame
      refine wpp_read _ rfl rfl (fun W hW => by have cW := (HB5.out.mod hW hXg).cell; have cE := (HE.out.mod hW hEg).cell; first | (go_simp; done) | (go_simp; rfl) | rfl) ?_
      simp only [List.getElem_toArray, List.getElem_cons_succ, List.getElem_cons_zero]
      go_frame
      refine wpp_read _ rfl rfl (fun W hW => by have cW := (HB5.out.mod hW hXg).cell; have cE := (HE.out.mod hW hEg).cell; first | (go_simp; done) | (go_simp; rfl) | rfl) ?_
      simp only [List.getElem_toArray, List.getElem_cons_succ, List.getElem_cons_zero]
      go_frame
      refine wpp_read _ rfl rfl (fun W hW => by have cW := (HB5.out.mod hW hXg).cell; have cE := (HE.out.mod hW hEg).cell; first | (go_simp; done) | (go_simp; rfl) | rfl) ?_
      simp only [List.getElem_toArray, List.getElem_cons_succ, List.getElem_cons_zero]
      go_frame
      refine wpp_read _ rfl rfl (fun W hW => by have cW := (HB5.out.mod hW hXg).cell; have cE := (HE.out.mod hW hEg).cell; first | (go_simp; done) | (go_simp; rfl) | rfl) ?_
      simp only [List.getElem_toArray, List.getElem_cons_succ, List.getElem_cons_zero]
      go_frame
      refine wpp_read _ rfl rfl (fun W hW => by have cW := (HB5.out.mod hW hXg).cell; have cE := (HE.out.mod hW hEg).cell; first | (go_simp; done) | (go_simp; rfl) | rfl) ?_
      simp only [List.getElem_toArray, List.getElem_cons_succ, List.getElem_cons_zero]
      go_frame
      refine wpp_read _ rfl rfl (fun W hW => by have cW := (HB5.out.mod hW hXg).cell; have cE := (HE.out.mod hW hEg).cell; first | (go_simp; done) | (go_simp; rfl) | rfl) ?_
      simp only [List.getElem_toArray, List.getElem_cons_succ, List.getElem_cons_zero]
      go_frame
      have hlf := left_k (keep := keep) (HFB.out.mod hm05 (fun x => x)) (owns_keep HFR.out (fun b hb => hm05.block b (HFR.out.lt b hb).2 (fun x => x))) (HSU f hfile).out fl
      refine wpp_act rfl rfl ?_
      go_simp
      refine hlf.mono ?_
      rintro e w6 ⟨g, vv, rfl, hg6, hb6, ho6, hm6⟩
      refine ⟨hm6.mono (fun _ x => x.elim), ?_⟩
      try simp only [List.getElem_toArray, List.getElem_cons_succ, List.getElem_cons_zero]
      try go_frame
      refine wpp_read _ rfl rfl (fun W hW => by first | (go_simp; done) | (go_simp; rfl) | rfl) ?_
      simp only [List.getElem_toArray, List.getElem_cons_succ, List.getElem_cons_zero]
      go_frame
      refine wpp_read _ rfl rfl (fun W hW => by first | (go_simp; done) | (go_simp; rfl) | rfl) ?_
      simp only [List.getElem_toArray, List.getElem_cons_succ, List.getElem_cons_zero]
      go_frame
      have hgb6 := HGB.out.mod (hm05.trans hm6) (fun x => x)
      have c6 : w6.cell? ⟨gb, k * 2 + 1, none⟩ = some (.pointer (some ⟨f, 0, none⟩)) := (hgb6.cell _).trans HROW.out.2
      have f6 := hgb6.frozen (k * 2 + 1)
      refine wpp_act rfl rfl ?_
      go_simp
      have hnx := Lib.hid (HST.out.next H.out HY.out (hm05.trans hm6) (hvn gb rfl) (Nat.le_trans hm05.size hg6) hb6 hm05.size ho6)
      refine ⟨(hm6.mono (T := One gb) (fun _ x => x.elim)).setCell (p := ⟨gb, k * 2 + 1, none⟩) (.inl rfl) _, ?_⟩
      refine wpp_nil ?_
      clear c0 c1
      go_wp2
      go_roundw
      case rel => exact ⟨k + 1, _, by omega, by go_num, hnx.out⟩
      case measure => simp [intOf]; omega
    · obtain rfl : k = D.kept.length := by omega
      clear hlt
      have HN := Lib.hid (names_one hst.rep)
      have HST := Lib.hid hst
      clear hst
      go_wp2_with (go_at_call 42; refine HN.out.mono ?_; rintro e w5 ⟨rfl, vk5, hst5, hm5⟩)
      go_ret2
      have hs0 := HST.out
      refine fail_says H.out HOF.out hs0 hst5 hm5 hxn
set_option maxHeartbeats 2000000 in
set_option maxRecDepth 100000 in
theorem fail_yes {f : Nat} {b : List UInt8} (h : DiskRep w d D) (hof : OneFile D f b) (keep : Nat) : Calls Tryz.prog 23 #[.pointer (some ⟨d, 0, none⟩), .int .i64 (keep : Nat), .bool true] w fun e w' => FailOne w d D b e w' := by
  have HA : ∀ W, Mod Non w W → Hid (Calls Tryz.prog 53 #[.pointer (some ⟨d, 0, none⟩), .slice (some ⟨W.heap.size, 0, none⟩) 1 1] (W.alloc (.cells #[.int .i64 (keep : Nat)] 3)) fun e w' => e = .returned (.int .i64 0) ∧ w' = W.alloc (.cells #[.int .i64 (keep : Nat)] 3)) := fun W hW =>
    Lib.hid (asked_k (h.non (hW.alloc _)) (Blk.new W 3 #[.int .i64 (keep : Nat)]))
  obtain ⟨A1, c1, A2, c2, e1, e2, l1, l2, r1, r2⟩ := h.opens
  have HOF := Lib.hid hof
  have HKN := Lib.hid hof.kept
  have hln : D.now.length = D.kept.length := by rw [hof.kept]
  rw [hln] at e1 l1
  have HLN := Lib.hid hln
  have HSU : ∀ g, D.isFile g → Hid (D.sure g = (D.by_ g).length) := fun g ⟨y, hy, e⟩ => Lib.hid (by
    have : y ∈ D.now := hy.elim id (fun h => by rw [← hof.kept]; exact h)
    rw [hof.now, List.mem_singleton] at this
    rw [← e, this, hof.sure, hof.bytes])
  clear hof hln
  have E1 := Lib.hid e1
  have H := Lib.hid h
  have hlenK := h.lenK
  have hb0 := h.blk
  rw [e1, e2] at hb0
  have HB0 := Lib.hid hb0
  have E2 := Lib.hid e2
  clear h hb0 e1 e2 r1 r2
  go_enter Tryz.func23, Tryz.ntmps23
  go_wp2_with (go_at_call 53; refine (HA w (Mod.refl _ _)).out.mono ?_; rintro e w1 ⟨rfl, hw1⟩; rw [hw1]; clear hw1)
  refine wp_plan [(0, false), (1, false), (2, false), (3, false), (4, false), (5, false), (6, false), (7, false), (8, true), (9, false), (10, true), (11, false)] Non (by kernel_rfl) (by kernel_rfl) (fun c d v a w h => by cases d <;> exact h) (fun w2 hm2 => ?_)
  have hm02 : Mod Non w w2 := ((Mod.refl _ w).alloc _).trans hm2
  have HB := Lib.hid (HB0.out.mod hm02 (fun x => x))
  refine wpp_read _ rfl rfl (fun W hW => by have cW := (HB.out.mod hW (fun x => x)).cell; first | (go_simp; done) | (go_simp; rfl) | rfl) ?_
  simp only [List.getElem_toArray, List.getElem_cons_zero]
  go_frame
  refine wpp_read _ rfl rfl (fun W hW => by have cW := (HB.out.mod hW (fun x => x)).cell; first | (go_simp; done) | (go_simp; rfl) | rfl) ?_
  simp only [List.getElem_toArray, List.getElem_cons_succ, List.getElem_cons_zero]
  go_frame
  refine wpp_read _ rfl rfl (fun W hW => by have cW := (HB.out.mod hW (fun x => x)).cell; first | (go_simp; done) | (go_simp; rfl) | rfl) ?_
  simp only [List.getElem_toArray, List.getElem_cons_succ, List.getElem_cons_zero]
  go_frame
  refine wpp_read _ rfl rfl (fun W hW => by have cW := (HB.out.mod hW (fun x => x)).cell; first | (go_simp; done) | (go_simp; rfl) | rfl) ?_
  simp only [List.getElem_toArray, List.getElem_cons_succ, List.getElem_cons_zero]
  go_frame
  refine wpp_read _ rfl rfl (fun W hW => by have cW := (HB.out.mod hW (fun x => x)).cell; first | (go_simp; done) | (go_simp; rfl) | rfl) ?_
  simp only [List.getElem_toArray, List.getElem_cons_succ, List.getElem_cons_zero]
  go_frame
  refine wpp_read _ rfl rfl (fun W hW => by have cW := (HB.out.mod hW (fun x => x)).cell; first | (go_simp; done) | (go_simp; rfl) | rfl) ?_
  simp only [List.getElem_toArray, List.getElem_cons_succ, List.getElem_cons_zero]
  go_frame
  refine wpp_read _ rfl rfl (fun W hW => by have cW := (HB.out.mod hW (fun x => x)).cell; first | (go_simp; done) | (go_simp; rfl) | rfl) ?_
  simp only [List.getElem_toArray, List.getElem_cons_succ, List.getElem_cons_zero]
  go_frame
  refine wpp_read _ rfl rfl (fun W hW => by have cW := (HB.out.mod hW (fun x => x)).cell; first | (go_simp; done) | (go_simp; rfl) | rfl) ?_
  simp only [List.getElem_toArray, List.getElem_cons_succ, List.getElem_cons_zero]
  go_frame
  refine wpp_act rfl rfl ?_
  have hcl := clone_list (H.out.non hm02).kept hlenK
  rw [E2.out] at hcl
  go_simp
  refine hcl.mono ?_
  rintro e w3 ⟨v3, rfl, ho3, hm3⟩
  obtain ⟨A3, c3, rfl, hc3, _, _⟩ := owns_form ho3
  have HO3 := Lib.hid ho3
  clear ho3 hcl
  refine ⟨hm3, ?_⟩
  try simp only [List.getElem_toArray, List.getElem_cons_succ, List.getElem_cons_zero]
  try go_frame
  refine wpp_read _ rfl rfl (fun W hW => by first | (go_simp; done) | (go_simp; rfl) | rfl) ?_
  simp only [List.getElem_toArray, List.getElem_cons_succ, List.getElem_cons_zero]
  go_frame
  refine wpp_act rfl rfl ?_
  go_simp
  have hm4 : Mod Non w3 (w3.alloc (.cells #[.int .i64 D.size, .slice A3 D.kept.length c3, .slice none 0 0] 80)) := (Mod.refl _ _).alloc _
  refine ⟨hm3.trans hm4, ?_⟩
  refine wpp_read _ rfl rfl (fun W hW => by first | (go_simp; done) | (go_simp; rfl) | rfl) ?_
  simp only [List.getElem_toArray, List.getElem_cons_succ, List.getElem_cons_zero]
  go_frame
  refine wpp_nil ?_
  have HM4 := Lib.hid (hm02.trans (hm3.trans hm4))
  have hxn := Nat.le_trans hm02.size hm3.size
  have hvn : ∀ b, (Value.slice A3 D.kept.length c3).ownBlock = some b → w.heap.size ≤ b := fun b hb => Nat.le_trans hm02.size (HO3.out.lt b hb).1
  have HF := Lib.hid (FSt.start H.out HM4.out (Blk.new w3 80 #[.int .i64 D.size, .slice A3 D.kept.length c3, .slice none 0 0]) ((owns_base HO3.out).alloc _) hxn hvn)
  have HNN := Lib.hid (H.out.non HM4.out).now
  have hbx := Blk.new w3 80 #[.int .i64 D.size, .slice A3 D.kept.length c3, .slice none 0 0]
  have hm4' := HM4.out
  clear hm4 hm3 hm2
  generalize hW4 : w3.alloc (.cells #[.int .i64 D.size, .slice A3 D.kept.length c3, .slice none 0 0] 80) = w4 at *
  generalize hX : w3.heap.size = x at *
  have hst : ∃ (A4 : Option Addr) (c4 : Nat), True := ⟨A3, c3, trivial⟩
  clear hst
  have c4x := hbx.cell
  have f4x := hbx.frozen
  have HBX := Lib.hid hbx
  have hdx : ∀ W, Mod (One x) w4 W → W.heap[d]? = w4.heap[d]? := fun W hW => hW.block d ((H.out.non hm4').blk.lt) (fun e => by have e : d = x := e; have := H.out.blk.lt; omega)
  have HB4 := Lib.hid (HB0.out.mod hm4' (fun x => x))
  have cb4 := HB4.out.cell
  have HCL := Lib.hid (clone_list (H.out.non hm4').now (by rw [HLN.out]; exact hlenK))
  rw [E1.out, HLN.out] at HCL
  clear hbx hW4 hX HNN
  go_wp2_with (go_at_call 54; refine HCL.out.mono ?_; rintro e w5 ⟨v5, rfl, ho5, hm5⟩
               obtain ⟨A5, c5, rfl, hc5, hr5, _⟩ := owns_form ho5
               have HO5 := Lib.hid ho5
               have hbx5 := HBX.out.mod hm5 (fun x => x)
               have c5x := hbx5.cell
               have f5x := hbx5.frozen
               have HBX5 := Lib.hid hbx5
               clear ho5 hbx5 c4x f4x cb4 hr5)
  have hl5 : w.heap.size ≤ x := hxn
  have HM6 := Lib.hid ((HM4.out.trans hm5).setCell (p := ⟨x, 1, none⟩) (.inr hxn) (.slice A5 D.kept.length c5))
  have hvn5 : ∀ b, (Value.slice A5 D.kept.length c5).ownBlock = some b → w.heap.size ≤ b := fun b hb => Nat.le_trans HM4.out.size (HO5.out.lt b hb).1
  have HF5 := Lib.hid (FSt.start H.out HM6.out (HBX5.out.set 1 (.slice A5 D.kept.length c5)) (by
    have h5 := owns_base HO5.out
    rw [← HKN.out] at h5
    exact owns_keep h5 (fun b hb => Below.heap_setCell _ _ _ _ (fun e => by
      have h6 := (HO5.out.lt b hb).1
      have h7 := HBX.out.lt
      simp at e
      omega))) hxn hvn5)
  clear c5x f5x
  go_loopw [44] (fun i wr => ∃ k E, k ≤ D.kept.length ∧ i = .int .i64 k ∧ FSt w d D x (.slice A5 D.kept.length c5) k wr E) (fun i _ => D.kept.length - (intOf i).toNat)
  case atStart => exact ⟨0, _, Nat.zero_le _, rfl, HF5.out⟩
  case round =>
    obtain ⟨k, E, hk, rfl, hst⟩ := hrel
    by_cases hlt : k < D.kept.length
    · obtain ⟨y, hy⟩ : ∃ y, D.kept[k]? = some y := ⟨_, List.getElem?_eq_getElem hlt⟩
      obtain ⟨s, f⟩ := y
      have hek := (hst.rest k (Nat.le_refl _)).trans hy
      have hnow := hst.rep.now
      rw [hst.vn, hst.len] at hnow
      obtain ⟨gb, c', cur, e1, hgb, hnc, hcm, hcs, hct⟩ := owns_open hnow (by omega)
      obtain ⟨rfl, rfl⟩ : A5 = some ⟨gb, 0, none⟩ ∧ c5 = c' := by
        injection e1 with h1 _ h2
        exact ⟨h1, h2⟩
      have hg := ents_get hek
      have hfile : D.isFile f := ⟨_, .inr (List.mem_of_getElem? hy), rfl⟩
      have hfE : E.isFile f := ⟨_, .inl (List.mem_of_getElem? hek), rfl⟩
      obtain ⟨sa1, sa2, sa3⟩ := hst.same f (H.out.file f hfile).1.lt
      obtain ⟨fb, fr, fs, fl⟩ := hst.rep.file f hfE
      rw [sa1, sa3] at fb
      rw [sa1, sa2] at fr
      rw [sa3, sa2] at fs
      rw [sa2] at fl
      have hbk := hst.rep.blk
      rw [hst.vn, hst.vk, hst.size] at hbk
      have hlt0 : gb < wr.heap.size := hgb.lt
      have hltx := hbk.lt
      have hltf := fb.lt
      have hrow : cur[k * 2]? = some (.string s) ∧ cur[k * 2 + 1]? = some (.pointer (some ⟨f, 0, none⟩)) := by
        rw [hst.len.symm] at hct
        have hq := (List.getElem?_eq_some_iff.1 hek).1
        rw [← hct, List.getElem?_take_of_lt (by omega), List.getElem?_take_of_lt (by omega)] at hg
        simpa using hg
      have hxg : x ≠ gb := hbk.ne hgb (by decide)
      have hfg : f ≠ gb := fb.ne hgb (by decide)
      have cg := hgb.cell
      have c0 : wr.cell? ⟨gb, k * 2, none⟩ = some (.string s) := (cg _).trans hrow.1
      have c1 : wr.cell? ⟨gb, k * 2 + 1, none⟩ = some (.pointer (some ⟨f, 0, none⟩)) := (cg _).trans hrow.2
      have HST := Lib.hid hst
      have HY := Lib.hid hy
      have HFB := Lib.hid fb
      have HFR := Lib.hid fr
      have HBK := Lib.hid hbk
      have HGB := Lib.hid hgb
      have HROW := Lib.hid hrow
      have hne : ¬ f = wr.heap.size := by omega
      clear hst hy hek hnow e1 hg sa1 sa2 sa3 fb fr hbk hgb hcs hct cg hrow
      go_wp2
      refine wp_plan [(0, false), (1, false), (2, false), (3, false), (4, false), (5, false), (6, false), (7, false), (8, true), (9, false), (10, false), (11, true)] (One gb) (by kernel_rfl) (by kernel_rfl) (fun c d v a w h => by cases d <;> exact h) (fun w5 hm5 => ?_)
      have hm05 : Mod Non wr w5 := ((Mod.refl _ wr).alloc _).trans hm5
      have HB5 := Lib.hid (HBK.out.mod hm05 (fun x => x))
      have HE := Lib.hid ((Blk.new wr 112 #[.string s, .pointer (some ⟨f, 0, none⟩)]).mod hm5 (fun x => x))
      have hXg : ¬ One gb x := hxg
      have hEg : ¬ One gb wr.heap.size := fun e => by have e : wr.heap.size = gb := e; omega
      have hlk : k < D.kept.length := hlt
      refine wpp_read _ rfl rfl (fun W hW => by have cW := (HB5.out.mod hW hXg).cell; have cE := (HE.out.mod hW hEg).cell; first | (go_simp; done) | (go_simp; rfl) | rfl) ?_
      simp only [List.getElem_toArray, List.getElem_cons_zero]
      go_frame
      refine wpp_read _ rfl rfl (fun W hW => by have cW := (HB5.out.mod hW hXg).cell; have cE := (HE.out.mod hW hEg).cell; first | (go_simp; done) | (go_simp; rfl) | rfl) ?_
      simp only [List.getElem_toArray, List.getElem_cons_succ, List.getElem_cons_zero]
      go_frame
      refine wpp_read _ rfl rfl (fun W hW => by have cW := (HB5.out.mod hW hXg).cell; have cE := (HE.out.mod hW hEg).cell; first | (go_simp; done) | (go_simp; rfl) | rfl) ?_
      simp only [List.getElem_toArray, List.getElem_cons_succ, List.getElem_cons_zero]
      go_frame
      refine wpp_read _ rfl rfl (fun W hW => by have cW := (HB5.out.mod hW hXg).cell; have cE := (HE.out.mod hW hEg).cell; first | (go_simp; done) | (go_simp; rfl) | rfl) ?_
      simp only [List.getElem_toArray, List.getElem_cons_succ, List.getElem_cons_zero]
      go_frame
      refine wpp_read _ rfl rfl (fun W hW => by have cW := (HB5.out.mod hW hXg).cell; have cE := (HE.out.mod hW hEg).cell; first | (go_simp; done) | (go_simp; rfl) | rfl) ?_
      simp only [List.getElem_toArray, List.getElem_cons_succ, List.getElem_cons_zero]
      go_frame
      refine wpp_read _ rfl rfl (fun W hW => by have cW := (HB5.out.mod hW hXg).cell; have cE := (HE.out.mod hW hEg).cell; first | (go_simp; done) | (go_simp; rfl) | rfl) ?_
      simp only [List.getElem_toArray, List.getElem_cons_succ, List.getElem_cons_zero]
      go_frame
      refine wpp_read _ rfl rfl (fun W hW => by have cW := (HB5.out.mod hW hXg).cell; have cE := (HE.out.mod hW hEg).cell; first | (go_simp; done) | (go_simp; rfl) | rfl) ?_
      simp only [List.getElem_toArray, List.getElem_cons_succ, List.getElem_cons_zero]
      go_frame
      refine wpp_read _ rfl rfl (fun W hW => by have cW := (HB5.out.mod hW hXg).cell; have cE := (HE.out.mod hW hEg).cell; first | (go_simp; done) | (go_simp; rfl) | rfl) ?_
      simp only [List.getElem_toArray, List.getElem_cons_succ, List.getElem_cons_zero]
      go_frame
      have hlf := left_k (keep := keep) (HFB.out.mod hm05 (fun x => x)) (owns_keep HFR.out (fun b hb => hm05.block b (HFR.out.lt b hb).2 (fun x => x))) (HSU f hfile).out fl
      refine wpp_act rfl rfl ?_
      go_simp
      refine hlf.mono ?_
      rintro e w6 ⟨g, vv, rfl, hg6, hb6, ho6, hm6⟩
      refine ⟨hm6.mono (fun _ x => x.elim), ?_⟩
      try simp only [List.getElem_toArray, List.getElem_cons_succ, List.getElem_cons_zero]
      try go_frame
      refine wpp_read _ rfl rfl (fun W hW => by first | (go_simp; done) | (go_simp; rfl) | rfl) ?_
      simp only [List.getElem_toArray, List.getElem_cons_succ, List.getElem_cons_zero]
      go_frame
      refine wpp_read _ rfl rfl (fun W hW => by first | (go_simp; done) | (go_simp; rfl) | rfl) ?_
      simp only [List.getElem_toArray, List.getElem_cons_succ, List.getElem_cons_zero]
      go_frame
      have hgb6 := HGB.out.mod (hm05.trans hm6) (fun x => x)
      have c6 : w6.cell? ⟨gb, k * 2 + 1, none⟩ = some (.pointer (some ⟨f, 0, none⟩)) := (hgb6.cell _).trans HROW.out.2
      have f6 := hgb6.frozen (k * 2 + 1)
      refine wpp_act rfl rfl ?_
      go_simp
      have hnx := Lib.hid (HST.out.next H.out HY.out (hm05.trans hm6) (hvn5 gb rfl) (Nat.le_trans hm05.size hg6) hb6 hm05.size ho6)
      refine ⟨(hm6.mono (T := One gb) (fun _ x => x.elim)).setCell (p := ⟨gb, k * 2 + 1, none⟩) (.inl rfl) _, ?_⟩
      refine wpp_nil ?_
      clear c0 c1
      go_wp2
      go_roundw
      case rel => exact ⟨k + 1, _, by omega, by go_num, hnx.out⟩
      case measure => simp [intOf]; omega
    · obtain rfl : k = D.kept.length := by omega
      clear hlt
      have HN := Lib.hid (names_one hst.rep)
      have HST := Lib.hid hst
      clear hst
      go_wp2_with (go_at_call 42; refine HN.out.mono ?_; rintro e w5 ⟨rfl, vk5, hst5, hm5⟩)
      go_ret2
      have hs0 := HST.out
      refine fail_says H.out HOF.out hs0 hst5 hm5 hxn
theorem fail_one {f : Nat} {b : List UInt8} (h : DiskRep w d D) (hof : OneFile D f b) (keep : Nat) (names : Bool) :
    Calls Tryz.prog 23 #[.pointer (some ⟨d, 0, none⟩), .int .i64 (keep : Nat), .bool names] w fun e w' => FailOne w d D b e w' := by
  cases names
  · exact fail_no h hof keep
  · exact fail_yes h hof keep
end
end Go.Proofs.YtgillcppnpkkiaaGreatDoor
