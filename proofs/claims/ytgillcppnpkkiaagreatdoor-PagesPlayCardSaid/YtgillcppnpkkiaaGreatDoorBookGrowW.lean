/- A Book: growByte, the walk. -/
import Derived.Test.YtgillcppnpkkiaaGreatDoorBookGrow
import Derived.Test.YtgillcppnpkkiaaGreatDoorMove
namespace Go.Proofs.YtgillcppnpkkiaaGreatDoor
open Go Go.RowKit
section
variable {w w' : World} {k : Nat} {B : Bk} {S : Nat → Prop}
def LongOk (w0 w : World) (y : HB) : Prop := ∃ g c, y.long = .slice (some ⟨g, 0, none⟩) (y.len + 40) c ∧ Marked w g (y.len + 40) 0 y.n ∧ (y.g = some g ∨ w0.heap.size ≤ g)
/-- Grow's state behind j lists. -/
structure GrowSt (w : World) (k : Nat) (B : Bk) (j : Nat) (wr : World) (l : List HB) : Prop where
  blk : Blk wr k 54 (bkc B.n B.v)
  own : wr.ownsRow 0 128 3 B.v l.length (hbs l)
  len : l.length = B.l.length
  same : ∀ (i : Nat) (x : HB), B.l[i]? = some x → ∃ y, l[i]? = some y ∧ y.g = x.g ∧ y.len = x.len ∧ y.cap = x.cap ∧ y.n = x.n ∧ (j ≤ i → y.long = .slice none 0 0) ∧ (i < j → LongOk w wr y)
  marked : ∀ (i : Nat) (x : HB) (g : Nat), B.l[i]? = some x → x.g = some g → Marked wr g x.len x.cap x.n
  mod : Mod (BS k B) w wr
theorem GrowIn.base {w1 w2 wr : World} {x : HB} {q : Nat} {v : Value} (h : GrowIn w1 x q w2 v) (hm : Mod Non wr w1) : GrowIn wr x q w2 v := by
  obtain ⟨h1, h2⟩ := h
  refine ⟨h1.imp id (fun ⟨h3, h4⟩ => ⟨owns_down h3 hm.size, h4⟩), fun S hS => (hm.mono (fun _ x => x.elim)).trans (h2 S hS)⟩
theorem LongOk.mod {w0 : World} {y : HB} (h : LongOk w0 w y) (hm : Mod S w w') (hn : ∀ g, (y.g = some g ∨ w0.heap.size ≤ g) → ¬ S g) : LongOk w0 w' y := by
  obtain ⟨g, c, h1, h2, h3⟩ := h
  exact ⟨g, c, h1, h2.mod hm (hn g h3), h3⟩
theorem GrowSt.items {j : Nat} {wr : World} {l : List HB} (h : GrowSt w k B j wr l) (hl : 0 < l.length) : ∃ gv c cur, B.v = .slice (some ⟨gv, 0, none⟩) l.length c ∧ Blk wr gv 128 cur ∧ c ≤ maxLen ∧ l.length ≤ c ∧ cur.size = c * 3 ∧ cur.toList.take (l.length * 3) = hbs l ∧
    ∀ (i : Nat) (x : HB), l[i]? = some x → cur[i * 3]? = some (.slice x.a x.len x.cap) ∧ cur[i * 3 + 1]? = some x.long ∧ cur[i * 3 + 2]? = some (.int .i64 x.n) := by
  obtain ⟨gv, c, cur, e, hb, hlc, hcm, hcs, ht⟩ := owns_open h.own hl
  refine ⟨gv, c, cur, e, hb, hcm, hlc, hcs, ht, fun i x hx => ?_⟩
  have hil := (List.getElem?_eq_some_iff.1 hx).1
  have get : ∀ t, t < 3 → cur[i * 3 + t]? = (hbc x)[t]? := fun t h3 => by
    rw [← fm_get hbc_length hx h3]
    show _ = (hbs l)[i * 3 + t]?
    rw [← ht, List.getElem?_take_of_lt (by omega), Array.getElem?_toList]
  exact ⟨get 0 (by omega), get 1 (by omega), get 2 (by omega)⟩
theorem GrowSt.next {j gv c : Nat} {wr w2 : World} {l : List HB} {cur : Array Value} (h0 : BookRep w k B) (h : GrowSt w k B j wr l) {x y : HB} (hx : B.l[j]? = some x) (hy : l[j]? = some y) (hyx : y.g = x.g ∧ y.len = x.len ∧ y.cap = x.cap ∧ y.n = x.n) (ev : B.v = .slice (some ⟨gv, 0, none⟩) l.length c) (hb : Blk wr gv 128 cur)
    (hcm : c ≤ maxLen) (hlc : l.length ≤ c) (hcs : cur.size = c * 3) (ht : cur.toList.take (l.length * 3) = hbs l) {v : Value} (hg : GrowIn wr x 40 w2 v) :
    ∃ l', GrowSt w k B (j + 1) (w2.setCell ⟨gv, j * 3 + 1, none⟩ v) l' := by
  obtain ⟨hs, hmod⟩ := hg
  have hm2 := hmod (fun b => x.g = some b) (fun g e => e)
  have hjl := (List.getElem?_eq_some_iff.1 hy).1
  have hgne : ∀ (i : Nat) (y : HB) (g : Nat), B.l[i]? = some y → y.g = some g → g ≠ k ∧ g ≠ gv := fun i y g hy e => by
    have h1 := h0.ne hy e
    exact ⟨h1.1, fun e2 => h1.2 (by rw [ev, e2]; rfl)⟩
  have hgk : gv ≠ k := hb.ne h.blk (by decide)
  have hb2 := hb.mod hm2 (fun e => (hgne j x gv hx e).2 rfl)
  have hbs2 := hb2.set (j * 3 + 1) v
  have hmc : Mod (One gv) w2 (w2.setCell ⟨gv, j * 3 + 1, none⟩ v) := (Mod.refl (One gv) _).setCell (p := ⟨gv, j * 3 + 1, none⟩) (.inl rfl) _
  have hms : w.heap.size ≤ wr.heap.size := h.mod.size
  have hset : hbs (l.set j { y with long := v }) = (hbs l).set (j * 3 + 1) v := fm_set hbc_length hy (j := 1) (by omega) v (by simp [hbc, HB.a])
  have hvo : B.v.ownBlock = some gv := by rw [ev]; rfl
  -- the long list that is new
  have hlong : LongOk w (w2.setCell ⟨gv, j * 3 + 1, none⟩ v) { y with long := v } := by
    rcases hs with ⟨g, hg, rfl, _, hmk⟩ | ⟨hown, _⟩
    · refine ⟨g, x.cap, by show _ = Value.slice _ (y.len + 40) _; rw [hyx.2.1], ?_, .inl (hyx.1.trans hg)⟩
      show Marked _ g (y.len + 40) 0 y.n
      rw [hyx.2.1, hyx.2.2.2]
      obtain ⟨cu, h1, h2, h3⟩ := hmk.mod hmc (fun e => (hgne j x g hx hg).2 e)
      exact ⟨cu, h1, Nat.zero_le _, h3⟩
    · obtain ⟨g, c', cu, rfl, hbk, hlc', hcm', hcs', ht'⟩ := owns_open hown (by omega)
      have hgw : wr.heap.size ≤ g := (hown.lt g rfl).1
      refine ⟨g, c', by show _ = Value.slice _ (y.len + 40) _; rw [hyx.2.1], ?_, .inr (by omega)⟩
      show Marked _ g (y.len + 40) 0 y.n
      rw [hyx.2.1, hyx.2.2.2]
      refine ⟨cu, hbk.mod hmc (fun e => by have e : g = gv := e; have := hb.lt; omega), Nat.zero_le _, fun t h3 => ?_⟩
      have h4 : (cu.toList.take ((x.len + 40) * 1))[t]? = some (mkv x.n) := by
        rw [ht', List.getElem?_replicate, if_pos h3]
      rw [List.getElem?_take_of_lt (by omega), Array.getElem?_toList] at h4
      exact h4
  have hmark : ∀ g, x.g = some g → Marked w2 g x.len x.cap x.n := fun g e => by
    rcases hs with ⟨g', hg, _, _, hmk⟩ | ⟨_, hmk⟩
    · rw [hg] at e
      cases e
      exact hmk.less (by omega)
    · exact hmk g e
  refine ⟨l.set j { y with long := v }, (h.blk.mod hm2 (fun e => (hgne j x k hx e).1 rfl)).far (fun e => hgk e.symm) _, ?_, by rw [List.length_set]; exact h.len, fun i z hz => ?_, fun i z g hz e => ?_, ?_⟩
  · rw [List.length_set, hset]
    refine ⟨by rw [List.length_set]; exact h.own.1, .inr ⟨gv, c, _, ev, Nat.zero_le _, hbs2, hlc, hcm, by rw [Array.size_setIfInBounds]; exact hcs, ?_⟩⟩
    rw [Array.toList_setIfInBounds, ← ht, List.take_set]
  · by_cases e : i = j
    · subst e
      rw [hx] at hz
      cases hz
      exact ⟨{ y with long := v }, by rw [List.getElem?_set_self hjl], hyx.1, hyx.2.1, hyx.2.2.1, hyx.2.2.2, fun h5 => by omega, fun _ => hlong⟩
    · obtain ⟨y', h1, h2, h3, h4, h5, h6, h7⟩ := h.same i z hz
      refine ⟨y', by rw [List.getElem?_set_ne (Ne.symm e)]; exact h1, h2, h3, h4, h5, fun h8 => h6 (by omega), fun h8 => ((h7 (by omega)).mod hm2 (fun g h9 e2 => ?_)).mod hmc (fun g h9 e2 => ?_)⟩
      · rcases h9 with h9 | h9
        · exact h0.apart hz hx e (h2 ▸ h9) e2
        · obtain ⟨cu, hbk, _⟩ := (h0.ok x (List.mem_of_getElem? hx)).blk g e2
          have := hbk.lt
          omega
      · have e2 : g = gv := e2
        rcases h9 with h9 | h9
        · exact (hgne i z g hz (h2 ▸ h9)).2 e2
        · have := (h0.own.lt gv hvo).2
          omega
  · have hne := hgne i z g hz e
    by_cases e2 : i = j
    · subst e2
      rw [hx] at hz
      cases hz
      exact (hmark g e).mod hmc (fun e3 => hne.2 e3)
    · exact ((h.marked i z g hz e).mod hm2 (fun e3 => h0.apart hz hx e2 e e3)).mod hmc (fun e3 => hne.2 e3)
  · exact (h.mod.trans (hmod (BS k B) (fun g e => HB.in hx e))).setCell (p := ⟨gv, j * 3 + 1, none⟩) (.inl (.inr (.inl hvo))) _
theorem GrowSt.start (h : FillSt w k B B.l.length w') : GrowSt w k B 0 w' B.l :=
  ⟨h.rep.blk, h.rep.own, rfl, fun i x hx => ⟨x, hx, rfl, rfl, rfl, rfl, fun _ => (h.rep.num x (List.mem_of_getElem? hx)).2, fun h => by omega⟩, fun i x g hx e => h.done i x g (List.getElem?_eq_some_iff.1 hx).1 hx e, h.mod⟩
set_option maxHeartbeats 2000000 in
set_option maxRecDepth 100000 in
theorem grow_byte {w0 : World} (h00 : BookRep w0 k B) (h0 : FillSt w0 k B B.l.length w) (hn : B.n ≤ 100000) : Calls Tryz.prog 77 #[.pointer (some ⟨k, 0, none⟩)] w fun e w' => e = .returned (.tuple #[]) ∧ ∃ l, GrowSt w0 k B B.l.length w' l := by
  have hlb := h00.len
  have HF := Lib.hid (GrowSt.start h0)
  have H00 := Lib.hid h00
  clear h0 h00
  go_enter Tryz.func77, Tryz.ntmps77
  go_wp2
  go_loopw [2] (fun i wr => ∃ (j : Nat) (l : List HB), j ≤ B.l.length ∧ i = .int .i64 j ∧ GrowSt w0 k B j wr l) (fun i _ => B.l.length - (intOf i).toNat)
  case atStart => exact ⟨0, _, Nat.zero_le _, rfl, HF.out⟩
  case round =>
    obtain ⟨j, l, hj, rfl, hst⟩ := hrel
    have hlen := hst.len
    have HLE := Lib.hid hlen
    have hlen2 : l.length ≤ B.l.length := by omega
    have hlen3 : B.l.length ≤ l.length := by omega
    clear hlen
    by_cases hlt : j < B.l.length
    · obtain ⟨gv, cv, cur, ev, hbv, hcm, hlc, hcs, ht, hit⟩ := hst.items (by omega)
      have c := hst.blk.cell
      unfold bkc at c
      rw [ev] at c
      obtain ⟨x, hx⟩ : ∃ x, B.l[j]? = some x := ⟨_, List.getElem?_eq_getElem hlt⟩
      obtain ⟨y, hy, y1, y2, y3, y4, y5, _⟩ := hst.same j x hx
      obtain ⟨k0, k1, k2⟩ := hit j y hy
      rw [y5 (Nat.le_refl _)] at k1
      rw [y2, y3] at k0
      have hya : y.a = x.a := by unfold HB.a; rw [y1]
      rw [hya] at k0
      rw [y4] at k2
      have hmk : ∀ g, x.g = some g → Marked wr g x.len x.cap x.n := fun g e => hst.marked j x g hx e
      have hx0 := H00.out.ok x (List.mem_of_getElem? hx)
      have hxn := (H00.out.num x (List.mem_of_getElem? hx)).1
      have hokr : HbOk wr x := ⟨fun g e => by obtain ⟨cu, h1, h2, _⟩ := hmk g e; exact ⟨cu, h1, h2⟩, hx0.none, hx0.le, hx0.max⟩
      have hle := hx0.le
      have hmax := hx0.max
      have cb := hbv.cell
      have c0 : wr.cell? ⟨gv, j * 3, none⟩ = some (.slice x.a x.len x.cap) := (cb _).trans k0
      have c1 : wr.cell? ⟨gv, j * 3 + 1, none⟩ = some (.slice none 0 0) := (cb _).trans k1
      have c2 : wr.cell? ⟨gv, j * 3 + 2, none⟩ = some (.int .i64 x.n) := (cb _).trans k2
      obtain ⟨A, hA⟩ : ∃ A, A = x.a := ⟨_, rfl⟩
      rw [← hA] at c0
      have hcv : cv ≤ 9223372036854775807 := hcm
      have hjl : j < l.length := by omega
      have HA := Lib.hid hA
      have HST := Lib.hid hst
      have HX := Lib.hid hx
      have HY := Lib.hid hy
      have HYX := Lib.hid (And.intro y1 (And.intro y2 (And.intro y3 y4)))
      have HEV := Lib.hid ev
      have HBV := Lib.hid hbv
      have HCS := Lib.hid hcs
      have HTT := Lib.hid ht
      have HOK := Lib.hid hokr
      have HMK := Lib.hid hmk
      have hlc2 := hlc
      clear hst hit hx hy y1 y2 y3 y4 y5 k0 k1 k2 hya ev hbv hcs ht hokr hmk hA cb hx0
      go_wp2
      have HH1 := Lib.hid (Blk.new wr 128 #[.slice A x.len x.cap, .slice none 0 0, .int .i64 x.n])
      have HM1 : Hid (Mod Non wr (wr.alloc (.cells #[.slice A x.len x.cap, .slice none 0 0, .int .i64 x.n] 128))) := Lib.hid ((Mod.refl _ _).alloc _)
      generalize wr.alloc (.cells #[.slice A x.len x.cap, .slice none 0 0, .int .i64 x.n] 128) = w1 at *
      generalize hhB : wr.heap.size = hB at *
      clear c c0 c1 c2
      obtain ⟨m, hm⟩ : ∃ m : Int, mkv x.n = .int .u8 m := ⟨_, rfl⟩
      have HMo : ∀ W, Hid (Calls Tryz.prog 129 #[.int .i64 x.n] W fun e w' => e = .returned (.int .u8 m) ∧ W = w') := fun W => Lib.hid (by rw [← hm]; exact mark_ok x.n (by omega) W)
      have HMv := Lib.hid hm
      clear hm
      have HG0 : Hid (GrowIn w1 x 0 w1 (.slice A x.len x.cap)) := by
        refine Lib.hid ⟨?_, fun S _ => Mod.refl _ _⟩
        cases hg : x.g with
        | none =>
          have h5 := HOK.out.none hg
          refine .inr ⟨?_, fun g e => by cases e⟩
          rw [HA.out]
          unfold HB.a
          rw [hg, h5.1, h5.2]
          exact World.ownsRow_nil _ _ _ _
        | some g =>
          refine .inl ⟨g, rfl, ?_, HOK.out.le, (HMK.out g hg).mod HM1.out (fun x => x)⟩
          rw [HA.out]
          unfold HB.a
          rw [hg]
          rfl
      have HOK1 := Lib.hid (HOK.out.mod HM1.out (fun _ _ x => x))
      have HXB : Hid (∀ g, x.g = some g → g ≠ hB) := Lib.hid fun g e => by
        obtain ⟨cu, h1, _⟩ := HOK1.out.blk g e
        exact h1.ne HH1.out (by decide)
      go_loopw [4, 5] (fun s4 t w2 => ∃ (q : Nat) (v : Value), v = s4 ∧ q ≤ 40 ∧ t = .int .i64 q ∧ GrowIn w1 x q w2 v) (fun _ t _ => 40 - (intOf t).toNat)
      case atStart => exact ⟨0, _, rfl, by omega, rfl, HG0.out⟩
      case round =>
        obtain ⟨q, v, rfl, hq, rfl, hgi⟩ := hrel
        have hh2 := HH1.out.mod (hgi.2 (fun b => x.g = some b) (fun g e => e)) (fun e => HXB.out hB e rfl)
        have ch := hh2.cell
        by_cases hq40 : q < 40
        · obtain ⟨v', w4, hrun, hgi'⟩ := grow_step HMv.out hgi HOK1.out hq40
          have HG' := Lib.hid hgi'
          clear hgi hgi' hh2
          go_wp2_with (first
            | (go_at_call 129; refine (HMo _).out.mono ?_; rintro e w5 ⟨rfl, rfl⟩)
            | (at_builtin; refine wpl_append_run rfl (.tmp 28) (.tmp 32) _ rfl rfl rfl hrun ?_))
          go_roundw
          case rel => exact ⟨q + 1, _, rfl, by omega, by go_num, HG'.out⟩
          case measure => simp [intOf]; omega
        · obtain rfl : q = 40 := by omega
          clear hq40 hh2 ch
          have HGI := Lib.hid (hgi.base HM1.out)
          have hm12 := HGI.out.2 (fun b => x.g = some b) (fun g e => e)
          have hvf : ∃ Av nv cvv, v = .slice Av nv cvv := by
            rcases hgi.1 with ⟨g, _, e, _⟩ | ⟨ho, _⟩
            · exact ⟨_, _, _, e⟩
            · obtain ⟨Av, cvv, e, _⟩ := owns_form ho
              exact ⟨_, _, _, e⟩
          obtain ⟨Av, nv, cvv, rfl⟩ := hvf
          have hvo : B.v.ownBlock = some gv := by rw [HEV.out]; rfl
          have hb2 := HBV.out.mod hm12 (fun e => (H00.out.ne HX.out e).2 hvo)
          have hk2 := HST.out.blk.mod hm12 (fun e => (H00.out.ne HX.out e).1 rfl)
          have c2 := hk2.cell
          unfold bkc at c2
          rw [HEV.out] at c2
          have cg := (hb2.cell (j * 3 + 1)).trans (Array.getElem?_eq_getElem (by have := HCS.out; omega))
          have fg := hb2.frozen (j * 3 + 1)
          have HFIN := Lib.hid (GrowSt.next H00.out HST.out HX.out HY.out HYX.out HEV.out HBV.out hcm hlc2 HCS.out HTT.out HGI.out)
          clear hgi hm12 hvo hb2 hk2
          go_wp2
          go_roundw
          case rel =>
            obtain ⟨l', hl'⟩ := HFIN.out
            exact ⟨j + 1, l', by omega, by go_num, hl'⟩
          case measure => simp [intOf]; omega
    · obtain rfl : j = B.l.length := by omega
      clear hlt
      have c := hst.blk.cell
      unfold bkc at c
      obtain ⟨Av, cv, ev, _, _, _⟩ := owns_form hst.own
      rw [ev] at c
      have HST := Lib.hid hst
      clear ev hst
      go_wp2
      go_end0
      exact ⟨rfl, l, HST.out⟩
end
end Go.Proofs.YtgillcppnpkkiaaGreatDoor
