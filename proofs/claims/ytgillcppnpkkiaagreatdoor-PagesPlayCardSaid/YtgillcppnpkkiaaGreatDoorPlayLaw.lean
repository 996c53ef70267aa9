/- PagesPlay: the walk. -/
import Derived.Test.YtgillcppnpkkiaaGreatDoorPlayOps
import Derived.Test.YtgillcppnpkkiaaGreatDoorActs
import Derived.Test.YtgillcppnpkkiaaGreatDoorLives
import Derived.Deep.CutBlock
import Derived.Deep.RegionWith
namespace Go.Proofs.YtgillcppnpkkiaaGreatDoor
open Go Go.RowKit
section
variable {w : World}
/-- What holds ahead of act i. -/
structure Sta (w : World) (k i : Nat) (d p m : Nat) (G : Pg) (D : Dk) (R : Rf) (B : Bk) (wr : World) : Prop where
  core : Core w Non wr d p m k G D R B
  inv : Inv i G D R
  bn : B.n ≤ i
theorem wpp_readG {P : Program} {ops : Array Oper} {I : World → Prop} {Q : Exit → Act → World → Prop} {a : Act} {rest : List (Nat × Bool)} {i : Nat} {o : Oper} (v : Value) (hi : ops[i]? = some o) (hw : Region.wanted o (yielded ops a.tmps) = true) (hr : ∀ W, I W → (execOp a.eval o).run P W = .ok (.value v) W) (h : wpPlan P ops I Q rest (a.put o.dst v) w) : wpPlan P ops I Q ((i, false) :: rest) a w :=
  ⟨o, v, hi, .inl ⟨hw, hr⟩, h⟩
theorem wpp_actG {P : Program} {ops : Array Oper} {I : World → Prop} {Q : Exit → Act → World → Prop} {a : Act} {rest : List (Nat × Bool)} {i : Nat} {o : Oper} (hi : ops[i]? = some o) (hw : Region.wanted o (yielded ops a.tmps) = true) (h : o.wp P a w (fun a' w' => I w' ∧ wpPlan P ops I Q rest a' w') Q) : wpPlan P ops I Q ((i, true) :: rest) a w := by
  show wpOp P ops Q i _ a w
  unfold wpOp
  simp only [hi]
  rw [if_pos hw]
  exact .inl h
def PlayAt (w : World) (k i : Nat) (vd vp ve vm : Value) (wr : World) : Prop :=
  ∃ (d p m : Nat) (G : Pg) (D : Dk) (R : Rf) (B : Bk), vd = .pointer (some ⟨d, 0, none⟩) ∧ vp = .pointer (some ⟨p, 0, none⟩) ∧ ve = .int .i64 0 ∧ vm = .pointer (some ⟨m, 0, none⟩) ∧ Sta w k i d p m G D R B wr
theorem PlayAt.mk {k i d p m : Nat} {G : Pg} {D : Dk} {R : Rf} {B : Bk} {wr : World} {X : Nat → Prop} (hc : Core w X wr d p m k G D R B) (hi : Inv i G D R) (hb : B.n ≤ i) : PlayAt w k i (.pointer (some ⟨d, 0, none⟩)) (.pointer (some ⟨p, 0, none⟩)) (.int .i64 0) (.pointer (some ⟨m, 0, none⟩)) wr :=
  ⟨d, p, m, G, D, R, B, rfl, rfl, rfl, rfl, hc.drop, hi, hb⟩
def Bk.new : Bk := ⟨0, .slice none 0 0, []⟩
theorem bs_new {k b : Nat} (h : BS k .new b) : b = k := by
  rcases h with h | h | ⟨x, hx, _⟩
  · exact h
  · cases h
  · cases hx
theorem rs_new {m b : Nat} (h : RS m .new b) : b = m := by
  rcases h with h | ⟨_, e, _⟩ | ⟨_, e, _⟩ | ⟨x, hx | hx, _⟩
  · exact h
  · cases e
  · cases e
  · cases hx
  · cases hx
theorem book_new {w5 : World} {k : Nat} (hb : Blk w5 k 54 (bkc 0 (.slice none 0 0))) : BookRep w5 k .new :=
  ⟨hb, World.ownsRow_nil _ _ _ _, fun x hx => (by cases hx), .nil, Nat.le_refl _, fun x hx => (by cases hx)⟩
def Opened1 (w2 w3 : World) (d p f : Nat) (G : Pg) (D : Dk) : Prop :=
  PagRep w3 p G ∧ DiskRep w3 G.d D ∧ OneFile D f b00 ∧ G.d = d ∧ G.root = 0 ∧ G.was = 0 ∧ (G.now = fun _ => none) ∧ (G.kept = fun _ => none) ∧ (∀ n, G.dirty n = false) ∧
    G.size = b00.length ∧ G.root < 4294967296 ∧ Few G.now ∧ Apart p G D ∧ (∀ b, PS p G b → w2.heap.size ≤ b) ∧ (∀ b, DS d D b → DS d (Dk.new 4194304) b ∨ w2.heap.size ≤ b) ∧ Mod (DS d (Dk.new 4194304)) w2 w3
theorem sta_start {w2 w3 w4 w5 : World} {d p m k f : Nat} {G : Pg} {D : Dk} (hd : w.heap.size ≤ d) (hd2 : d < w2.heap.size) (hm2 : Mod Non w w2) (hx : Opened1 w2 w3 d p f G D) (hm : w3.heap.size ≤ m) (hr : RefRep w4 m .new) (hm4 : Mod Non w3 w4) (hm5 : Mod Non w4 w5) (hk : w4.heap.size ≤ k) (hb : Blk w5 k 54 (bkc 0 (.slice none 0 0))) :
    Sta w k 0 d p m G D .new .new w5 := by
  obtain ⟨g1, g2, g3, rfl, g5, g6, g7, g8, g9, g10, _, _, g13, g14, g15, g16⟩ := hx
  have hm35 := hm4.trans hm5
  have hD : ∀ b, DS G.d D b → w.heap.size ≤ b := fun b hb => (g15 b hb).elim (fun e => by have := new_DS e; omega) (fun e => by have := hm2.size; omega)
  have s1 := hm2.size
  have s2 := g16.size
  have s3 := hm4.size
  have s4 := hr.blk.lt
  have hPl : ∀ b, PS p G b → b < w3.heap.size := fun b hb => g1.lt hb
  have hDl : ∀ b, DS G.d D b → b < w3.heap.size := fun b hb => g2.lt hb
  have e0 : Mod Non w w3 := hm2.andThen g16 (fun b hb hlt => by have := new_DS hb; omega)
  exact ⟨{
    pag := g1.non hm35
    disk := g2.non hm35
    gd := rfl
    ref := hr.non hm5
    book := book_new hb
    pd := g13
    pr := fun b hb hr => by have := rs_new hr; have := hPl b hb; omega
    pb := fun b hb hr => by have := bs_new hr; have := hPl b hb; omega
    px := fun _ _ x => x
    dr := fun b hb hr => by have := rs_new hr; have := hDl b hb; omega
    db := fun b hb hr => by have := bs_new hr; have := hDl b hb; omega
    dx := fun _ _ x => x
    rb := fun b hb hr => by have := rs_new hb; have := bs_new hr; omega
    rx := fun _ _ x => x
    bx := fun _ _ x => x
    newP := fun b hb => by have := g14 b hb; omega
    newD := hD
    newR := fun b hb => by have := rs_new hb; omega
    newB := fun b hb => by have := bs_new hb; omega
    xlt := fun _ x => x.elim
    newX := fun _ x => x.elim
    mod := e0.trans hm35 }, Inv.start g3 g5 g6 g7 g8 g9 g10, Nat.le_refl _⟩
set_option maxHeartbeats 4000000 in
set_option maxRecDepth 100000 in
theorem play_ok {A : Option Addr} {c : Nat} {l : List AX} (h : RowsA w A l) (hl : l.length ≤ maxLen) :
    Calls Tryz.prog 3 #[.slice A l.length c] w fun e w' => e = .returned (.bool true) ∧ Mod Non w w' := by
  have hl' : l.length ≤ 9223372036854775807 := hl
  have HG := Lib.hid (great_ok (c := c) h hl)
  have HA := Lib.hid h
  clear h
  go_enter Tryz.func3, Tryz.ntmps3
  go_wp2_with (go_at_call 4; refine HG.out.mono ?_; rintro e w1 ⟨⟨r, rfl, hr⟩, rfl⟩)
  · clear hr
    go_simp
    refine (lives_ok _).mono ?_
    rintro e w2 ⟨rfl, hm2⟩
    go_wp2
    go_ret
    exact ⟨rfl, hm2⟩
  · have HL := Lib.hid (hr ‹r = false›)
    clear hr
    go_simp
    refine (disk_new _ 4194304 (by decide) (by decide)).mono ?_
    rintro e w2 ⟨d0, rfl, hd2, hdr, hm2⟩
    have HDR := Lib.hid hdr
    have HM2 := Lib.hid hm2
    have HD2 := Lib.hid hd2
    clear hdr hm2 hd2
    go_wp2_with (first
      | (go_at_call 7; refine (open_first HDR.out).mono ?_; rintro e w3 ⟨p0, G0, D0, f0, rfl, hop⟩
         have HOP : Hid (Opened1 w2 w3 d0 p0 f0 G0 D0) := Lib.hid hop
         clear hop)
      | (go_at_call 8; refine (ref_new _).mono ?_; rintro e w4 ⟨m0, rfl, hm4, hrr, hmod4⟩))
    have HS0 := Lib.hid (sta_start HD2.out HDR.out.blk.lt HM2.out HOP.out hm4 hrr hmod4 ((Mod.refl _ _).alloc _) (Nat.le_refl _) (Blk.new w4 54 (bkc 0 (.slice none 0 0))))
    unfold bkc at HS0
    generalize w4.alloc (.cells #[.int .i64 0, .slice none 0 0, .slice none 0 0, .slice none 0 0, .slice none 0 0, .slice none 0 0, .slice none 0 0, .slice none 0 0, .slice none 0 0, .slice none 0 0, .slice none 0 0, .slice none 0 0, .slice none 0 0, .slice none 0 0, .slice none 0 0, .slice none 0 0, .slice none 0 0, .slice none 0 0, .slice none 0 0, .slice none 0 0] 54) = w5 at *
    generalize w4.heap.size = k at *
    clear hm4 hrr hmod4
    have HP0 := Lib.hid (show PlayAt w k 0 _ _ _ _ _ from ⟨d0, p0, m0, G0, D0, _, _, rfl, rfl, rfl, rfl, HS0.out⟩)
    clear HS0 HD2 HDR HM2 HOP
    go_loopw [3, 5, 6, 7, 9] (fun vd vp ve vm vi wr => ∃ i : Nat, i ≤ l.length ∧ vi = .int .i64 i ∧ PlayAt w k i vd vp ve vm wr) (fun _ _ _ _ vi _ => l.length - (intOf vi).toNat)
    case atStart => exact ⟨0, Nat.zero_le _, rfl, HP0.out⟩
    case round =>
      obtain ⟨i, hi, rfl, d, p, m, G, D, R, B, rfl, rfl, rfl, rfl, hst⟩ := hrel
      have h300 := HL.out.1
      by_cases hlt : i < l.length
      · obtain ⟨x, hx⟩ : ∃ x, l[i]? = some x := ⟨_, List.getElem?_eq_getElem hlt⟩
        obtain ⟨ad, rfl, c0, c1, c2, c3, c4, hok⟩ := (HA.out.non hst.core.mod) i x hx
        have hxb := HL.out.2 x (List.mem_of_getElem? hx)
        have HINV := Lib.hid hst.inv
        have hbn := hst.bn
        have HST := Lib.hid hst
        have hrow := Lib.hid hok.row
        have hok0 : AxOk w x := by obtain ⟨_, _, _, _, _, _, _, h⟩ := HA.out i x hx; exact h
        have HRX := Lib.hid hok0.row
        have hxn := hok.n
        rw [← add_of_add] at c1 c2 c3 c4
        have e1 : wr.cell? ⟨(ad.add (i * 5)).block, (ad.add (i * 5)).off + 1, none⟩ = some (.int .u32 x.n) := c1
        have e2 : wr.cell? ⟨(ad.add (i * 5)).block, (ad.add (i * 5)).off + 2, none⟩ = some (.slice x.A x.b.length x.c) := c2
        have e3 : wr.cell? ⟨(ad.add (i * 5)).block, (ad.add (i * 5)).off + 3, none⟩ = some (.int .i64 x.keep) := c3
        have e4 : wr.cell? ⟨(ad.add (i * 5)).block, (ad.add (i * 5)).off + 4, none⟩ = some (.bool x.names) := c4
        clear hx hok hok0 hst c1 c2 c3 c4
        go_upto_block 2 with fail
        have hma : Mod Non wr (wr.alloc (.cells #[.int .u8 x.kind, .int .u32 x.n, .slice x.A x.b.length x.c, .int .i64 x.keep, .bool x.names] 58)) := (Mod.refl _ _).alloc _
        have hxb1 := Blk.new wr 58 #[.int .u8 x.kind, .int .u32 x.n, .slice x.A x.b.length x.c, .int .i64 x.keep, .bool x.names]
        have HC := Lib.hid (HST.out.core.take hma (Nat.le_refl _) hxb1.lt)
        have HB := Lib.hid hxb1
        have cx := hxb1.cell
        have HRW := Lib.hid (hrow.out.non (by decide) hma)
        clear hma hxb1 e1 e2 e3 e4 c0 hrow HST
        generalize wr.alloc (.cells #[.int .u8 x.kind, .int .u32 x.n, .slice x.A x.b.length x.c, .int .i64 x.keep, .bool x.names] 58) = w1 at *
        generalize wr.heap.size = xb at *
        go_cut [3, 5, 6, 7] from 44 to 234 (fun vd vp ve vm wc => PlayAt w k (i + 1) vd vp ve vm wc)
        case first =>
          go_wp2_with fail
          · as_aux_lemma =>
              obtain ⟨L, hL, hlow, hnext, hlowG, hnone⟩ := HINV.out.sameN.least
              have hRn := HINV.out.lenN
              have hL4 : L < 4000 := by omega
              refine (c_new HC.out hL4 hlowG hnone).mono ?_
              rintro e w2 ⟨rfl, hc2, _⟩
              have HR2 := Lib.hid (c_newpage hc2 (by omega) hL hlow hnext (fun y hy => by have := HINV.out.sameN.range y hy; omega))
              have HI2 : Hid (∀ A c ad, Inv (i + 1) (G.newed (L + 1)) D (R.cut A c (R.now.take L ++ ⟨L + 1, ad, zero256⟩ :: R.now.drop L))) := Lib.hid (fun A c ad => HINV.out.new hL hL4 hlow hnone A c ad)
              clear hc2 hlow hnext hlowG hnone cx
              go_wp2_with (go_at_call 10; refine HR2.out.mono ?_; rintro e w3 ⟨rfl, ⟨A3, c3, ad3, hc3⟩, _⟩; have HC3 := Lib.hid hc3; clear hc3)
              go_meet
              case rel => exact PlayAt.mk HC3.out (HI2.out A3 c3 ad3) (by omega)
          · as_aux_lemma =>
              clear cx
              refine wp_plan [(0, false), (1, false), (2, false), (4, false), (5, false), (6, false), (3, true), (7, true), (8, false)] (Off (With Non xb)) (by kernel_rfl) (by kernel_rfl) (fun c d v a w h => by cases d <;> exact h) (fun w2 hm2 => ?_)
              have hcW : ∀ W, Mod (Off (With Non xb)) w2 W → Hid (∀ i, W.cell? ⟨xb, i, none⟩ = #[Value.int .u8 x.kind, .int .u32 x.n, .slice x.A x.b.length x.c, .int .i64 x.keep, .bool x.names][i]?) := fun W hW => Lib.hid ((HB.out.mod hm2 (fun h => h)).mod hW (fun h => h (.inr rfl))).cell
              iterate 6
                refine wpp_read _ rfl rfl (fun W hW => by have cW := (hcW W hW).out; first | (go_simp; done) | (go_simp; rfl) | rfl) ?_
                try simp only [List.getElem_toArray, List.getElem_cons_succ, List.getElem_cons_zero]
                try go_frame
              refine wpp_act rfl rfl ?_
              go_simp
              refine (c_free (HC.out.non hm2) x.n).mono ?_
              rintro e w3 ⟨rfl, hc3, hoff3⟩
              refine ⟨hoff3, ?_⟩
              refine wpp_act rfl rfl ?_
              go_simp
              refine (c_rfree hc3 HINV.out (by have := HINV.out.lenN; omega) x.n).mono ?_
              rintro e w4 ⟨rfl, ⟨A4, c4, hc4⟩, hoff4⟩
              refine ⟨hoff3.trans hoff4, ?_⟩
              refine wpp_read _ rfl rfl (fun W hW => by first | (go_simp; done) | (go_simp; rfl) | rfl) ?_
              try simp only [List.getElem_toArray, List.getElem_cons_succ, List.getElem_cons_zero]
              try go_frame
              refine wpp_nil ?_
              have HC4 := Lib.hid hc4
              clear hcW hc3 hc4 hoff3 hoff4 hm2
              go_wp2
              go_meet
              case rel => exact PlayAt.mk HC4.out ((HINV.out.freed x.n A4 c4).mono (Nat.le_succ i)) (by omega)
          · as_aux_lemma =>
              refine (c_commit HC.out HINV.out (by omega)).mono ?_
              rintro e w2 ⟨rfl, G2, D2, hc2, hi2⟩
              have HR2 := Lib.hid (c_rcommit hc2)
              have HI2 := Lib.hid (hi2.mono (Nat.le_succ i))
              clear hc2 hi2 cx
              go_wp2_with (go_at_call 14; refine HR2.out.mono ?_; rintro e w3 ⟨rfl, hc3⟩; have HC3 := Lib.hid hc3; clear hc3)
              go_meet
              case rel => exact PlayAt.mk HC3.out HI2.out (by omega)
          · as_aux_lemma =>
              refine (c_undo HC.out).mono ?_
              rintro e w2 ⟨rfl, hc2⟩
              have HR2 := Lib.hid (c_rundo hc2)
              have HI2 := Lib.hid (HINV.out.undo.mono (Nat.le_succ i))
              clear hc2 cx
              go_wp2_with (go_at_call 16; refine HR2.out.mono ?_; rintro e w3 ⟨rfl, hc3⟩; have HC3 := Lib.hid hc3; clear hc3)
              go_meet
              case rel => exact PlayAt.mk HC3.out HI2.out (by omega)
          · as_aux_lemma =>
              refine (c_setroot HC.out x.n).mono ?_
              rintro e w2 ⟨rfl, hc2, hoff⟩
              have HR2 := Lib.hid (c_rsetroot hc2 x.n)
              have HI2 := Lib.hid ((HINV.out.setRoot hxn).mono (Nat.le_succ i))
              have cx2 := (HB.out.mod hoff (fun h => h (.inr rfl))).cell
              clear hc2 hoff cx
              go_wp2_with (go_at_call 18; refine HR2.out.mono ?_; rintro e w3 ⟨rfl, hc3⟩; have HC3 := Lib.hid hc3; clear hc3)
              go_meet
              case rel => exact PlayAt.mk HC3.out HI2.out (by omega)
          · as_aux_lemma =>
              refine (c_get HC.out x.n).mono ?_
              rintro e w2 ⟨g2, A2, cap2, rfl, hheld, hm2⟩
              have hc2 := HC.out.takes hm2 hheld.new
              have HR2 := Lib.hid (c_rget hc2 HINV.out x.n)
              have HC2 := Lib.hid hc2
              have HH2 := Lib.hid hheld
              have cx2 := (HB.out.mod hm2 (fun h => h)).cell
              clear hc2 hheld hm2 cx
              go_wp2_with (first
                | (go_at_call 20; refine HR2.out.mono ?_; rintro e w3 ⟨rfl, A3, rfl, hrow3⟩; have HS3 := Lib.hid (fun c1 c2 => c_samebytes (c1 := c1) (c2 := c2) HH2.out.row hrow3 HH2.out.le); clear hrow3)
                | (go_at_call 21; refine (HS3.out _ _).mono ?_; rintro e w4 ⟨rfl, hm4⟩
                   have HB4 := Lib.hid (c_book (HC2.out.non hm4) (by omega) (HH2.out.ok.mod hm4 (fun _ _ x => x)) HH2.out.a (fun b e => .inr e)); clear hm4)
                | (go_at_call 22; refine HB4.out.mono ?_; rintro e w5 ⟨rfl, v5, hc5⟩; have HC5 := Lib.hid hc5; clear hc5))
              go_meet
              case rel => exact PlayAt.mk HC5.out (HINV.out.mono (Nat.le_succ i)) (by show B.n + 1 ≤ i + 1; omega)
          · as_aux_lemma =>
              obtain ⟨f2, b2, hof2, hp2, _⟩ := HINV.out.file
              obtain ⟨kp, hkp⟩ : ∃ kp : Nat, max 0 x.keep = (kp : Int) := ⟨(max 0 x.keep).toNat, by omega⟩
              rw [hkp]
              refine (c_fail HC.out hof2 kp x.names).mono ?_
              rintro e w2 ⟨x2, E2, g2, rfl, hE, _, hDS, hof, hm2⟩
              have HR2 := Lib.hid (c_open HC.out HINV.out hp2 hE hDS hof hm2)
              clear hof2 hp2 hkp hE hDS hof hm2 cx
              go_wp2_with (first
                | (go_at_call 7; refine HR2.out.mono ?_; rintro e w3 ⟨p3, G3, D3, rfl, hc3, hi3⟩
                   have HR3 := Lib.hid (c_again hc3)
                   have HI3 := Lib.hid (hi3.mono (Nat.le_succ i))
                   clear hc3 hi3)
                | (go_at_call 24; refine HR3.out.mono ?_; rintro e w4 ⟨m4, rfl, hc4⟩; have HC4 := Lib.hid hc4; clear hc4))
              go_meet
              case rel => exact PlayAt.mk HC4.out HI3.out (by omega)
          · as_aux_lemma =>
              refine (twin_ok HRW.out (by omega)).mono ?_
              rintro e w2 ⟨g2, cp2, rfl, hg2, ht2, hm2⟩
              obtain ⟨cur2, hbk2, _⟩ := ht2.own
              have HC2 := Lib.hid (HC.out.take hm2 hg2 hbk2.lt)
              have HT2 := Lib.hid ht2
              have HB2 := Lib.hid (HB.out.mod hm2 (fun h => h))
              clear hg2 ht2 hm2 hbk2 cx
              go_wp2
              refine wp_plan [(0, false), (1, false), (2, false), (3, false), (5, false), (6, false), (7, false), (8, false), (9, false), (4, true), (10, true), (11, false), (12, false), (13, false), (14, false), (15, false), (16, true), (17, false), (18, false)] (Off (With (With Non xb) g2)) (by kernel_rfl) (by kernel_rfl) (fun c d v a w h => by cases d <;> exact h) (fun w3 hm3 => ?_)
              have hcW : ∀ W, Mod (Off (With (With Non xb) g2)) w3 W → Hid (∀ i, W.cell? ⟨xb, i, none⟩ = #[Value.int .u8 x.kind, .int .u32 x.n, .slice x.A x.b.length x.c, .int .i64 x.keep, .bool x.names][i]?) := fun W hW => Lib.hid ((HB2.out.mod hm3 (fun h => h)).mod hW (fun h => h (.inl (.inr rfl)))).cell
              iterate 9
                refine wpp_read _ rfl rfl (fun W hW => by have cW := (hcW W hW).out; first | (go_simp; done) | (go_simp; rfl) | rfl) ?_
                try simp only [List.getElem_toArray, List.getElem_cons_succ, List.getElem_cons_zero]
                try go_frame
              refine wpp_act rfl rfl ?_
              go_simp
              refine (c_put (HC2.out.non hm3) (HT2.out.mod hm3 (fun h => h)) x.n).mono ?_
              rintro e w4 ⟨rfl, hc4, hoff4⟩
              refine ⟨hoff4, ?_⟩
              refine wpp_act rfl rfl ?_
              go_simp
              refine (c_rput hc4 HINV.out (HRX.out.non (by decide) hc4.mod) (by have := HINV.out.lenN; omega) x.n).mono ?_
              rintro e w5 ⟨rfl, ⟨A5, c5, ad5, hc5⟩, hoff5⟩
              have hoff := hoff4.trans hoff5
              refine ⟨hoff, ?_⟩
              try simp only [List.getElem_toArray, List.getElem_cons_succ, List.getElem_cons_zero]
              try go_frame
              iterate 2
                refine wpp_read _ rfl rfl (fun W hW => by have cW := (hcW W hW).out; first | (go_simp; done) | (go_simp; rfl) | rfl) ?_
                try simp only [List.getElem_toArray, List.getElem_cons_succ, List.getElem_cons_zero]
                try go_frame
              iterate 3
                refine wpp_readG _ rfl rfl (fun W hW => by have cW := (hcW W hW).out; first | (go_simp; done) | (go_simp; rfl) | rfl) ?_
                try simp only [List.getElem_toArray, List.getElem_cons_succ, List.getElem_cons_zero]
                try go_frame
              have ht5 := (HT2.out.mod hm3 (fun h => h)).mod hoff (fun h => h (.inr rfl))
              refine wpp_actG rfl rfl ?_
              go_simp
              refine (left_bytes ht5 (HRX.out.non (by decide) hc5.mod) (by omega)).mono ?_
              rintro e w6 ⟨rfl, hm6⟩
              refine ⟨hoff.trans (hm6.mono (fun _ x => x.elim)), ?_⟩
              refine wpp_readG _ rfl rfl (fun W hW => by first | (go_simp; done) | (go_simp; rfl) | rfl) ?_
              try simp only [List.getElem_toArray, List.getElem_cons_succ, List.getElem_cons_zero]
              try go_frame
              refine wpp_read _ rfl rfl (fun W hW => by first | (go_simp; done) | (go_simp; rfl) | rfl) ?_
              try simp only [List.getElem_toArray, List.getElem_cons_succ, List.getElem_cons_zero]
              try go_frame
              refine wpp_nil ?_
              have HB6 := Lib.hid (c_book (hc5.non hm6) (by omega) ((ht5.mod hm6 (fun h => h)).hb (by omega)) rfl (fun b e => .inr (by cases e; rfl)))
              clear hcW hc4 hc5 hoff4 hoff5 hoff hm3 ht5 hm6
              go_wp2_with (go_at_call 22; refine HB6.out.mono ?_; rintro e w7 ⟨rfl, v7, hc7⟩; have HC7 := Lib.hid hc7; clear hc7)
              go_meet
              case rel => exact PlayAt.mk HC7.out ((HINV.out.putN x.n x.b A5 c5 ad5).mono (Nat.le_succ i)) (by show B.n + 1 ≤ i + 1; omega)
        case rest =>
          as_aux_lemma =>
            clear HC HB cx HRW HRX HINV hbn
            obtain ⟨d, p, m, G, D, R, B, rfl, rfl, rfl, rfl, hst⟩ := hcut
            have hln := hst.inv.lenN
            have hun := hst.inv.sameN.used
            have HINV := Lib.hid hst.inv
            have HC := Lib.hid hst.core
            have HST := Lib.hid hst
            have HU := Lib.hid (ref_used hst.core.ref (by omega))
            clear hst
            go_wp2_with (first
              | (go_at_call 29; refine HU.out.mono ?_; rintro e w2 ⟨v2, rfl, ho2, hm2⟩
                 obtain ⟨A2, cp2, rfl, _, _, hr2, _⟩ := owns_form2 ho2
                 have HR2 := Lib.hid hr2
                 have HC2 := Lib.hid (HC.out.non hm2)
                 clear ho2 hr2 hm2)
              | (go_at_call 30; refine (used_ok HC2.out.pag).mono ?_; rintro e w3 ⟨A3, rfl, hr3, _, hm3⟩
                 rw [hun] at hr3 ⊢
                 have HR3 := Lib.hid hr3
                 have HR23 := Lib.hid (HR2.out.non (by decide) hm3)
                 have HC3 := Lib.hid (HC2.out.non hm3)
                 clear hr3 hm3)
              | (go_at_call 31; refine (root_ok HC3.out.pag).mono ?_; rintro e w4 ⟨rfl, rfl⟩)
              | (go_at_call 32; refine (ref_root HC3.out.ref).mono ?_; rintro e w5 ⟨rfl, rfl⟩
                 rw [HINV.out.root])
              | (go_at_call 33; refine (same32 HR3.out HR23.out (by unfold Rf.nums maxLen; rw [List.length_map]; omega)).mono ?_; rintro e w6 ⟨rfl, hm6⟩
                 have HR26 := Lib.hid (HR23.out.non (by decide) hm6)
                 have HC6 := Lib.hid (HC3.out.non hm6)
                 clear hm6))
            have hnl : R.nums.length ≤ 9223372036854775807 := by unfold Rf.nums; rw [List.length_map]; omega
            clear HR2 HR3 HR23 HC2 HC3 HU hun
            go_loopw [24] (fun v wr2 => ∃ j : Nat, j ≤ R.nums.length ∧ v = .int .i64 j ∧ Mod Non w6 wr2) (fun v _ => R.nums.length - (intOf v).toNat)
            case atStart => exact ⟨0, Nat.zero_le _, rfl, Mod.refl _ _⟩
            case round =>
              obtain ⟨j, hj, rfl, hmj⟩ := hrel
              have hcj := HC6.out.non hmj
              by_cases hjl : j < R.nums.length
              · obtain ⟨n, hn⟩ : ∃ n, R.nums[j]? = some n := ⟨_, List.getElem?_eq_getElem hjl⟩
                obtain ⟨ad2, rfl, hcell⟩ := (HR26.out.non (by decide) hmj).2 (by omega)
                have hg1 : (uv R.nums)[j]? = some (.int .u32 (n : Int)) := by simp [uv, hn]
                have c1 := hcell _ _ hg1
                have HCL : Hid (∀ W, Mod Non w6 W → W.cell? (ad2.add j) = some (.int .u32 (n : Int))) := Lib.hid (fun W hW => by
                  obtain ⟨ad3, e3, h3⟩ := (HR26.out.non (by decide) hW).2 (by omega)
                  cases e3
                  exact h3 _ _ hg1)
                have hcode := codeAt_used HINV.out hn
                have HCJ := Lib.hid hcj
                have HMJ := Lib.hid hmj
                have hG := Lib.hid (c_get hcj n)
                rw [hcode] at hG
                clear hcj hmj hcell hn hg1
                go_wp2_with (first
                  | (go_at_call 19; refine hG.out.mono ?_; rintro e w7 ⟨g7, A7, cap7, rfl, hheld, hm7⟩
                     have hr := c_rget (HCJ.out.non hm7) HINV.out n
                     rw [hcode] at hr
                     have HRG := Lib.hid hr
                     have HH7 := Lib.hid hheld
                     have HM7 := Lib.hid hm7
                     have c17 := HCL.out _ (HMJ.out.trans hm7)
                     clear hr hheld hm7 c1)
                  | (go_at_call 20; refine HRG.out.mono ?_; rintro e w8 ⟨rfl, A8, rfl, hrow8⟩
                     have HS8 := Lib.hid (fun c1 c2 => c_samebytes (c1 := c1) (c2 := c2) HH7.out.row hrow8 HH7.out.le)
                     clear hrow8)
                  | (go_at_call 21; refine (HS8.out _ _).mono ?_; rintro e w9 ⟨rfl, hm9⟩))
                have hmz := (HMJ.out.trans HM7.out).trans hm9
                go_roundw
                case rel => exact ⟨j + 1, by omega, by go_num, hmz⟩
                case measure => simp [intOf]; omega
              · obtain rfl : j = R.nums.length := by omega
                have HCJ := Lib.hid hcj
                clear hjl hcj hmj
                go_wp2
                go_roundw
                case rel => exact ⟨i + 1, by omega, by go_num, d, p, m, G, D, R, B, rfl, rfl, rfl, rfl, HCJ.out, HINV.out, HST.out.bn⟩
                case measure => simp [intOf]; omega
      · obtain rfl : i = l.length := by omega
        have HST := Lib.hid hst
        have hbn := hst.bn
        clear hst hlt
        go_wp2_with (first
          | (go_at_call 34; refine (book_apart HST.out.core.book (by omega)).mono ?_; rintro e w2 ⟨rfl, hm2⟩
             have HM2 := Lib.hid (HST.out.core.mod.andThen hm2 (fun b hb hlt => by have := HST.out.core.newB b hb; omega))
             clear hm2)
          | (go_at_call 5; refine (lives_ok _).mono ?_; rintro e w3 ⟨rfl, hm3⟩))
        go_ret
        exact ⟨rfl, HM2.out.trans hm3⟩
end
end Go.Proofs.YtgillcppnpkkiaaGreatDoor
