/- Open, of a disk that has the file p alone, whole: what was kept is there. -/
import Derived.Test.YtgillcppnpkkiaaGreatDoorCommitR
namespace Go.Proofs.YtgillcppnpkkiaaGreatDoor
open Go Go.RowKit
section
variable {w w' : World} {d : Nat} {D : Dk}
def OpenOne (w : World) (d : Nat) (D : Dk) (b0 : List UInt8) (r0 : Nat) (n0 : Nat → Option (List UInt8)) (e : Ending) (w' : World) : Prop :=
  ∃ p G D' f, e = .returned (.tuple #[.pointer (some ⟨p, 0, none⟩), .int .i64 0]) ∧ PagRep w' p G ∧ DiskRep w' G.d D' ∧ OneFile D' f b0 ∧ G.d = d ∧ G.root = r0 ∧ G.was = r0 ∧ G.now = n0 ∧ G.kept = n0 ∧ (∀ n, G.dirty n = false) ∧
    G.size = b0.length ∧ G.root < 4294967296 ∧ Few G.now ∧ Apart p G D' ∧ (∀ b, PS p G b → w.heap.size ≤ b) ∧ (∀ b, DS d D' b → DS d D b ∨ w.heap.size ≤ b) ∧ Mod (DS d D) w w'
set_option maxHeartbeats 4000000 in
set_option maxRecDepth 100000 in
theorem open_one (h : DiskRep w d D) {f : Nat} {b0 : List UInt8} {r0 : Nat} {n0 : Nat → Option (List UInt8)} (hof : OneFile D f b0) (hpw : parse b0 = .part r0 n0 true) :
    Calls Tryz.prog 7 #[.pointer (some ⟨d, 0, none⟩)] w fun e w' => OpenOne w d D b0 r0 n0 e w' := by
  have hl := hof.look
  have HOF := Lib.hid hof
  have HPW : Hid (parse (D.by_ f) = .part r0 n0 true) := Lib.hid (by rw [hof.bytes]; exact hpw)
  clear hpw hof
  have HS := Lib.hid (size_some h nameB may_name f hl)
  unfold nameB at HS
  have hby : (D.by_ f).length ≤ 1048576 := (h.file f ⟨_, .inl (look_some hl), rfl⟩).2.2.2
  have H := Lib.hid h
  have HL := Lib.hid hl
  have tok1 : Hid True := trivial
  have tok2 : Hid True := trivial
  have tok3 : Hid True := trivial
  clear h hl
  go_enter Tryz.func7, Tryz.ntmps7
  go_wp2_with (first
    | (go_at_call 36; refine HS.out.mono ?_; rintro e w1 ⟨rfl, hm1⟩)
    | (clear tok1; refine wpl_makeMap rfl rfl ?_; intro w2 hA2 hmA2 hsA2)
    | (clear tok2; refine wpl_makeMap rfl rfl ?_; intro w3 hA3 hmA3 hsA3)
    | (clear tok3; refine wpl_makeMap rfl rfl ?_; intro w4 hA4 hmA4 hsA4
       have hb5 := Blk.new w4 86 (Pg.new d w1.heap.size w2.heap.size w3.heap.size).cells
       have HB5 := Lib.hid (opened_at H.out hb5 hm1 hA2 hmA2 hsA2.out hA3 hmA3 hsA3.out hA4 hmA4 hsA4.out)
       have HRd := Lib.hid (read_ok HB5.out.2.1 nameB may_name f HL.out)
       unfold nameB at HRd
       have HRs := Lib.hid HB5.out.1.blk.lt
       clear hb5)
    | (go_at_call 37; refine HRd.out.mono ?_; rintro e w6 ⟨A6, c6, rfl, hrow6, hnc6, hcc6, hAb6, hm6⟩
       have HR6 := Lib.hid (And.intro hrow6 hAb6)
       have HM6 := Lib.hid hm6
       clear hrow6 hAb6 hm6))
  have hpar0 : parseF ((D.by_ f).length + 1) 0 (fun _ => none) (D.by_ f) = parse (D.by_ f) := rfl
  have HPar0 := Lib.hid hpar0
  obtain ⟨B5, hB5⟩ : ∃ B5, B5 = (w4.alloc (.cells (Pg.new d w1.heap.size w2.heap.size w3.heap.size).cells 86)).heap.size := ⟨_, rfl⟩
  have HB5e := Lib.hid hB5
  clear hpar0 hB5
  go_loopw [7, 8] (fun wh v wr => wh = .bool true ∧ ∃ (k root : Nat) (now : Nat → Option (List UInt8)) (bb : List UInt8) (A' : Option Addr) (m' c' : Nat), v = .slice A' m' c' ∧ m' ≤ c' ∧ c' ≤ 1048576 ∧ (∀ ad, A' = some ad → B5 ≤ ad.block) ∧ RowAt wr A' m' 1 (bv bb) ∧
      PagRep wr w4.heap.size { Pg.new d w1.heap.size w2.heap.size w3.heap.size with root := root, now := now } ∧ Hid (root < 4294967296) ∧ Hid (Few now) ∧ bb.length < k ∧ parseF k root now bb = parse (D.by_ f) ∧ Mod (PS w4.heap.size (Pg.new d w1.heap.size w2.heap.size w3.heap.size)) w6 wr) (fun _ v _ => lenV v)
  case atStart => exact ⟨rfl, _, 0, fun _ => none, D.by_ f, A6, (D.by_ f).length, c6, rfl, hnc6, hcc6, by rw [HB5e.out]; exact HR6.out.2, HR6.out.1, HB5.out.1.non HM6.out, Lib.hid (by decide), Lib.hid (fun k hk => by cases hk), Nat.lt_succ_self _, HPar0.out, Mod.refl _ _⟩
  case round =>
    obtain ⟨rfl, k, root, now, bb, A', m', c', rfl, hmc', hcc', hAb', hrow, hrep, hrt, hfw, hbk, hpf, hmw⟩ := hrel
    have hbm' : bb.length = m' := by have := hrow.1; rw [bv_length] at this; omega
    obtain ⟨k, rfl⟩ : ∃ k0, k = k0 + 1 := ⟨k - 1, by omega⟩
    have hm56 := (HM6.out.mono (T := PS w4.heap.size (Pg.new d w1.heap.size w2.heap.size w3.heap.size)) (fun _ x => x.elim)).trans hmw
    have hdisk : DiskRep wr d D := HB5.out.2.1.mod hm56 (fun b hb hp => HB5.out.2.2.1 b hp hb)
    have HN2 := fun ad (e : A' = some ad) => Lib.hid (get_num (some ad) m' c' bb (e ▸ hrow) (by omega))
    have hrepS := hrep.setSize (D.by_ f).length
    have hdiskS : DiskRep (wr.setCell ⟨w4.heap.size, 6, none⟩ (.int .i64 ((D.by_ f).length : Nat))) d D := hdisk.mod ((Mod.refl (One w4.heap.size) wr).setCell (p := ⟨w4.heap.size, 6, none⟩) (.inl rfl) _) (fun b hb e => HB5.out.2.2.1 b (.inl e) hb)
    have HPt := Lib.hid hrepS
    have HDk := Lib.hid hdiskS
    have HAt0 : Hid (Apart w4.heap.size (Pg.new d w1.heap.size w2.heap.size w3.heap.size) D) := Lib.hid HB5.out.2.2.1
    have HRep := Lib.hid hrep
    have HM56 := Lib.hid hm56
    have HMW := Lib.hid hmw
    have HRow := Lib.hid hrow
    have HAb := Lib.hid hAb'
    have cp := hrep.blk.cell
    have fp := hrep.blk.frozen
    unfold Pg.cells Pg.new at cp
    rw [parseF] at hpf
    by_cases hm0 : m' = 0
    · have hnil : bb = [] := List.length_eq_zero_iff.1 (by omega)
      rw [if_pos hnil] at hpf
      have hpar := Lib.hid hpf.symm
      have HAt : Hid (Apart w4.heap.size ({ Pg.new d w1.heap.size w2.heap.size w3.heap.size with root := root, now := now, size := (D.by_ f).length }) D) := HAt0
      have HRm := Lib.hid (remove_gen hdiskS freshB may_fresh)
      unfold freshB at HRm
      subst hm0
      clear hnil hpf hrep hrow hAb' hbm' hmw hdisk hrepS hdiskS hm56 HN2
      go_wp2_with (first
        | (go_at_call 41; refine HRm.out.mono ?_; rintro e w7 ⟨⟨r7, rfl⟩, vn7, l7, hst7, hno7, hoth7, hle7⟩
           have HS7 := Lib.hid hst7
           have HO7 := Lib.hid (And.intro hoth7 (And.intro hle7 hno7))
           clear hst7 hno7 hoth7 hle7)
        | (go_at_call 42; refine (names_ok HS7.out.rep).mono ?_; rintro e w8 ⟨rfl, vk8, hst8⟩
           have hst78 := HS7.out.trans hst8
           have hp8 := HPt.out.mod hst78.mod HAt.out
           have cp8 := hp8.blk.cell
           unfold Pg.cells at cp8
           have HP8 := Lib.hid hp8
           have HS8 := Lib.hid hst78
           clear hst8 hst78 hp8)
        | (at_range; refine wpl_range rfl _ rfl und_mapPage rfl HP8.out.now ?_; intro w9 left0 hit0 hm9 hsz9))
      have hm56 := HM56.out
      have HI9 := Lib.hid hit0
      have HM9 := Lib.hid hm9
      clear hit0 hm9 hsz9 cp8
      try go_frame
      go_loopw [13] (fun _ wr => ∃ vis left s, Hid (∀ n ∈ vis, s n = true) ∧ IterRep wr w8.heap.size w1.heap.size (mapV ({ Pg.new d w1.heap.size w2.heap.size w3.heap.size with root := root, now := now, size := (D.by_ f).length }).now) vis left ∧ PagRep wr w4.heap.size { ({ Pg.new d w1.heap.size w2.heap.size w3.heap.size with root := root, now := now, size := (D.by_ f).length }) with dirty := s } ∧ Mod (One w3.heap.size) w8 wr) (fun _ wr => iterLeft wr w1.heap.size w8.heap.size)
      case atStart => exact ⟨[], left0, ({ Pg.new d w1.heap.size w2.heap.size w3.heap.size with root := root, now := now, size := (D.by_ f).length }).dirty, Lib.hid (fun n hn => by cases hn), HI9.out, HP8.out.non HM9.out, HM9.out.mono (fun _ x => x.elim)⟩
      case round =>
        obtain ⟨vis, left, s, HV, hit, hrep, hm⟩ := hrel
        have HLe := Lib.hid hit.left_eq
        have HM := Lib.hid hm
        have HRep := Lib.hid hrep
        have hm3lt : w3.heap.size < w8.heap.size := HP8.out.lt (.inr (.inr (.inr rfl)))
        have hm1lt : w1.heap.size < w8.heap.size := HP8.out.lt (.inr (.inl rfl))
        have hplt : w4.heap.size < w8.heap.size := HP8.out.lt (.inl rfl)
        clear hm hrep
        go_wp2_with (first
          | (at_next
             refine wpl_next rfl (.tmp 96) rfl rfl hit ?_ ?_
             intro w10 hm10 hall
             have HP10 := Lib.hid (HRep.out.non hm10)
             have HALL := Lib.hid hall
             clear hall
             rotate_left
             intro w10 k v left' hm10 hfk hnv hlt hit2 hent
             have hrep10 : PagRep w10 w4.heap.size { ({ Pg.new d w1.heap.size w2.heap.size w3.heap.size with root := root, now := now, size := (D.by_ f).length }) with dirty := s } := HRep.out.mod hm10 (fun b hb e => by cases e; exact absurd (HP8.out.lt (b := w8.heap.size) hb) (Nat.lt_irrefl _))
             have cp10 := hrep10.blk.cell
             unfold Pg.cells at cp10
             obtain ⟨fd, c0, hd1, hc0, hdo⟩ := hrep10.dirty.get k
             have HRep10 := Lib.hid hrep10
             have Hc0 := Lib.hid hc0
             clear hrep10 hc0
             rotate_left)
          | (at_lookup; refine wpl_lookup_val rfl _ _ rfl und_mapInt und_u32 zero_int rfl hd1 k rfl Hc0.out ?_)
          | (at_mapUpdate; refine wpl_mapUpdate rfl _ _ _ rfl und_mapInt und_u32 rfl hd1 k rfl rfl ?_; intro w12 hd12 hm12)
          | (go_at_call 43; refine (keep_ok HP10.out).mono ?_; rintro e w11 ⟨rfl, hrep11, hm11⟩))
        · go_ret2
          have hm8 : Mod (PS w4.heap.size ({ Pg.new d w1.heap.size w2.heap.size w3.heap.size with root := root, now := now, size := (D.by_ f).length })) w8 w11 := ((HM.out.mono (fun b hb => .inr (.inr (.inr hb)))).trans (hm10.mono (fun _ x => x.elim))).trans hm11
          have hm08 : Mod (DS d D) w w8 := (open_mod HB5.out.2.2.2.1 HB5.out.2.2.2.2 ((hm56.mono (fun _ x => .inl x)).setCell (p := ⟨w4.heap.size, 6, none⟩) (.inl (.inl (.inl rfl))) (.int .i64 ((D.by_ f).length : Nat)))).trans HS8.out.mod
          have hop := opens_end HPt.out HAt.out hrt.out hfw.out HL.out hpar.out rfl HS8.out HO7.out.1 hrep11 hm8
          have hpe := HPW.out
          rw [hpar.out] at hpe
          cases hpe
          have hk : (fun n => if s n then n0 n else none) = n0 := by
            funext n
            by_cases hs : s n = true
            · rw [if_pos hs]
            · rw [if_neg hs]
              cases hn : n0 n with
              | none => rfl
              | some y => exact absurd (HV.out n (HALL.out n (by show (mapV n0 n).isSome = true; rw [mapV_some hn]; rfl))) hs
          have hof : OneFile ((D.setNow vn7 l7).setKept vk8 (D.setNow vn7 l7).now) f b0 := ⟨only_one HS8.out.rep.rising ((HO7.out.1 nameB name_ne).trans HL.out) (fun t ht => by
            by_cases e : freshB = t
            · rw [← e]; exact HO7.out.2.2
            · exact (HO7.out.1 t e).trans (by rw [HOF.out.now, look_cons, if_neg (Ne.symm ht)]; rfl)), rfl, HOF.out.bytes, HOF.out.sure, HOF.out.size⟩
          exact ⟨w4.heap.size, _, _, f, rfl, hop.pag, hop.disk, hof, rfl, rfl, rfl, rfl, hk, hop.dirty, by rw [← HOF.out.bytes]; exact hop.size, hop.root, hop.few, hop.apart, HB5.out.2.2.2.1,
            fun b hb => (HS8.out.old b hb).elim .inl (fun e => .inr (by have h1 := HB5.out.2.2.2.2.size; have h2 := hm56.size; simp at e; omega)), hm08.andThen hm8 (fun b hb hlt => absurd (HB5.out.2.2.2.1 b hb) (by omega))⟩
        · have hit12 := hit2.mod hm12 (fun e => HP8.out.ne13 e) (fun e => by have e : w8.heap.size = w3.heap.size := e; omega)
          have HLe12 := Lib.hid hit12.left_eq
          go_roundw
          case rel => exact ⟨k :: vis, left', _, Lib.hid (fun n hn => by
            unfold upd
            split
            · rfl
            · exact HV.out n ((List.mem_cons.1 hn).resolve_left (by assumption))), hit12, HRep10.out.setDirty hm12 (hdo _ _ hd12), (HM.out.andThen hm10 (fun b hb hlt2 => by cases hb; omega)).andThen hm12 (fun b hb _ => hb)⟩
          case measure =>
            rw [HLe.out, HLe12.out]
            exact hlt
    · have hnn : ¬ bb = [] := fun e => hm0 (by rw [e] at hbm'; exact hbm'.symm)
      rw [if_neg hnn] at hpf
      obtain ⟨ad, rfl⟩ : ∃ ad, A' = some ad := by
        obtain ⟨ad, e, _⟩ := hrow.2 (by omega)
        exact ⟨ad, e⟩
      have HN3 := HN2 ad rfl
      have hpos : (0 : Int) < (m' : Int) := by omega
      have HAt : Hid (Apart w4.heap.size ({ Pg.new d w1.heap.size w2.heap.size w3.heap.size with root := root, now := now, size := (D.by_ f).length }) D) := HAt0
      have hHbm := Lib.hid hbm'
      clear HN2
      cases hd2 : dec 0 0 bb with
      | form =>
        rw [hd2] at hpf
        have hpe := HPW.out
        rw [← hpf] at hpe
        cases hpe
      | short =>
        rw [hd2] at hpf
        have hpe := HPW.out
        rw [← hpf] at hpe
        cases hpe
      | ok nn t =>
        obtain ⟨ht1, ht2, ht3, hn64⟩ := dec_took bb 0 0 nn t hd2 (fun _ => by decide)
        rw [hd2] at hpf HN3
        simp only [] at hpf
        have hn64' : Hid (nn < 18446744073709551616) := Lib.hid hn64
        have htm : t ≤ m' := by omega
        have hwa : IntKind.u64.wrap ((m' : Int) - (t : Int)) = (m' : Int) - (t : Int) := by rw [IntKind.wrap_u64]; omega
        have hwb : IntKind.i64.wrap ((m' : Int) - (t : Int)) = (m' : Int) - (t : Int) := by rw [IntKind.wrap_i64]; omega
        by_cases hbig : bb.length - t < nn
        · rw [if_pos hbig] at hpf
          have hpe := HPW.out
          rw [← hpf] at hpe
          cases hpe
        · rw [if_neg hbig] at hpf
          have hI : ((m' : Int) - (t : Int) < (nn : Int)) = False := by simp; omega
          have hnn2 : t + nn ≤ m' := by omega
          have hwc : IntKind.i64.wrap (nn : Int) = (nn : Int) := by rw [IntKind.wrap_i64]; omega
          have hB5l : ∀ b, PS w4.heap.size (Pg.new d w1.heap.size w2.heap.size w3.heap.size) b → b < B5 := fun b hb => by rw [HB5e.out]; exact HB5.out.1.lt hb
          have hadp : ¬ PS w4.heap.size (Pg.new d w1.heap.size w2.heap.size w3.heap.size) ad.block := fun hp => by have h1 := hB5l _ hp; have h2 := HAb.out ad rfl; omega
          have HAD := Lib.hid hadp
          have hnm : nn ≤ 1048576 := by omega
          have hncc : nn ≤ c' - t := by omega
          have hc63 : c' - t ≤ maxLen := by unfold maxLen; omega
          cases hrec : recR now ((bb.drop t).take nn) with
          | none =>
            rw [hrec] at hpf
            have hpe := HPW.out
            rw [← hpf] at hpe
            cases hpe
          | some rx =>
            obtain ⟨r', x'⟩ := rx
            rw [hrec] at hpf
            have hpf2 := Lib.hid hpf
            have HRec := Lib.hid hrec
            clear hpf hrep hrow hAb' hbm' hmw hdisk hrepS hdiskS hm56 hnn hm0 hd2 hbig hn64 hadp hB5l hrec
            go_wp2_with (first
              | (go_at_call 38; refine HN3.out.mono ?_; rintro e w7 ⟨rfl, hw7⟩; rw [hw7]; clear hw7; unfold Got.val)
              | (refine wpl_part rfl (.tmp 60) (.tmp 61) (.tmp 65) rfl rfl rfl (h := t + nn) rfl HRow.out (Nat.le_add_right _ _) hnn2 hmc' ?_; intro ad1 hab1 hr1
                 rw [Nat.add_sub_cancel_left] at hr1 ⊢
                 have HAD1 : Hid (¬ PS w4.heap.size (Pg.new d w1.heap.size w2.heap.size w3.heap.size) ad1.block) := by rw [hab1]; exact HAD)
              | (go_at_call 39; refine (reads_ok HRep.out ad1 nn (c' - t) _ hr1 hncc hc63 hnm HAD1.out).mono ?_
                 intro e w8 hsay
                 obtain ⟨rfl, hr32, hrep8, hm8⟩ := hsay.of_some HRec.out
                 have hrow8 : RowAt w8 (some ad) m' 1 (bv bb) := HRow.out.mod (by decide) hm8 (fun ad' e _ hs => by cases e; exact HAD.out hs)
                 have HRep8 := Lib.hid hrep8
                 have HR32 := Lib.hid hr32
                 clear hrep8 hr32 hsay)
              | (refine wpl_from rfl (.tmp 69) (.tmp 73) rfl rfl (t := t + nn) rfl hrow8 hnn2 hmc' ?_; intro ad3 hab3 hr3))
            go_roundw
            case rel =>
              refine ⟨rfl, k, r', x', bb.drop (t + nn), some ad3, m' - (t + nn), c' - (t + nn), rfl, by omega, by omega, fun ad' e => (by cases e; rw [hab3]; exact HAb.out ad rfl), hr3, HRep8.out, HR32, Lib.hid (recR_few hfw.out HRec.out), ?_, ?_, HMW.out.trans hm8⟩
              · rw [List.length_drop]; omega
              · rw [← hpf2.out, List.drop_drop]
            case measure => simp [lenV]; omega
end
end Go.Proofs.YtgillcppnpkkiaaGreatDoor
