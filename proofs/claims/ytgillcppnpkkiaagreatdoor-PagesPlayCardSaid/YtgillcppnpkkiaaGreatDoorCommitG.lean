/- Commit, in general. -/
import Derived.Test.YtgillcppnpkkiaaGreatDoorOpens
import Derived.Test.YtgillcppnpkkiaaGreatDoorLives
namespace Go.Proofs.YtgillcppnpkkiaaGreatDoor
open Go Go.RowKit
section
variable {w : World} {p : Nat} {G : Pg} {D : Dk}
/-- What Commit comes to. -/
def CommitSays (w : World) (p : Nat) (G : Pg) (D : Dk) (f : Nat) (keys : List Nat) (e : Ending) (w' : World) : Prop :=
  (e = .returned (.int .i64 6) ∧ Mod (fun b => PS p G b ∨ DS G.d D b) w w') ∨
  (e = .returned (.int .i64 0) ∧ ∃ D' f' l sz, l.Perm keys ∧ DiskRep w' G.d D' ∧ PagRep w' p { G.keeps with size := sz } ∧ look D'.kept nameB = some f' ∧ D'.sure f' = (D'.by_ f').length ∧
    (D'.by_ f' = D.by_ f ++ G.record l ∨ D'.by_ f' = G.record (used G.has 4000)) ∧ D'.size = D.size ∧ D'.kept.length ≤ D.now.length + 1 ∧ (∀ b, DS G.d D' b → DS G.d D b ∨ w.heap.size ≤ b) ∧ Apart p G D' ∧ Mod (fun b => PS p G b ∨ DS G.d D b) w w')
theorem commit_anew {w1 w8 w9 w10 : World} {f f9 : Nat} {D9 : Dk} {l keys : List Nat} (hap : Apart p G D) (hl : l.Perm keys) (hp8 : PagRep w8 p G) (hm : Mod Non w1 w8)
    (hx : DiskRep w9 G.d D9 ∧ (∀ b, DS G.d D9 b → DS G.d D b ∨ w8.heap.size ≤ b) ∧ D9.size = D.size ∧ look D9.now nameB = some f9 ∧ D9.by_ f9 = G.record (used G.has 4000) ∧ D9.sure f9 = (G.record (used G.has 4000)).length ∧ D9.kept = D9.now ∧ D9.now.length ≤ D.now.length + 1 ∧ Mod (fun b => PS p G b ∨ DS G.d D b) w8 w9)
    (hrep : PagRep w10 p { G.keeps with size := (G.record (used G.has 4000)).length }) (hm10 : Mod (PS p G) w9 w10) : CommitSays w1 p G D f keys (.returned (.int .i64 0)) w10 := by
  obtain ⟨hr, hold, hz, hlk, hb, hs, hkp, hln, hm9⟩ := hx
  have hap9 : Apart p G D9 := fun b hb hd => (hold b hd).elim (hap b hb) (fun e => by have := hp8.lt hb; omega)
  have := hm.size
  exact .inr ⟨rfl, D9, f9, l, _, hl, hr.mod hm10 (fun b hb hp => hap9 b hp hb), hrep, by rw [hkp]; exact hlk, by rw [hs, hb], .inr hb, hz, by rw [hkp]; exact hln, fun b hb => (hold b hb).imp id (fun e => by omega), hap9,
    ((hm.mono (fun _ x => x.elim)).trans hm9).trans (hm10.mono (fun _ x => .inl x))⟩

set_option maxHeartbeats 1000000 in
set_option maxRecDepth 100000 in
theorem commit_gen (h : PagRep w p G) (hd : DiskRep w G.d D) (hap : Apart p G D) (hroot : G.root < 4294967296) (f : Nat) (hl : look D.now nameB = some f)
    (hkept : D.kept = D.now) (hsz : G.size = (D.by_ f).length) (hlen : D.now.length < 64)
    (keys : List Nat) (hk : ∀ n, G.dirty n = true ↔ n ∈ keys) (hnd : keys.Nodup) (hk0 : 0 < keys.length) (hk12 : keys.length ≤ 12) (hkb : ∀ n ∈ keys, n < 4294967296)
    (hfew : ∀ k, (G.now k).isSome = true → k < 4294967296) :
    Calls Tryz.prog 13 #[.pointer (some ⟨p, 0, none⟩)] w fun e w' => CommitSays w p G D f keys e w' := by
  obtain ⟨i0, hi, hz0, hz1, hz2⟩ := info_parts info_u32
  have cp := h.blk.cell
  unfold Pg.cells at cp
  have HT := Lib.hid (there_ok h)
  obtain ⟨fd, hfd, hfs, hfv⟩ := h.dirty
  obtain ⟨nd, hnd0⟩ := hfd.len
  have hndp : 0 < nd := hfd.len_pos hnd0 (k := keys[0]) (by rw [hfs, hk]; exact List.getElem_mem _)
  have hby : (D.by_ f).length ≤ 1048576 := (hd.file f ⟨_, .inl (look_some hl), rfl⟩).2.2.2
  have hsz2 : G.size ≤ 1048576 := by rw [hsz]; exact hby
  have HSZ := Lib.hid hsz
  have HKE := Lib.hid hkept
  have H := Lib.hid h
  have HD := Lib.hid hd
  have HL := Lib.hid hl
  clear h hd hl hsz hkept
  go_enter Tryz.func13, Tryz.ntmps13
  go_wp2_with (go_at_call 44; refine HT.out.mono ?_; rintro e w1 ⟨rfl, rfl⟩)
  have hz : ((nd : Int) == 0) = false := by simp; omega
  refine wp_region_quiet_lit (by kernel_rfl) (by kernel_rfl) ?_
  iterate 4 go_big_quiet_step (fail)
  go_big_quiet_want
  refine quiet_lenMap (.tmp 13) rfl rfl und_mapInt rfl (n := nd) (by rintro W ⟨q, rfl⟩; exact hnd0.drewN q) ?_
  go_frame
  go_big_quiet_on
  iterate 12 go_big_quiet_step (fail)
  refine wpQuiet_nil ?_
  rintro w2 ⟨nq, rfl⟩
  have hm2 : Mod Non w1 (w1.drewN nq) := (Mod.refl _ _).drewN nq
  have hfd2 := hfd.mod hm2 (fun x => x)
  have h2 := H.out.non hm2
  have c2 := h2.blk.cell
  unfold Pg.cells at c2
  have HM2 := Lib.hid hm2
  have HP2 := Lib.hid h2
  generalize w1.drewN nq = w2 at *
  clear hm2 h2 cp hfd hnd0 hz hndp
  go_wp2_with (first
    | (at_range; refine wpl_range rfl _ rfl und_mapInt rfl hfd2 ?_; intro w3 left0 hit0 hm3 hsz3))
  have HI3 := Lib.hid hit0
  have HM3 := Lib.hid hm3
  clear hit0 hm3
  go_frame
  go_loopw [3, 4] (fun v _ wr => ∃ vis left ks, IterRep wr w2.heap.size G.m3 fd vis left ∧ ks.Perm vis ∧ wr.ownsRow (w2.heap.size + 1) 55 1 v ks.length (uv ks) ∧ Mod Non w2 wr) (fun _ _ wr => iterLeft wr G.m3 w2.heap.size)
  case atStart => exact ⟨[], left0, [], HI3.out, .refl _, World.ownsRow_nil _ _ _ _, HM3.out⟩
  case round =>
    obtain ⟨vis, left, ks, hit, hperm, hown, hm⟩ := hrel
    have hin : ∀ x ∈ vis, x ∈ keys := fun x hx => (hk x).1 (by rw [← hfs]; exact hit.told x hx)
    have hks : ks.length ≤ 12 := by
      have h1 := nodup_le vis keys hit.nodup hin
      have h2 := hperm.length_eq
      omega
    have hml : ks.length + 1 ≤ maxLen := by unfold maxLen; omega
    have HKP : Hid ((∀ k, (fd k).isSome = true → k ∈ vis) → ks.Perm keys) := fun hall => hperm.trans ((List.perm_ext_iff_of_nodup hit.nodup hnd).2 fun x => ⟨hin x, fun hx => hall x (by rw [hfs]; exact (hk x).2 hx)⟩)
    have HM := Lib.hid hm
    have HPm := Lib.hid hperm
    clear hm hperm
    go_wp2_with (first
      | (at_next
         refine wpl_next rfl (.tmp 31) rfl rfl hit ?_ ?_
         intro w4 hm4 hall
         have hown4 := owns_mod hown hm4 (fun _ x => x.elim)
         have hkp : ks.Perm keys := HKP.out hall
         have hkl : 0 < ks.length ∧ ks.length ≤ 12 := by have h1 := hkp.length_eq; omega
         have HP4 := Lib.hid ((HP2.out.non HM.out).non hm4)
         have HM4 := Lib.hid (HM.out.trans hm4)
         rotate_left
         intro w4 k v' left' hm4 hfk hnv hlt hit2 hent
         have hown4 := owns_mod hown hm4 (fun b hb => by cases hb; exact Nat.lt_succ_self _)
         have hlt4 := hit2.lt
         have hone : ∀ (W : World), RowAt (W.alloc (.cells #[.int .u32 (k : Int)] 55)) (some ⟨W.heap.size, 0, none⟩) 1 1 [.int .u32 (k : Int)] := fun W =>
           ⟨rfl, fun _ => ⟨_, rfl, fun j u hu => by rw [add_lit, (Blk.new W _ _).cell]; simpa using hu⟩⟩
         have h1c : ∀ u ∈ [Value.int .u32 (k : Int)], u.oneCell' = true := by simp [Value.oneCell']
         rotate_left)
      | (at_builtin; refine wpl_append rfl (.tmp 36) (.tmp 38) _ rfl (w2.heap.size + 1) 55 i0 (.int .u32 0) 1 4 und_u32s hi hz0 hz1 hz2 rfl (by omega) rfl (hown4.alloc _) rfl (hone w4) h1c hml (by omega) (by simp; omega) ?_; intro v' w5 hown5 hg5 hnil5)
      | (go_at_call 46; refine (sort_row hown4 hkl.1 hkl.2).mono ?_; rintro e w5 ⟨rfl, l, hpl, hown5, hm5⟩
         have HP5 := Lib.hid (HP4.out.mod hm5 (fun b hb hs => absurd (hown4.lt b hs).1 (by have h1 := HP2.out.lt hb; omega)))
         have HM5 := Lib.hid (HM4.out.andThen hm5 (fun b hb hlt => absurd (hown4.lt b hb).1 (by omega)))
         obtain ⟨Al, cl, rfl, _, hrl, _⟩ := owns_form hown5
         have hkl2 : l.length ≤ 8192 := by have h1 := hpl.length_eq; omega
         have HR := Lib.hid (record_ok HP5.out hroot Al cl l hrl (fun n hn => hkb n (hkp.mem_iff.1 (hpl.mem_iff.1 hn))) hkl2)
         have HL2 := Lib.hid (hpl.trans hkp)
         clear hown4 hown5 hpl hkp hm5 hrl)
      | (go_at_call 47; refine HR.out.mono ?_; rintro e w6 ⟨vb, rfl, hob, hm6⟩; obtain ⟨Ab, cb, rfl, _, _, _⟩ := owns_form hob))
    · have HO6 := Lib.hid hob
      have h6 := HP5.out.non hm6
      have c6 := h6.blk.cell
      unfold Pg.cells at c6
      obtain ⟨nm, hnm⟩ := h6.now.len
      have hnm5 : nm ≤ 4294967296 := h6.now.len_le hnm (fun k hk => hfew k (by unfold mapV at hk; simpa using hk))
      have HP6 := Lib.hid h6
      have hl12 : l.length ≤ 12 := by have := HL2.out.length_eq; omega
      have hrl : (G.record l).length ≤ 3224 := by have := record_le HP6.out.len l; omega
      have hm6d : Mod Non w1 w6 := (HM2.out.trans HM5.out).trans hm6
      have HM6 := Lib.hid hm6d
      clear hob h6 hm6d hm6
      by_cases hlong : 2 * nm * 256 + 8192 < G.size + (G.record l).length
      · refine wp_region_quiet_lit (by kernel_rfl) (by kernel_rfl) ?_
        iterate 11 go_big_quiet_step (fail)
        go_big_quiet_want
        refine quiet_lenMap (.tmp 55) rfl rfl und_mapPage rfl (n := nm) (by rintro W ⟨q, rfl⟩; exact hnm.drewN q) ?_
        go_frame
        go_big_quiet_on
        iterate 5 go_big_quiet_step (fail)
        refine wpQuiet_nil ?_
        rintro w7 ⟨nq2, rfl⟩
        have hm7 : Mod Non w6 (w6.drewN nq2) := (Mod.refl _ _).drewN nq2
        have HP7 := Lib.hid (HP6.out.non hm7)
        have HM7 := Lib.hid (HM6.out.trans hm7)
        have HO7 := Lib.hid (owns_mod HO6.out hm7 (fun _ x => x.elim))
        have c7 := HP7.out.blk.cell
        unfold Pg.cells at c7
        generalize w6.drewN nq2 = w7 at *
        clear hm7 c6 hnm
        go_wp2_with (first
          | (go_at_call 40; refine (anew_gen HP7.out (HD.out.non HM7.out) hap hroot hlen).mono ?_
             rintro e w9 (⟨rfl, D9, f9, hrep9, hold9, hpag9, hz9, hlk9, hby9, hsu9, hkp9, hln9, hm9⟩ | ⟨rfl, hm9⟩)
             rotate_left
             have HMf := Lib.hid hm9
             clear hm9
             rotate_left
             have HP9 := Lib.hid hpag9
             have HX9 := Lib.hid (And.intro hrep9 (And.intro hold9 (And.intro hz9 (And.intro hlk9 (And.intro hby9 (And.intro hsu9 (And.intro hkp9 (And.intro hln9 hm9))))))))
             clear hrep9 hold9 hz9 hlk9 hby9 hsu9 hkp9 hln9 hm9 hpag9)
          | (go_at_call 43; refine (keep_ok HP9.out).mono ?_; rintro e w10 ⟨rfl, hrep10, hm10⟩))
        · go_ret
          exact commit_anew hap HL2.out HP7.out HM7.out HX9.out hrep10 hm10
        · go_ret
          exact .inl ⟨rfl, (HM7.out.mono (fun _ x => x.elim)).trans HMf.out⟩
      · have hshort : G.size + (G.record l).length ≤ 2 * nm * 256 + 8192 := by omega
        clear hlong
        refine wp_region_quiet_lit (by kernel_rfl) (by kernel_rfl) ?_
        iterate 11 go_big_quiet_step (fail)
        go_big_quiet_want
        refine quiet_lenMap (.tmp 55) rfl rfl und_mapPage rfl (n := nm) (by rintro W ⟨q, rfl⟩; exact hnm.drewN q) ?_
        go_frame
        go_big_quiet_on
        iterate 5 go_big_quiet_step (fail)
        refine wpQuiet_nil ?_
        rintro w7 ⟨nq2, rfl⟩
        have hm7 : Mod Non w6 (w6.drewN nq2) := (Mod.refl _ _).drewN nq2
        have HP7 := Lib.hid (HP6.out.non hm7)
        have HM7 := Lib.hid (HM6.out.trans hm7)
        have HO7 := Lib.hid (owns_mod HO6.out hm7 (fun _ x => x.elim))
        have c7 := HP7.out.blk.cell
        unfold Pg.cells at c7
        generalize w6.drewN nq2 = w7 at *
        clear hm7 c6 hnm
        have hrow7 : RowAt w7 Ab (G.record l).length 1 (bv (G.record l)) := by
          obtain ⟨A', c', e', _, hr', _⟩ := owns_form HO7.out
          cases e'
          exact hr'
        by_cases hroom : (G.record l).length ≤ D.left ∧ (G.record l).length + (D.by_ f).length ≤ 1048576
        · have HA := Lib.hid (append_ok (HD.out.non HM7.out) nameB may_name f HL.out Ab (G.record l).length cb (G.record l) hrow7 hroom)
          unfold nameB at HA
          clear hrow7
          go_wp2_with (first
            | (go_at_call 48; refine HA.out.mono ?_; rintro e w8 ⟨rfl, vf, hst8⟩
               have HP8 := Lib.hid (HP7.out.mod hst8.mod hap)
               have HS := Lib.hid (sync_ok hst8.rep nameB may_name f HL.out)
               have c8 := HP8.out.blk.cell
               unfold Pg.cells at c8
               have HS8 := Lib.hid hst8
               unfold nameB at HS
               clear hst8)
            | (go_at_call 49; refine HS.out.mono ?_; rintro e w9 ⟨rfl, hst9⟩
               have HP9 := Lib.hid (HP8.out.mod hst9.mod (fun b hb hd => (HS8.out.old b hd).elim (hap b hb) (fun h => by have h1 := HP7.out.lt hb; omega)))
               have c9 := HP9.out.blk.cell
               have f9 := HP9.out.blk.frozen
               unfold Pg.cells at c9
               have HS9 := Lib.hid hst9
               clear hst9)
            | (go_at_call 43; refine (keep_ok (HP9.out.setSize (G.size + (G.record l).length))).mono ?_; rintro e w10 ⟨rfl, hrep10, hm10⟩))
          go_ret
          have h9 := HS9.out
          have e1 : (D.setFile f vf (D.by_ f ++ G.record l) (D.sure f)).fv f = vf := upd_same _ _ _
          have e2 : (D.setFile f vf (D.by_ f ++ G.record l) (D.sure f)).by_ f = D.by_ f ++ G.record l := upd_same _ _ _
          rw [e1, e2] at h9
          have hs7 := HM7.out.size
          have hs8 := HS8.out.mod.size
          have hold : ∀ b, DS G.d ((D.setFile f vf (D.by_ f ++ G.record l) (D.sure f)).setFile f vf (D.by_ f ++ G.record l) (D.by_ f ++ G.record l).length) b → DS G.d D b ∨ w7.heap.size ≤ b := fun b hb =>
            (h9.old b hb).elim (HS8.out.old b) (fun h => .inr (by omega))
          have hapn : ∀ b, PS p G b → ¬ DS G.d ((D.setFile f vf (D.by_ f ++ G.record l) (D.sure f)).setFile f vf (D.by_ f ++ G.record l) (D.by_ f ++ G.record l).length) b := fun b hb hd =>
            (hold b hd).elim (hap b hb) (fun h => by have h1 := HP7.out.lt hb; omega)
          have hm9 : Mod (fun b => PS p G b ∨ DS G.d D b) w1 w9 := ((HM7.out.mono (fun _ x => x.elim)).trans (HS8.out.mod.mono (fun _ x => .inr x))).andThen HS9.out.mod (fun b hb hlt => (HS8.out.old b hb).elim .inr (fun h => by omega))
          have hm9c := hm9.setCell (p := ⟨p, 6, none⟩) (.inl (.inl (.inl rfl))) (.int .i64 (G.size + (G.record l).length : Nat))
          refine .inr ⟨rfl, _, f, l, _, HL2.out, (h9.rep.mod ((Mod.refl (One p) w9).setCell (p := ⟨p, 6, none⟩) (.inl rfl) _) (fun b hb e => ?_)).mod hm10 (fun b hb hp => hapn b hp hb), hrep10, ?_, ?_, .inl (upd_same _ _ _), rfl, ?_, fun b hb => (hold b hb).imp id (fun h => by omega), hapn, hm9c.trans (hm10.mono (fun _ x => .inl x))⟩
          · cases e
            exact hapn p (.inl rfl) hb
          · show look D.kept nameB = some f
            rw [HKE.out]
            exact HL.out
          · simp only [Dk.setFile, upd_same]
          · show D.kept.length ≤ _
            rw [HKE.out]
            omega
        · have HA := Lib.hid (append_full (HD.out.non HM7.out) nameB may_name f HL.out Ab (G.record l).length cb hroom (by unfold maxLen; omega))
          unfold nameB at HA
          clear hrow7
          go_wp2_with (first
            | (go_at_call 48; refine HA.out.mono ?_; rintro e w8 ⟨rfl, hm8⟩
               have HM8 := Lib.hid (HM7.out.trans hm8)
               have HP8 := Lib.hid (HP7.out.non hm8)
               clear hm8)
            | (go_at_call 40; refine (anew_gen HP8.out (HD.out.non HM8.out) hap hroot hlen).mono ?_
               rintro e w9 (⟨rfl, D9, f9, hrep9, hold9, hpag9, hz9, hlk9, hby9, hsu9, hkp9, hln9, hm9⟩ | ⟨rfl, hm9⟩)
               rotate_left
               have HMf := Lib.hid hm9
               clear hm9
               rotate_left
               have HP9 := Lib.hid hpag9
               have HX9 := Lib.hid (And.intro hrep9 (And.intro hold9 (And.intro hz9 (And.intro hlk9 (And.intro hby9 (And.intro hsu9 (And.intro hkp9 (And.intro hln9 hm9))))))))
               clear hrep9 hold9 hz9 hlk9 hby9 hsu9 hkp9 hln9 hm9 hpag9)
            | (go_at_call 43; refine (keep_ok HP9.out).mono ?_; rintro e w10 ⟨rfl, hrep10, hm10⟩))
          · go_ret
            exact commit_anew hap HL2.out HP8.out HM8.out HX9.out hrep10 hm10
          · go_ret
            exact .inl ⟨rfl, (HM8.out.mono (fun _ x => x.elim)).trans HMf.out⟩
    · have hit5 : IterRep w5 w2.heap.size G.m3 fd (k :: vis) left' := (hit2.mod ((Mod.refl Non w4).alloc _) (fun x => x) (fun x => x)).mod (Mod.of_grown hg5 (S := fun b => w2.heap.size + 1 ≤ b) (fun b hb => (hown4.lt b hb).1)) (fun hb => by have h1 := HP2.out.lt (b := G.m3) (.inr (.inr (.inr rfl))); omega) (fun hb => by omega)
      have HLe := Lib.hid hit.left_eq
      have HLe5 := Lib.hid hit5.left_eq
      have hmw4 : Mod Non w2 w4 := HM.out.andThen hm4 (fun b hb hlt => by cases hb; omega)
      go_roundw
      case rel =>
        refine ⟨k :: vis, left', ks ++ [k], hit5, ?_, by simpa [uv] using hown5, (hmw4.alloc _).owned (hown4.alloc _) hg5 (Nat.le_succ _)⟩
        exact (List.perm_append_comm.trans (HPm.out.cons k))
      case measure =>
        rw [HLe.out, HLe5.out]
        exact hlt
end
end Go.Proofs.YtgillcppnpkkiaaGreatDoor
