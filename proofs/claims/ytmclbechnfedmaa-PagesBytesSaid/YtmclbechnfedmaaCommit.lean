/- Commit, where the record is short and there is room. -/
import Derived.Test.YtmclbechnfedmaaSort
namespace Go.Proofs.Ytmclbechnfedmaa
open Go Go.RowKit
section
variable {P : Program} {a : Act} {o : Oper} {t kt et : TypeId} {m : Nat}
theorem quiet_lenMap {C : World → Prop} {K : Act → Prop} (x : Operand) {ts : Array TypeId} (ho : o.op = .call { callee := .builtin .len, args := #[x], argTypes := ts }) (h0 : ts[0]? = some t) (ht : P.underlying t = some (.map kt et))
    (hx : a.eval x = .map (some m)) {n : Nat} (h : ∀ W, C W → MapLen W m n) (hk : K (a.put o.dst (.int .i64 n))) : o.quiet P a C K :=
  ⟨.int .i64 n, fun W hW => by
    obtain ⟨es, c, hh, rfl⟩ := h W hW
    unfold Oper.quietAt
    have e : (execOp a.eval o).run P W = .ok (.value (.int .i64 es.size)) W := by
      simp [execOp, ho, hx, resolve, invoke, builtin, Builtin.len_, h0, run_underlying ht, getObj_map hh, goInt]
    rw [e]
    exact ⟨rfl, rfl⟩, hk⟩
end
theorem MapLen.mod {w w' : World} {S : Nat → Prop} {m n : Nat} (h : MapLen w m n) (hm : Mod S w w') (hn : ¬ S m) : MapLen w' m n := by
  obtain ⟨es, c, hh, hs⟩ := h
  exact ⟨es, c, (hm.block m (Array.getElem?_eq_some_iff.1 hh).1 hn).trans hh, hs⟩
theorem MapLen.drewN {w : World} {m n : Nat} (h : MapLen w m n) (q : Nat) : MapLen (w.drewN q) m n := h
theorem MapRep.len_pos {w : World} {m n k : Nat} {f : Nat → Option Value} (h : MapRep w m f) (hl : MapLen w m n) (hk : (f k).isSome = true) : 0 < n := by
  obtain ⟨es, c, hh, hok⟩ := h
  obtain ⟨es', c', hh', rfl⟩ := hl
  rw [hh] at hh'
  cases hh'
  rcases Nat.eq_zero_or_pos es.size with h0 | h0
  · have : es = #[] := Array.eq_empty_of_size_eq_zero h0
    subst this
    rw [hok.look] at hk
    simp at hk
  · exact h0

theorem nodup_le {α : Type} [BEq α] [LawfulBEq α] : ∀ (l k : List α), l.Pairwise (· ≠ ·) → (∀ x ∈ l, x ∈ k) → l.length ≤ k.length
  | [], _, _, _ => Nat.zero_le _
  | a :: l, k, hn, hs => by
    have ha : a ∈ k := hs a List.mem_cons_self
    have hk : 0 < k.length := List.length_pos_of_mem ha
    have h1 := nodup_le l (k.erase a) (List.pairwise_cons.1 hn).2 (fun x hx => (List.mem_erase_of_ne (fun e => (List.pairwise_cons.1 hn).1 x hx e.symm)).2 (hs x (List.mem_cons_of_mem _ hx)))
    rw [List.length_erase_of_mem ha] at h1
    simp only [List.length_cons]
    omega
theorem MapRep.len_le {w : World} {m n N : Nat} {f : Nat → Option Value} (h : MapRep w m f) (hl : MapLen w m n) (hN : ∀ k, (f k).isSome = true → k < N) : n ≤ N := by
  obtain ⟨es, c, hh, hok⟩ := h
  obtain ⟨es', c', hh', rfl⟩ := hl
  rw [hh] at hh'
  cases hh'
  have hkey : ∀ e ∈ es.toList, ∃ k : Nat, kOf e = (k : Int) := fun e he => by
    obtain ⟨k, hk⟩ := hok.key e he
    exact ⟨k, kOf_of hk⟩
  have h1 := nodup_le (es.toList.map fun e => (kOf e).toNat) (List.range N) (by
    rw [List.pairwise_map]
    refine hok.nodup.imp_of_mem ?_
    intro a b ha hb hab e
    obtain ⟨ka, hka⟩ := hkey a ha
    obtain ⟨kb, hkb⟩ := hkey b hb
    rw [hka, hkb] at hab e
    simp at e
    exact hab (by rw [e])) (fun x hx => by
    obtain ⟨e, he, rfl⟩ := List.mem_map.1 hx
    obtain ⟨k, hk⟩ := hkey e he
    rw [List.mem_range, hk]
    refine hN k ?_
    rw [(hok.spec k e.val).2 ⟨e, he, hk, rfl⟩]
    rfl)
  simpa using h1

theorem IterRep.nodup {w : World} {r m : Nat} {f : Nat → Option Value} {vis : List Nat} {left : Nat} (h : IterRep w r m f vis left) : vis.Nodup := by
  obtain ⟨es, c, seen, _, _, _, _, _, hn, _⟩ := h
  exact hn

section
variable {w : World} {p : Nat} {G : Pg} {D : Dk}
theorem recB_perm {l l' : List Nat} (h : l.Perm l') : (recB G l).length = (recB G l').length := (List.Perm.flatMap_right _ h).length_eq
theorem record_perm {l l' : List Nat} (h : l.Perm l') : (G.record l).length = (G.record l').length := by
  have h1 : (G.body l).length = (G.body l').length := by unfold Pg.body; rw [List.length_append, List.length_append, recB_perm h]
  unfold Pg.record
  rw [List.length_append, List.length_append, h1]

set_option maxHeartbeats 1000000 in
set_option maxRecDepth 100000 in
theorem commit_ok (h : PagRep w p G) (hd : DiskRep w G.d D) (hap : Apart p G D) (hroot : G.root < 4294967296) (f : Nat) (hl : look D.now nameB = some f)
    (keys : List Nat) (hk : ∀ n, G.dirty n = true ↔ n ∈ keys) (hnd : keys.Nodup) (hk0 : 0 < keys.length) (hk12 : keys.length ≤ 12) (hkb : ∀ n ∈ keys, n < 4294967296)
    (hfew : ∀ k, (G.now k).isSome = true → k < 4294967296) (hshort : G.size + (G.record keys).length ≤ 8192) (hroom : (G.record keys).length ≤ D.left ∧ (G.record keys).length + (D.by_ f).length ≤ 1048576) :
    Calls Try.prog 18 #[.pointer (some ⟨p, 0, none⟩)] w fun e w' => e = .returned (.int .i64 0) ∧ ∃ l v, l.Perm keys ∧
      DiskRep w' G.d ((D.setFile f v (D.by_ f ++ G.record l) (D.sure f)).setFile f v (D.by_ f ++ G.record l) (D.by_ f ++ G.record l).length) ∧
      (∀ b, DS G.d ((D.setFile f v (D.by_ f ++ G.record l) (D.sure f)).setFile f v (D.by_ f ++ G.record l) (D.by_ f ++ G.record l).length) b → DS G.d D b ∨ w.heap.size ≤ b) ∧
      PagRep w' p { G.keeps with size := G.size + (G.record keys).length } ∧ Mod (fun b => PS p G b ∨ DS G.d D b) w w' := by
  obtain ⟨i0, hi, hz0, hz1, hz2⟩ := info_parts info_u32
  have cp := h.blk.cell
  unfold Pg.cells at cp
  have HT := Lib.hid (there_ok h)
  obtain ⟨fd, hfd, hfs, hfv⟩ := h.dirty
  obtain ⟨nd, hnd0⟩ := hfd.len
  have hndp : 0 < nd := hfd.len_pos hnd0 (k := keys[0]) (by rw [hfs, hk]; exact List.getElem_mem _)
  have H := Lib.hid h
  have HD := Lib.hid hd
  have HL := Lib.hid hl
  clear h hd hl
  go_enter Try.func18, Try.ntmps18
  go_wp2_with (go_at_call 22; refine HT.out.mono ?_; rintro e w1 ⟨rfl, rfl⟩)
  have hz : ((nd : Int) == 0) = false := by simp; omega
  refine wp_region_quiet_lit (by kernel_rfl) (by kernel_rfl) ?_
  iterate 4 go_big_quiet_step (fail)
  go_big_quiet_want
  refine quiet_lenMap (.tmp 13) rfl rfl und_mapInt rfl (n := nd) (by rintro W ⟨q, rfl⟩; exact hnd0.drewN q) ?_
  go_frame
  go_big_quiet_on
  iterate 12 go_big_quiet_step (fail)
  refine wpQuiet_nil ?_
  rintro w2 ⟨nq, rfl⟩
  have hm2 : Mod Non w1 (w1.drewN nq) := (Mod.refl _ _).drewN nq
  have hfd2 := hfd.mod hm2 (fun x => x)
  have h2 := H.out.non hm2
  have c2 := h2.blk.cell
  unfold Pg.cells at c2
  have HM2 := Lib.hid hm2
  have HP2 := Lib.hid h2
  generalize w1.drewN nq = w2 at *
  clear hm2 h2 cp hfd hnd0 hz hndp
  go_wp2_with (first
    | (at_range; refine wpl_range rfl _ rfl und_mapInt rfl hfd2 ?_; intro w3 left0 hit0 hm3 hsz3))
  have HI3 := Lib.hid hit0
  have HM3 := Lib.hid hm3
  clear hit0 hm3
  go_frame
  go_loopw [3, 4] (fun v _ wr => ∃ vis left ks, IterRep wr w2.heap.size G.m3 fd vis left ∧ ks.Perm vis ∧ wr.ownsRow (w2.heap.size + 1) 33 1 v ks.length (uv ks) ∧ Mod Non w2 wr) (fun _ _ wr => iterLeft wr G.m3 w2.heap.size)
  case atStart => exact ⟨[], left0, [], HI3.out, .refl _, World.ownsRow_nil _ _ _ _, HM3.out⟩
  case round =>
    obtain ⟨vis, left, ks, hit, hperm, hown, hm⟩ := hrel
    have hin : ∀ x ∈ vis, x ∈ keys := fun x hx => (hk x).1 (by rw [← hfs]; exact hit.told x hx)
    have hks : ks.length ≤ 12 := by
      have h1 := nodup_le vis keys hit.nodup hin
      have h2 := hperm.length_eq
      omega
    have hml : ks.length + 1 ≤ maxLen := by unfold maxLen; omega
    have HKP : Hid ((∀ k, (fd k).isSome = true → k ∈ vis) → ks.Perm keys) := fun hall => hperm.trans ((List.perm_ext_iff_of_nodup hit.nodup hnd).2 fun x => ⟨hin x, fun hx => hall x (by rw [hfs]; exact (hk x).2 hx)⟩)
    have HM := Lib.hid hm
    have HPm := Lib.hid hperm
    clear hm hperm
    go_wp2_with (first
      | (at_next
         refine wpl_next rfl (.tmp 31) rfl rfl hit ?_ ?_
         intro w4 hm4 hall
         have hown4 := owns_mod hown hm4 (fun _ x => x.elim)
         have hkp : ks.Perm keys := HKP.out hall
         have hkl : 0 < ks.length ∧ ks.length ≤ 12 := by have h1 := hkp.length_eq; omega
         have HP4 := Lib.hid ((HP2.out.non HM.out).non hm4)
         have HM4 := Lib.hid (HM.out.trans hm4)
         rotate_left
         intro w4 k v' left' hm4 hfk hnv hlt hit2 hent
         have hown4 := owns_mod hown hm4 (fun b hb => by cases hb; exact Nat.lt_succ_self _)
         have hlt4 := hit2.lt
         have hone : ∀ (W : World), RowAt (W.alloc (.cells #[.int .u32 (k : Int)] 33)) (some ⟨W.heap.size, 0, none⟩) 1 1 [.int .u32 (k : Int)] := fun W =>
           ⟨rfl, fun _ => ⟨_, rfl, fun j u hu => by rw [add_lit, (Blk.new W _ _).cell]; simpa using hu⟩⟩
         have h1c : ∀ u ∈ [Value.int .u32 (k : Int)], u.oneCell' = true := by simp [Value.oneCell']
         rotate_left)
      | (at_builtin; refine wpl_append rfl (.tmp 36) (.tmp 38) _ rfl (w2.heap.size + 1) 33 i0 (.int .u32 0) 1 4 und_u32s hi hz0 hz1 hz2 rfl (by omega) rfl (hown4.alloc _) rfl (hone w4) h1c hml (by omega) (by simp; omega) ?_; intro v' w5 hown5 hg5 hnil5)
      | (go_at_call 40; refine (sort_row hown4 hkl.1 hkl.2).mono ?_; rintro e w5 ⟨rfl, l, hpl, hown5, hm5⟩
         have HP5 := Lib.hid (HP4.out.mod hm5 (fun b hb hs => absurd (hown4.lt b hs).1 (by have h1 := HP2.out.lt hb; omega)))
         have HM5 := Lib.hid (HM4.out.andThen hm5 (fun b hb hlt => absurd (hown4.lt b hb).1 (by omega)))
         obtain ⟨Al, cl, rfl, _, hrl, _⟩ := owns_form hown5
         have hkl2 : l.length ≤ 8192 := by have h1 := hpl.length_eq; omega
         have HR := Lib.hid (record_ok HP5.out hroot Al cl l hrl (fun n hn => hkb n (hkp.mem_iff.1 (hpl.mem_iff.1 hn))) hkl2)
         have HL2 := Lib.hid (hpl.trans hkp)
         clear hown4 hown5 hpl hkp hm5 hrl)
      | (go_at_call 41; refine HR.out.mono ?_; rintro e w6 ⟨vb, rfl, hob, hm6⟩; obtain ⟨Ab, cb, rfl, _, _, _⟩ := owns_form hob))
    · have HO6 := Lib.hid hob
      have h6 := HP5.out.non hm6
      have c6 := h6.blk.cell
      unfold Pg.cells at c6
      obtain ⟨nm, hnm⟩ := h6.now.len
      have hnm5 : nm ≤ 4294967296 := h6.now.len_le hnm (fun k hk => hfew k (by unfold mapV at hk; simpa using hk))
      have hrl : G.size + (G.record l).length ≤ 8192 := by rw [record_perm HL2.out]; exact hshort
      have hm6d : Mod Non w1 w6 := (HM2.out.trans HM5.out).trans hm6
      have HP6 := Lib.hid h6
      have HM6 := Lib.hid hm6d
      clear hob h6 hm6d hm6
      refine wp_region_quiet_lit (by kernel_rfl) (by kernel_rfl) ?_
      iterate 11 go_big_quiet_step (fail)
      go_big_quiet_want
      refine quiet_lenMap (.tmp 55) rfl rfl und_mapPage rfl (n := nm) (by rintro W ⟨q, rfl⟩; exact hnm.drewN q) ?_
      go_frame
      go_big_quiet_on
      iterate 5 go_big_quiet_step (fail)
      refine wpQuiet_nil ?_
      rintro w7 ⟨nq2, rfl⟩
      have hm7 : Mod Non w6 (w6.drewN nq2) := (Mod.refl _ _).drewN nq2
      have HP7 := Lib.hid (HP6.out.non hm7)
      have HM7 := Lib.hid (HM6.out.trans hm7)
      have HO7 := Lib.hid (owns_mod HO6.out hm7 (fun _ x => x.elim))
      have c7 := HP7.out.blk.cell
      unfold Pg.cells at c7
      generalize w6.drewN nq2 = w7 at *
      clear hm7 c6 hnm
      have hrow7 : RowAt w7 Ab (G.record l).length 1 (bv (G.record l)) := by
        obtain ⟨A', c', e', _, hr', _⟩ := owns_form HO7.out
        cases e'
        exact hr'
      have hroom' : (G.record l).length ≤ D.left ∧ (G.record l).length + (D.by_ f).length ≤ 1048576 := by rw [record_perm HL2.out]; exact hroom
      have HA := Lib.hid (append_ok (HD.out.non HM7.out) nameB may_name f HL.out Ab (G.record l).length cb (G.record l) hrow7 hroom')
      unfold nameB at HA
      clear hrow7
      go_wp2_with (first
        | (go_at_call 15; refine HA.out.mono ?_; rintro e w8 ⟨rfl, vf, hst8⟩
           have HP8 := Lib.hid (HP7.out.mod hst8.mod hap)
           have HS := Lib.hid (sync_ok hst8.rep nameB may_name f HL.out)
           have c8 := HP8.out.blk.cell
           unfold Pg.cells at c8
           have HS8 := Lib.hid hst8
           unfold nameB at HS
           clear hst8)
        | (go_at_call 42; refine HS.out.mono ?_; rintro e w9 ⟨rfl, hst9⟩
           have HP9 := Lib.hid (HP8.out.mod hst9.mod (fun b hb hd => (HS8.out.old b hd).elim (hap b hb) (fun h => by have h1 := HP7.out.lt hb; omega)))
           have c9 := HP9.out.blk.cell
           have f9 := HP9.out.blk.frozen
           unfold Pg.cells at c9
           have HS9 := Lib.hid hst9
           clear hst9)
        | (go_at_call 39; refine (keep_ok (HP9.out.setSize (G.size + (G.record l).length))).mono ?_; rintro e w10 ⟨rfl, hrep10, hm10⟩))
      go_ret
      have h9 := HS9.out
      have e1 : (D.setFile f vf (D.by_ f ++ G.record l) (D.sure f)).fv f = vf := upd_same _ _ _
      have e2 : (D.setFile f vf (D.by_ f ++ G.record l) (D.sure f)).by_ f = D.by_ f ++ G.record l := upd_same _ _ _
      rw [e1, e2] at h9
      have hs7 := HM7.out.size
      have hs8 := HS8.out.mod.size
      have hold : ∀ b, DS G.d ((D.setFile f vf (D.by_ f ++ G.record l) (D.sure f)).setFile f vf (D.by_ f ++ G.record l) (D.by_ f ++ G.record l).length) b → DS G.d D b ∨ w7.heap.size ≤ b := fun b hb =>
        (h9.old b hb).elim (HS8.out.old b) (fun h => .inr (by omega))
      have hapn : ∀ b, PS p G b → ¬ DS G.d ((D.setFile f vf (D.by_ f ++ G.record l) (D.sure f)).setFile f vf (D.by_ f ++ G.record l) (D.by_ f ++ G.record l).length) b := fun b hb hd =>
        (hold b hd).elim (hap b hb) (fun h => by have h1 := HP7.out.lt hb; omega)
      have hm9 : Mod (fun b => PS p G b ∨ DS G.d D b) w1 w9 := ((HM7.out.mono (fun _ x => x.elim)).trans (HS8.out.mod.mono (fun _ x => .inr x))).andThen HS9.out.mod (fun b hb hlt => (HS8.out.old b hb).elim .inr (fun h => by omega))
      have hm9c := hm9.setCell (p := ⟨p, 6, none⟩) (.inl (.inl (.inl rfl))) (.int .i64 (G.size + (G.record l).length : Nat))
      refine ⟨rfl, l, vf, HL2.out, (h9.rep.mod ((Mod.refl (One p) w9).setCell (p := ⟨p, 6, none⟩) (.inl rfl) _) (fun b hb e => ?_)).mod hm10 (fun b hb hp => hapn b hp hb), fun b hb => (hold b hb).imp id (fun h => by omega), by rw [← record_perm HL2.out]; exact hrep10, hm9c.trans (hm10.mono (fun _ x => .inl x))⟩
      cases e
      exact hapn p (.inl rfl) hb
    · have hit5 : IterRep w5 w2.heap.size G.m3 fd (k :: vis) left' := (hit2.mod ((Mod.refl Non w4).alloc _) (fun x => x) (fun x => x)).mod (Mod.of_grown hg5 (S := fun b => w2.heap.size + 1 ≤ b) (fun b hb => (hown4.lt b hb).1)) (fun hb => by have h1 := HP2.out.lt (b := G.m3) (.inr (.inr (.inr rfl))); omega) (fun hb => by omega)
      have HLe := Lib.hid hit.left_eq
      have HLe5 := Lib.hid hit5.left_eq
      have hmw4 : Mod Non w2 w4 := HM.out.andThen hm4 (fun b hb hlt => by cases hb; omega)
      go_roundw
      case rel =>
        refine ⟨k :: vis, left', ks ++ [k], hit5, ?_, by simpa [uv] using hown5, (hmw4.alloc _).owned (hown4.alloc _) hg5 (Nat.le_succ _)⟩
        exact (List.perm_append_comm.trans (HPm.out.cons k))
      case measure =>
        rw [HLe.out, HLe5.out]
        exact hlt
end
end Go.Proofs.Ytmclbechnfedmaa
