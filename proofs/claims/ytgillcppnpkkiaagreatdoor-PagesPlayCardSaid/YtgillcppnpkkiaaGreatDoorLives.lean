/- Pager.New: the least page that is not used. The law's own 'lives': it is so. -/
import Derived.Test.YtgillcppnpkkiaaGreatDoorPagKeep
import Derived.Test.YtgillcppnpkkiaaGreatDoorCommit
import Derived.Lib.SlBytesConst
import Derived.Laws.BytesString
namespace Go.Proofs.YtgillcppnpkkiaaGreatDoor
open Go Go.RowKit
section
variable {w : World} {p : Nat} {G : Pg}

def Pg.newed (G : Pg) (k : Nat) : Pg := { G with now := upd G.now k (some zero256), dirty := upd G.dirty k true }

set_option maxHeartbeats 400000 in
set_option maxRecDepth 100000 in
theorem new_ok (h : PagRep w p G) (k : Nat) (hk : k < 4000) (hlow : ∀ j, j < k → (G.now (j + 1)).isSome = true) (hnone : G.now (k + 1) = none) :
    Calls Tryz.prog 9 #[.pointer (some ⟨p, 0, none⟩)] w fun e w' => e = .returned (.tuple #[.int .u32 (k + 1 : Nat), .int .i64 0]) ∧ PagRep w' p (G.newed (k + 1)) ∧ Mod (PS p G) w w' := by
  go_enter Tryz.func9, Tryz.ntmps9
  go_wp2_with (go_at_call 44; refine (there_ok h).mono ?_; rintro e w' ⟨rfl, rfl⟩)
  go_loopw [10] (fun i wr => ∃ j : Nat, j ≤ k ∧ i = .int .u32 j ∧ Mod Non w' wr) (fun i _ => 4000 - (intOf i).toNat)
  case atStart => exact ⟨0, Nat.zero_le _, rfl, Mod.refl _ _⟩
  case round =>
    obtain ⟨j, hj, rfl, hm⟩ := hrel
    have h1 := h.non hm
    have c := h1.blk.cell
    unfold Pg.cells at c
    have hnow := h1.now
    have hlt : j < 4000 := by omega
    by_cases hjk : j < k
    · obtain ⟨l, hl⟩ := Option.isSome_iff_exists.1 (hlow j hjk)
      have Hf := Lib.hid (mapV_some hl)
      have Hll := Lib.hid (h.len _ _ hl)
      clear h h1 hlow hnone hl
      go_wp2_with (first
        | (at_lookup; refine wpl_lookup_some rfl _ _ rfl und_mapPage und_u32 page_zero rfl hnow (j + 1) rfl Hf.out ?_)
        | (refine wpl_alloc_page rfl rfl ?_; intro w1 hb1 hm1 hs1)
        | (refine wpl_store_page rfl _ _ rfl rfl hb1 (by rw [List.size_toArray, bv_length, zero256_length]) rfl Hll.out ?_; intro w2 hb2 hm2 hs2))
      go_roundw
      case rel => exact ⟨j + 1, by omega, by go_num, (hm.andThen hm1 (fun _ h => h.elim)).andThen hm2 (fun b hb hlt => by cases hb; have := hm.size; omega)⟩
      case measure => simp [intOf]; omega
    · have hjk' : j = k := by omega
      subst hjk'
      have h0 := h
      obtain ⟨fd, c0, hd1, hc0, hdo⟩ := h1.dirty.get (j + 1)
      have hn13 := h1.ne13
      have hp1 := h1.now.blk_ne h1.blk
      have hp3 := h1.dirty.blk_ne h1.blk
      have Hc0 := Lib.hid hc0
      have Hb := Lib.hid h1.blk
      have Hf := Lib.hid (mapV_none hnone)
      have H0 := Lib.hid h0
      clear h h0 h1 hlow hnone hc0
      go_wp2_with (first
        | (at_lookup; refine wpl_lookup_none rfl _ _ rfl und_mapPage und_u32 page_zero rfl hnow (j + 1) rfl Hf.out ?_)
        | (refine wpl_alloc_page rfl rfl ?_; intro w1 hb1 hm1 hs1)
        | (refine wpl_store_page rfl _ _ rfl rfl hb1 (by rw [List.size_toArray, bv_length, zero256_length]) rfl zero256_length ?_; intro w2 hb2 hm2 hs2; have hm12 := hm1.andThen hm2 (S := Non) (fun b hb hlt => by cases hb; omega); have hnow2 := hnow.mod hm12 (fun x => x); have b2 := Hb.out.mod hm12 (fun x => x); have hc2 := b2.cell; unfold Pg.cells at hc2; have hd2 := hd1.mod hm12 (fun x => x))
        | (at_mapUpdate; refine wpl_mapUpdate rfl _ _ _ rfl und_mapPage und_u32 rfl hnow2 (j + 1) rfl rfl ?_; intro w3 hnow3 hm3; have b3 := b2.mod hm3 (fun e => hp1 e.symm); have hc3 := b3.cell; unfold Pg.cells at hc3; have hd3 := hd2.mod hm3 (fun e => hn13 e.symm))
        | (at_lookup; refine wpl_lookup_val rfl _ _ rfl und_mapInt und_u32 zero_int rfl hd3 (j + 1) rfl Hc0.out ?_)
        | (at_mapUpdate; refine wpl_mapUpdate rfl _ _ _ rfl und_mapInt und_u32 rfl hd3 (j + 1) rfl rfl ?_; intro w4 hd4 hm4))
      go_ret2
      have hm02 := hm.trans hm12
      refine ⟨by go_num, ⟨b3.mod hm4 (fun e => hp3 e.symm), ?_, ((H0.out.kept.mod hm02 (fun x => x)).mod hm3 (fun e => H0.out.ne12 e.symm)).mod hm4 (fun e => H0.out.ne23 e), hdo _ _ hd4, H0.out.ne12, H0.out.ne13, H0.out.ne23, ?_, H0.out.lenK⟩, ?_⟩
      · have := hnow3.mod hm4 (fun e => hn13 e)
        simp only [Pg.newed, mapV_upd]
        exact this
      · intro n l hl
        simp only [Pg.newed] at hl
        unfold upd at hl
        split at hl
        · cases hl; exact zero256_length
        · exact H0.out.len n l hl
      · exact ((hm02.mono (fun _ x => x.elim)).andThen hm3 (fun b hb _ => .inr (.inl hb))).andThen hm4 (fun b hb _ => .inr (.inr (.inr hb)))
end
end Go.Proofs.YtgillcppnpkkiaaGreatDoor

namespace Go.Proofs.YtgillcppnpkkiaaGreatDoor
open Go Go.RowKit
section
variable {w : World} {p d m1 m2 m3 : Nat} {G : Pg} {D : Dk}
def L1 (d m1 m2 m3 : Nat) : Pg := (LG d m1 m2 m3).newed 1
def L2 (d m1 m2 m3 : Nat) : Pg := (L1 d m1 m2 m3).newed 2
def L3 (d m1 m2 m3 : Nat) : Pg := (L2 d m1 m2 m3).puts 2 [97, 98]
def L4 (d m1 m2 m3 : Nat) : Pg := { (L3 d m1 m2 m3).keeps with size := (L3 d m1 m2 m3).size + ((L3 d m1 m2 m3).record [1, 2]).length }
def L5 (d m1 m2 m3 : Nat) : Pg := (L4 d m1 m2 m3).freed 1
def L6 (d m1 m2 m3 : Nat) : Pg := (L5 d m1 m2 m3).newed 1
def L7 (d m1 m2 m3 : Nat) : Pg := (L6 d m1 m2 m3).puts 2 [99]
def L8 (d m1 m2 m3 : Nat) : Pg := (L7 d m1 m2 m3).undone

theorem l3_dirty (n : Nat) : (L3 d m1 m2 m3).dirty n = true ↔ n ∈ [1, 2] := by
  show upd (upd (upd (fun _ => false) 1 true) 2 true) 2 true n = true ↔ _
  unfold upd
  by_cases h1 : n = 1 <;> by_cases h2 : n = 2 <;> simp [h1, h2]
theorem l3_now (n : Nat) : (L3 d m1 m2 m3).now n = if n = 2 then some (padded [97, 98]) else if n = 1 then some zero256 else none := by
  show upd (upd (upd (fun _ => none) 1 (some zero256)) 2 (some zero256)) 2 (some (padded [97, 98])) n = _
  unfold upd
  by_cases h1 : n = 1 <;> by_cases h2 : n = 2 <;> simp [h1, h2]
theorem l8_now (n : Nat) : (L8 d m1 m2 m3).now n = if n = 2 then some (padded [97, 98]) else if n = 1 then some zero256 else none := by
  have h3 := l3_now (d := d) (m1 := m1) (m2 := m2) (m3 := m3) n
  by_cases h1 : n = 1
  · subst h1
    exact h3
  · by_cases h2 : n = 2
    · subst h2
      exact h3
    · have e : (L8 d m1 m2 m3).now n = (L3 d m1 m2 m3).now n := by
        show (if upd (upd (upd (fun _ => false) 1 true) 1 true) 2 true n = true then _ else upd (upd (upd (L3 d m1 m2 m3).now 1 none) 1 (some zero256)) 2 (some (padded [99])) n) = _
        simp [upd, h1, h2]
      rw [e, h3]
theorem used_two {f : Nat → Bool} (h : ∀ n, f n = true ↔ n = 1 ∨ n = 2) : (used f 4000).length = 2 := by
  have hs := used_sorted f 4000
  have hn : (used f 4000).Nodup := hs.imp (fun h => Nat.ne_of_lt h)
  have := ((List.perm_ext_iff_of_nodup hn (by decide : [1, 2].Nodup)).2 (fun n => by
    rw [mem_used, h]
    simp
    omega)).length_eq
  simpa using this
theorem l8_used : (used (L8 d m1 m2 m3).has 4000).length = 2 := used_two fun n => by
  show ((L8 d m1 m2 m3).now n).isSome = true ↔ _
  rw [l8_now]
  by_cases h1 : n = 1 <;> by_cases h2 : n = 2 <;> simp [h1, h2]

theorem l3_commit {f : Nat} (h : PagRep w p (L3 d m1 m2 m3)) (hd : DiskRep w d D) (hap : Apart p (LG d m1 m2 m3) D) (hz : D.size = 4194304) (hn : D.now = [(nameB, f)]) (hl : (D.by_ f).length = 2) :
    Calls Tryz.prog 13 #[.pointer (some ⟨p, 0, none⟩)] w fun e w' => e = .returned (.int .i64 0) ∧ PagRep w' p (L4 d m1 m2 m3) ∧ Mod (fun b => PS p (LG d m1 m2 m3) b ∨ DS d D b) w w' := by
  have hr := record_le h.len [1, 2]
  have hleft : D.left = 4194304 - 2 := by unfold Dk.left; rw [hn, hz]; simp [sumLen, hl]
  have hs : (L3 d m1 m2 m3).size = 2 := rfl
  simp only [List.length_cons, List.length_nil] at hr
  refine (commit_ok h hd hap (by show 0 < _; decide) f (by rw [hn]; exact look_one _ _) [1, 2] l3_dirty (by decide) (by decide) (by decide) (by decide) (fun k hk => ?_) (by rw [hs]; omega) ⟨by rw [hleft]; omega, by rw [hl]; omega⟩).mono ?_
  · rw [l3_now] at hk
    by_cases h1 : k = 1
    · omega
    · by_cases h2 : k = 2
      · omega
      · simp [h1, h2] at hk
  · rintro e w' ⟨he, l, v, _, _, _, h5, h6⟩
    exact ⟨he, h5, h6⟩

theorem rows_row2 (w : World) (l : List UInt8) (fr : Nat × Nat) : RowAt (w.alloc (.cells (bv l).toArray 5 fr)) (some ⟨w.heap.size, 0, none⟩) l.length 1 (bv l) := ⟨by rw [bv_length]; omega, fun _ => ⟨_, rfl, fun j y hy => by
  rw [add_lit, cell_of_row _ _ _ _ _ _ (heap_alloc_new w _)]
  simpa using hy⟩⟩

theorem l_new1 (h : PagRep w p (LG d m1 m2 m3)) : Calls Tryz.prog 9 #[.pointer (some ⟨p, 0, none⟩)] w fun e w' => e = .returned (.tuple #[.int .u32 1, .int .i64 0]) ∧ PagRep w' p (L1 d m1 m2 m3) ∧ Mod (PS p (LG d m1 m2 m3)) w w' :=
  new_ok h 0 (by decide) (fun j hj => absurd hj (Nat.not_lt_zero _)) rfl
theorem l_new2 (h : PagRep w p (L1 d m1 m2 m3)) : Calls Tryz.prog 9 #[.pointer (some ⟨p, 0, none⟩)] w fun e w' => e = .returned (.tuple #[.int .u32 2, .int .i64 0]) ∧ PagRep w' p (L2 d m1 m2 m3) ∧ Mod (PS p (LG d m1 m2 m3)) w w' :=
  new_ok h 1 (by decide) (fun j hj => by have : j = 0 := by omega
                                         subst this; rfl) rfl
theorem l_put (h : PagRep w p (L2 d m1 m2 m3)) : Calls Tryz.prog 26 #[.pointer (some ⟨p, 0, none⟩), .int .u32 2, .slice (some ⟨w.heap.size, 0, none⟩) 2 2] (w.alloc (.cells #[.int .u8 97, .int .u8 98] 5 (2, 3))) fun e w' => e = .returned (.int .i64 0) ∧ PagRep w' p (L3 d m1 m2 m3) ∧ Mod (PS p (LG d m1 m2 m3)) w w' :=
  (put_ok (h.non ((Mod.refl _ _).alloc _)) 2 zero256 rfl (some ⟨w.heap.size, 0, none⟩) 2 2 [97, 98] (rows_row2 w [97, 98] (2, 3)) (by decide)).mono fun e w' ⟨h1, h2, h3⟩ => ⟨h1, h2, ((Mod.refl _ _).alloc _).trans h3⟩
theorem l_free (h : PagRep w p (L4 d m1 m2 m3)) : Calls Tryz.prog 11 #[.pointer (some ⟨p, 0, none⟩), .int .u32 1] w fun e w' => e = .returned (.int .i64 0) ∧ PagRep w' p (L5 d m1 m2 m3) ∧ Mod (PS p (LG d m1 m2 m3)) w w' :=
  free_ok h 1 zero256 rfl
theorem l_new3 (h : PagRep w p (L5 d m1 m2 m3)) : Calls Tryz.prog 9 #[.pointer (some ⟨p, 0, none⟩)] w fun e w' => e = .returned (.tuple #[.int .u32 1, .int .i64 0]) ∧ PagRep w' p (L6 d m1 m2 m3) ∧ Mod (PS p (LG d m1 m2 m3)) w w' :=
  new_ok h 0 (by decide) (fun j hj => absurd hj (Nat.not_lt_zero _)) rfl
theorem l_put2 (h : PagRep w p (L6 d m1 m2 m3)) : Calls Tryz.prog 26 #[.pointer (some ⟨p, 0, none⟩), .int .u32 2, .slice (some ⟨w.heap.size, 0, none⟩) 1 1] (w.alloc (.cells #[.int .u8 99] 5 (1, 2))) fun e w' => e = .returned (.int .i64 0) ∧ PagRep w' p (L7 d m1 m2 m3) ∧ Mod (PS p (LG d m1 m2 m3)) w w' :=
  (put_ok (h.non ((Mod.refl _ _).alloc _)) 2 (padded [97, 98]) rfl (some ⟨w.heap.size, 0, none⟩) 1 1 [99] (rows_row2 w [99] (1, 2)) (by decide)).mono fun e w' ⟨h1, h2, h3⟩ => ⟨h1, h2, ((Mod.refl _ _).alloc _).trans h3⟩
theorem l_undo (h : PagRep w p (L7 d m1 m2 m3)) : Calls Tryz.prog 15 #[.pointer (some ⟨p, 0, none⟩)] w fun e w' => e = .returned (.int .i64 0) ∧ PagRep w' p (L8 d m1 m2 m3) ∧ Mod (PS p (LG d m1 m2 m3)) w w' :=
  undo_ok h
theorem l_get2 (h : PagRep w p (L8 d m1 m2 m3)) : Calls Tryz.prog 19 #[.pointer (some ⟨p, 0, none⟩), .int .u32 2] w fun e w' => ∃ g, e = .returned (.tuple #[.slice (some ⟨g, 0, none⟩) 256 256, .int .i64 0]) ∧ Fresh w' w.heap.size 5 1 (.slice (some ⟨g, 0, none⟩) 256 256) 256 (bv (padded [97, 98])) ∧ Mod Non w w' :=
  get_ok h 2 (padded [97, 98]) rfl
theorem l_get3 (h : PagRep w p (L8 d m1 m2 m3)) : Calls Tryz.prog 19 #[.pointer (some ⟨p, 0, none⟩), .int .u32 3] w fun e w' => e = .returned (.tuple #[.slice none 0 0, .int .i64 7]) ∧ Mod Non w w' :=
  get_none h 3 rfl
theorem l_used (h : PagRep w p (L8 d m1 m2 m3)) : Calls Tryz.prog 30 #[.pointer (some ⟨p, 0, none⟩)] w fun e w' => ∃ A, e = .returned (.slice A 2 2) ∧ Mod Non w w' := by
  have hu := used_ok h
  rw [l8_used] at hu
  exact hu.mono fun e w' ⟨A, h1, _, _, h2⟩ => ⟨A, h1, h2⟩

theorem und_u8 : Tryz.prog.underlying 5 = some (.int .u8) := by kernel_rfl
theorem und_string : Tryz.prog.underlying 9 = some .string := by kernel_rfl
theorem conv_ab {A : Option Addr} {c : Nat} (h : RowAt w A 256 1 (bv (padded [97, 98]))) : ∀ ad, A = some ad → (convert 56 9 (.slice (some ad) 3 c)).run Tryz.prog w = .ok (.string { data := #[97, 98, 0] }) w := by
  intro ad e
  rw [run_convert_bytes_string w _ _ _ _ _ _ und_bytes und_u8 und_string]
  obtain ⟨ad', e', hc⟩ := h.2 (by omega)
  rw [e] at e'
  cases e'
  have hl := run_loadCells_list (P := Tryz.prog) w ad ([97, 98, 0].map (Value.int .u8)) (fun j v hj => hc j v (by
    match j, hj with
    | 0, hj => exact hj
    | 1, hj => exact hj
    | 2, hj =>
      rw [← hj]
      rfl
    | j + 3, hj => simp at hj))
  exact run_bytesToString w ad 3 c [97, 98, 0] hl
set_option maxHeartbeats 1000000 in
set_option maxRecDepth 100000 in
theorem lives_ok (w : World) : Calls Tryz.prog 5 #[] w fun e w' => e = .returned (.bool true) ∧ Mod Non w w' := by
  have t1 : Hid True := trivial
  have t2 : Hid True := trivial
  have t3 : Hid True := trivial
  have t4 : Hid True := trivial
  have t5 : Hid True := trivial
  have t6 : Hid True := trivial
  have t7 : Hid True := trivial
  have t8 : Hid True := trivial
  have kc := fun (w : World) (C : Array Value) (n c : Nat) => Lib.run_convert_bytes_const (P := Tryz.prog) w 56 5 C n c und_bytes und_u8
  go_enter Tryz.func5, Tryz.ntmps5
  go_wp2_with (first
    | (go_at_call 35; refine (opened_ok w).mono ?_; rintro e w1 ⟨d, p, m1, m2, m3, D, f, rfl, hrep, hdr, hps, hds, hap, hz, hn, hl, hm1⟩
       have HR1 := Lib.hid hrep
       have HD1 := Lib.hid hdr
       have HX1 := Lib.hid (And.intro hps (And.intro hds (And.intro hap (And.intro hz (And.intro hn (And.intro hl hm1))))))
       clear hrep hdr hps hds hap hz hn hl hm1)
    | (go_at_call 9; clear t1; refine (l_new1 HR1.out).mono ?_; rintro e w2 ⟨rfl, hr2, hm2⟩; have HR2 := Lib.hid hr2; clear hr2)
    | (go_at_call 9; clear t2; refine (l_new2 HR2.out).mono ?_; rintro e w3 ⟨rfl, hr3, hm3⟩; have HR3 := Lib.hid hr3; clear hr3)
    | (go_at_call 26; clear t3; refine (l_put HR3.out).mono ?_; rintro e w4 ⟨rfl, hr4, hm4⟩; have HR4 := Lib.hid hr4; clear hr4
       have hm14 : Mod (PS p (LG d m1 m2 m3)) w1 w4 := (hm2.trans hm3).trans hm4
       have HC := Lib.hid (l3_commit HR4.out (HD1.out.mod hm14 (fun b hb hp => HX1.out.2.2.1 b hp hb)) HX1.out.2.2.1 HX1.out.2.2.2.1 HX1.out.2.2.2.2.1 HX1.out.2.2.2.2.2.1))
    | (go_at_call 13; clear t4; refine HC.out.mono ?_; rintro e w5 ⟨rfl, hr5, hm5⟩; have HR5 := Lib.hid hr5; clear hr5)
    | (go_at_call 11; refine (l_free HR5.out).mono ?_; rintro e w6 ⟨rfl, hr6, hm6⟩; have HR6 := Lib.hid hr6; clear hr6)
    | (go_at_call 9; clear t5; refine (l_new3 HR6.out).mono ?_; rintro e w7 ⟨rfl, hr7, hm7⟩; have HR7 := Lib.hid hr7; clear hr7)
    | (go_at_call 26; clear t6; refine (l_put2 HR7.out).mono ?_; rintro e w8 ⟨rfl, hr8, hm8⟩; have HR8 := Lib.hid hr8; clear hr8)
    | (go_at_call 15; refine (l_undo HR8.out).mono ?_; rintro e w9 ⟨rfl, hr9, hm9⟩; have HR9 := Lib.hid hr9; clear hr9)
    | (go_at_call 19; clear t7; refine (l_get2 HR9.out).mono ?_; rintro e w10 ⟨g, rfl, hf10, hm10⟩; have HF10 := Lib.hid hf10; clear hf10)
    | (go_at_call 19; clear t8; refine (l_get3 (HR9.out.non hm10)).mono ?_; rintro e w11 ⟨rfl, hm11⟩; have ks := conv_ab (HF10.out.row.non (by decide) hm11) (c := 256) _ rfl)
    | (go_at_call 7; refine (open_nil _).mono ?_; rintro e w12 ⟨rfl, rfl⟩)
    | (go_at_call 30; refine (l_used ((HR9.out.non hm10).non hm11)).mono ?_; rintro e w13 ⟨A13, rfl, hm13⟩)
    | (go_at_call 13; refine (commit_nil _).mono ?_; rintro e w14 ⟨rfl, rfl⟩))
  go_ret
  have hmx : Mod (fun b => PS p (LG d m1 m2 m3) b ∨ DS d D b) w1 _ :=
    ((((((((hm14.mono (fun _ x => .inl x)).trans hm5).trans (hm6.mono (fun _ x => .inl x))).trans (hm7.mono (fun _ x => .inl x))).trans (hm8.mono (fun _ x => .inl x))).trans (hm9.mono (fun _ x => .inl x))).trans (hm10.mono (fun _ x => x.elim))).trans (hm11.mono (fun _ x => x.elim))).trans (hm13.mono (fun _ x => x.elim))
  exact ⟨rfl, HX1.out.2.2.2.2.2.2.andThen hmx (fun b hb hlt => by
    rcases hb with hb | hb
    · have := HX1.out.1 b hb
      omega
    · have := HX1.out.2.1 b hb
      omega)⟩
end
end Go.Proofs.YtgillcppnpkkiaaGreatDoor
