/- The reference: Free, NewPage. -/
import Derived.Test.YtgillcppnpkkiaaGreatDoorRefOps
import Derived.Test.YtgillcppnpkkiaaGreatDoorPlanE
namespace Go.Proofs.YtgillcppnpkkiaaGreatDoor
open Go Go.RowKit
section
variable {w w' : World} {m : Nat} {R : Rf} {S : Nat → Prop}
theorem at_lt {n i : Nat} (h : R.at_ n = some i) : i < R.now.length := by
  unfold Rf.at_ at h
  rw [List.findIdx?_eq_some_iff_getElem] at h
  exact h.1
theorem owns_form2 {w : World} {base : Nat} {e : TypeId} {size : Nat} {v : Value} {n : Nat} {xs : List Value} (h : w.ownsRow base e size v n xs) :
    ∃ A cap, v = .slice A n cap ∧ n ≤ cap ∧ cap ≤ maxLen ∧ RowAt w A n size xs ∧ ∀ ad, A = some ad → base ≤ ad.block ∧ ad.block < w.heap.size := by
  obtain ⟨A, cap, rfl, hc, hr, hA⟩ := owns_form h
  refine ⟨A, cap, rfl, hc, ?_, hr, fun ad e => ⟨hA ad e, ?_⟩⟩
  · rcases h.2 with ⟨e2, _⟩ | ⟨g, cap', cur, e2, _, _, _, hcm, _⟩
    · injection e2 with _ _ h3
      rw [h3]
      exact Nat.zero_le _
    · injection e2 with _ _ h3
      rw [h3]
      exact hcm
  · rcases h.2 with ⟨e2, _⟩ | ⟨g, cap', cur, e2, _, hbk, _⟩
    · injection e2 with h1 _ _
      rw [h1] at e
      cases e
    · injection e2 with h1 _ _
      rw [h1] at e
      cases e
      exact Blk.lt (w := w) (t := _) (cs := cur) hbk
def Rf.cut (R : Rf) (A : Option Addr) (c : Nat) (l : List RP) : Rf := { R with an := A, cn := c, now := l }
theorem rp_part {w : World} {A : Option Addr} {l : List RP} {k : Nat} (h : RowAt w A l.length 2 (pgs l)) (hk : k ≤ l.length) : RowAt w A k 2 (pgs (l.take k)) := by
  refine ⟨by rw [pgs_length, List.length_take, Nat.min_eq_left hk], fun hp => ?_⟩
  obtain ⟨ad, e, hc⟩ := h.2 (by omega)
  refine ⟨ad, e, fun j u hu => hc j u ?_⟩
  rw [← pgs_take] at hu
  rw [List.getElem?_take] at hu
  split at hu
  · exact hu
  · cases hu
/-- The cells from k on: where they lie, is told by the slice. -/
theorem rp_rest {w : World} {A : Option Addr} {l : List RP} {k : Nat} (h : RowAt w A l.length 2 (pgs l)) (hk : k ≤ l.length) (B : Option Addr) (hB : k < l.length → ∀ ad, A = some ad → B = some (ad.add (k * 2))) : RowAt w B (l.length - k) 2 (pgs (l.drop k)) := by
  refine ⟨by rw [pgs_length, List.length_drop], fun hp => ?_⟩
  obtain ⟨ad, e, hc⟩ := h.2 (by omega)
  refine ⟨_, hB (by omega) ad e, fun j u hu => ?_⟩
  rw [← pgs_drop, List.getElem?_drop] at hu
  have := hc _ u hu
  rw [← add_of_add] at this
  exact this
theorem elem_rps : Tryz.prog.elem 93 = 101 := by kernel_rfl
theorem size_rp (w : World) : (sizeOf 101).run Tryz.prog w = .ok 2 w := by kernel_rfl
def fromA (A : Option Addr) (c k : Nat) : Option Addr := A.map fun ad => if c = k then ad else ad.add (k * 2)
theorem run_to (A : Option Addr) (n c k : Nat) (hk : k ≤ c) (w : World) :
    (Instr.sliceAt 93 (.slice A n c) none (some (.int .i64 (k : Int))) none).run Tryz.prog w = .ok (.slice A k c) w := by
  have e : Tryz.prog.underlying 93 = some (.slice (Tryz.prog.elem 93)) := by rw [elem_rps]; exact und_rps
  rw [run_sliceAt_slice _ _ _ _ _ _ e, run_slice_h _ _ _ _ _ e _ _ (by omega) (by omega), elem_rps, size_rp]
  cases A <;> simp [sliced, Result.andThen_ok, Addr.add]
theorem run_from (A : Option Addr) (n c k : Nat) (hk : k ≤ n) (w : World) :
    (Instr.sliceAt 93 (.slice A n c) (some (.int .i64 (k : Int))) none none).run Tryz.prog w = .ok (.slice (fromA A c k) (n - k) (c - k)) w := by
  have e : Tryz.prog.underlying 93 = some (.slice (Tryz.prog.elem 93)) := by rw [elem_rps]; exact und_rps
  rw [run_sliceAt_slice _ _ _ _ _ _ e, run_slice_l _ _ _ _ _ e _ _ (by omega) (by omega), elem_rps, size_rp]
  simp only [Result.andThen_ok, sliced, Int.toNat_natCast, fromA]
  cases A with
  | none => simp
  | some ad => simp only [Option.map_some]; split <;> rfl
section
variable {ops : Array Oper} {Q : Exit → Act → World → Prop} {I : World → Prop} {f j : Nat} {a : Act} {rest : List (Nat × Bool)} {o : Oper}
theorem wpe_to (hi : ops[j]? = some o) (hg : o.guard = none) (x y : Operand) (ho : o.op = .slice 93 x none (some y) none) {A : Option Addr} {n c k : Nat} (hx : a.eval x = .slice A n c) (hy : a.eval y = .int .i64 (k : Int)) (hk : k ≤ c)
    (h : wpPlanE Tryz.prog ops I Q f rest (a.put o.dst (.slice A k c)) w) : wpPlanE Tryz.prog ops I Q f ((j, false) :: rest) a w :=
  wpe_read _ hi hg (fun W _ => by have := run_to A n c k hk W; simp [execOp, ho, hx, hy, this]) h
theorem wpe_from (hi : ops[j]? = some o) (hg : o.guard = none) (x y : Operand) (ho : o.op = .slice 93 x (some y) none none) {A : Option Addr} {n c k : Nat} (hx : a.eval x = .slice A n c) {kz : Int} (hy : a.eval y = .int .i64 kz) (hkz : kz = (k : Int)) (hk : k ≤ n)
    (h : wpPlanE Tryz.prog ops I Q f rest (a.put o.dst (.slice (fromA A c k) (n - k) (c - k))) w) : wpPlanE Tryz.prog ops I Q f ((j, false) :: rest) a w :=
  wpe_read _ hi hg (fun W _ => by have := run_from A n c k hk W; subst hkz; simp [execOp, ho, hx, hy, this]) h
end
set_option maxHeartbeats 1000000 in
set_option maxRecDepth 100000 in
theorem ref_free (h : RefRep w m R) (hlen : R.now.length ≤ 1048576) (n i : Nat) (hi : R.at_ n = some i) : Calls Tryz.prog 12 #[.pointer (some ⟨m, 0, none⟩), .int .u32 n] w fun e w' => e = .returned (.int .i64 0) ∧ ∃ A c, RefRep w' m (R.cut A c (R.now.take i ++ R.now.drop (i + 1))) ∧ (∀ b, RI (R.cut A c (R.now.take i ++ R.now.drop (i + 1))) b → RI R b ∨ w.heap.size ≤ b) ∧ Mod (One m) w w' := by
  have hlt := at_lt hi
  have HF := Lib.hid (ref_find h n)
  rw [hi] at HF
  have c := h.blk.cell
  have H := Lib.hid h
  clear h hi
  go_enter Tryz.func12, Tryz.ntmps12
  go_wp2_with (go_at_call 45; refine HF.out.mono ?_; rintro e w1 ⟨rfl, rfl⟩)
  refine wp_plan_end [(0, false), (1, false), (2, false), (3, false), (4, false), (5, false), (6, false), (7, false), (9, false), (10, false), (11, false), (12, false), (13, false), (14, false), (15, false), (16, false), (8, true), (17, true), (18, false), (19, false), (20, false)] 21 [0, 17, 20] [19, 18, 16, 8, 15, 14, 13, 12, 11, 10, 9, 7, 6, 5, 4, 3, 2, 1] Non (by kernel_rfl) (by kernel_rfl) (fun c d v a w h => by cases d <;> exact h) (fun w2 hm2 => ?_)
  have h2 := H.out.non hm2
  have hic : i ≤ R.cn := by have := H.out.capN; omega
  have hcW : ∀ W, Mod Non w2 W → Hid (∀ i, W.cell? ⟨m, i, none⟩ = #[.slice R.an R.now.length R.cn, .int .u32 R.root, .slice R.ak R.kept.length R.ck, .int .u32 R.was][i]?) := fun W hW => Lib.hid (h2.non hW).blk.cell
  iterate 7
    refine wpe_read _ rfl rfl (fun W hW => by have cW := (hcW W hW).out; first | (go_simp; done) | (go_simp; rfl) | rfl) ?_
    try simp only [List.getElem_toArray, List.getElem_cons_succ, List.getElem_cons_zero]
    try go_frame
  refine wpe_to rfl rfl (.tmp 20) (.tmp 21) rfl rfl rfl hic ?_
  try simp only [List.getElem_toArray, List.getElem_cons_succ, List.getElem_cons_zero]
  try go_frame
  iterate 7
    refine wpe_read _ rfl rfl (fun W hW => by have cW := (hcW W hW).out; first | (go_simp; done) | (go_simp; rfl) | rfl) ?_
    try simp only [List.getElem_toArray, List.getElem_cons_succ, List.getElem_cons_zero]
    try go_frame
  refine wpe_from rfl rfl (.tmp 28) (.tmp 30) rfl rfl rfl (k := i + 1) (by first | omega | (rw [IntKind.wrap_i64]; omega)) hlt ?_
  try simp only [List.getElem_toArray, List.getElem_cons_succ, List.getElem_cons_zero]
  try go_frame
  obtain ⟨i0, z0, hi0, hz0, hz3, hz1, hz2⟩ := rp_info
  have hr1 : RowAt w2 R.an i 2 (pgs (R.now.take i)) := rp_part h2.now (by omega)
  obtain ⟨v3, w3, hrun3, ho3, hg3, _⟩ := run_append_row (P := Tryz.prog) (w := w2) w2.heap.size 93 93 101 i0 z0 2 32 und_rps hi0 hz0 hz1 hz2 hz3 (by omega) (World.ownsRow_nil w2 w2.heap.size 101 2) (c := R.cn) hr1 (pgs_one _) (by unfold maxLen; omega) (by omega) (Nat.le_refl _)
  have hm3 : Mod Non w2 w3 := (Mod.refl Non w2).owned (World.ownsRow_nil w2 w2.heap.size 101 2) hg3 (Nat.le_refl _)
  refine wpe_act rfl rfl ?_
  refine wpo_append (.const (.slice none 0 0)) (.tmp 22) _ rfl rfl rfl hrun3 ?_
  refine ⟨hm3, ?_⟩
  try simp only [List.getElem_toArray, List.getElem_cons_succ, List.getElem_cons_zero]
  try go_frame
  have h3 := h2.non hm3
  have hr2 : RowAt w3 (fromA R.an R.cn (i + 1)) (R.now.length - (i + 1)) 2 (pgs (R.now.drop (i + 1))) := rp_rest h3.now hlt _ (fun h4 ad e => by
    unfold fromA
    rw [e, Option.map_some, if_neg (by have := H.out.capN; omega)])
  have hs3 := hm3.size
  obtain ⟨v4, w4, hrun4, ho4, hg4, _⟩ := run_append_row (P := Tryz.prog) (w := w3) w2.heap.size 93 93 101 i0 z0 2 32 und_rps hi0 hz0 hz1 hz2 hz3 (by omega) ho3 (c := R.cn - (i + 1)) hr2 (pgs_one _) (by unfold maxLen; omega) (by omega) hs3
  have hm4 : Mod Non w2 w4 := hm3.owned ho3 hg4 (Nat.le_refl _)
  refine wpe_act rfl rfl ?_
  refine wpo_append (.tmp 23) (.tmp 31) _ rfl rfl rfl hrun4 ?_
  refine ⟨hm4, ?_⟩
  try simp only [List.getElem_toArray, List.getElem_cons_succ, List.getElem_cons_zero]
  try go_frame
  iterate 3
    refine wpe_read _ rfl rfl (fun W hW => by have cW := (hcW W hW).out; first | (go_simp; done) | (go_simp; rfl) | rfl) ?_
    try simp only [List.getElem_toArray, List.getElem_cons_succ, List.getElem_cons_zero]
    try go_frame
  refine wpe_end rfl rfl ?_
  have hl : (R.now.take i ++ R.now.drop (i + 1)).length = 0 + i + (R.now.length - (i + 1)) := by rw [List.length_append, List.length_take, List.length_drop]; omega
  have ho5 : w4.ownsRow w2.heap.size 101 2 v4 (R.now.take i ++ R.now.drop (i + 1)).length (pgs (R.now.take i ++ R.now.drop (i + 1))) := by
    rw [hl, pgs_append]
    simpa using ho4
  obtain ⟨A5, c5, rfl, hc5, hcm6, hr5, hA5⟩ := owns_form2 ho5
  have h4 := h2.non hm4
  have c4 := h4.blk.cell
  have f4 := h4.blk.frozen
  have H4 := Lib.hid h4
  have HM2 := Lib.hid hm2
  have HM4 := Lib.hid hm4
  have HR5 := Lib.hid hr5
  have HA5 := Lib.hid hA5
  clear h2 h3 h4 hcW hr1 hr2 hrun3 hrun4 ho3 ho4 ho5 hg3 hg4 hm2 hm3 hm4 hr5 hA5 hl
  go_simp
  go_wp2
  go_ret
  have hmc := (Mod.refl (One m) w4).setCell (p := ⟨m, 0, none⟩) (.inl rfl) (.slice A5 (R.now.take i ++ R.now.drop (i + 1)).length c5)
  have hm0 := ((HM2.out.trans HM4.out).mono (T := One m) (fun _ x => x.elim)).trans hmc
  have hs4 := HM4.out.size
  have hs2 := HM2.out.size
  obtain ⟨q1, q2⟩ := H.out.turn hm0 (A := A5) (c := c5) (l := R.now.take i ++ R.now.drop (i + 1)) (H4.out.blk.set 0 _) (HR5.out.mod (by decide) hmc (fun ad e _ h => by have h5 := HA5.out ad e; have h6 := H.out.blk.lt; cases h; omega)) (fun ad e => by have h5 := HA5.out ad e; have := hmc.size; omega) (fun x hx => .inl (by
    rcases List.mem_append.1 hx with h | h
    · exact List.mem_of_mem_take h
    · exact List.mem_of_mem_drop h)) hc5 hcm6
  rw [show min i R.now.length + (R.now.length - (i + 1)) = (R.now.take i ++ R.now.drop (i + 1)).length from by rw [List.length_append, List.length_take, List.length_drop]]
  exact ⟨rfl, A5, c5, q1, q2, hm0⟩
theorem ref_free_none (h : RefRep w m R) (n : Nat) (hi : R.at_ n = none) : Calls Tryz.prog 12 #[.pointer (some ⟨m, 0, none⟩), .int .u32 n] w fun e w' => e = .returned (.int .i64 7) ∧ w = w' := by
  have HF := Lib.hid (ref_find h n)
  rw [hi] at HF
  clear h hi
  go_enter Tryz.func12, Tryz.ntmps12
  go_wp2_with (go_at_call 45; refine HF.out.mono ?_; rintro e w1 ⟨rfl, rfl⟩)
  go_ret
  exact ⟨rfl, rfl⟩
end
end Go.Proofs.YtgillcppnpkkiaaGreatDoor
