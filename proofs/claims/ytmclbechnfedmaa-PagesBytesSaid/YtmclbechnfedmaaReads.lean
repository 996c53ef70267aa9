/- Pager.reads: a record. -/
import Derived.Test.YtmclbechnfedmaaCuts
namespace Go.Proofs.Ytmclbechnfedmaa
open Go Go.RowKit
theorem dec_took : ∀ (l : List UInt8) (k v n t : Nat), dec k v l = .ok n t → (k ≤ 9 → v < 2 ^ (7 * k)) → k < t ∧ t ≤ k + l.length ∧ t ≤ 10 ∧ n < 18446744073709551616
  | [], k, v, n, t, h, _ => by
    rw [dec_end] at h
    split at h <;> cases h
  | x :: r, k, v, n, t, h, hv => by
    rw [dec_cons] at h
    by_cases h9 : 9 < k
    · rw [if_pos h9] at h
      cases h
    · rw [if_neg h9] at h
      by_cases h128 : 128 ≤ x.toNat
      · rw [if_pos h128] at h
        have ih := dec_took r (k + 1) _ n t h (fun h8 => nxt_lt (by omega) (hv (by omega)))
        rw [List.length_cons]
        omega
      · rw [if_neg h128] at h
        by_cases hb : (0 < k ∧ x.toNat = 0) ∨ (k = 9 ∧ 1 < x.toNat)
        · rw [if_pos hb] at h
          cases h
        · rw [if_neg hb] at h
          cases h
          refine ⟨by omega, by rw [List.length_cons]; omega, by omega, ?_⟩
          have hv9 := hv (by omega)
          by_cases hk9 : k = 9
          · subst hk9
            have : x.toNat ≤ 1 := by omega
            unfold nxt
            rw [if_pos rfl]
            have h2 : x.toNat % 2 * 2 ^ (7 * 9) ≤ 1 * 2 ^ (7 * 9) := Nat.mul_le_mul_right _ (by omega)
            simp at hv9 h2 ⊢
            omega
          · have h1 := nxt_lt (x := x.toNat) (by omega : k ≤ 8) hv9
            have h2 : 2 ^ (7 * (k + 1)) ≤ 2 ^ (7 * 9) := Nat.pow_le_pow_right (by decide) (by omega)
            have h3 : (2 : Nat) ^ (7 * 9) = 9223372036854775808 := by decide
            omega

/-- The pages of a record behind its root. -/
def recsF : Nat → (Nat → Option (List UInt8)) → List UInt8 → Option (Nat → Option (List UInt8))
  | 0, _, _ => none
  | k + 1, now, b => if b = [] then some now else
    match dec 0 0 b with
    | .ok n t => if n < 1 ∨ 4000 < n then none else
      match b.drop t with
      | [] => none
      | x :: r => if 1 < x.toNat then none else if x.toNat = 0 then recsF k (upd now n none) r
          else if r.length < 256 then none else recsF k (upd now n (some (r.take 256))) (r.drop 256)
    | _ => none
def recR (now : (Nat → Option (List UInt8))) (b : List UInt8) : Option (Nat × (Nat → Option (List UInt8))) :=
  match dec 0 0 b with
  | .ok n t => if 4294967296 ≤ n then none else (recsF (b.length + 1) now (b.drop t)).map fun x => (n, x)
  | _ => none
def lenV : Value → Nat | .slice _ n _ => n | _ => 0

theorem row_take {w : World} {ad : Addr} {m h : Nat} {b : List UInt8} (hr : RowAt w (some ad) m 1 (bv b)) (hh : h ≤ m) : RowAt w (some ad) h 1 (bv (b.take h)) := by
  have hbm : b.length = m := by have := hr.1; rw [bv_length] at this; omega
  refine ⟨by rw [bv_length, List.length_take]; omega, fun hn => ?_⟩
  obtain ⟨ad', e, hc⟩ := hr.2 (by omega)
  cases e
  refine ⟨ad, rfl, fun j u hu => hc j u ?_⟩
  rw [bv_get] at hu ⊢
  have hj : j < h := by
    rcases Nat.lt_or_ge j h with h1 | h1
    · exact h1
    · rw [List.getElem?_eq_none (by rw [List.length_take]; omega)] at hu
      cases hu
  rwa [List.getElem?_take_of_lt hj] at hu
section
variable {w w' : World} {p : Nat} {G : Pg}
def ReadsSay (w : World) (p : Nat) (G : Pg) (b : List UInt8) (e : Ending) (w' : World) : Prop :=
  (recR G.now b = none ∧ e = .returned (.bool false) ∧ Mod (PS p G) w w') ∨
  (∃ n now, recR G.now b = some (n, now) ∧ e = .returned (.bool true) ∧ n < 4294967296 ∧ PagRep w' p { G with root := n, now := now } ∧ Mod (PS p G) w w')
theorem PagRep.setRoot (h : PagRep w p G) (n : Nat) : PagRep (w.setCell ⟨p, 4, none⟩ (.int .u32 n)) p { G with root := n } := by
  have h3 : G.m3 ≠ p := h.dirty.blk_ne h.blk
  obtain ⟨fd, hd, hds, hdv⟩ := h.dirty
  exact ⟨h.blk.set 4 _, h.now.far (fun e => h.now.blk_ne h.blk e) _, h.kept.far (fun e => h.kept.blk_ne h.blk e) _, ⟨fd, hd.far (fun e => h3 e) _, hds, hdv⟩, h.ne12, h.ne13, h.ne23, h.len, h.lenK⟩
theorem PagRep.setNow (h : PagRep w p G) (hm : Mod (One G.m1) w w') {now : (Nat → Option (List UInt8))} (hn : MapRep w' G.m1 (mapV now)) (hl : ∀ n l, now n = some l → l.length = 256) : PagRep w' p { G with now := now } :=
  ⟨h.blk.mod hm (fun e => h.now.blk_ne h.blk e.symm), hn, h.kept.mod hm (fun e => h.ne12 e.symm), h.dirty.mod hm (fun e => h.ne13 e.symm), h.ne12, h.ne13, h.ne23, hl, h.lenK⟩
end
section
variable {P : Program} {ops : Array Oper} {a : Act} {w : World} {rest : List Oper} {o : Oper} {Q : Act → Prop}
theorem wps_arr (hg : o.guard = none) (x : Operand) (ho : o.op = .sliceToArrayPointer 55 x) {ad : Option Addr} {n c : Nat} (hx : a.eval x = .slice ad n c) (hn : 256 ≤ n)
    (hK : wpStill Try.prog ops w Q rest (a.put o.dst (.pointer ad))) : wpStill Try.prog ops w Q (o :: rest) a := by
  refine wps_run hg ?_ hK
  have h1 : ¬ n < 256 := by omega
  simp [execOp, ho, hx, Instr.arrayAt, run_underlying page_und, h1]
theorem wps_load_arr (hg : o.guard = none) (x : Operand) (ho : o.op = .load 55 x) {ad : Addr} {l : List UInt8} (hx : a.eval x = .pointer (some ad)) (hr : RowAt w (some ad) 256 1 (bv l)) (hl : l.length = 256)
    (hK : wpStill Try.prog ops w Q rest (a.put o.dst (pv l))) : wpStill Try.prog ops w Q (o :: rest) a := by
  refine wps_run hg ?_ hK
  have hld := run_loadCells_list (P := Try.prog) w ad (bv l) (fun j v hj => by
    obtain ⟨ad', e, hc⟩ := hr.2 (by omega)
    cases e
    exact hc j v hj)
  rw [bv_length, hl] at hld
  have hsz := page_size
  cases h : Try.prog.info? 55 with
  | none => rw [h] at hsz; cases hsz
  | some i =>
    rw [h] at hsz
    simp at hsz
    simp [execOp, ho, hx, Instr.loadAt, Instr.sureAddr, loadVar, isAgg, run_underlying page_und, sizeOf, typeInfo, h, hsz, hld, pv]
end
theorem und_u64 : Try.prog.underlying 80 = some (.int .u64) := by kernel_rfl
section
variable {ops : Array Oper} {a : Act} {w : World} {rest : List Oper} {o : Oper} {Q : Exit → Act → World → Prop}
theorem run_conv_u32 (n : Nat) (hn : n < 4294967296) (w : World) : (convert 80 33 (.int .u64 (n : Int))).run Try.prog w = .ok (.int .u32 (n : Int)) w := by
  have h : IntKind.u32.wrap (n : Int) = (n : Int) := by rw [IntKind.wrap_u32]; omega
  simp [convert, run_underlying und_u64, run_underlying und_u32, Conv.intToInt, h]
theorem wpl_conv_u32 (hg : o.guard = none) (x : Operand) (ho : o.op = .convert 80 33 x) {n : Nat} (hx : a.eval x = .int .u64 (n : Int)) (hn : n < 4294967296)
    (hK : wpList Try.prog ops Q rest (a.put o.dst (.int .u32 (n : Int))) w) : wpList Try.prog ops Q (o :: rest) a w := by
  refine wpl_run hg ?_ hK
  simp [execOp, ho, hx, run_conv_u32 n hn w]
end
section
variable {w w' : World} {p : Nat} {G : Pg}
set_option maxHeartbeats 2000000 in
set_option maxRecDepth 100000 in
theorem reads_ok (h : PagRep w p G) (ad : Addr) (m c : Nat) (b : List UInt8) (hr : RowAt w (some ad) m 1 (bv b)) (hmc : m ≤ c) (hc63 : c ≤ maxLen) (hm : m ≤ 1048576) (hS : ¬ PS p G ad.block) :
    Calls Try.prog 35 #[.pointer (some ⟨p, 0, none⟩), .slice (some ad) m c] w fun e w' => ReadsSay w p G b e w' := by
  have hbm : b.length = m := by have := hr.1; rw [bv_length] at this; omega
  have hc64 : c ≤ 9223372036854775807 := hc63
  have HN := Lib.hid (get_num (some ad) m c b hr hm)
  have H := Lib.hid h
  have HR := Lib.hid hr
  have HBM := Lib.hid hbm
  have cp := h.blk.cell
  have fp := h.blk.frozen
  unfold Pg.cells at cp
  have t1 : Hid True := trivial
  cases hd : dec 0 0 b with
  | short =>
    have HNone : Hid (recR G.now b = none) := by unfold recR; rw [hd]; rfl
    rw [hd] at HN
    clear h hr hbm hd
    go_enter Try.func35, Try.ntmps35
    go_wp2_with (go_at_call 34; refine HN.out.mono ?_; rintro e w1 ⟨rfl, rfl⟩; unfold Got.val)
    go_ret
    exact .inl ⟨HNone.out, rfl, Mod.refl _ _⟩
  | form =>
    have HNone : Hid (recR G.now b = none) := by unfold recR; rw [hd]; rfl
    rw [hd] at HN
    clear h hr hbm hd
    go_enter Try.func35, Try.ntmps35
    go_wp2_with (go_at_call 34; refine HN.out.mono ?_; rintro e w1 ⟨rfl, rfl⟩; unfold Got.val)
    go_ret
    exact .inl ⟨HNone.out, rfl, Mod.refl _ _⟩
  | ok n t =>
    obtain ⟨ht1, ht2, ht3, hn64⟩ := dec_took b 0 0 n t hd (fun _ => by decide)
    rw [hd] at HN
    by_cases hn32 : 4294967296 ≤ n
    · have hI : (4294967296 : Int) ≤ (n : Int) := by omega
      have HNone : Hid (recR G.now b = none) := by unfold recR; rw [hd]; simp only []; rw [if_pos hn32]; rfl
      clear h hr hbm hd hn32 hn64
      go_enter Try.func35, Try.ntmps35
      go_wp2_with (go_at_call 34; refine HN.out.mono ?_; rintro e w1 ⟨rfl, rfl⟩; unfold Got.val)
      go_ret
      exact .inl ⟨HNone.out, rfl, Mod.refl _ _⟩
    · have hI : ((4294967296 : Int) ≤ (n : Int)) = False := by simp; omega
      have hrecR : recR G.now b = (recsF (b.length + 1) G.now (b.drop t)).map fun x => (n, x) := by unfold recR; rw [hd]; simp only []; rw [if_neg hn32]
      have HRec := Lib.hid hrecR
      have hnN : Hid (n < 4294967296) := Lib.hid (by omega)
      have htm : t ≤ m := by omega
      have hrW : RowAt (w.setCell ⟨p, 4, none⟩ (.int .u32 n)) (some ad) m 1 (bv b) := hr.mod (S := One p) (by decide) ((Mod.refl (One p) w).setCell (p := ⟨p, 4, none⟩) (.inl rfl) _) (fun ad' e _ e2 => by cases e; exact hS (.inl e2))
      have HRW := Lib.hid hrW
      have HN32 := Lib.hid hn32
      clear h hr hbm hd hrecR hrW hn32 hn64
      go_enter Try.func35, Try.ntmps35
      go_wp2_with (first
        | (go_at_call 34; clear t1; refine HN.out.mono ?_; rintro e w1 ⟨rfl, hw1⟩; rw [hw1]; clear hw1; unfold Got.val)
        | (refine wpl_conv_u32 rfl (.tmp 25) rfl rfl hnN.out ?_)
        | (refine wpl_from rfl (.tmp 29) (.tmp 30) rfl rfl rfl HRW.out htm hmc ?_; intro ad1 hab1 hr1))
      have hrep1 := H.out.setRoot n
      have hm1 : Mod (PS p G) w (w.setCell ⟨p, 4, none⟩ (.int .u32 n)) := (Mod.refl _ w).setCell (p := ⟨p, 4, none⟩) (.inl (.inl rfl)) _
      generalize w.setCell ⟨p, 4, none⟩ (.int .u32 n) = w1 at *
      have HP1 := Lib.hid hrep1
      have HM1 := Lib.hid hm1
      have HR1 := Lib.hid hr1
      have HS := Lib.hid hS
      have HAB := Lib.hid hab1
      have hlen0 : (b.drop t).length < b.length + 1 := by rw [List.length_drop]; omega
      clear hrep1 hm1 hr1 cp fp hS hab1 HRW hI
      go_loopw [1] (fun v wr => ∃ (k : Nat) (now : (Nat → Option (List UInt8))) (bb : List UInt8) (ad' : Addr) (m' c' : Nat), v = .slice (some ad') m' c' ∧ m' ≤ c' ∧ c' ≤ 9223372036854775807 ∧ m' ≤ 1048576 ∧ ad'.block = ad.block ∧ RowAt wr (some ad') m' 1 (bv bb) ∧ PagRep wr p { G with root := n, now := now } ∧ bb.length < k ∧ recsF k now bb = recsF (b.length + 1) G.now (b.drop t) ∧ Mod (PS p G) w wr) (fun v _ => lenV v)
      case atStart => exact ⟨b.length + 1, G.now, b.drop t, ad1, m - t, c - t, rfl, by omega, by omega, by omega, HAB.out, HR1.out, HP1.out, hlen0, rfl, HM1.out⟩
      case round =>
        obtain ⟨k, now, bb, ad', m', c', rfl, hmc', hcc', hmm', hab', hrow, hrep, hbk, hrec, hmw⟩ := hrel
        have hbm' : bb.length = m' := by have := hrow.1; rw [bv_length] at this; omega
        obtain ⟨k, rfl⟩ : ∃ k0, k = k0 + 1 := ⟨k - 1, by omega⟩
        have HN2 := Lib.hid (get_num (some ad') m' c' bb hrow hmm')
        have HRep := Lib.hid hrep
        have HRow := Lib.hid hrow
        have HAB' := Lib.hid hab'
        have HM := Lib.hid hmw
        have HBM' := Lib.hid hbm'
        rw [recsF] at hrec
        by_cases hm0 : m' = 0
        · have hnil : bb = [] := List.length_eq_zero_iff.1 (by omega)
          rw [if_pos hnil] at hrec
          have hfin : recR G.now b = some (n, now) := by rw [HRec.out, ← hrec]; rfl
          have HF := Lib.hid hfin
          clear hnil hrec hfin hrep hrow hab' hmw hbm' HN2
          subst hm0
          go_wp2
          go_ret
          exact .inr ⟨n, now, HF.out, rfl, hnN.out, HRep.out, HM.out⟩
        · have hnn : ¬ bb = [] := fun e => hm0 (by rw [e] at hbm'; exact hbm'.symm)
          rw [if_neg hnn] at hrec
          have hpos : (0 : Int) < (m' : Int) := by omega
          have hfalse : recsF (b.length + 1) G.now (b.drop t) = none → recR G.now b = none := fun e => by rw [HRec.out, e]; rfl
          cases hd2 : dec 0 0 bb with
          | short =>
            rw [hd2] at hrec HN2
            have HFalse := Lib.hid (hfalse hrec.symm)
            clear hrec hfalse hrep hrow hab' hmw hbm' hnn hm0 hd2
            go_wp2_with (go_at_call 34; refine HN2.out.mono ?_; rintro e w2 ⟨rfl, rfl⟩; unfold Got.val)
            go_ret
            exact .inl ⟨HFalse.out, rfl, HM.out⟩
          | form =>
            rw [hd2] at hrec HN2
            have HFalse := Lib.hid (hfalse hrec.symm)
            clear hrec hfalse hrep hrow hab' hmw hbm' hnn hm0 hd2
            go_wp2_with (go_at_call 34; refine HN2.out.mono ?_; rintro e w2 ⟨rfl, rfl⟩; unfold Got.val)
            go_ret
            exact .inl ⟨HFalse.out, rfl, HM.out⟩
          | ok n2 t2 =>
            obtain ⟨ht1', ht2', ht3', _⟩ := dec_took bb 0 0 n2 t2 hd2 (fun _ => by decide)
            rw [hd2] at hrec HN2
            simp only [] at hrec
            by_cases hn1 : n2 < 1
            · rw [if_pos (.inl hn1)] at hrec
              have HFalse := Lib.hid (hfalse hrec.symm)
              have hI1 : (n2 : Int) < 1 := by omega
              clear hrec hfalse hrep hrow hab' hmw hbm' hnn hm0 hd2 hn1
              go_wp2_with (go_at_call 34; refine HN2.out.mono ?_; rintro e w2 ⟨rfl, rfl⟩; unfold Got.val)
              go_ret
              exact .inl ⟨HFalse.out, rfl, HM.out⟩
            · by_cases hn4 : 4000 < n2
              · rw [if_pos (.inr hn4)] at hrec
                have HFalse := Lib.hid (hfalse hrec.symm)
                have hI1 : ¬ ((n2 : Int) < 1) := by omega
                have hI2 : (4000 : Int) < (n2 : Int) := by omega
                clear hrec hfalse hrep hrow hab' hmw hbm' hnn hm0 hd2 hn1 hn4
                go_wp2_with (go_at_call 34; refine HN2.out.mono ?_; rintro e w2 ⟨rfl, rfl⟩; unfold Got.val)
                go_ret
                exact .inl ⟨HFalse.out, rfl, HM.out⟩
              · rw [if_neg (by omega)] at hrec
                have hI1 : ¬ ((n2 : Int) < 1) := by omega
                have hI2 : ¬ ((4000 : Int) < (n2 : Int)) := by omega
                by_cases htm2 : m' ≤ t2
                · rw [List.drop_eq_nil_of_le (by omega)] at hrec
                  have HFalse := Lib.hid (hfalse hrec.symm)
                  have hI3 : (m' : Int) ≤ (t2 : Int) := by omega
                  clear hrec hfalse hrep hrow hab' hmw hbm' hnn hm0 hd2 hn1 hn4
                  go_wp2_with (go_at_call 34; refine HN2.out.mono ?_; rintro e w2 ⟨rfl, rfl⟩; unfold Got.val)
                  go_ret
                  exact .inl ⟨HFalse.out, rfl, HM.out⟩
                · have hI3 : ¬ ((m' : Int) ≤ (t2 : Int)) := by omega
                  have htl : t2 < bb.length := by omega
                  rw [List.drop_eq_getElem_cons htl] at hrec
                  obtain ⟨ad2, u, e2, hu, hc⟩ := hrow.at1 (by omega : t2 < m')
                  cases e2
                  rw [bv_get, List.getElem?_eq_getElem htl] at hu
                  cases hu
                  unfold u8v at hc
                  simp only [] at hrec
                  have hx := bb[t2].toNat_lt
                  generalize bb[t2].toNat = x at *
                  by_cases hx1 : 1 < x
                  · rw [if_pos hx1] at hrec
                    have HFalse := Lib.hid (hfalse hrec.symm)
                    have hI4 : (1 : Int) < (x : Int) := by omega
                    clear hrec hfalse hrep hrow hab' hmw hbm' hnn hm0 hd2 hn1 hn4 hx1
                    go_wp2_with (go_at_call 34; refine HN2.out.mono ?_; rintro e w2 ⟨rfl, rfl⟩; unfold Got.val)
                    go_ret
                    exact .inl ⟨HFalse.out, rfl, HM.out⟩
                  · rw [if_neg hx1] at hrec
                    have hI4 : ¬ ((1 : Int) < (x : Int)) := by omega
                    have htm3 : t2 + 1 ≤ m' := by omega
                    have hn2 : Hid (n2 < 4294967296) := Lib.hid (by omega)
                    have hnw2 : IntKind.u32.wrap (n2 : Int) = (n2 : Int) := by rw [IntKind.wrap_u32]; omega
                    by_cases hx0 : x = 0
                    · rw [if_pos hx0] at hrec
                      have hI5 : ((x : Int) == 1) = false := by simp; omega
                      have HRec2 := Lib.hid hrec
                      clear hrec hfalse hrep hrow hab' hmw hbm' hnn hm0 hd2 hn1 hn4 hx1 hx0
                      go_wp2_with (first
                        | (go_at_call 34; refine HN2.out.mono ?_; rintro e w2 ⟨rfl, rfl⟩; unfold Got.val
                           have cq := HRep.out.blk.cell
                           unfold Pg.cells at cq
                           have hnow := HRep.out.now)
                        | (refine wpl_from rfl (.tmp 69) (.tmp 71) rfl rfl rfl HRow.out htm3 hmc' ?_; intro ad3 hab3 hr3)
                        | (at_delete; refine wpl_delete rfl _ _ rfl rfl und_mapPage und_u32 rfl hnow n2 rfl ?_; intro w5 hnow5 hm5))
                      have hne1 : ad3.block ≠ G.m1 := fun e => HS.out (by rw [← HAB'.out, ← hab3, e]; exact .inr (.inl rfl))
                      go_roundw
                      case rel =>
                        refine ⟨k, upd now n2 none, bb.drop (t2 + 1), ad3, m' - (t2 + 1), c' - (t2 + 1), ⟨rfl, rfl, rfl⟩, by omega, by omega, by omega, hab3.trans HAB'.out, hr3.mod (by decide) hm5 (fun ad' e _ e2 => by cases e; exact hne1 e2), HRep.out.setNow hm5 (by rw [mapV_upd]; exact hnow5) ?_, ?_, HRec2.out, HM.out.andThen hm5 (fun b hb _ => .inr (.inl hb))⟩
                        · intro a l hl
                          have hl : upd now n2 none a = some l := hl
                          unfold upd at hl
                          split at hl
                          · cases hl
                          · exact HRep.out.len a l hl
                        · rw [List.length_drop]; omega
                      case measure => simp [lenV]; omega
                    · rw [if_neg hx0] at hrec
                      have hI5 : ((x : Int) == 1) = true := by simp; omega
                      by_cases h256 : (bb.drop (t2 + 1)).length < 256
                      · rw [if_pos h256] at hrec
                        have HFalse := Lib.hid (hfalse hrec.symm)
                        have hI6 : m' - (t2 + 1) < 256 := by rw [List.length_drop] at h256; omega
                        clear hrec hfalse hrep hrow hab' hmw hbm' hnn hm0 hd2 hn1 hn4 hx1 hx0 h256
                        go_wp2_with (first
                          | (go_at_call 34; refine HN2.out.mono ?_; rintro e w2 ⟨rfl, rfl⟩; unfold Got.val)
                          | (refine wpl_from rfl (.tmp 69) (.tmp 71) rfl rfl rfl HRow.out htm3 hmc' ?_; intro ad3 hab3 hr3))
                        go_ret
                        exact .inl ⟨HFalse.out, rfl, HM.out⟩
                      · rw [if_neg h256] at hrec
                        have hI6 : 256 ≤ m' - (t2 + 1) := by rw [List.length_drop] at h256; omega
                        have HRec2 := Lib.hid hrec
                        clear hrec hfalse hrep hrow hab' hmw hbm' hnn hm0 hd2 hn1 hn4 hx1 hx0 h256
                        go_wp2_with (first
                          | (go_at_call 34; refine HN2.out.mono ?_; rintro e w2 ⟨rfl, rfl⟩; unfold Got.val)
                          | (refine wpl_from rfl (.tmp 69) (.tmp 71) rfl rfl rfl HRow.out htm3 hmc' ?_; intro ad3 hab3 hr3))
                        have hI7 : (256 : Int) ≤ ((c' - (t2 + 1) : Nat) : Int) := by omega
                        refine wp_tail 10 (by kernel_rfl) (by kernel_rfl) (fun w6 hm6 => ?_)
                        simp only [List.take_succ_cons, List.take_zero, List.drop_succ_cons, List.drop_zero]
                        have hr6 := HRep.out.non hm6
                        have c6 := hr6.blk.cell
                        unfold Pg.cells at c6
                        have hnow6 := hr6.now
                        have hrow6 := hr3.non (by decide) hm6
                        still_step
                        still_step
                        still_step
                        still_step
                        still_step
                        still_step
                        still_step
                        still_step
                        refine wps_arr rfl (.tmp 91) rfl rfl (Nat.le_refl _) ?_
                        refine wps_load_arr rfl (.tmp 92) rfl rfl (row_take hrow6 hI6) (by rw [List.length_take]; have := hr3.1; rw [bv_length] at this; omega) ?_
                        refine wpStill_nil ?_
                        have hne1 : ad3.block ≠ G.m1 := fun e => HS.out (by rw [← HAB'.out, ← hab3, e]; exact .inr (.inl rfl))
                        go_wp2_with (first
                          | (at_mapUpdate; refine wpl_mapUpdate rfl _ _ _ rfl und_mapPage und_u32 rfl hnow6 n2 rfl rfl ?_; intro w7 hnow7 hm7
                             have hrow7 := hrow6.mod (by decide) hm7 (fun ad' e _ e2 => by cases e; exact hne1 e2))
                          | (refine wpl_from rfl (.tmp 94) _ rfl rfl (t := 256) rfl hrow7 hI6 (by omega) ?_; intro ad4 hab4 hr4))
                        go_roundw
                        case rel =>
                          refine ⟨k, upd now n2 (some ((bb.drop (t2 + 1)).take 256)), (bb.drop (t2 + 1)).drop 256, ad4, m' - (t2 + 1) - 256, c' - (t2 + 1) - 256, rfl, by omega, by omega, by omega, (hab4.trans hab3).trans HAB'.out, hr4, hr6.setNow hm7 (by rw [mapV_upd]; exact hnow7) ?_, ?_, HRec2.out, (HM.out.trans (hm6.mono (fun _ x => x.elim))).andThen hm7 (fun b hb _ => .inr (.inl hb))⟩
                          · intro a l hl
                            have hl : upd now n2 (some ((bb.drop (t2 + 1)).take 256)) a = some l := hl
                            unfold upd at hl
                            split at hl
                            · cases hl
                              rw [List.length_take]
                              have := hr3.1
                              rw [bv_length] at this
                              omega
                            · exact HRep.out.len a l hl
                          · rw [List.length_drop, List.length_drop]; omega
                        case measure => simp [lenV]; omega
end
end Go.Proofs.Ytmclbechnfedmaa
