/- nums.behind, nums.Put. -/
import Derived.Test.YtmclbechnfedmaaConcat
namespace Go.Proofs.Ytmclbechnfedmaa
open Go Go.RowKit

theorem encK_step (r x : Nat) (hr : 1 ≤ r) : encK r x = UInt8.ofNat (if 1 < r then x % 128 + 128 else x % 128) :: encK (r - 1) (x / 128) := by
  cases r with
  | zero => omega
  | succ r =>
    cases r with
    | zero => rfl
    | succ r => simp [encK]
theorem byte_toNat (r x : Nat) : (UInt8.ofNat (if 1 < r then x % 128 + 128 else x % 128)).toNat = (if 1 < r then x % 128 + 128 else x % 128) := by
  rw [UInt8.toNat_ofNat']
  split <;> omega

section
variable {w w' : World}
set_option maxRecDepth 100000 in
theorem behind_ok (A1 A2 : Option Addr) (n1 n2 c1 c2 : Nat) (l1 l2 : List UInt8) (h1 : RowAt w A1 n1 1 (bv l1)) (h2 : RowAt w A2 n2 1 (bv l2)) (hn : 1 ≤ n1 + n2) (hm : n1 + n2 ≤ 4194304) :
    Calls Try.prog 75 #[.slice A1 n1 c1, .slice A2 n2 c2] w fun e w' => ∃ v, e = .returned v ∧ w'.ownsRow w.heap.size 5 1 v (n1 + n2) (bv (l1 ++ l2)) ∧ Mod Non w w' := by
  have hm0 : Mod Non w (w.alloc (.cells #[.slice A1 n1 c1, .slice A2 n2 c2] 23)) := (Mod.refl _ w).alloc _
  have HC := Lib.hid (concat_two (w := w.alloc (.cells #[.slice A1 n1 c1, .slice A2 n2 c2] 23)) w.heap.size 2 _ A1 A2 n1 n2 c1 c2 l1 l2 (Blk.new w _ _) (h1.non (by omega) hm0) (h2.non (by omega) hm0) hn hm)
  have HM := Lib.hid hm0
  clear h1 h2 hm0
  go_enter Try.func75, Try.ntmps75
  go_wp2_with (go_at_call 85; refine HC.out.mono ?_; rintro e w1 ⟨v1, rfl, ho1, hm1⟩)
  go_ret
  exact ⟨_, rfl, owns_from ho1 HM.out.size, HM.out.trans hm1⟩

set_option maxHeartbeats 800000 in
set_option maxRecDepth 100000 in
theorem num_put (A : Option Addr) (m c : Nat) (l : List UInt8) (n : Nat) (h : RowAt w A m 1 (bv l)) (hm : m ≤ 4194000) (hn : n < 18446744073709551616) :
    Calls Try.prog 58 #[.slice A m c, .int .u64 n] w fun e w' => ∃ v, e = .returned v ∧ w'.ownsRow w.heap.size 5 1 v (m + vlen n) (bv (l ++ enc n)) ∧ Mod Non w w' := by
  obtain ⟨i0, hi, hz0, hz1, hz2⟩ := info_parts info_u8
  have HR := Lib.hid (row_ok w n hn)
  have H := Lib.hid h
  have hv1 := vlen_pos n
  have hv2 := vlen_le n
  clear h
  go_enter Try.func58, Try.ntmps58
  go_wp2_with (go_at_call 74; refine HR.out.mono ?_; rintro e w1 ⟨a, b, rfl, ha, hb, hla, hlb, hm1⟩)
  have HA := Lib.hid ha
  have HB := Lib.hid hb
  have HM1 := Lib.hid hm1
  clear ha hb hm1
  go_loopw [6, 7] (fun v more wr => ∃ (done : List UInt8) (r x : Nat), done ++ encK r x = enc n ∧ r ≤ 10 ∧ done.length + r = vlen n ∧ more = .bool (decide (0 < r)) ∧ Blk wr a 80 #[.int .u64 x] ∧ Blk wr b 3 #[.int .i64 r] ∧ wr.ownsRow w.heap.size 5 1 v done.length (bv done) ∧ v.ownBlock ≠ some a ∧ v.ownBlock ≠ some b ∧ Mod Non w wr) (fun _ more wr => match wr.cell? ⟨b, 0, none⟩ with | some (.int _ x) => x.toNat | _ => 0)
  case atStart =>
    exact ⟨[], vlen n, n, rfl, hv2, by simp, by simp; omega, HA.out, HB.out, World.ownsRow_nil _ _ _ _, by simp [Value.ownBlock], by simp [Value.ownBlock], HM1.out⟩
  case round =>
    obtain ⟨done, r, x, he, hr, hdr, rfl, ha, hb, ho, hna, hnb, hmr⟩ := hrel
    by_cases hr0 : 0 < r
    · have hb0 : wr.cell? ⟨b, 0, none⟩ = some (.int .i64 r) := hb.cell 0
      have hy := row_byte a b x r hr0 hr ha hb
      rw [← byte_toNat] at hy
      have hst := encK_step r x hr0
      generalize UInt8.ofNat (if 1 < r then x % 128 + 128 else x % 128) = u at *
      have HY := Lib.hid hy
      have HST := Lib.hid hst
      have HE := Lib.hid he
      have HD := Lib.hid hdr
      have HO := Lib.hid ho
      have HMR := Lib.hid hmr
      have HLa := Lib.hid ha.lt
      have HLb := Lib.hid hb.lt
      have hd0 : decide (0 < r) = true := by simpa using hr0
      rw [hd0]
      clear hy hst he ho hmr ha hb hd0
      go_wp2_with (first
        | (go_at_call 84; refine HY.out.mono ?_; rintro e w2 ⟨rfl, hm2, ha2, hb2⟩
           have HA2 := Lib.hid ha2
           have HB2 := Lib.hid hb2
           have HM2 := Lib.hid hm2
           have hmW : Mod Non w2 (w2.alloc (.cells #[.int .u8 u.toNat] 5)) := (Mod.refl _ w2).alloc _
           have hoW := owns_keep HO.out (fun k hk => (hm2.trans (hmW.mono (fun _ x => x.elim))).block k (HO.out.lt k hk).2 (fun e => e.elim (fun e => hna (by rw [hk, e])) (fun e => hnb (by rw [hk, e]))))
           obtain ⟨Av, cv, rfl, _, _, _⟩ := owns_form hoW
           have hrW : RowAt (w2.alloc (.cells #[.int .u8 u.toNat] 5)) (some ⟨w2.heap.size, 0, none⟩) 1 1 (bv [u]) := ⟨rfl, fun _ => ⟨_, rfl, fun j y hy => by
             rw [add_lit, (Blk.new w2 5 #[.int .u8 u.toNat]).cell]
             simpa [bv, u8v] using hy⟩⟩
           have HMW := Lib.hid hmW
           clear ha2 hb2 hm2 hmW)
        | (at_builtin; refine wpl_append_at rfl (.tmp 17) (.tmp 19) _ rfl w.heap.size 5 i0 (.int .u8 0) 1 1 und_bytes hi hz0 hz1 hz2 rfl (by omega) (v := .slice Av done.length cv) rfl hoW rfl hrW (bv_one [u]) (by unfold maxLen; omega) (by omega) (Nat.le_trans HMR.out.size (Nat.le_trans HM2.out.size HMW.out.size)) ?_
           intro v4 w4 ho4 hg4 hn4 ha4))
      case roundEnd =>
        have hmg : Mod (fun k => (Value.slice Av done.length cv).ownBlock = some k) (w2.alloc (.cells #[.int .u8 u.toNat] 5)) w4 := Mod.of_grown hg4 (fun k hk => hk)
        have hm24 : Mod (fun k => (Value.slice Av done.length cv).ownBlock = some k) w2 w4 := (HMW.out.mono (fun _ x => x.elim)).trans hmg
        have hA4 := HA2.out.mod hm24 hna
        have hB4 := HB2.out.mod hm24 hnb
        have hr1 : ((r : Int) - 1) = ((r - 1 : Nat) : Int) := by omega
        rw [hr1] at hB4
        have hlow : ∀ k, (Value.slice Av done.length cv).ownBlock = some k → w.heap.size ≤ k := fun k hk => (HO.out.lt k hk).1
        have hmw4 : Mod Non w w4 := HMR.out.andThen (T := fun y => y = a ∨ y = b ∨ (Value.slice Av done.length cv).ownBlock = some y) ((HM2.out.mono (fun y x => x.elim .inl (fun e => .inr (.inl e)))).trans (hm24.mono (fun y x => .inr (.inr x)))) (fun y hy hlt => by
          rcases hy with rfl | rfl | hy
          · omega
          · omega
          · have := hlow y hy; omega)
        have hsz2 := HM2.out.size
        have hszW := HMW.out.size
        have hla2 := HLa.out
        have hlb2 := HLb.out
        have hnew : ∀ y, y < wr.heap.size → (Value.slice Av done.length cv).ownBlock ≠ some y → v4.ownBlock ≠ some y := fun y hy hne h => by
          rcases ha4 with e | e
          · exact hne (e ▸ h)
          · rw [e] at h
            injection h with h
            omega
        have hD := HD.out
        refine ⟨⟨done ++ [u], r - 1, x / 128, ?_, by omega, ?_, ?_, hA4, hB4, ?_, hnew a hla2 hna, hnew b hlb2 hnb, hmw4⟩, ?_⟩
        · rw [List.append_assoc, List.singleton_append, ← HST.out]
          exact HE.out
        · rw [List.length_append, List.length_singleton]
          omega
        · congr 1
          rw [decide_eq_decide]
          omega
        · rw [List.length_append, List.length_singleton, bv_append]
          exact ho4
        · have h0 : w4.cell? ⟨b, 0, none⟩ = some (.int .i64 (r - 1 : Nat)) := hB4.cell 0
          rw [h0, hb0]
          simp only [Int.toNat_natCast]
          omega
    · have hr00 : r = 0 := by omega
      subst hr00
      have hde : done = enc n := by rw [← he]; simp [encK]
      subst hde
      have hd0 : decide (0 < 0) = false := rfl
      obtain ⟨Av, cv, rfl, _, hrow, _⟩ := owns_form ho
      have hlen : (enc n).length = vlen n := encK_length _ _
      rw [hlen] at hrow
      rw [hlen]
      have HBH := Lib.hid (behind_ok A Av m (vlen n) c cv l (enc n) (H.out.non (by omega) hmr) hrow (by omega) (by omega))
      have HMR := Lib.hid hmr
      clear he hdr ha hb ho hrow hmr hna hnb
      go_wp2_with (go_at_call 75; refine HBH.out.mono ?_; rintro e w5 ⟨v5, rfl, ho5, hm5⟩)
      go_ret
      exact ⟨_, rfl, owns_from ho5 HMR.out.size, HMR.out.trans hm5⟩
end
end Go.Proofs.Ytmclbechnfedmaa
