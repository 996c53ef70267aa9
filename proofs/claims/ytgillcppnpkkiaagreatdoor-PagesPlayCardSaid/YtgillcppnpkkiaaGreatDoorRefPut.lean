/- The reference: Put. -/
import Derived.Test.YtgillcppnpkkiaaGreatDoorRefNew
import Derived.Test.YtgillcppnpkkiaaGreatDoorMove
namespace Go.Proofs.YtgillcppnpkkiaaGreatDoor
open Go Go.RowKit
section
variable {w w' : World} {m : Nat} {R : Rf} {S : Nat → Prop}
theorem ref_put_none (h : RefRep w m R) (n : Nat) (hi : R.at_ n = none) (A : Option Addr) (q c : Nat) : Calls Tryz.prog 27 #[.pointer (some ⟨m, 0, none⟩), .int .u32 n, .slice A q c] w fun e w' => e = .returned (.int .i64 7) ∧ w = w' := by
  have HF := Lib.hid (ref_find h n)
  rw [hi] at HF
  clear h hi
  go_enter Tryz.func27, Tryz.ntmps27
  go_wp2_with (go_at_call 45; refine HF.out.mono ?_; rintro e w1 ⟨rfl, rfl⟩)
  go_ret
  exact ⟨rfl, rfl⟩
theorem ref_put_long (h : RefRep w m R) (n i : Nat) (hi : R.at_ n = some i) (A : Option Addr) (q c : Nat) (hq : 256 < q) : Calls Tryz.prog 27 #[.pointer (some ⟨m, 0, none⟩), .int .u32 n, .slice A q c] w fun e w' => e = .returned (.int .i64 1) ∧ w = w' := by
  have HF := Lib.hid (ref_find h n)
  rw [hi] at HF
  clear h hi
  go_enter Tryz.func27, Tryz.ntmps27
  go_wp2_with (go_at_call 45; refine HF.out.mono ?_; rintro e w1 ⟨rfl, rfl⟩)
  go_ret
  exact ⟨rfl, rfl⟩
def part (l : List UInt8) (k : Nat) : List UInt8 := l.take k ++ zero256.drop k
theorem part_all (l : List UInt8) : part l l.length = padded l := by unfold part padded; rw [List.take_length]
theorem part_length {l : List UInt8} {k : Nat} (hk : k ≤ l.length) (hl : l.length ≤ 256) : (part l k).length = 256 := by
  unfold part
  rw [List.length_append, List.length_take, List.length_drop, zero256_length]
  omega
theorem part_set {l : List UInt8} {k : Nat} (hk : k < l.length) (hl : l.length ≤ 256) : (bv (part l k)).toArray.setIfInBounds k (.int .u8 (l[k].toNat : Int)) = (bv (part l (k + 1))).toArray := by
  refine Array.ext' ?_
  rw [Array.toList_setIfInBounds]
  show (bv (part l k)).set k _ = bv (part l (k + 1))
  unfold bv
  rw [show Value.int IntKind.u8 (l[k].toNat : Int) = u8v l[k] from rfl, ← List.map_set]
  congr 1
  unfold part
  have h1 : k < zero256.length := by rw [zero256_length]; omega
  have h2 : (l.take k).length = k := by rw [List.length_take]; omega
  rw [List.set_append_right _ _ (by omega), h2, Nat.sub_self, List.drop_eq_getElem_cons h1, List.set_cons_zero, List.take_succ_eq_append_getElem hk, List.append_assoc]
  rfl
theorem pgs_set {l : List RP} {i : Nat} {x : RP} (hx : l[i]? = some x) (y : RP) : ((pgs l).set (i * 2) (.int .u32 y.n)).set (i * 2 + 1) (.slice (some y.a) 256 256) = pgs (l.set i y) := by
  induction l generalizing i with
  | nil => simp at hx
  | cons z l ih =>
    cases i with
    | zero => simp [pgs, pgc]
    | succ i =>
      simp at hx
      have := ih hx
      rw [List.set_cons_succ, pgs_cons, pgs_cons, ← this, show (i + 1) * 2 = i * 2 + 2 by omega]
      simp [pgc, List.set]
theorem put_end {w3 : World} {i n g gl cl : Nat} {cur : Array Value} {b : List UInt8} (H : RefRep w m R) (hm3 : Mod Non w w3) (hb3 : Blk w3 m 97 #[.slice R.an R.now.length R.cn, .int .u32 R.root, .slice R.ak R.kept.length R.ck, .int .u32 R.was]) {x : RP} (hx : R.now[i]? = some x)
    (hbl : Blk w3 gl 101 cur) (ht : cur.toList.take ((0 + R.now.length) * 2) = [] ++ pgs R.now) (hlc : 0 + R.now.length ≤ cl) (hcm : cl ≤ maxLen) (hgl : w.heap.size ≤ gl)
    (hg : w.heap.size ≤ g) (hgb : Blk w3 g 5 (bv b).toArray) (hb256 : b.length = 256) :
    ∃ A c ad, RefRep (((w3.setCell ⟨gl, i * 2, none⟩ (.int .u32 n)).setCell ⟨gl, i * 2 + 1, none⟩ (.slice (some ⟨g, 0, none⟩) 256 256)).setCell ⟨m, 0, none⟩ (.slice (some ⟨gl, 0, none⟩) R.now.length cl)) m (R.cut A c (R.now.set i ⟨n, ad, b⟩)) ∧ (∀ k, RI (R.cut A c (R.now.set i ⟨n, ad, b⟩)) k → RI R k ∨ w.heap.size ≤ k)
      ∧ Mod (One m) w (((w3.setCell ⟨gl, i * 2, none⟩ (.int .u32 n)).setCell ⟨gl, i * 2 + 1, none⟩ (.slice (some ⟨g, 0, none⟩) 256 256)).setCell ⟨m, 0, none⟩ (.slice (some ⟨gl, 0, none⟩) R.now.length cl)) := by
  have hlt := (List.getElem?_eq_some_iff.1 hx).1
  have hml := H.blk.lt
  have hglm : gl ≠ m := fun e => by omega
  have hgm : g ≠ m := fun e => by omega
  have hglg : gl ≠ g := hbl.ne hgb (by decide)
  have hb1 := (hbl.set (i * 2) (.int .u32 n)).set (i * 2 + 1) (.slice (some ⟨g, 0, none⟩) 256 256)
  have hg1 := (hgb.far (p := ⟨gl, i * 2, none⟩) (fun e => hglg e.symm) (.int .u32 n)).far (p := ⟨gl, i * 2 + 1, none⟩) (fun e => hglg e.symm) (.slice (some ⟨g, 0, none⟩) 256 256)
  have hm1 := (hb3.far (p := ⟨gl, i * 2, none⟩) (fun e => hglm e.symm) (.int .u32 n)).far (p := ⟨gl, i * 2 + 1, none⟩) (fun e => hglm e.symm) (.slice (some ⟨g, 0, none⟩) 256 256)
  have hmod1 : Mod Non w ((w3.setCell ⟨gl, i * 2, none⟩ (.int .u32 n)).setCell ⟨gl, i * 2 + 1, none⟩ (.slice (some ⟨g, 0, none⟩) 256 256)) :=
    hm3.andThen (((Mod.refl (One gl) _).setCell (p := ⟨gl, i * 2, none⟩) (.inl rfl) _).setCell (p := ⟨gl, i * 2 + 1, none⟩) (.inl rfl) _) (fun k hk hlt => by have hk : k = gl := hk; omega)
  generalize (w3.setCell ⟨gl, i * 2, none⟩ (.int .u32 n)).setCell ⟨gl, i * 2 + 1, none⟩ (.slice (some ⟨g, 0, none⟩) 256 256) = w4 at *
  have hmc := (Mod.refl (One m) w4).setCell (p := ⟨m, 0, none⟩) (.inl rfl) (.slice (some ⟨gl, 0, none⟩) R.now.length cl)
  have hm0 := (hmod1.mono (T := One m) (fun _ x => x.elim)).trans hmc
  have hbf := hb1.far (p := ⟨m, 0, none⟩) hglm (.slice (some ⟨gl, 0, none⟩) R.now.length cl)
  have hgf := hg1.far (p := ⟨m, 0, none⟩) hgm (.slice (some ⟨gl, 0, none⟩) R.now.length cl)
  obtain ⟨q1, q2⟩ := H.turn hm0 (A := some ⟨gl, 0, none⟩) (c := cl) (l := R.now.set i ⟨n, ⟨g, 0, none⟩, b⟩) (by rw [List.length_set]; exact hm1.set 0 _)
    ⟨by rw [pgs_length], fun _ => ⟨_, rfl, fun j u hu => by
      rw [add_lit, hbf.cell]
      rw [← pgs_set hx ⟨n, ⟨g, 0, none⟩, b⟩] at hu
      rw [List.nil_append, Nat.zero_add] at ht
      rw [← ht, ← List.take_set, ← List.take_set] at hu
      rw [List.getElem?_take] at hu
      split at hu
      · rw [← Array.getElem?_toList, Array.toList_setIfInBounds, Array.toList_setIfInBounds]
        exact hu
      · cases hu⟩⟩
    (fun ad e => by cases e; exact ⟨hgl, hbf.lt⟩)
    (fun y hy => by
      rcases List.mem_or_eq_of_mem_set hy with h | rfl
      · exact .inl h
      · exact .inr ⟨hg, hgf.lt, ⟨by rw [bv_length, hb256], fun _ => ⟨_, rfl, fun j u hu => by rw [add_lit, hgf.cell]; simpa using hu⟩⟩, hb256⟩)
    (by rw [List.length_set]; omega) hcm
  exact ⟨_, cl, ⟨g, 0, none⟩, q1, q2, hm0⟩
set_option maxHeartbeats 1000000 in
set_option maxRecDepth 100000 in
theorem ref_put (h : RefRep w m R) (hlen : R.now.length ≤ 1048576) (n i : Nat) (hi : R.at_ n = some i) {A : Option Addr} {c : Nat} {l : List UInt8} (hr : RowAt w A l.length 1 (bv l)) (hl : l.length ≤ 256) :
    Calls Tryz.prog 27 #[.pointer (some ⟨m, 0, none⟩), .int .u32 n, .slice A l.length c] w fun e w' => e = .returned (.int .i64 0) ∧ ∃ B c ad, RefRep w' m (R.cut B c (R.now.set i ⟨n, ad, padded l⟩)) ∧ (∀ b, RI (R.cut B c (R.now.set i ⟨n, ad, padded l⟩)) b → RI R b ∨ w.heap.size ≤ b) ∧ Mod (One m) w w' := by
  have hlt := at_lt hi
  obtain ⟨i0, z0, hi0, hz0, hz3, hz1, hz2⟩ := rp_info
  have HF := Lib.hid (ref_find h n)
  rw [hi] at HF
  have HR := Lib.hid hr
  have H := Lib.hid h
  clear h hi hr
  go_enter Tryz.func27, Tryz.ntmps27
  go_wp2_with (first
    | (go_at_call 45; refine HF.out.mono ?_; rintro e w1 ⟨rfl, rfl⟩)
    | (refine wpl_make256 rfl rfl ?_; intro w1 hb1 hm1 hs1))
  have HB1 := Lib.hid hb1
  have HM1 := Lib.hid hm1
  have hgm : w.heap.size ≠ m := fun e => by have := H.out.blk.lt; omega
  obtain ⟨g, hg⟩ : ∃ g, g = w.heap.size := ⟨_, rfl⟩
  rw [← hg] at HB1 hgm ⊢
  have HG := Lib.hid hg
  clear hb1 hm1 hg
  go_loopw [10] (fun v wr => ∃ k : Nat, k ≤ l.length ∧ v = .int .i64 k ∧ Blk wr g 5 (bv (part l k)).toArray ∧ Mod Non w wr) (fun v _ => l.length - (intOf v).toNat)
  case atStart => exact ⟨0, Nat.zero_le _, rfl, HB1.out, HM1.out⟩
  case round =>
    obtain ⟨k, hk, rfl, hbk, hm⟩ := hrel
    by_cases hkl : k < l.length
    · obtain ⟨ad, rfl, hcell⟩ := (HR.out.non (by decide) hm).2 (by omega)
      have hx : (bv l)[k]? = some (.int .u8 (l[k].toNat : Int)) := by rw [bv_get, List.getElem?_eq_getElem hkl]; rfl
      have c1 := hcell _ _ hx
      have hk256 : k < 256 := by omega
      obtain ⟨u, c2⟩ : ∃ u, wr.cell? ⟨g, k, none⟩ = some u := ⟨_, (hbk.cell k).trans (Array.getElem?_eq_getElem (by rw [List.size_toArray, bv_length, part_length hk hl]; omega))⟩
      have f2 := hbk.frozen k
      have HBK := Lib.hid hbk
      have HM := Lib.hid hm
      have hpl := Lib.hid hl
      clear hbk hm hcell hx hl
      go_wp2
      have hset := HBK.out.set k (.int .u8 (l[k].toNat : Int))
      rw [part_set hkl hpl.out] at hset
      have hlt2 := HG.out
      go_roundw
      case rel => exact ⟨k + 1, by omega, by go_num, hset, HM.out.andThen ((Mod.refl (One g) _).setCell (p := ⟨g, k, none⟩) (.inl rfl) _) (fun b hb hlt => by have hb : b = g := hb; omega)⟩
      case measure => simp [intOf]; omega
    · obtain rfl : k = l.length := by omega
      rw [part_all] at hbk
      have h1 := H.out.non hm
      have c1 := h1.blk.cell
      have hr1 := h1.now
      have HN0 := Lib.hid (World.ownsRow_nil wr wr.heap.size 101 2)
      have hml : 0 + R.now.length ≤ maxLen := by unfold maxLen; omega
      have HM := Lib.hid hm
      have HBK := Lib.hid hbk
      have H1 := Lib.hid h1
      have hl2 := hl
      clear hm hbk h1 hl
      go_wp2_with (
        at_builtin; refine wpl_append rfl (.const (.slice none 0 0)) (.tmp 41) _ rfl wr.heap.size 101 i0 z0 2 32 und_rps hi0 hz0 hz1 hz2 hz3 (by omega) rfl HN0.out rfl hr1 (pgs_one _) hml (by omega) (Nat.le_refl _) ?_; intro v3 w3 ho3 hg3 _
        have hm3 : Mod Non wr w3 := (Mod.refl Non wr).owned HN0.out hg3 (Nat.le_refl _)
        obtain ⟨gl, cl, cur, rfl, hbl, hlc, hcm, hcs, ht⟩ := owns_open ho3 (by omega)
        have hgl := (ho3.lt gl rfl).1
        have hglm : gl ≠ m := fun e => by have := H.out.blk.lt; have := HM.out.size; omega
        have hglg : gl ≠ g := fun e => by have := HBK.out.lt; omega
        have h3 := H1.out.non hm3
        have cm := h3.blk.cell
        have fm := h3.blk.frozen
        have hsz : cur.size ≥ i * 2 + 2 := by omega
        obtain ⟨u1, d1⟩ : ∃ u, w3.cell? ⟨gl, i * 2, none⟩ = some u := ⟨_, (hbl.cell (i * 2)).trans (Array.getElem?_eq_getElem (by omega))⟩
        obtain ⟨u2, d2⟩ : ∃ u, w3.cell? ⟨gl, i * 2 + 1, none⟩ = some u := ⟨_, (hbl.cell (i * 2 + 1)).trans (Array.getElem?_eq_getElem (by omega))⟩
        have fl := hbl.frozen
        have HBL := Lib.hid hbl
        have HT := Lib.hid ht
        have H3 := Lib.hid h3
        have HM3 := Lib.hid hm3
        have HLC := Lib.hid (And.intro hlc (And.intro hcm hcs))
        have hge : wr.heap.size ≤ gl := by omega
        clear hg3 c1 ho3 hbl ht h3 hm3 hlc hcm hcs hgl hsz)
      go_ret
      have hsz := HM.out.size
      have hge2 := HG.out
      exact ⟨rfl, put_end H.out (HM.out.trans HM3.out) H3.out.blk (List.getElem?_eq_getElem hlt) HBL.out HT.out HLC.out.1 HLC.out.2.1 (by omega) (by omega) (HBK.out.mod HM3.out (fun x => x)) (padded_length hl2)⟩
end
end Go.Proofs.YtgillcppnpkkiaaGreatDoor
