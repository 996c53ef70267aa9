/- A disk's list is another one; Remove. -/
import Derived.Test.YtmclbechnfedmaaDelete
namespace Go.Proofs.Ytmclbechnfedmaa
open Go Go.RowKit
section
variable {w w' : World} {d : Nat} {D : Dk} {S : Nat → Prop}
def Dk.setNow (D : Dk) (vn : Value) (l : List (ByteArray × Nat)) : Dk := { D with vn := vn, now := l }
def Dk.setKept (D : Dk) (vk : Value) (l : List (ByteArray × Nat)) : Dk := { D with vk := vk, kept := l }

theorem Dk.setNow_file {vn : Value} {l : List (ByteArray × Nat)} (hsub : ∀ x ∈ l, D.isFile x.2) {g : Nat} (hg : (D.setNow vn l).isFile g) : D.isFile g := by
  obtain ⟨x, hx | hx, rfl⟩ := hg
  · exact hsub x hx
  · exact ⟨x, .inr hx, rfl⟩
theorem Dk.setKept_file {vn : Value} {l : List (ByteArray × Nat)} (hsub : ∀ x ∈ l, D.isFile x.2) {g : Nat} (hg : (D.setKept vn l).isFile g) : D.isFile g := by
  obtain ⟨x, hx | hx, rfl⟩ := hg
  · exact ⟨x, .inl hx, rfl⟩
  · exact hsub x hx

theorem DiskRep.setNow (h : DiskRep w d D) (hm : Mod (One d) w w') {vn : Value} {l : List (ByteArray × Nat)} (hb : Blk w' d 66 #[.int .i64 D.size, vn, D.vk]) (hv : w'.ownsRow 0 73 2 vn l.length (ents l))
    (hvn : ∀ b, vn.ownBlock = some b → w.heap.size ≤ b) (hsub : ∀ x ∈ l, D.isFile x.2) (hr : Rising l) (hd : l.Pairwise (fun a b => a.2 ≠ b.2)) (hl : l.length ≤ 64) : DiskRep w' d (D.setNow vn l) := by
  have hkeep : ∀ b, b < w.heap.size → b ≠ d → w'.heap[b]? = w.heap[b]? := fun b hlt h1 => hm.block b hlt h1
  refine ⟨hb, hv, owns_keep h.kept (fun b hb' => ?_), fun b hb' hk => ?_, fun g hg => ?_, fun g k b hg hk hgk hb' => ?_, hr, h.risingK, hd, h.distinctK, hl, h.lenK, h.s1, h.s2⟩
  · obtain ⟨cur, hc⟩ := own_blk h.kept hb'
    exact hkeep b hc.lt (hc.ne h.blk (by decide))
  · have h1 := hvn b hb'
    have h2 := (h.kept.lt b hk).2
    omega
  · obtain ⟨gb, gr, gs⟩ := h.file g (Dk.setNow_file hsub hg)
    refine ⟨(hkeep g gb.lt (gb.ne h.blk (by decide))).trans gb, owns_keep gr (fun b hb' => ?_), gs⟩
    obtain ⟨cur, hc⟩ := own_blk gr hb'
    exact hkeep b hc.lt (hc.ne h.blk (by decide))
  · exact h.sep g k b (Dk.setNow_file hsub hg) (Dk.setNow_file hsub hk) hgk hb'
theorem setNow_DS {vn : Value} {l : List (ByteArray × Nat)} (hvn : ∀ b, vn.ownBlock = some b → w.heap.size ≤ b) (hsub : ∀ x ∈ l, D.isFile x.2) {b : Nat} (hb : DS d (D.setNow vn l) b) : DS d D b ∨ w.heap.size ≤ b := by
  rcases hb with h | h | h | ⟨g, hg, h⟩
  · exact .inl (.inl h)
  · exact .inr (hvn b h)
  · exact .inl (.inr (.inr (.inl h)))
  · exact .inl (.inr (.inr (.inr ⟨g, Dk.setNow_file hsub hg, h⟩)))

theorem DiskRep.setKept (h : DiskRep w d D) (hm : Mod (One d) w w') {vk : Value} {l : List (ByteArray × Nat)} (hb : Blk w' d 66 #[.int .i64 D.size, D.vn, vk]) (hv : w'.ownsRow 0 73 2 vk l.length (ents l))
    (hvk : ∀ b, vk.ownBlock = some b → w.heap.size ≤ b) (hsub : ∀ x ∈ l, D.isFile x.2) (hr : Rising l) (hd : l.Pairwise (fun a b => a.2 ≠ b.2)) (hl : l.length ≤ 64) : DiskRep w' d (D.setKept vk l) := by
  have hkeep : ∀ b, b < w.heap.size → b ≠ d → w'.heap[b]? = w.heap[b]? := fun b hlt h1 => hm.block b hlt h1
  refine ⟨hb, owns_keep h.now (fun b hb' => ?_), hv, fun b hb' hk => ?_, fun g hg => ?_, fun g k b hg hk hgk hb' => ?_, h.rising, hr, h.distinct, hd, h.len, hl, h.s1, h.s2⟩
  · obtain ⟨cur, hc⟩ := own_blk h.now hb'
    exact hkeep b hc.lt (hc.ne h.blk (by decide))
  · have h1 := hvk b hk
    have h2 := (h.now.lt b hb').2
    omega
  · obtain ⟨gb, gr, gs⟩ := h.file g (Dk.setKept_file hsub hg)
    refine ⟨(hkeep g gb.lt (gb.ne h.blk (by decide))).trans gb, owns_keep gr (fun b hb' => ?_), gs⟩
    obtain ⟨cur, hc⟩ := own_blk gr hb'
    exact hkeep b hc.lt (hc.ne h.blk (by decide))
  · exact h.sep g k b (Dk.setKept_file hsub hg) (Dk.setKept_file hsub hk) hgk hb'
theorem setKept_DS {vk : Value} {l : List (ByteArray × Nat)} (hvk : ∀ b, vk.ownBlock = some b → w.heap.size ≤ b) (hsub : ∀ x ∈ l, D.isFile x.2) {b : Nat} (hb : DS d (D.setKept vk l) b) : DS d D b ∨ w.heap.size ≤ b := by
  rcases hb with h | h | h | ⟨g, hg, h⟩
  · exact .inl (.inl h)
  · exact .inl (.inr (.inl h))
  · exact .inr (hvk b h)
  · exact .inl (.inr (.inr (.inr ⟨g, Dk.setKept_file hsub hg, h⟩)))

theorem DiskRep.erase (h : DiskRep w d D) (hm : Mod (One d) w w') {vn : Value} {p : Nat} (hb : Blk w' d 66 #[.int .i64 D.size, vn, D.vk]) (hv : w'.ownsRow 0 73 2 vn (D.now.eraseIdx p).length (ents (D.now.eraseIdx p)))
    (hvn : ∀ b, vn.ownBlock = some b → w.heap.size ≤ b) : DStep w d D w' (D.setNow vn (D.now.eraseIdx p)) := by
  have hsub : ∀ x ∈ D.now.eraseIdx p, D.isFile x.2 := fun x hx => ⟨x, .inl (List.mem_of_mem_eraseIdx hx), rfl⟩
  exact ⟨h.setNow hm hb hv hvn hsub (List.Pairwise.sublist (List.eraseIdx_sublist _ _) h.rising) (List.Pairwise.sublist (List.eraseIdx_sublist _ _) h.distinct) (Nat.le_trans (List.length_eraseIdx_le _ _) h.len), hm.mono (fun b x => .inl x), fun b hb => setNow_DS hvn hsub hb⟩

theorem owns_base {base : Nat} {e : TypeId} {size : Nat} {v : Value} {n : Nat} {xs : List Value} (h : w.ownsRow base e size v n xs) : w.ownsRow 0 e size v n xs :=
  ⟨h.1, h.2.imp id (fun ⟨g, cap, cur, e, _, r⟩ => ⟨g, cap, cur, e, Nat.zero_le _, r⟩)⟩
theorem owns_some {base : Nat} {e : TypeId} {size : Nat} {v : Value} {n : Nat} {xs : List Value} (h : w.ownsRow base e size v n xs) (hn : 0 < n) : ∃ g c, v = .slice (some ⟨g, 0, none⟩) n c ∧ base ≤ g := by
  rcases h.2 with ⟨_, h0⟩ | ⟨g, cap, cur, e, hb, _⟩
  · omega
  · exact ⟨g, cap, e, hb⟩

set_option maxHeartbeats 800000 in
set_option maxRecDepth 100000 in
theorem remove_ok (h : DiskRep w d D) (s : ByteArray) (hm : mayB s = true) (f : Nat) (hl : look D.now s = some f) (p : Nat) (hp : IsPos D.now s p) (hf : foundAt D.now s p = true) :
    Calls Try.prog 37 #[.pointer (some ⟨d, 0, none⟩), .string s] w fun e w' => e = .returned (.int .i64 0) ∧ ∃ vn, DStep w d D w' (D.setNow vn (D.now.eraseIdx p)) ∧ Mod (One d) w w' ∧ ∀ b, vn.ownBlock = some b → w.heap.size ≤ b := by
  have HG := Lib.hid (got_some h s hm f hl _ (asked_okM h))
  have hlen := h.len
  have hpl : p < D.now.length := by
    unfold foundAt at hf
    cases hx : D.now[p]? with
    | none => rw [hx] at hf; cases hf
    | some x => exact (List.getElem?_eq_some_iff.1 hx).1
  have HT : ∀ W, Mod Non w W → Hid (Calls Try.prog 28 #[.pointer (some ⟨d, 0, none⟩), .string s] W fun e w' => e = .returned (.tuple #[.int .i64 p, .int .i64 0]) ∧ Mod Non W w') := fun W hW => by
    have := at_ok (h.non hW) s hm p hp
    rw [if_pos hf] at this
    exact Lib.hid this
  have H := Lib.hid h
  clear h hp hf hl
  go_enter Try.func37, Try.ntmps37
  go_wp2_with (first
    | (go_at_call 30; refine HG.out.mono ?_; rintro e w1 ⟨rfl, hm1⟩)
    | (go_at_call 28; refine (HT _ hm1).out.mono ?_; rintro e w2 ⟨rfl, hm2⟩
       have hm02 := hm1.trans hm2
       obtain ⟨A1, c1, A2, c2, e1, e2, l1, l2, r1, r2⟩ := (H.out.non hm02).opens
       have hb := (H.out.non hm02).blk
       rw [e1, e2] at hb
       have cb := hb.cell
       have Hb := Lib.hid hb
       have HC := Lib.hid (clone_list (H.out.non hm02).now (H.out.len))
       rw [e1] at HC
       have E1 := Lib.hid e1
       have E2 := Lib.hid e2
       clear hb r1 r2 e1 e2)
    | (go_at_call 43; refine HC.out.mono ?_; rintro e w3 ⟨v3, rfl, ho3, hm3⟩
       obtain ⟨g3, c3, rfl, hg3⟩ := owns_some ho3 (by omega)
       have HO3 := Lib.hid ho3
       clear ho3)
    | (go_at_call 55; refine (delete_ok HO3.out H.out.len p hpl).mono ?_; rintro e w4 ⟨rfl, ho4, hm4⟩
       have hm24 : Mod Non w2 w4 := hm3.andThen hm4 (fun b hb hlt => by cases hb; omega)
       have hb4 := Hb.out.mod hm24 (fun x => x)
       have cb4 := hb4.cell
       have fb4 := hb4.frozen
       have HB4 := Lib.hid hb4
       have HO4 := Lib.hid ho4
       clear hb4 ho4))
  go_ret
  have hle : (D.now.eraseIdx p).length = D.now.length - 1 := List.length_eraseIdx_of_lt hpl
  have h2 := H.out.non hm02
  have hgd : g3 ≠ d := by have := h2.blk.lt; omega
  have hmd : Mod (One d) w2 (w4.setCell ⟨d, 1, none⟩ (.slice (some ⟨g3, 0, none⟩) (D.now.length - 1) c3)) := (hm24.mono (T := One d) (fun _ x => x.elim)).setCell (p := ⟨d, 1, none⟩) (.inl rfl) _
  refine ⟨rfl, _, DStep.after hm02 (h2.erase (vn := .slice (some ⟨g3, 0, none⟩) (D.now.length - 1) c3) (p := p) hmd ?_ ?_ (fun b hb => by cases hb; exact hg3)), (hm02.mono (fun _ x => x.elim)).trans hmd, fun b hb => by cases hb; exact Nat.le_trans hm02.size hg3⟩
  · have := HB4.out.set 1 (.slice (some ⟨g3, 0, none⟩) (D.now.length - 1) c3)
    rw [E2.out]
    exact this
  · rw [hle]
    exact owns_keep (owns_base HO4.out) (fun b hb => Below.heap_setCell _ _ _ _ (by cases hb; exact hgd))
end
end Go.Proofs.Ytmclbechnfedmaa
