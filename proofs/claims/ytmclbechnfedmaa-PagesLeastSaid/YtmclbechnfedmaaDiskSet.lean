/- A file of a disk that turns; Sync, Append. -/
import Derived.Test.YtmclbechnfedmaaGot
namespace Go.Proofs.Ytmclbechnfedmaa
open Go Go.RowKit

theorem own_blk {w : World} {base : Nat} {e : TypeId} {size : Nat} {v : Value} {n : Nat} {xs : List Value} {b : Nat} (h : w.ownsRow base e size v n xs) (hb : v.ownBlock = some b) : ∃ cur, Blk w b e cur := by
  rcases h.2 with ⟨rfl, _⟩ | ⟨g, cap, cur, rfl, _, hg, _⟩
  · simp [Value.ownBlock] at hb
  · simp [Value.ownBlock] at hb
    subst hb
    exact ⟨cur, hg⟩
theorem own_blk_ne {w : World} {base : Nat} {e t : TypeId} {size : Nat} {v : Value} {n g : Nat} {xs : List Value} {cs : Array Value} (h : w.ownsRow base e size v n xs) (hk : Blk w g t cs) (hne : e ≠ t) : v.ownBlock ≠ some g := by
  intro hb
  obtain ⟨cur, hc⟩ := own_blk h hb
  exact hc.ne hk hne rfl
theorem own_own_ne {w : World} {base base' : Nat} {e e' : TypeId} {size size' : Nat} {v v' : Value} {n n' : Nat} {xs xs' : List Value} (h : w.ownsRow base e size v n xs) (k : w.ownsRow base' e' size' v' n' xs') (hne : e ≠ e') (b : Nat) (hb : v.ownBlock = some b) : v'.ownBlock ≠ some b := by
  obtain ⟨cur, hc⟩ := own_blk h hb
  exact own_blk_ne k hc (fun e => hne e.symm)

section
variable {w w' : World} {d : Nat} {D : Dk} {S : Nat → Prop}

def Dk.setFile (D : Dk) (f : Nat) (v : Value) (l : List UInt8) (s : Nat) : Dk := { D with fv := upd D.fv f v, by_ := upd D.by_ f l, sure := upd D.sure f s }

theorem DiskRep.setFile (h : DiskRep w d D) {f : Nat} (hf : D.isFile f) (hm : Mod S w w') (hS : ∀ b, S b → b = f ∨ (D.fv f).ownBlock = some b) {v : Value} {l : List UInt8} {s : Nat}
    (hb : Blk w' f 75 #[v, .int .i64 s]) (hr : w'.ownsRow 0 5 1 v l.length (bv l)) (hv : ∀ b, v.ownBlock = some b → (D.fv f).ownBlock = some b ∨ w.heap.size ≤ b) (hs : s ≤ l.length) (hl : l.length ≤ 1048576) :
    DiskRep w' d (D.setFile f v l s) := by
  obtain ⟨fb, fr, fs, fl⟩ := h.file f hf
  have hkeep : ∀ b, b < w.heap.size → b ≠ f → (D.fv f).ownBlock ≠ some b → w'.heap[b]? = w.heap[b]? := fun b hlt h1 h2 => hm.block b hlt (fun hs => (hS b hs).elim h1 h2)
  have hd : w'.heap[d]? = w.heap[d]? := hkeep d h.blk.lt (h.blk.ne fb (by decide)) (own_blk_ne fr h.blk (by decide))
  have hvn : ∀ b, D.vn.ownBlock = some b → w'.heap[b]? = w.heap[b]? := fun b hb' => by
    obtain ⟨cur, hc⟩ := own_blk h.now hb'
    exact hkeep b hc.lt (hc.ne fb (by decide)) (own_blk_ne fr hc (by decide))
  have hvk : ∀ b, D.vk.ownBlock = some b → w'.heap[b]? = w.heap[b]? := fun b hb' => by
    obtain ⟨cur, hc⟩ := own_blk h.kept hb'
    exact hkeep b hc.lt (hc.ne fb (by decide)) (own_blk_ne fr hc (by decide))
  refine ⟨hd.trans h.blk, owns_keep h.now hvn, owns_keep h.kept hvk, h.rows, fun g hg => ?_, fun g k b hg hk hgk hb' => ?_, h.rising, h.risingK, h.distinct, h.distinctK, h.len, h.lenK, h.s1, h.s2⟩
  · by_cases hgf : g = f
    · subst hgf
      simp only [Dk.setFile, upd_same]
      exact ⟨hb, hr, hs, hl⟩
    · obtain ⟨gb, gr, gs⟩ := h.file g hg
      simp only [Dk.setFile, upd_other _ _ hgf]
      refine ⟨(hkeep g gb.lt hgf (own_blk_ne fr gb (by decide))).trans gb, owns_keep gr (fun b hb' => ?_), gs⟩
      obtain ⟨cur, hc⟩ := own_blk gr hb'
      exact hkeep b hc.lt (hc.ne fb (by decide)) (fun e => h.sep g f b hg hf hgf hb' e)
  · simp only [Dk.setFile] at hb' ⊢
    by_cases hgf : g = f
    · subst hgf
      rw [upd_same] at hb'
      rw [upd_other _ _ (fun e => hgk e.symm)]
      rcases hv b hb' with e | e
      · exact h.sep g k b hg hk hgk e
      · intro hkb
        have := ((h.file k hk).2.1.lt b hkb).2
        omega
    · rw [upd_other _ _ hgf] at hb'
      by_cases hkf : k = f
      · subst hkf
        rw [upd_same]
        intro hvb
        rcases hv b hvb with e | e
        · exact h.sep g k b hg hk hgk hb' e
        · have := ((h.file g hg).2.1.lt b hb').2
          omega
      · rw [upd_other _ _ hkf]
        exact h.sep g k b hg hk hgk hb'

theorem setFile_DS {f : Nat} {v : Value} {l : List UInt8} {s : Nat} (hv : ∀ b, v.ownBlock = some b → (D.fv f).ownBlock = some b ∨ w.heap.size ≤ b) {b : Nat} (hb : DS d (D.setFile f v l s) b) : DS d D b ∨ w.heap.size ≤ b := by
  rcases hb with h | h | h | ⟨g, hg, h | h⟩
  · exact .inl (.inl h)
  · exact .inl (.inr (.inl h))
  · exact .inl (.inr (.inr (.inl h)))
  · exact .inl (.inr (.inr (.inr ⟨g, hg, .inl h⟩)))
  · simp only [Dk.setFile] at h
    by_cases hgf : g = f
    · subst hgf
      rw [upd_same] at h
      rcases hv b h with e | e
      · exact .inl (.inr (.inr (.inr ⟨g, hg, .inr e⟩)))
      · exact .inr e
    · rw [upd_other _ _ hgf] at h
      exact .inl (.inr (.inr (.inr ⟨g, hg, .inr h⟩)))

/-- What a step on a disk comes to: it is another one, of the old blocks and of new ones. -/
structure DStep (w : World) (d : Nat) (D : Dk) (w' : World) (D' : Dk) : Prop where
  rep : DiskRep w' d D'
  mod : Mod (DS d D) w w'
  old : ∀ b, DS d D' b → DS d D b ∨ w.heap.size ≤ b

theorem DStep.of_non (h : DiskRep w d D) (hm : Mod Non w w') : DStep w d D w' D := ⟨h.non hm, hm.mono (fun _ x => x.elim), fun _ h => .inl h⟩
theorem DStep.trans {w'' : World} {D' D'' : Dk} (h : DStep w d D w' D') (k : DStep w' d D' w'' D'') : DStep w d D w'' D'' :=
  ⟨k.rep, h.mod.andThen k.mod (fun b hb hlt => (h.old b hb).elim id (fun e => by omega)), fun b hb => (k.old b hb).elim (h.old b) (fun e => .inr (Nat.le_trans h.mod.size e))⟩
theorem DStep.after {D' : Dk} {w0 : World} (hm : Mod Non w0 w) (h : DStep w d D w' D') : DStep w0 d D w' D' :=
  ⟨h.rep, (hm.mono (fun _ x => x.elim)).trans h.mod, fun b hb => (h.old b hb).imp id (fun e => Nat.le_trans hm.size e)⟩
theorem DStep.then {D' : Dk} {w'' : World} (h : DStep w d D w' D') (hm : Mod Non w' w'') : DStep w d D w'' D' :=
  h.trans (.of_non h.rep hm)

set_option maxRecDepth 100000 in
theorem sync_ok (h : DiskRep w d D) (s : ByteArray) (hm : mayB s = true) (f : Nat) (hl : look D.now s = some f) :
    Calls Try.prog 42 #[.pointer (some ⟨d, 0, none⟩), .string s] w fun e w' => e = .returned (.int .i64 0) ∧ DStep w d D w' (D.setFile f (D.fv f) (D.by_ f) (D.by_ f).length) := by
  have hfile : D.isFile f := ⟨_, .inl (look_some hl), rfl⟩
  have HG := Lib.hid (got_some h s hm f hl _ (asked_okM h))
  have H := Lib.hid h
  clear h hl
  go_enter Try.func42, Try.ntmps42
  go_wp2_with (go_at_call 30; refine HG.out.mono ?_; rintro e w1 ⟨rfl, hm1⟩
               obtain ⟨hb, hr, hsu, hle⟩ := (H.out.non hm1).file f hfile
               obtain ⟨A, c, ev, hc, hrow, _⟩ := owns_form hr
               have Hb := Lib.hid hb
               have Ev := Lib.hid ev
               rw [ev] at hb
               have cb := hb.cell
               have fb := hb.frozen
               clear hb ev hrow hc)
  go_ret
  have hbf : ∀ b, (D.fv f).ownBlock = some b → b ≠ f := by
    intro b hb e
    rw [e] at hb
    exact own_blk_ne hr Hb.out (by decide) hb
  refine ⟨rfl, DStep.after hm1 ⟨(H.out.non hm1).setFile hfile ((Mod.refl (One f) w1).setCell (p := ⟨f, 1, none⟩) (.inl rfl) _) (fun b hb => .inl hb) ?_ (owns_keep hr (fun b hb => Below.heap_setCell _ _ _ _ (hbf b hb))) (fun b hb => .inl hb) (Nat.le_refl _) hle, (Mod.refl (DS d D) w1).setCell (p := ⟨f, 1, none⟩) (.inl (.inr (.inr (.inr ⟨f, hfile, .inl rfl⟩)))) _, fun b hb => setFile_DS (w := w1) (fun b hb => .inl hb) hb⟩⟩
  exact Hb.out.set 1 _
end
end Go.Proofs.Ytmclbechnfedmaa
