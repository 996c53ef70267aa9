/- The steps of anew: closures. A region that draws its order, where two operations that act may come either way: a plan that forks. The disk along anew: six steps, on a disk whose list is empty. anew, on a disk whose list is empty. Open, on a new disk. The disk along anew, whatever it holds. -/
import Derived.Test.YtgillcppnpkkiaaGreatDoorRecord
import Derived.Test.YtgillcppnpkkiaaGreatDoorMove
namespace Go.Proofs.YtgillcppnpkkiaaGreatDoor
open Go Go.RowKit

def freshB : ByteArray := { data := #[112, 45, 110, 101, 119] }
def nameB : ByteArray := { data := #[112] }
theorem may_fresh : mayB freshB = true := by decide
theorem may_name : mayB nameB = true := by decide

section
variable {w w' : World} {p q r : Nat} {G : Pg} {R : World → Prop}
set_option maxRecDepth 100000 in
theorem anew_create (hq : Blk w q 29 #[.pointer (some ⟨p, 0, none⟩)]) (hp : Blk w p 86 G.cells)
    (HC : Calls Tryz.prog 117 #[.pointer (some ⟨G.d, 0, none⟩), .string freshB] w fun e w' => e = .returned (.int .i64 0) ∧ R w') :
    Calls Tryz.prog 116 #[.pointer (some ⟨q, 0, none⟩)] w fun e w' => e = .returned (.int .i64 0) ∧ R w' := by
  have cq := hq.cell
  have cp := hp.cell
  unfold Pg.cells at cp
  have H := Lib.hid HC
  unfold freshB at H
  clear hq hp HC
  go_enter Tryz.func116, Tryz.ntmps116
  go_wp2_with (go_at_call 117; refine H.out.mono ?_; rintro e w1 ⟨rfl, hm1⟩)
  go_ret
  exact ⟨rfl, hm1⟩

set_option maxRecDepth 100000 in
theorem anew_sync (hq : Blk w q 29 #[.pointer (some ⟨p, 0, none⟩)]) (hp : Blk w p 86 G.cells)
    (HC : Calls Tryz.prog 49 #[.pointer (some ⟨G.d, 0, none⟩), .string freshB] w fun e w' => e = .returned (.int .i64 0) ∧ R w') :
    Calls Tryz.prog 119 #[.pointer (some ⟨q, 0, none⟩)] w fun e w' => e = .returned (.int .i64 0) ∧ R w' := by
  have cq := hq.cell
  have cp := hp.cell
  unfold Pg.cells at cp
  have H := Lib.hid HC
  unfold freshB at H
  clear hq hp HC
  go_enter Tryz.func119, Tryz.ntmps119
  go_wp2_with (go_at_call 49; refine H.out.mono ?_; rintro e w1 ⟨rfl, hm1⟩)
  go_ret
  exact ⟨rfl, hm1⟩

set_option maxRecDepth 100000 in
theorem anew_rename (hq : Blk w q 29 #[.pointer (some ⟨p, 0, none⟩)]) (hp : Blk w p 86 G.cells)
    (HC : Calls Tryz.prog 121 #[.pointer (some ⟨G.d, 0, none⟩), .string freshB, .string nameB] w fun e w' => e = .returned (.int .i64 0) ∧ R w') :
    Calls Tryz.prog 120 #[.pointer (some ⟨q, 0, none⟩)] w fun e w' => e = .returned (.int .i64 0) ∧ R w' := by
  have cq := hq.cell
  have cp := hp.cell
  unfold Pg.cells at cp
  have H := Lib.hid HC
  unfold freshB nameB at H
  clear hq hp HC
  go_enter Tryz.func120, Tryz.ntmps120
  go_wp2_with (go_at_call 121; refine H.out.mono ?_; rintro e w1 ⟨rfl, hm1⟩)
  go_ret
  exact ⟨rfl, hm1⟩

set_option maxRecDepth 100000 in
theorem anew_append {v : Value} {S : Nat → Prop} (hSp : ¬ S p) (hSq : ¬ S q) (hSr : ¬ S r) (hq : Blk w q 29 #[.pointer (some ⟨p, 0, none⟩)]) (hr : Blk w r 56 #[v]) (hp : Blk w p 86 G.cells)
    (HC : ∀ W, Mod Non w W → Calls Tryz.prog 48 #[.pointer (some ⟨G.d, 0, none⟩), .string freshB, v] W fun e w' => e = .returned (.int .i64 0) ∧ Mod S W w' ∧ R w') :
    Calls Tryz.prog 118 #[.pointer (some ⟨q, 0, none⟩), .pointer (some ⟨r, 0, none⟩)] w fun e w' => e = .returned (.int .i64 0) ∧ ∃ w2, Mod Non w w2 ∧ Mod S w2 w' ∧ R w' := by
  have HQ := Lib.hid hq
  have HRr := Lib.hid hr
  have HP := Lib.hid hp
  unfold freshB at HC
  clear hq hp hr
  go_enter Tryz.func118, Tryz.ntmps118
  go_wp2
  refine wp_plan [(0, false), (1, false), (2, false), (3, false), (4, false), (5, true), (6, false)] S (by kernel_rfl) (by kernel_rfl) (fun c d v a w h => by cases d <;> exact h) (fun w2 hm2 => ?_)
  refine wpp_read _ rfl rfl (fun W hW => by have cq := ((HQ.out.mod hm2 (fun x => x)).mod hW hSq).cell; have cr := ((HRr.out.mod hm2 (fun x => x)).mod hW hSr).cell; have cp := ((HP.out.mod hm2 (fun x => x)).mod hW hSp).cell; unfold Pg.cells at cp; first | (go_simp; done) | (go_simp; rfl) | rfl) ?_
  simp only [List.getElem_toArray, List.getElem_cons_zero]
  go_frame
  refine wpp_read _ rfl rfl (fun W hW => by have cq := ((HQ.out.mod hm2 (fun x => x)).mod hW hSq).cell; have cr := ((HRr.out.mod hm2 (fun x => x)).mod hW hSr).cell; have cp := ((HP.out.mod hm2 (fun x => x)).mod hW hSp).cell; unfold Pg.cells at cp; first | (go_simp; done) | (go_simp; rfl) | rfl) ?_
  simp only [List.getElem_toArray, List.getElem_cons_succ, List.getElem_cons_zero]
  go_frame
  refine wpp_read _ rfl rfl (fun W hW => by have cq := ((HQ.out.mod hm2 (fun x => x)).mod hW hSq).cell; have cr := ((HRr.out.mod hm2 (fun x => x)).mod hW hSr).cell; have cp := ((HP.out.mod hm2 (fun x => x)).mod hW hSp).cell; unfold Pg.cells at cp; first | (go_simp; done) | (go_simp; rfl) | rfl) ?_
  simp only [List.getElem_toArray, List.getElem_cons_succ, List.getElem_cons_zero]
  go_frame
  refine wpp_read _ rfl rfl (fun W hW => by have cq := ((HQ.out.mod hm2 (fun x => x)).mod hW hSq).cell; have cr := ((HRr.out.mod hm2 (fun x => x)).mod hW hSr).cell; have cp := ((HP.out.mod hm2 (fun x => x)).mod hW hSp).cell; unfold Pg.cells at cp; first | (go_simp; done) | (go_simp; rfl) | rfl) ?_
  simp only [List.getElem_toArray, List.getElem_cons_succ, List.getElem_cons_zero]
  go_frame
  refine wpp_read _ rfl rfl (fun W hW => by have cq := ((HQ.out.mod hm2 (fun x => x)).mod hW hSq).cell; have cr := ((HRr.out.mod hm2 (fun x => x)).mod hW hSr).cell; have cp := ((HP.out.mod hm2 (fun x => x)).mod hW hSp).cell; unfold Pg.cells at cp; first | (go_simp; done) | (go_simp; rfl) | rfl) ?_
  simp only [List.getElem_toArray, List.getElem_cons_succ, List.getElem_cons_zero]
  go_frame
  refine wpp_act rfl rfl ?_
  go_simp
  refine (HC w2 hm2).mono ?_
  rintro e w3 ⟨rfl, hm3, hR3⟩
  refine ⟨hm3, ?_⟩
  refine wpp_read _ rfl rfl (fun W hW => by first | (go_simp; done) | (go_simp; rfl) | rfl) ?_
  simp only [List.getElem_toArray, List.getElem_cons_succ, List.getElem_cons_zero]
  go_frame
  refine wpp_nil ?_
  go_wp2
  go_ret
  exact ⟨rfl, w2, hm2, hm3, hR3⟩
end
end Go.Proofs.YtgillcppnpkkiaaGreatDoor

namespace Go.Proofs.YtgillcppnpkkiaaGreatDoor
open Go Go.RowKit

inductive Pl where
  | done : Pl
  | read : Nat → Pl → Pl
  | act : Nat → Pl → Pl
  | fork : Nat → Pl → Nat → Pl → Pl

def Pl.size : Pl → Nat
  | .done => 0
  | .read _ r => r.size + 1
  | .act _ r => r.size + 1
  | .fork _ r _ _ => r.size + 1

section
variable {P : Program} {md : Region.Mode} {ops : Array Oper} {I : World → Prop} {Q : Exit → Act → World → Prop}

def plB (md : Region.Mode) (ops : Array Oper) : Array Bool → Pl → Bool
  | listed, .done => (Region.ready md ops listed).isEmpty
  | listed, .read i rest => Region.free md ops listed i && (Region.ready md ops listed).contains i && plB md ops (listed.setIfInBounds i true) rest
  | listed, .act i rest => (Region.ready md ops listed == [i]) && plB md ops (listed.setIfInBounds i true) rest
  | listed, .fork i r j s => (Region.ready md ops listed == [i, j]) && (r.size == s.size) && plB md ops (listed.setIfInBounds i true) r && plB md ops (listed.setIfInBounds j true) s

def wpPl (P : Program) (ops : Array Oper) (I : World → Prop) (Q : Exit → Act → World → Prop) : Pl → Act → World → Prop
  | .done, a, w => Q .normal a w
  | .read i rest, a, w => ∃ o v, ops[i]? = some o ∧ YI P ops I o v a ∧ wpPl P ops I Q rest (a.put o.dst v) w
  | .act i rest, a, w => wpOp P ops Q i (fun a' w' => I w' ∧ wpPl P ops I Q rest a' w') a w
  | .fork i r j s, a, w => wpOp P ops Q i (fun a' w' => I w' ∧ wpPl P ops I Q r a' w') a w ∧ wpOp P ops Q j (fun a' w' => I w' ∧ wpPl P ops I Q s a' w') a w

theorem wpI_of_pl (hsel : Region.noSelect ops = true) (hQ : ∀ (c : List PanicEntry) (d : Option Tmp) (v : Value) (a : Act) (w : World), Q (.panic c) (a.put d v) w → Q (.panic c) a w) :
    ∀ (plan : Pl) (listed : Array Bool) (a : Act) (w : World), plB md ops listed plan = true → I w → wpPl P ops I Q plan a w → wpI P md ops I Q plan.size listed a w
  | .done, listed, a, w, hp, hI, h => by
    simp only [plB, List.isEmpty_iff] at hp
    exact ⟨hI, hp, h⟩
  | .read i rest, listed, a, w, hp, hI, h => by
    simp only [plB, Bool.and_eq_true] at hp
    obtain ⟨o, v, hi, hy, hk⟩ := h
    exact wpI_take hi (Region.noSelect_spec hsel) (fun c a w => hQ c _ _ a w) rest.size listed a w (Region.free_spec hi hp.1.1) (by simpa using hp.1.2) hy (wpI_of_pl hsel hQ rest _ _ _ hp.2 hI hk)
  | .act i rest, listed, a, w, hp, hI, h => by
    simp only [plB, Bool.and_eq_true, beq_iff_eq] at hp
    show wpI P md ops I Q (rest.size + 1) listed a w
    refine And.intro hI (And.intro (fun h0 => by rw [hp.1] at h0; cases h0) (fun j hj => ?_))
    rw [hp.1] at hj
    obtain rfl : j = i := by simpa using hj
    exact wpOp_mono (fun a' w' h' => wpI_of_pl hsel hQ rest _ _ _ hp.2 h'.1 h'.2) h
  | .fork i r j s, listed, a, w, hp, hI, h => by
    simp only [plB, Bool.and_eq_true, beq_iff_eq] at hp
    show wpI P md ops I Q (r.size + 1) listed a w
    refine And.intro hI (And.intro (fun h0 => by rw [hp.1.1.1] at h0; cases h0) (fun k hk => ?_))
    rw [hp.1.1.1] at hk
    simp only [List.mem_cons, List.not_mem_nil, or_false] at hk
    rcases hk with rfl | rfl
    · exact wpOp_mono (fun a' w' h' => wpI_of_pl hsel hQ r _ _ _ hp.1.2 h'.1 h'.2) h.1
    · rw [hp.1.1.2]
      exact wpOp_mono (fun a' w' h' => wpI_of_pl hsel hQ s _ _ _ hp.2 h'.1 h'.2) h.2

theorem wp_pl {id : Nat} {a : Act} {w : World} {l : List Oper} (plan : Pl) (S : Nat → Prop) (hm : P.follows .mixedOrders = true)
    (hB : (Region.noSelect l.toArray && plB .any l.toArray (Array.replicate l.toArray.size false) plan && plan.size == l.toArray.size) = true)
    (hQ : ∀ (c : List PanicEntry) (d : Option Tmp) (v : Value) (a : Act) (w : World), Q (.panic c) (a.put d v) w → Q (.panic c) a w)
    (h : ∀ w', Mod Non w w' → wpPl P l.toArray (fun W => Mod S w' W) Q plan a w') : (Code.region id l.toArray true).wp P Q a w := by
  simp only [Bool.and_eq_true, beq_iff_eq] at hB
  refine wp_region_any hm ?_
  have e := wpI.any _ _ _ _ (wpI_of_pl hB.1.1 hQ plan _ _ _ hB.1.2 (Mod.refl S _) (h { w with drawn := w.drawn + 1 } ⟨rfl, rfl, rfl, Nat.le_refl _, fun _ _ _ => rfl⟩))
  rw [hB.2] at e
  exact e

variable {a : Act} {w : World} {rest rest2 : Pl}
theorem wpf_nil (h : Q .normal a w) : wpPl P ops I Q .done a w := h
theorem wpf_read {i : Nat} {o : Oper} (v : Value) (hi : ops[i]? = some o) (hg : o.guard = none) (hr : ∀ W, I W → (execOp a.eval o).run P W = .ok (.value v) W) (h : wpPl P ops I Q rest (a.put o.dst v) w) : wpPl P ops I Q (.read i rest) a w :=
  ⟨o, v, hi, .inl ⟨by simp [Region.wanted, hg], hr⟩, h⟩
theorem wpo_of {i : Nat} {o : Oper} {K : Act → World → Prop} (hi : ops[i]? = some o) (hg : o.guard = none) (h : o.wp P a w K Q) : wpOp P ops Q i K a w := by
  unfold wpOp
  simp only [hi]
  rw [if_pos (by simp [Region.wanted, hg])]
  exact .inl h
theorem wpf_act {i : Nat} {o : Oper} (hi : ops[i]? = some o) (hg : o.guard = none) (h : o.wp P a w (fun a' w' => I w' ∧ wpPl P ops I Q rest a' w') Q) : wpPl P ops I Q (.act i rest) a w := wpo_of hi hg h
theorem wpf_fork {i j : Nat} {o q : Oper} (hi : ops[i]? = some o) (hj : ops[j]? = some q) (hg : o.guard = none) (hg2 : q.guard = none) (h : o.wp P a w (fun a' w' => I w' ∧ wpPl P ops I Q rest a' w') Q) (k : q.wp P a w (fun a' w' => I w' ∧ wpPl P ops I Q rest2 a' w') Q) :
    wpPl P ops I Q (.fork i rest j rest2) a w := ⟨wpo_of hi hg h, wpo_of hj hg2 k⟩
end
end Go.Proofs.YtgillcppnpkkiaaGreatDoor

namespace Go.Proofs.YtgillcppnpkkiaaGreatDoor
open Go Go.RowKit

/-- The disk ahead of step k. -/
def AState (D : Dk) (rec : List UInt8) (k : Nat) (E : Dk) : Prop :=
  E.size = D.size ∧ match k with
  | 0 => E.now = []
  | 1 => ∃ f, E.now = [(freshB, f)] ∧ E.by_ f = []
  | 2 => ∃ f, E.now = [(freshB, f)] ∧ E.by_ f = rec
  | 3 => ∃ f, E.now = [(freshB, f)] ∧ E.by_ f = rec ∧ E.sure f = rec.length
  | 4 => ∃ f, E.now = [(freshB, f)] ∧ E.by_ f = rec ∧ E.sure f = rec.length ∧ E.kept = E.now
  | 5 => ∃ f, E.now = [(nameB, f)] ∧ E.by_ f = rec ∧ E.sure f = rec.length
  | _ => ∃ f, E.now = [(nameB, f)] ∧ E.by_ f = rec ∧ E.sure f = rec.length ∧ E.kept = E.now

section
variable {w : World} {d : Nat} {D E : Dk} {rec : List UInt8}
theorem look_one (s : ByteArray) (f : Nat) : look [(s, f)] s = some f := by simp [look]

theorem a_create (h : DiskRep w d E) (hs : AState D rec 0 E) : Calls Tryz.prog 117 #[.pointer (some ⟨d, 0, none⟩), .string freshB] w fun e w' => e = .returned (.int .i64 0) ∧ ∃ E', DStep w d E w' E' ∧ AState D rec 1 E' := by
  have hn : E.now = [] := hs.2
  refine (create_ok h freshB may_fresh (by rw [hn]; simp) (by rw [hn]; simp)).mono ?_
  rintro e w' ⟨rfl, vn, f, _, hst⟩
  exact ⟨rfl, _, hst, hs.1, f, by simp [Dk.create, hn], by simp [Dk.create, upd_same]⟩

theorem a_append (h : DiskRep w d E) (hs : AState D rec 1 E) (A : Option Addr) (m c : Nat) (hr : RowAt w A m 1 (bv rec)) (hm : m ≤ D.size) (hm2 : m ≤ 1048576) :
    Calls Tryz.prog 48 #[.pointer (some ⟨d, 0, none⟩), .string freshB, .slice A m c] w fun e w' => e = .returned (.int .i64 0) ∧ ∃ E', DStep w d E w' E' ∧ AState D rec 2 E' := by
  obtain ⟨hz, f, hn, hb⟩ := hs
  have hleft : E.left = E.size := by unfold Dk.left; rw [hn]; simp [sumLen, hb]
  refine (append_ok h freshB may_fresh f (by rw [hn]; exact look_one _ _) A m c rec hr ⟨by rw [hleft, hz]; exact hm, by rw [hb]; simpa using hm2⟩).mono ?_
  rintro e w' ⟨rfl, v, hst⟩
  exact ⟨rfl, _, hst, hz, f, hn, by simp [Dk.setFile, hb, upd_same]⟩

theorem a_sync (h : DiskRep w d E) (hs : AState D rec 2 E) : Calls Tryz.prog 49 #[.pointer (some ⟨d, 0, none⟩), .string freshB] w fun e w' => e = .returned (.int .i64 0) ∧ ∃ E', DStep w d E w' E' ∧ AState D rec 3 E' := by
  obtain ⟨hz, f, hn, hb⟩ := hs
  refine (sync_ok h freshB may_fresh f (by rw [hn]; exact look_one _ _)).mono ?_
  rintro e w' ⟨rfl, hst⟩
  exact ⟨rfl, _, hst, hz, f, hn, by simp [Dk.setFile, hb, upd_same], by simp [Dk.setFile, hb, upd_same]⟩

theorem a_names (h : DiskRep w d E) (hs : AState D rec 3 E) : Calls Tryz.prog 42 #[.pointer (some ⟨d, 0, none⟩)] w fun e w' => e = .returned (.int .i64 0) ∧ ∃ E', DStep w d E w' E' ∧ AState D rec 4 E' := by
  obtain ⟨hz, f, hn, hb, hu⟩ := hs
  refine (names_ok h).mono ?_
  rintro e w' ⟨rfl, vk, hst⟩
  exact ⟨rfl, _, hst, hz, f, hn, hb, hu, rfl⟩

theorem a_rename (h : DiskRep w d E) (hs : AState D rec 4 E) : Calls Tryz.prog 121 #[.pointer (some ⟨d, 0, none⟩), .string freshB, .string nameB] w fun e w' => e = .returned (.int .i64 0) ∧ ∃ E', DStep w d E w' E' ∧ AState D rec 5 E' := by
  obtain ⟨hz, f, hn, hb, hu, _⟩ := hs
  refine (rename_end h freshB nameB may_fresh may_name f (by rw [hn]; exact look_one _ _) 0 (by
    rw [hn]
    refine ⟨by simp, fun k x hk hlt => absurd hlt (by omega), fun k x hk _ => ?_⟩
    cases k with
    | zero => simp at hk; subst hk; exact nlt_irrefl _
    | succ k => simp at hk) (by rw [hn]; simp [foundAt]) (by rw [hn]; rfl) (by rw [hn]; simp)).mono ?_
  rintro e w' ⟨rfl, vn, hst⟩
  exact ⟨rfl, _, hst, hz, f, by simp [Dk.setNow, hn], hb, hu⟩

theorem a_names2 (h : DiskRep w d E) (hs : AState D rec 5 E) : Calls Tryz.prog 42 #[.pointer (some ⟨d, 0, none⟩)] w fun e w' => e = .returned (.int .i64 0) ∧ ∃ E', DStep w d E w' E' ∧ AState D rec 6 E' := by
  obtain ⟨hz, f, hn, hb, hu⟩ := hs
  refine (names_ok h).mono ?_
  rintro e w' ⟨rfl, vk, hst⟩
  exact ⟨rfl, _, hst, hz, f, hn, hb, hu, rfl⟩
end
end Go.Proofs.YtgillcppnpkkiaaGreatDoor

namespace Go.Proofs.YtgillcppnpkkiaaGreatDoor
open Go Go.RowKit
section
variable {w w' : World} {p : Nat} {G : Pg} {D : Dk}
/-- No block of the pager is one of the disk. -/
def Apart (p : Nat) (G : Pg) (D : Dk) : Prop := ∀ b, PS p G b → ¬ DS G.d D b

theorem PagRep.setSize (h : PagRep w p G) (n : Nat) : PagRep (w.setCell ⟨p, 6, none⟩ (.int .i64 n)) p { G with size := n } := by
  have h3 : G.m3 ≠ p := h.dirty.blk_ne h.blk
  obtain ⟨fd, hd, hds, hdv⟩ := h.dirty
  exact ⟨h.blk.set 6 _, h.now.far (fun e => h.now.blk_ne h.blk e) _, h.kept.far (fun e => h.kept.blk_ne h.blk e) _, ⟨fd, hd.far (fun e => h3 e) _, hds, hdv⟩, h.ne12, h.ne13, h.ne23, h.len, h.lenK⟩

/-- One goal for all ways that come to it. -/
theorem cut6 {A B C E F I : Type} {Q : A → B → C → E → F → I → Prop} {P : A → B → C → E → F → I → Prop} {R : Prop} (h1 : (∀ a b c e f i, P a b c e f i → Q a b c e f i) → R) (h2 : ∀ a b c e f i, P a b c e f i → Q a b c e f i) : R := h1 h2

set_option maxHeartbeats 1000000 in
set_option maxRecDepth 100000 in
theorem anew_empty (h : PagRep w p G) (hd : DiskRep w G.d D) (hap : Apart p G D) (hroot : G.root < 4294967296) (hnow : D.now = [])
    (hroom : (G.record (used G.has 4000)).length ≤ D.size ∧ (G.record (used G.has 4000)).length ≤ 1048576) :
    Calls Tryz.prog 40 #[.pointer (some ⟨p, 0, none⟩)] w fun e w' => e = .returned (.int .i64 0) ∧ ∃ D' f, DiskRep w' G.d D' ∧ (∀ b, DS G.d D' b → DS G.d D b ∨ w.heap.size ≤ b) ∧ PagRep w' p { G with size := (G.record (used G.has 4000)).length } ∧
      D'.size = D.size ∧ D'.now = [(nameB, f)] ∧ D'.by_ f = G.record (used G.has 4000) ∧ D'.sure f = (G.record (used G.has 4000)).length ∧ D'.kept = D'.now ∧ Mod (fun b => PS p G b ∨ DS G.d D b) w w' := by
  have hl : look D.now freshB = none := by rw [hnow]; rfl
  have hW1 := h.mod ((Mod.refl (S := Non) w).alloc (.cells #[.pointer (some ⟨p, 0, none⟩)] 29)) (fun _ _ x => x)
  have hD1 := hd.non ((Mod.refl (S := Non) w).alloc (.cells #[.pointer (some ⟨p, 0, none⟩)] 29))
  have hq := Blk.new w 29 #[.pointer (some ⟨p, 0, none⟩)]
  have HN := Lib.hid (remove_none hD1 freshB may_fresh hl)
  unfold freshB at HN
  have cp := hW1.blk.cell
  unfold Pg.cells at cp
  have hlen4 : (used G.has 4000).length ≤ 8192 := by have := used_length G.has 4000; omega
  have hused : ∀ n ∈ used G.has 4000, n < 4294967296 := fun n hn => by have := (mem_used.1 hn).2.1; omega
  have H := Lib.hid h
  have HD := Lib.hid hd
  have HW := Lib.hid hW1
  have HDW := Lib.hid hD1
  have HQ := Lib.hid hq
  clear h hd hl hW1 hD1 hq
  go_enter Tryz.func40, Tryz.ntmps40
  go_wp2_with (go_at_call 41; refine HN.out.mono ?_; rintro e w1 ⟨rfl, hm1⟩)
  refine wp_pl (.read 0 (.read 1 (.fork 2 (.fork 3 (.act 4 (.act 5 .done)) 4 (.act 3 (.act 5 .done))) 4 (.act 2 (.act 3 (.act 5 .done)))))) Non (by kernel_rfl) (by kernel_rfl) (fun c d v a w h => by cases d <;> exact h) (fun w2 hm2 => ?_)
  refine wpf_read _ rfl rfl (fun W hW => by have cq := ((HQ.out.mod hm1 (fun x => x)).mod (hm2.trans hW) (fun x => x)).cell; first | (go_simp; done) | (go_simp; rfl) | rfl) ?_
  simp only [List.getElem_toArray, List.getElem_cons_zero]
  go_frame
  refine wpf_read _ rfl rfl (fun W hW => by have cq := ((HQ.out.mod hm1 (fun x => x)).mod (hm2.trans hW) (fun x => x)).cell; first | (go_simp; done) | (go_simp; rfl) | rfl) ?_
  simp only [List.getElem_toArray, List.getElem_cons_succ, List.getElem_cons_zero]
  go_frame
  have HA : ∀ W, Mod Non w2 W → Hid _ := fun W hW => Lib.hid (all_ok (((HW.out.mod hm1 (fun _ _ x => x)).mod hm2 (fun _ _ x => x)).mod hW (fun _ _ x => x)))
  have HR : ∀ W A c, Mod Non w2 W → W.ownsRow w2.heap.size 55 1 (.slice A (used G.has 4000).length c) (used G.has 4000).length (uv (used G.has 4000)) → Hid _ := fun W A c hW ho => Lib.hid (record_ok ((((HW.out.mod hm1 (fun _ _ x => x)).mod hm2 (fun _ _ x => x)).mod hW (fun _ _ x => x))) hroot A c (used G.has 4000) (by
    obtain ⟨A', c', e, _, hr, _⟩ := owns_form ho
    cases e
    exact hr) hused hlen4)
  have hlow : w.heap.size ≤ w2.heap.size := by have h1 := hm1.size; have h2 := hm2.size; simp at h1; omega
  apply cut6 (A := Nat) (B := Option Addr) (C := Nat) (E := Option Addr) (F := Nat) (I := World) (P := fun r _ _ Av cv w5 => w.heap.size ≤ r ∧ Hid (Mod Non w2 w5) ∧ Hid (Blk w5 r 56 #[.slice Av (G.record (used G.has 4000)).length cv]) ∧ Hid (w5.ownsRow w.heap.size 5 1 (.slice Av (G.record (used G.has 4000)).length cv) (G.record (used G.has 4000)).length (bv (G.record (used G.has 4000)))))
  intro T
  refine wpf_fork rfl rfl rfl rfl ?_ ?_
  go_simp
  refine (HA w2 (Mod.refl _ _)).out.mono ?_
  rintro e w3 ⟨vl, rfl, hol, hm3⟩
  obtain ⟨Al, cl, rfl, _, _, _⟩ := owns_form hol
  refine ⟨hm3, ?_⟩
  refine wpf_fork rfl rfl rfl rfl ?_ ?_
  go_simp
  refine (HR w3 Al cl hm3 hol).out.mono ?_
  rintro e w4 ⟨v, rfl, hov, hm4⟩
  obtain ⟨Av, cv, rfl, _, _, _⟩ := owns_form hov
  refine ⟨hm3.trans hm4, ?_⟩
  refine wpf_act rfl rfl ?_
  go_simp
  refine ⟨(hm3.trans hm4).alloc _, ?_⟩
  refine wpf_act rfl rfl ?_
  go_simp
  have hm24 : Mod Non w2 w4 := hm3.trans hm4
  have HM5 := Lib.hid (hm24.alloc (.cells #[.slice Av (G.record (used G.has 4000)).length cv] 56))
  have HB5 := Lib.hid (Blk.new w4 56 #[.slice Av (G.record (used G.has 4000)).length cv])
  have HO5 := Lib.hid (owns_from (hov.alloc (.cells #[.slice Av (G.record (used G.has 4000)).length cv] 56)) (Nat.le_trans hlow hm3.size))
  have hlr := Nat.le_trans hlow hm24.size
  generalize w4.alloc (.cells #[.slice Av (G.record (used G.has 4000)).length cv] 56) = w5 at *
  generalize w4.heap.size = r at *
  refine ⟨HM5.out, wpf_nil ?_⟩
  exact T r Al cl Av cv w5 ⟨hlr, HM5, HB5, HO5⟩
  go_simp
  have hb1 := Blk.new w3 56 #[.slice none 0 0]
  have hma : Mod Non w3 (w3.alloc (.cells #[.slice none 0 0] 56)) := (Mod.refl _ _).alloc _
  refine ⟨hm3.trans hma, ?_⟩
  refine wpf_act rfl rfl ?_
  go_simp
  refine (HR _ Al cl (hm3.trans hma) (hol.alloc _)).out.mono ?_
  rintro e w4 ⟨v, rfl, hov, hm4⟩
  obtain ⟨Av, cv, rfl, _, _, _⟩ := owns_form hov
  have hm24 : Mod Non w2 w4 := (hm3.trans hma).trans hm4
  have hb4 := hb1.mod hm4 (fun x => x)
  refine ⟨hm24, ?_⟩
  refine wpf_act rfl rfl ?_
  have cb4 := hb4.cell
  have fb4 := hb4.frozen
  go_simp
  have HM5 := Lib.hid (hm24.setCell (p := ⟨w3.heap.size, 0, none⟩) (.inr hm3.size) (.slice Av (G.record (used G.has 4000)).length cv))
  have HB5 := Lib.hid (hb4.set 0 (.slice Av (G.record (used G.has 4000)).length cv))
  have HO5 := Lib.hid (owns_from (owns_keep hov (fun b hb => Below.heap_setCell w4 ⟨w3.heap.size, 0, none⟩ (.slice Av (G.record (used G.has 4000)).length cv) _ (fun e => own_blk_ne hov hb4 (by decide) (by rw [hb, e])))) (Nat.le_trans hlow (hm3.trans hma).size))
  have hlr := Nat.le_trans hlow hm3.size
  generalize w4.setCell ⟨w3.heap.size, 0, none⟩ (.slice Av (G.record (used G.has 4000)).length cv) = w5 at *
  generalize w3.heap.size = r at *
  refine ⟨HM5.out, wpf_nil ?_⟩
  exact T r Al cl Av cv w5 ⟨hlr, HM5, HB5, HO5⟩
  go_simp
  have hb1 := Blk.new w2 56 #[.slice none 0 0]
  have hma : Mod Non w2 (w2.alloc (.cells #[.slice none 0 0] 56)) := (Mod.refl _ _).alloc _
  refine ⟨hma, ?_⟩
  refine wpf_act rfl rfl ?_
  go_simp
  refine (HA _ hma).out.mono ?_
  rintro e w3 ⟨vl, rfl, hol, hm3⟩
  obtain ⟨Al, cl, rfl, _, _, _⟩ := owns_form hol
  refine ⟨hma.trans hm3, ?_⟩
  refine wpf_act rfl rfl ?_
  go_simp
  refine (HR w3 Al cl (hma.trans hm3) (owns_from hol hma.size)).out.mono ?_
  rintro e w4 ⟨v, rfl, hov, hm4⟩
  obtain ⟨Av, cv, rfl, _, _, _⟩ := owns_form hov
  have hm24 : Mod Non w2 w4 := (hma.trans hm3).trans hm4
  have hb4 := (hb1.mod hm3 (fun x => x)).mod hm4 (fun x => x)
  refine ⟨hm24, ?_⟩
  refine wpf_act rfl rfl ?_
  have cb4 := hb4.cell
  have fb4 := hb4.frozen
  go_simp
  have HM5 := Lib.hid (hm24.setCell (p := ⟨w2.heap.size, 0, none⟩) (.inr (Nat.le_refl _)) (.slice Av (G.record (used G.has 4000)).length cv))
  have HB5 := Lib.hid (hb4.set 0 (.slice Av (G.record (used G.has 4000)).length cv))
  have HO5 := Lib.hid (owns_from (owns_keep hov (fun b hb => Below.heap_setCell w4 ⟨w2.heap.size, 0, none⟩ (.slice Av (G.record (used G.has 4000)).length cv) _ (fun e => own_blk_ne hov hb4 (by decide) (by rw [hb, e])))) (Nat.le_trans hlow (hma.trans hm3).size))
  have hlr := hlow
  generalize w4.setCell ⟨w2.heap.size, 0, none⟩ (.slice Av (G.record (used G.has 4000)).length cv) = w5 at *
  refine ⟨HM5.out, wpf_nil ?_⟩
  exact T w2.heap.size Al cl Av cv w5 ⟨hlr, HM5, HB5, HO5⟩
  rintro r Al cl Av cv w5 ⟨hlr, HM5, HB5, HO5⟩
  go_wp2
  refine wp_plan [(0, false), (1, false), (2, false), (3, false), (4, false), (5, false), (6, false), (7, false), (8, false), (9, false), (10, false), (11, false), (12, false), (13, false), (16, false), (14, true), (15, false)] Non (by kernel_rfl) (by kernel_rfl) (fun c d v a w h => by cases d <;> exact h) (fun w6 hm6 => ?_)
  have hq6 := ((((HQ.out.mod hm1 (fun x => x)).mod hm2 (fun x => x)).mod HM5.out (fun x => x))).mod hm6 (fun x => x)
  have hp6 := (((HW.out.blk.mod hm1 (fun x => x)).mod hm2 (fun x => x)).mod HM5.out (fun x => x)).mod hm6 (fun x => x)
  refine wpp_read _ rfl rfl (fun W hW => by have cq := (hq6.mod hW (fun x => x)).cell; have cp6 := (hp6.mod hW (fun x => x)).cell; unfold Pg.cells at cp6; first | (go_simp; done) | (go_simp; rfl) | rfl) ?_
  simp only [List.getElem_toArray, List.getElem_cons_zero]
  go_frame
  refine wpp_read _ rfl rfl (fun W hW => by have cq := (hq6.mod hW (fun x => x)).cell; have cp6 := (hp6.mod hW (fun x => x)).cell; unfold Pg.cells at cp6; first | (go_simp; done) | (go_simp; rfl) | rfl) ?_
  simp only [List.getElem_toArray, List.getElem_cons_succ, List.getElem_cons_zero]
  go_frame
  refine wpp_read _ rfl rfl (fun W hW => by have cq := (hq6.mod hW (fun x => x)).cell; have cp6 := (hp6.mod hW (fun x => x)).cell; unfold Pg.cells at cp6; first | (go_simp; done) | (go_simp; rfl) | rfl) ?_
  simp only [List.getElem_toArray, List.getElem_cons_succ, List.getElem_cons_zero]
  go_frame
  refine wpp_read _ rfl rfl (fun W hW => by have cq := (hq6.mod hW (fun x => x)).cell; have cp6 := (hp6.mod hW (fun x => x)).cell; unfold Pg.cells at cp6; first | (go_simp; done) | (go_simp; rfl) | rfl) ?_
  simp only [List.getElem_toArray, List.getElem_cons_succ, List.getElem_cons_zero]
  go_frame
  refine wpp_read _ rfl rfl (fun W hW => by have cq := (hq6.mod hW (fun x => x)).cell; have cp6 := (hp6.mod hW (fun x => x)).cell; unfold Pg.cells at cp6; first | (go_simp; done) | (go_simp; rfl) | rfl) ?_
  simp only [List.getElem_toArray, List.getElem_cons_succ, List.getElem_cons_zero]
  go_frame
  refine wpp_read _ rfl rfl (fun W hW => by have cq := (hq6.mod hW (fun x => x)).cell; have cp6 := (hp6.mod hW (fun x => x)).cell; unfold Pg.cells at cp6; first | (go_simp; done) | (go_simp; rfl) | rfl) ?_
  simp only [List.getElem_toArray, List.getElem_cons_succ, List.getElem_cons_zero]
  go_frame
  refine wpp_read _ rfl rfl (fun W hW => by have cq := (hq6.mod hW (fun x => x)).cell; have cp6 := (hp6.mod hW (fun x => x)).cell; unfold Pg.cells at cp6; first | (go_simp; done) | (go_simp; rfl) | rfl) ?_
  simp only [List.getElem_toArray, List.getElem_cons_succ, List.getElem_cons_zero]
  go_frame
  refine wpp_read _ rfl rfl (fun W hW => by have cq := (hq6.mod hW (fun x => x)).cell; have cp6 := (hp6.mod hW (fun x => x)).cell; unfold Pg.cells at cp6; first | (go_simp; done) | (go_simp; rfl) | rfl) ?_
  simp only [List.getElem_toArray, List.getElem_cons_succ, List.getElem_cons_zero]
  go_frame
  refine wpp_read _ rfl rfl (fun W hW => by have cq := (hq6.mod hW (fun x => x)).cell; have cp6 := (hp6.mod hW (fun x => x)).cell; unfold Pg.cells at cp6; first | (go_simp; done) | (go_simp; rfl) | rfl) ?_
  simp only [List.getElem_toArray, List.getElem_cons_succ, List.getElem_cons_zero]
  go_frame
  refine wpp_read _ rfl rfl (fun W hW => by have cq := (hq6.mod hW (fun x => x)).cell; have cp6 := (hp6.mod hW (fun x => x)).cell; unfold Pg.cells at cp6; first | (go_simp; done) | (go_simp; rfl) | rfl) ?_
  simp only [List.getElem_toArray, List.getElem_cons_succ, List.getElem_cons_zero]
  go_frame
  refine wpp_read _ rfl rfl (fun W hW => by have cq := (hq6.mod hW (fun x => x)).cell; have cp6 := (hp6.mod hW (fun x => x)).cell; unfold Pg.cells at cp6; first | (go_simp; done) | (go_simp; rfl) | rfl) ?_
  simp only [List.getElem_toArray, List.getElem_cons_succ, List.getElem_cons_zero]
  go_frame
  refine wpp_read _ rfl rfl (fun W hW => by have cq := (hq6.mod hW (fun x => x)).cell; have cp6 := (hp6.mod hW (fun x => x)).cell; unfold Pg.cells at cp6; first | (go_simp; done) | (go_simp; rfl) | rfl) ?_
  simp only [List.getElem_toArray, List.getElem_cons_succ, List.getElem_cons_zero]
  go_frame
  refine wpp_read _ rfl rfl (fun W hW => by have cq := (hq6.mod hW (fun x => x)).cell; have cp6 := (hp6.mod hW (fun x => x)).cell; unfold Pg.cells at cp6; first | (go_simp; done) | (go_simp; rfl) | rfl) ?_
  simp only [List.getElem_toArray, List.getElem_cons_succ, List.getElem_cons_zero]
  go_frame
  refine wpp_read _ rfl rfl (fun W hW => by have cq := (hq6.mod hW (fun x => x)).cell; have cp6 := (hp6.mod hW (fun x => x)).cell; unfold Pg.cells at cp6; first | (go_simp; done) | (go_simp; rfl) | rfl) ?_
  simp only [List.getElem_toArray, List.getElem_cons_succ, List.getElem_cons_zero]
  go_frame
  refine wpp_read _ rfl rfl (fun W hW => by first | (go_simp; done) | (go_simp; rfl) | rfl) ?_
  simp only [List.getElem_toArray, List.getElem_cons_succ, List.getElem_cons_zero]
  go_frame
  refine wpp_act rfl rfl ?_
  go_simp
  have hb7 := Blk.new w6 62 #[.func (.func 116) #[] #[.pointer (some ⟨w.heap.size, 0, none⟩)], .func (.func 118) #[] #[.pointer (some ⟨w.heap.size, 0, none⟩), .pointer (some ⟨r, 0, none⟩)], .func (.func 119) #[] #[.pointer (some ⟨w.heap.size, 0, none⟩)], .func (.func 42) #[.pointer (some ⟨G.d, 0, none⟩)] #[], .func (.func 120) #[] #[.pointer (some ⟨w.heap.size, 0, none⟩)], .func (.func 42) #[.pointer (some ⟨G.d, 0, none⟩)] #[]]
  have hm7 : Mod Non w6 (w6.alloc (.cells #[.func (.func 116) #[] #[.pointer (some ⟨w.heap.size, 0, none⟩)], .func (.func 118) #[] #[.pointer (some ⟨w.heap.size, 0, none⟩), .pointer (some ⟨r, 0, none⟩)], .func (.func 119) #[] #[.pointer (some ⟨w.heap.size, 0, none⟩)], .func (.func 42) #[.pointer (some ⟨G.d, 0, none⟩)] #[], .func (.func 120) #[] #[.pointer (some ⟨w.heap.size, 0, none⟩)], .func (.func 42) #[.pointer (some ⟨G.d, 0, none⟩)] #[]] 62)) := (Mod.refl _ _).alloc _
  refine ⟨hm7, ?_⟩
  have HB7 := Lib.hid hb7
  have HM7 := Lib.hid hm7
  clear hb7 hm7
  refine wpp_read _ rfl rfl (fun W hW => by first | (go_simp; done) | (go_simp; rfl) | rfl) ?_
  simp only [List.getElem_toArray, List.getElem_cons_succ, List.getElem_cons_zero]
  go_frame
  refine wpp_nil ?_
  have HM07 := Lib.hid (((((((Mod.refl Non w).alloc (.cells #[.pointer (some ⟨p, 0, none⟩)] 29)).trans hm1).trans hm2).trans HM5.out).trans hm6).trans HM7.out)
  have HD7 := Lib.hid (((((HDW.out.non hm1).non hm2).non HM5.out).non hm6).non HM7.out)
  go_wp2
  go_loopw [31] (fun i wr => ∃ k : Nat, k ≤ 6 ∧ i = .int .i64 k ∧ ∃ E, DStep (w6.alloc (.cells #[.func (.func 116) #[] #[.pointer (some ⟨w.heap.size, 0, none⟩)], .func (.func 118) #[] #[.pointer (some ⟨w.heap.size, 0, none⟩), .pointer (some ⟨r, 0, none⟩)], .func (.func 119) #[] #[.pointer (some ⟨w.heap.size, 0, none⟩)], .func (.func 42) #[.pointer (some ⟨G.d, 0, none⟩)] #[], .func (.func 120) #[] #[.pointer (some ⟨w.heap.size, 0, none⟩)], .func (.func 42) #[.pointer (some ⟨G.d, 0, none⟩)] #[]] 62)) G.d D wr E ∧ AState D (G.record (used G.has 4000)) k E) (fun i _ => 6 - (intOf i).toNat)
  case atStart => exact ⟨0, by omega, rfl, D, .of_non HD7.out (Mod.refl _ _), rfl, hnow⟩
  case round =>
    obtain ⟨k, hk, rfl, E, hst, hsA⟩ := hrel
    have hlw : ∀ b, DS G.d D b → b < w.heap.size := fun b hb => HD.out.lt hb
    have hnq : ¬ DS G.d D w.heap.size := fun hb => absurd (hlw _ hb) (by omega)
    have hnr : ¬ DS G.d D r := fun hb => absurd (hlw _ hb) (by omega)
    have hq8 := (hq6.mod HM7.out (fun x => x)).mod hst.mod hnq
    have hp8 := (hp6.mod HM7.out (fun x => x)).mod hst.mod (hap p (.inl rfl))
    have hr8 := ((HB5.out.mod hm6 (fun x => x)).mod HM7.out (fun x => x)).mod hst.mod hnr
    have hb8 := HB7.out.mod hst.mod (fun hb => absurd (hlw _ hb) (by have h1 := hq6.lt; omega))
    have cb8 := hb8.cell
    have HST := Lib.hid hst
    have HSA := Lib.hid hsA
    clear hst hsA hb8
    by_cases hk0 : k = 0
    · subst hk0
      have HC := Lib.hid (anew_create hq8 hp8 (a_create HST.out.rep HSA.out))
      clear hq8 hp8 hr8
      go_wp2_with (go_at_call 116; refine HC.out.mono ?_; rintro e w8 ⟨rfl, E', hst8, hs8⟩)
      go_roundw
      case rel => exact ⟨1, by omega, rfl, E', HST.out.trans hst8, hs8⟩
      case measure => simp [intOf]
    by_cases hk1 : k = 1
    · subst hk1
      have hO8 : wr.ownsRow w.heap.size 5 1 (.slice Av (G.record (used G.has 4000)).length cv) (G.record (used G.has 4000)).length (bv (G.record (used G.has 4000))) := owns_keep HO5.out (fun b hb => (((hm6.trans HM7.out).mono (fun _ x => x.elim)).trans HST.out.mod).block b (HO5.out.lt b hb).2 (fun hd => absurd (hlw _ hd) (by have := (HO5.out.lt b hb).1; omega)))
      have hE : ∀ b, ¬ DS G.d D b → b < w6.heap.size → ¬ DS G.d E b := fun b h1 h2 h3 => (HST.out.old b h3).elim h1 (fun h4 => by have := HM7.out.size; omega)
      have HC := Lib.hid (anew_append (S := DS G.d E) (R := fun w' => ∃ E', DStep wr G.d E w' E' ∧ AState D (G.record (used G.has 4000)) 2 E') (hE p (hap p (.inl rfl)) hp6.lt) (hE _ hnq hq6.lt) (hE r hnr (Nat.lt_of_lt_of_le HB5.out.lt hm6.size)) hq8 hr8 hp8 (fun W hW => (a_append (HST.out.rep.non hW) HSA.out Av (G.record (used G.has 4000)).length cv (by
        obtain ⟨A', c', e', _, hrow, _⟩ := owns_form (owns_keep hO8 (fun b hb => hW.block b (hO8.lt b hb).2 (fun x => x)))
        cases e'
        exact hrow) hroom.1 hroom.2).mono (fun e w' ⟨h1, E', h2, h3⟩ => ⟨h1, h2.mod, E', DStep.after hW h2, h3⟩)))
      clear hq8 hp8 hr8
      go_wp2_with (go_at_call 118; refine HC.out.mono ?_; rintro e w8 ⟨rfl, w9, hm9, hm98, E', hst8, hs8⟩)
      go_roundw
      case rel => exact ⟨2, by omega, rfl, E', HST.out.trans hst8, hs8⟩
      case measure => simp [intOf]
    by_cases hk2 : k = 2
    · subst hk2
      have HC := Lib.hid (anew_sync hq8 hp8 (a_sync HST.out.rep HSA.out))
      clear hq8 hp8 hr8
      go_wp2_with (go_at_call 119; refine HC.out.mono ?_; rintro e w8 ⟨rfl, E', hst8, hs8⟩)
      go_roundw
      case rel => exact ⟨3, by omega, rfl, E', HST.out.trans hst8, hs8⟩
      case measure => simp [intOf]
    by_cases hk3 : k = 3
    · subst hk3
      have HC := Lib.hid (a_names HST.out.rep HSA.out)
      clear hq8 hp8 hr8
      go_wp2_with (go_at_call 42; refine HC.out.mono ?_; rintro e w8 ⟨rfl, E', hst8, hs8⟩)
      go_roundw
      case rel => exact ⟨4, by omega, rfl, E', HST.out.trans hst8, hs8⟩
      case measure => simp [intOf]
    by_cases hk4 : k = 4
    · subst hk4
      have HC := Lib.hid (anew_rename hq8 hp8 (a_rename HST.out.rep HSA.out))
      clear hq8 hp8 hr8
      go_wp2_with (go_at_call 120; refine HC.out.mono ?_; rintro e w8 ⟨rfl, E', hst8, hs8⟩)
      go_roundw
      case rel => exact ⟨5, by omega, rfl, E', HST.out.trans hst8, hs8⟩
      case measure => simp [intOf]
    by_cases hk5 : k = 5
    · subst hk5
      have HC := Lib.hid (a_names2 HST.out.rep HSA.out)
      clear hq8 hp8 hr8
      go_wp2_with (go_at_call 42; refine HC.out.mono ?_; rintro e w8 ⟨rfl, E', hst8, hs8⟩)
      go_roundw
      case rel => exact ⟨6, by omega, rfl, E', HST.out.trans hst8, hs8⟩
      case measure => simp [intOf]
    have hk6 : k = 6 := by omega
    subst hk6
    have cq8 := hq8.cell
    have cp8 := hp8.cell
    have fp8 := hp8.frozen
    unfold Pg.cells at cp8
    have cr8 := hr8.cell
    clear hq8 hp8 hr8
    go_wp2
    go_ret
    obtain ⟨hz, f, hn, hb, hu, hkk⟩ := HSA.out
    have hmall := (HM07.out.mono (T := DS G.d D) (fun _ x => x.elim)).trans HST.out.mod
    refine ⟨rfl, E, f, HST.out.rep.mod ((Mod.refl (One p) wr).setCell (p := ⟨p, 6, none⟩) (.inl rfl) _) (fun b hb e => ?_), fun b hb => (HST.out.old b hb).imp id (fun e => Nat.le_trans HM07.out.size e), (H.out.mod hmall hap).setSize _, hz, hn, hb, hu, hkk, (hmall.mono (fun b hb => .inr hb)).setCell (p := ⟨p, 6, none⟩) (.inl (.inl (.inl rfl))) _⟩
    cases e
    exact (HST.out.old p hb).elim (hap p (.inl rfl)) (fun h4 => by have h5 := H.out.blk.lt; have h6 := HM07.out.size; omega)
end
end Go.Proofs.YtgillcppnpkkiaaGreatDoor

namespace Go.Proofs.YtgillcppnpkkiaaGreatDoor
open Go Go.RowKit
section
variable {w w' : World} {p d : Nat} {G : Pg} {D : Dk}
theorem wpl_makeMap {P : Program} {ops : Array Oper} {Q : Exit → Act → World → Prop} {a : Act} {rest : List Oper} {o : Oper} {t : TypeId} (hg : o.guard = none) (ho : o.op = .makeMap t none)
    (hK : ∀ w', MapRep w' w.heap.size (fun _ => none) → Mod Non w w' → Hid (w'.heap.size = w.heap.size + 1) → wpList P ops Q rest (a.put o.dst (.map (some w.heap.size))) w') : wpList P ops Q (o :: rest) a w :=
  wpl_run (v := .map (some w.heap.size)) (w' := w.alloc (.map #[] 0)) hg (by simp [execOp, ho, Instr.makeMap, newObj, Sem.run]) (hK _ (MapRep.new w) ((Mod.refl _ _).alloc _) (Lib.hid (by simp)))

/-- A pager of nothing. -/
def Pg.new (d m1 m2 m3 : Nat) : Pg := { d := d, m1 := m1, m2 := m2, m3 := m3, root := 0, was := 0, size := 0, now := fun _ => none, kept := fun _ => none, dirty := fun _ => false }
theorem used_none (n : Nat) : used (fun _ => false) n = [] := by
  cases h : used (fun _ => false) n with
  | nil => rfl
  | cons a l => have := (mem_used.1 (h ▸ List.mem_cons_self : a ∈ used (fun _ => false) n)).2.2; cases this
theorem new_has (d m1 m2 m3 : Nat) : (Pg.new d m1 m2 m3).has = fun _ => false := by funext n; rfl
theorem new_record (d m1 m2 m3 : Nat) : ((Pg.new d m1 m2 m3).record (used (Pg.new d m1 m2 m3).has 4000)).length = 2 := by
  rw [new_has, used_none]
  show (enc (enc 0 ++ []).length ++ (enc 0 ++ [])).length = 2
  decide
theorem PagRep.fresh {m1 m2 m3 : Nat} (hb : Blk w p 86 (Pg.new d m1 m2 m3).cells) (h1 : MapRep w m1 (fun _ => none)) (h2 : MapRep w m2 (fun _ => none)) (h3 : MapRep w m3 (fun _ => none)) (n12 : m1 ≠ m2) (n13 : m1 ≠ m3) (n23 : m2 ≠ m3) :
    PagRep w p (Pg.new d m1 m2 m3) := by
  refine ⟨hb, ?_, ?_, ⟨_, h3, fun _ => rfl, fun _ _ h => (by cases h)⟩, n12, n13, n23, fun _ _ h => (by cases h), fun _ _ h => (by cases h)⟩
  · exact h1
  · exact h2

theorem opened_now {w1 w2 w3 w4 : World} {n : Nat} (h : DiskRep w d (Dk.new n)) (hb : Blk (w4.alloc (.cells (Pg.new d w1.heap.size w2.heap.size w3.heap.size).cells 86)) w4.heap.size 86 (Pg.new d w1.heap.size w2.heap.size w3.heap.size).cells)
    (hm1 : Mod Non w w1) (h2 : MapRep w2 w1.heap.size (fun _ => none)) (hm2 : Mod Non w1 w2) (hs2 : w2.heap.size = w1.heap.size + 1) (h3 : MapRep w3 w2.heap.size (fun _ => none)) (hm3 : Mod Non w2 w3) (hs3 : w3.heap.size = w2.heap.size + 1)
    (h4 : MapRep w4 w3.heap.size (fun _ => none)) (hm4 : Mod Non w3 w4) (hs4 : w4.heap.size = w3.heap.size + 1) :
    PagRep (w4.alloc (.cells (Pg.new d w1.heap.size w2.heap.size w3.heap.size).cells 86)) w4.heap.size (Pg.new d w1.heap.size w2.heap.size w3.heap.size) ∧
    DiskRep (w4.alloc (.cells (Pg.new d w1.heap.size w2.heap.size w3.heap.size).cells 86)) d (Dk.new n) ∧ Apart w4.heap.size (Pg.new d w1.heap.size w2.heap.size w3.heap.size) (Dk.new n) ∧
    (∀ b, PS w4.heap.size (Pg.new d w1.heap.size w2.heap.size w3.heap.size) b → w.heap.size ≤ b) ∧ Mod Non w (w4.alloc (.cells (Pg.new d w1.heap.size w2.heap.size w3.heap.size).cells 86)) := by
  have hm : Mod Non w (w4.alloc (.cells (Pg.new d w1.heap.size w2.heap.size w3.heap.size).cells 86)) := ((((hm1.trans hm2).trans hm3).trans hm4)).alloc _
  have hz := hm1.size
  have hPS : ∀ b, PS w4.heap.size (Pg.new d w1.heap.size w2.heap.size w3.heap.size) b → w.heap.size ≤ b := by
    intro b hb
    rcases hb with h | h | h | h
    · omega
    · have h : b = w1.heap.size := h
      omega
    · have h : b = w2.heap.size := h
      omega
    · have h : b = w3.heap.size := h
      omega
  have hl := h.blk.lt
  exact ⟨.fresh hb ((h2.mod (hm3.trans hm4) (fun x => x)).alloc _) ((h3.mod hm4 (fun x => x)).alloc _) (h4.alloc _) (by omega) (by omega) (by omega), h.non hm, fun b hb hd => by have := hPS b hb; have : b = d := new_DS hd; omega, hPS, hm⟩

theorem look_fresh (f : Nat) : look [(nameB, f)] freshB = none := by
  have h : ¬ nameB = freshB := by decide
  simp [look, h]
theorem anew_new {n m1 m2 m3 : Nat} (hn : 2 ≤ n) (h1 : PagRep w p (Pg.new d m1 m2 m3)) (h2 : DiskRep w d (Dk.new n)) (h3 : Apart p (Pg.new d m1 m2 m3) (Dk.new n)) :
    Calls Tryz.prog 40 #[.pointer (some ⟨p, 0, none⟩)] w fun e w' => e = .returned (.int .i64 0) ∧ ∃ D' f, DiskRep w' d D' ∧ (∀ b, DS d D' b → DS d (Dk.new n) b ∨ w.heap.size ≤ b) ∧ PagRep w' p { Pg.new d m1 m2 m3 with size := 2 } ∧
      D'.size = n ∧ D'.now = [(nameB, f)] ∧ (D'.by_ f).length = 2 ∧ Mod (fun b => PS p (Pg.new d m1 m2 m3) b ∨ DS d (Dk.new n) b) w w' := by
  have hr := new_record d m1 m2 m3
  refine (anew_empty h1 h2 h3 (by show 0 < _; decide) rfl (by rw [hr]; exact ⟨hn, by decide⟩)).mono ?_
  rintro e w' ⟨he, D', f, g1, g2, g3, g4, g5, g6, _, _, g7⟩
  rw [hr] at g3
  exact ⟨he, D', f, g1, g2, g3, g4, g5, by rw [g6]; exact hr, g7⟩

set_option maxHeartbeats 1000000 in
set_option maxRecDepth 100000 in
theorem open_new {n : Nat} (h : DiskRep w d (Dk.new n)) (hn : 2 ≤ n) :
    Calls Tryz.prog 7 #[.pointer (some ⟨d, 0, none⟩)] w fun e w' => ∃ p m1 m2 m3 D f, e = .returned (.tuple #[.pointer (some ⟨p, 0, none⟩), .int .i64 0]) ∧
      PagRep w' p { Pg.new d m1 m2 m3 with size := 2 } ∧ DiskRep w' d D ∧ (∀ b, PS p (Pg.new d m1 m2 m3) b → w.heap.size ≤ b) ∧ Apart p (Pg.new d m1 m2 m3) D ∧
      D.size = n ∧ D.now = [(nameB, f)] ∧ (D.by_ f).length = 2 ∧ (∀ b, DS d D b → b = d ∨ w.heap.size ≤ b) ∧ Mod (One d) w w' := by
  have HS := Lib.hid (size_none h nameB may_name rfl)
  unfold nameB at HS
  have H := Lib.hid h
  have tok1 : Hid True := trivial
  have tok2 : Hid True := trivial
  have tok3 : Hid True := trivial
  clear h
  go_enter Tryz.func7, Tryz.ntmps7
  go_wp2_with (first
    | (go_at_call 36; refine HS.out.mono ?_; rintro e w1 ⟨rfl, hm1⟩)
    | (clear tok1; refine wpl_makeMap rfl rfl ?_; intro w2 hA2 hmA2 hsA2)
    | (clear tok2; refine wpl_makeMap rfl rfl ?_; intro w3 hA3 hmA3 hsA3)
    | (clear tok3; refine wpl_makeMap rfl rfl ?_; intro w4 hA4 hmA4 hsA4
       have hb5 := Blk.new w4 86 (Pg.new d w1.heap.size w2.heap.size w3.heap.size).cells
       have cb5 := hb5.cell
       have fb5 := hb5.frozen
       unfold Pg.cells Pg.new at cb5 fb5
       have HB5 := Lib.hid (opened_now H.out hb5 hm1 hA2 hmA2 hsA2.out hA3 hmA3 hsA3.out hA4 hmA4 hsA4.out)
       clear hb5)
    | (go_at_call 40; refine (anew_new hn HB5.out.1 HB5.out.2.1 HB5.out.2.2.1).mono ?_; rintro e w6 ⟨rfl, D6, f6, hrep6, hold6, hpag6, hz6, hnow6, hby6, hm6⟩
       have HR6 := Lib.hid (remove_none hrep6 freshB may_fresh (by rw [hnow6]; exact look_fresh f6))
       have HP6 := Lib.hid hpag6
       have hap6 : Apart w4.heap.size (Pg.new d w1.heap.size w2.heap.size w3.heap.size) D6 := fun b hb hd => (hold6 b hd).elim (HB5.out.2.2.1 b hb) (fun e => by have := HB5.out.1.lt hb; omega)
       have HX6 := Lib.hid (And.intro hap6 (And.intro hold6 (And.intro hz6 (And.intro hnow6 (And.intro hby6 hm6)))))
       have HD6 := Lib.hid hrep6
       unfold freshB at HR6
       clear hold6 hpag6 hz6 hnow6 hby6 hm6 hrep6)
    | (go_at_call 41; refine HR6.out.mono ?_; rintro e w7 ⟨rfl, hm7⟩)
    | (go_at_call 42; refine (names_ok (HD6.out.non hm7)).mono ?_; rintro e w8 ⟨rfl, vk, hst8⟩
       have hp8 := (HP6.out.non hm7).mod hst8.mod HX6.out.1
       have cp8 := hp8.blk.cell
       unfold Pg.cells Pg.new at cp8
       have HP8 := Lib.hid hp8
       have HS8 := Lib.hid hst8
       clear hst8 hp8)
    | (at_range; refine wpl_range rfl _ rfl und_mapPage rfl HP8.out.now ?_; intro w9 left0 hit0 hm9 hsz9))
  have HI9 := Lib.hid hit0
  have HM9 := Lib.hid hm9
  clear hit0 hm9 hsz9
  go_loopw [13] (fun _ wr => ∃ vis left, IterRep wr w8.heap.size w1.heap.size (mapV (fun _ => none)) vis left ∧ Mod Non w8 wr) (fun _ wr => iterLeft wr w1.heap.size w8.heap.size)
  case atStart => exact ⟨[], left0, HI9.out, HM9.out⟩
  case round =>
    obtain ⟨vis, left, hit, hm⟩ := hrel
    have HM := Lib.hid hm
    clear hm
    go_wp2_with (first
      | (at_next
         refine wpl_next rfl (.tmp 96) rfl rfl hit ?_ ?_
         intro w10 hm10 hall
         have HP10 := Lib.hid ((HP8.out.non HM.out).non hm10)
         rotate_left
         intro w10 k v left' hm10 hfk hnv hlt hit2 hent
         exact absurd hfk (by simp [mapV]))
      | (go_at_call 43; refine (keep_ok HP10.out).mono ?_; rintro e w11 ⟨rfl, hrep11, hm11⟩))
    go_ret2
    have hap8 : Apart w4.heap.size (Pg.new d w1.heap.size w2.heap.size w3.heap.size) (D6.setKept vk D6.now) := fun b hb hd => (HS8.out.old b hd).elim (HX6.out.1 b hb) (fun e => by have h1 := HP6.out.lt hb; have h2 := hm7.size; omega)
    have hm8 : Mod Non w8 w10 := HM.out.trans hm10
    obtain ⟨_, hold6, hz6, hnow6, hby6, hm6⟩ := HX6.out
    have hDS : ∀ b, DS d (D6.setKept vk D6.now) b → b = d ∨ w.heap.size ≤ b := fun b hb => by
      have hsz := HB5.out.2.2.2.2.size
      rcases HS8.out.old b hb with h | h
      · rcases hold6 b h with h | h
        · exact .inl (new_DS h)
        · exact .inr (by omega)
      · have h1 := hm7.size
        have h2 := hm6.size
        exact .inr (by omega)
    have hma : Mod (One d) w w6 := (HB5.out.2.2.2.2.mono (fun _ x => x.elim)).andThen hm6 (fun b hb hlt => by
      rcases hb with hb | hb
      · have := HB5.out.2.2.2.1 b hb
        omega
      · exact new_DS hb)
    have hmb : Mod (One d) w w8 := (hma.trans (hm7.mono (fun _ x => x.elim))).andThen HS8.out.mod (fun b hb hlt => by
      rcases hold6 b hb with h | h
      · exact new_DS h
      · have hsz := HB5.out.2.2.2.2.size
        omega)
    have hmc : Mod (One d) w w11 := (hmb.trans (hm8.mono (fun _ x => x.elim))).andThen hm11 (fun b hb hlt => by
      have := HB5.out.2.2.2.1 b hb
      omega)
    exact ⟨w4.heap.size, w1.heap.size, w2.heap.size, w3.heap.size, D6.setKept vk D6.now, f6, rfl, hrep11, (HS8.out.rep.non hm8).mod hm11 (fun b hb hd => hap8 b hd hb), HB5.out.2.2.2.1, hap8, hz6, hnow6, hby6, hDS, hmc⟩

theorem open_nil (w : World) :
    Calls Tryz.prog 7 #[.pointer none] w fun e w' => e = .returned (.tuple #[.pointer none, .int .i64 2]) ∧ w = w' := by
  have HS := Lib.hid (size_nil w nameB)
  unfold nameB at HS
  go_enter Tryz.func7, Tryz.ntmps7
  go_wp2_with (first
    | (go_at_call 36; refine HS.out.mono ?_; rintro e w1 ⟨rfl, rfl⟩))
  go_ret2
  exact ⟨rfl, rfl⟩
end
end Go.Proofs.YtgillcppnpkkiaaGreatDoor

namespace Go.Proofs.YtgillcppnpkkiaaGreatDoor
open Go Go.RowKit

/-- The disk ahead of step k: s0 its size, n0 how many names it may have. -/
def BState (s0 n0 : Nat) (rec : List UInt8) (k : Nat) (E : Dk) : Prop :=
  E.size = s0 ∧ match k with
  | 0 => E.now.length + 1 ≤ n0 ∧ look E.now freshB = none
  | 1 => E.now.length ≤ n0 ∧ ∃ f, look E.now freshB = some f ∧ E.by_ f = []
  | 2 => E.now.length ≤ n0 ∧ ∃ f, look E.now freshB = some f ∧ E.by_ f = rec
  | 3 => E.now.length ≤ n0 ∧ ∃ f, look E.now freshB = some f ∧ E.by_ f = rec ∧ E.sure f = rec.length
  | 4 => E.now.length ≤ n0 ∧ ∃ f, look E.now freshB = some f ∧ E.by_ f = rec ∧ E.sure f = rec.length ∧ E.kept = E.now
  | 5 => E.now.length ≤ n0 ∧ ∃ f, look E.now nameB = some f ∧ E.by_ f = rec ∧ E.sure f = rec.length
  | _ => E.now.length ≤ n0 ∧ ∃ f, look E.now nameB = some f ∧ E.by_ f = rec ∧ E.sure f = rec.length ∧ E.kept = E.now

section
variable {w : World} {d s0 n0 : Nat} {E : Dk} {rec : List UInt8}
theorem b_create (h : DiskRep w d E) (hs : BState s0 n0 rec 0 E) (hn : n0 ≤ 64) : Calls Tryz.prog 117 #[.pointer (some ⟨d, 0, none⟩), .string freshB] w fun e w' => e = .returned (.int .i64 0) ∧ ∃ E', DStep w d E w' E' ∧ BState s0 n0 rec 1 E' := by
  obtain ⟨hz, hl, hno⟩ := hs
  obtain ⟨p, hp⟩ := h.rising.pos freshB
  refine (create_any h freshB may_fresh p hp hno (by omega)).mono ?_
  rintro e w' ⟨rfl, vn, f, _, hst⟩
  exact ⟨rfl, _, hst, hz, by rw [show (E.add p freshB vn f).now.length = E.now.length + 1 from put_length hp.1]; exact hl, f, look_put_same hno, upd_same _ _ _⟩
theorem b_append (h : DiskRep w d E) (hs : BState s0 n0 rec 1 E) (A : Option Addr) (m c : Nat) (hr : RowAt w A m 1 (bv rec)) (hm63 : m ≤ maxLen) :
    (Calls Tryz.prog 48 #[.pointer (some ⟨d, 0, none⟩), .string freshB, .slice A m c] w fun e w' => e = .returned (.int .i64 0) ∧ ∃ E', DStep w d E w' E' ∧ BState s0 n0 rec 2 E') ∨
    (Calls Tryz.prog 48 #[.pointer (some ⟨d, 0, none⟩), .string freshB, .slice A m c] w fun e w' => e = .returned (.int .i64 6) ∧ Mod Non w w') := by
  obtain ⟨hz, hl, f, hf, hb⟩ := hs
  by_cases hroom : m ≤ E.left ∧ m + (E.by_ f).length ≤ 1048576
  · refine .inl ((append_ok h freshB may_fresh f hf A m c rec hr hroom).mono ?_)
    rintro e w' ⟨rfl, v, hst⟩
    exact ⟨rfl, _, hst, hz, hl, f, hf, by show upd _ _ _ _ = _; rw [upd_same, hb]; rfl⟩
  · exact .inr (append_full h freshB may_fresh f hf A m c hroom hm63)
theorem b_sync (h : DiskRep w d E) (hs : BState s0 n0 rec 2 E) : Calls Tryz.prog 49 #[.pointer (some ⟨d, 0, none⟩), .string freshB] w fun e w' => e = .returned (.int .i64 0) ∧ ∃ E', DStep w d E w' E' ∧ BState s0 n0 rec 3 E' := by
  obtain ⟨hz, hl, f, hf, hb⟩ := hs
  refine (sync_ok h freshB may_fresh f hf).mono ?_
  rintro e w' ⟨rfl, hst⟩
  exact ⟨rfl, _, hst, hz, hl, f, hf, by show upd _ _ _ _ = _; rw [upd_same, hb], by show upd _ _ _ _ = _; rw [upd_same, hb]⟩
theorem b_names (h : DiskRep w d E) (hs : BState s0 n0 rec 3 E) : Calls Tryz.prog 42 #[.pointer (some ⟨d, 0, none⟩)] w fun e w' => e = .returned (.int .i64 0) ∧ ∃ E', DStep w d E w' E' ∧ BState s0 n0 rec 4 E' := by
  obtain ⟨hz, hl, f, hf, hb, hu⟩ := hs
  refine (names_ok h).mono ?_
  rintro e w' ⟨rfl, vk, hst⟩
  exact ⟨rfl, _, hst, hz, hl, f, hf, hb, hu, rfl⟩
theorem b_rename (h : DiskRep w d E) (hs : BState s0 n0 rec 4 E) : Calls Tryz.prog 121 #[.pointer (some ⟨d, 0, none⟩), .string freshB, .string nameB] w fun e w' => e = .returned (.int .i64 0) ∧ ∃ E', DStep w d E w' E' ∧ BState s0 n0 rec 5 E' := by
  obtain ⟨hz, hl, f, hf, hb, hu, _⟩ := hs
  refine (rename_gen h freshB nameB may_fresh may_name f hf).mono ?_
  rintro e w' ⟨rfl, vn, l, hst, hlk, hle⟩
  exact ⟨rfl, _, hst, hz, Nat.le_trans hle hl, f, hlk, hb, hu⟩
theorem b_names2 (h : DiskRep w d E) (hs : BState s0 n0 rec 5 E) : Calls Tryz.prog 42 #[.pointer (some ⟨d, 0, none⟩)] w fun e w' => e = .returned (.int .i64 0) ∧ ∃ E', DStep w d E w' E' ∧ BState s0 n0 rec 6 E' := by
  obtain ⟨hz, hl, f, hf, hb, hu⟩ := hs
  refine (names_ok h).mono ?_
  rintro e w' ⟨rfl, vk, hst⟩
  exact ⟨rfl, _, hst, hz, hl, f, hf, hb, hu, rfl⟩
end
section
variable {w w' : World} {p q r : Nat} {G : Pg} {R : World → Prop}
set_option maxRecDepth 100000 in
theorem anew_append_r {x : Int} {v : Value} {S : Nat → Prop} (hSp : ¬ S p) (hSq : ¬ S q) (hSr : ¬ S r) (hq : Blk w q 29 #[.pointer (some ⟨p, 0, none⟩)]) (hr : Blk w r 56 #[v]) (hp : Blk w p 86 G.cells)
    (HC : ∀ W, Mod Non w W → Calls Tryz.prog 48 #[.pointer (some ⟨G.d, 0, none⟩), .string freshB, v] W fun e w' => e = .returned (.int .i64 x) ∧ Mod S W w' ∧ R w') :
    Calls Tryz.prog 118 #[.pointer (some ⟨q, 0, none⟩), .pointer (some ⟨r, 0, none⟩)] w fun e w' => e = .returned (.int .i64 x) ∧ ∃ w2, Mod Non w w2 ∧ Mod S w2 w' ∧ R w' := by
  have HQ := Lib.hid hq
  have HRr := Lib.hid hr
  have HP := Lib.hid hp
  unfold freshB at HC
  clear hq hp hr
  go_enter Tryz.func118, Tryz.ntmps118
  go_wp2
  refine wp_plan [(0, false), (1, false), (2, false), (3, false), (4, false), (5, true), (6, false)] S (by kernel_rfl) (by kernel_rfl) (fun c d v a w h => by cases d <;> exact h) (fun w2 hm2 => ?_)
  refine wpp_read _ rfl rfl (fun W hW => by have cq := ((HQ.out.mod hm2 (fun x => x)).mod hW hSq).cell; have cr := ((HRr.out.mod hm2 (fun x => x)).mod hW hSr).cell; have cp := ((HP.out.mod hm2 (fun x => x)).mod hW hSp).cell; unfold Pg.cells at cp; first | (go_simp; done) | (go_simp; rfl) | rfl) ?_
  simp only [List.getElem_toArray, List.getElem_cons_zero]
  go_frame
  refine wpp_read _ rfl rfl (fun W hW => by have cq := ((HQ.out.mod hm2 (fun x => x)).mod hW hSq).cell; have cr := ((HRr.out.mod hm2 (fun x => x)).mod hW hSr).cell; have cp := ((HP.out.mod hm2 (fun x => x)).mod hW hSp).cell; unfold Pg.cells at cp; first | (go_simp; done) | (go_simp; rfl) | rfl) ?_
  simp only [List.getElem_toArray, List.getElem_cons_succ, List.getElem_cons_zero]
  go_frame
  refine wpp_read _ rfl rfl (fun W hW => by have cq := ((HQ.out.mod hm2 (fun x => x)).mod hW hSq).cell; have cr := ((HRr.out.mod hm2 (fun x => x)).mod hW hSr).cell; have cp := ((HP.out.mod hm2 (fun x => x)).mod hW hSp).cell; unfold Pg.cells at cp; first | (go_simp; done) | (go_simp; rfl) | rfl) ?_
  simp only [List.getElem_toArray, List.getElem_cons_succ, List.getElem_cons_zero]
  go_frame
  refine wpp_read _ rfl rfl (fun W hW => by have cq := ((HQ.out.mod hm2 (fun x => x)).mod hW hSq).cell; have cr := ((HRr.out.mod hm2 (fun x => x)).mod hW hSr).cell; have cp := ((HP.out.mod hm2 (fun x => x)).mod hW hSp).cell; unfold Pg.cells at cp; first | (go_simp; done) | (go_simp; rfl) | rfl) ?_
  simp only [List.getElem_toArray, List.getElem_cons_succ, List.getElem_cons_zero]
  go_frame
  refine wpp_read _ rfl rfl (fun W hW => by have cq := ((HQ.out.mod hm2 (fun x => x)).mod hW hSq).cell; have cr := ((HRr.out.mod hm2 (fun x => x)).mod hW hSr).cell; have cp := ((HP.out.mod hm2 (fun x => x)).mod hW hSp).cell; unfold Pg.cells at cp; first | (go_simp; done) | (go_simp; rfl) | rfl) ?_
  simp only [List.getElem_toArray, List.getElem_cons_succ, List.getElem_cons_zero]
  go_frame
  refine wpp_act rfl rfl ?_
  go_simp
  refine (HC w2 hm2).mono ?_
  rintro e w3 ⟨rfl, hm3, hR3⟩
  refine ⟨hm3, ?_⟩
  refine wpp_read _ rfl rfl (fun W hW => by first | (go_simp; done) | (go_simp; rfl) | rfl) ?_
  simp only [List.getElem_toArray, List.getElem_cons_succ, List.getElem_cons_zero]
  go_frame
  refine wpp_nil ?_
  go_wp2
  go_ret
  exact ⟨rfl, w2, hm2, hm3, hR3⟩
end
end Go.Proofs.YtgillcppnpkkiaaGreatDoor
