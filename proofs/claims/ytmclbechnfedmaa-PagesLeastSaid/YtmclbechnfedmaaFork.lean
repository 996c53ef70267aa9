/- A region that draws its order, where two operations that act may come either way: a plan that forks. -/
import Derived.Test.YtmclbechnfedmaaAnewFns
namespace Go.Proofs.Ytmclbechnfedmaa
open Go Go.RowKit

inductive Pl where
  | done : Pl
  | read : Nat → Pl → Pl
  | act : Nat → Pl → Pl
  | fork : Nat → Pl → Nat → Pl → Pl

def Pl.size : Pl → Nat
  | .done => 0
  | .read _ r => r.size + 1
  | .act _ r => r.size + 1
  | .fork _ r _ _ => r.size + 1

section
variable {P : Program} {md : Region.Mode} {ops : Array Oper} {I : World → Prop} {Q : Exit → Act → World → Prop}

def plB (md : Region.Mode) (ops : Array Oper) : Array Bool → Pl → Bool
  | listed, .done => (Region.ready md ops listed).isEmpty
  | listed, .read i rest => Region.free md ops listed i && (Region.ready md ops listed).contains i && plB md ops (listed.setIfInBounds i true) rest
  | listed, .act i rest => (Region.ready md ops listed == [i]) && plB md ops (listed.setIfInBounds i true) rest
  | listed, .fork i r j s => (Region.ready md ops listed == [i, j]) && (r.size == s.size) && plB md ops (listed.setIfInBounds i true) r && plB md ops (listed.setIfInBounds j true) s

def wpPl (P : Program) (ops : Array Oper) (I : World → Prop) (Q : Exit → Act → World → Prop) : Pl → Act → World → Prop
  | .done, a, w => Q .normal a w
  | .read i rest, a, w => ∃ o v, ops[i]? = some o ∧ YI P ops I o v a ∧ wpPl P ops I Q rest (a.put o.dst v) w
  | .act i rest, a, w => wpOp P ops Q i (fun a' w' => I w' ∧ wpPl P ops I Q rest a' w') a w
  | .fork i r j s, a, w => wpOp P ops Q i (fun a' w' => I w' ∧ wpPl P ops I Q r a' w') a w ∧ wpOp P ops Q j (fun a' w' => I w' ∧ wpPl P ops I Q s a' w') a w

theorem wpI_of_pl (hsel : Region.noSelect ops = true) (hQ : ∀ (c : List PanicEntry) (d : Option Tmp) (v : Value) (a : Act) (w : World), Q (.panic c) (a.put d v) w → Q (.panic c) a w) :
    ∀ (plan : Pl) (listed : Array Bool) (a : Act) (w : World), plB md ops listed plan = true → I w → wpPl P ops I Q plan a w → wpI P md ops I Q plan.size listed a w
  | .done, listed, a, w, hp, hI, h => by
    simp only [plB, List.isEmpty_iff] at hp
    exact ⟨hI, hp, h⟩
  | .read i rest, listed, a, w, hp, hI, h => by
    simp only [plB, Bool.and_eq_true] at hp
    obtain ⟨o, v, hi, hy, hk⟩ := h
    exact wpI_take hi (Region.noSelect_spec hsel) (fun c a w => hQ c _ _ a w) rest.size listed a w (Region.free_spec hi hp.1.1) (by simpa using hp.1.2) hy (wpI_of_pl hsel hQ rest _ _ _ hp.2 hI hk)
  | .act i rest, listed, a, w, hp, hI, h => by
    simp only [plB, Bool.and_eq_true, beq_iff_eq] at hp
    show wpI P md ops I Q (rest.size + 1) listed a w
    refine And.intro hI (And.intro (fun h0 => by rw [hp.1] at h0; cases h0) (fun j hj => ?_))
    rw [hp.1] at hj
    obtain rfl : j = i := by simpa using hj
    exact wpOp_mono (fun a' w' h' => wpI_of_pl hsel hQ rest _ _ _ hp.2 h'.1 h'.2) h
  | .fork i r j s, listed, a, w, hp, hI, h => by
    simp only [plB, Bool.and_eq_true, beq_iff_eq] at hp
    show wpI P md ops I Q (r.size + 1) listed a w
    refine And.intro hI (And.intro (fun h0 => by rw [hp.1.1.1] at h0; cases h0) (fun k hk => ?_))
    rw [hp.1.1.1] at hk
    simp only [List.mem_cons, List.not_mem_nil, or_false] at hk
    rcases hk with rfl | rfl
    · exact wpOp_mono (fun a' w' h' => wpI_of_pl hsel hQ r _ _ _ hp.1.2 h'.1 h'.2) h.1
    · rw [hp.1.1.2]
      exact wpOp_mono (fun a' w' h' => wpI_of_pl hsel hQ s _ _ _ hp.2 h'.1 h'.2) h.2

theorem wp_pl {id : Nat} {a : Act} {w : World} {l : List Oper} (plan : Pl) (S : Nat → Prop) (hm : P.follows .mixedOrders = true)
    (hB : (Region.noSelect l.toArray && plB .any l.toArray (Array.replicate l.toArray.size false) plan && plan.size == l.toArray.size) = true)
    (hQ : ∀ (c : List PanicEntry) (d : Option Tmp) (v : Value) (a : Act) (w : World), Q (.panic c) (a.put d v) w → Q (.panic c) a w)
    (h : ∀ w', Mod Non w w' → wpPl P l.toArray (fun W => Mod S w' W) Q plan a w') : (Code.region id l.toArray true).wp P Q a w := by
  simp only [Bool.and_eq_true, beq_iff_eq] at hB
  refine wp_region_any hm ?_
  have e := wpI.any _ _ _ _ (wpI_of_pl hB.1.1 hQ plan _ _ _ hB.1.2 (Mod.refl S _) (h { w with drawn := w.drawn + 1 } ⟨rfl, rfl, rfl, Nat.le_refl _, fun _ _ _ => rfl⟩))
  rw [hB.2] at e
  exact e

variable {a : Act} {w : World} {rest rest2 : Pl}
theorem wpf_nil (h : Q .normal a w) : wpPl P ops I Q .done a w := h
theorem wpf_read {i : Nat} {o : Oper} (v : Value) (hi : ops[i]? = some o) (hg : o.guard = none) (hr : ∀ W, I W → (execOp a.eval o).run P W = .ok (.value v) W) (h : wpPl P ops I Q rest (a.put o.dst v) w) : wpPl P ops I Q (.read i rest) a w :=
  ⟨o, v, hi, .inl ⟨by simp [Region.wanted, hg], hr⟩, h⟩
theorem wpo_of {i : Nat} {o : Oper} {K : Act → World → Prop} (hi : ops[i]? = some o) (hg : o.guard = none) (h : o.wp P a w K Q) : wpOp P ops Q i K a w := by
  unfold wpOp
  simp only [hi]
  rw [if_pos (by simp [Region.wanted, hg])]
  exact .inl h
theorem wpf_act {i : Nat} {o : Oper} (hi : ops[i]? = some o) (hg : o.guard = none) (h : o.wp P a w (fun a' w' => I w' ∧ wpPl P ops I Q rest a' w') Q) : wpPl P ops I Q (.act i rest) a w := wpo_of hi hg h
theorem wpf_fork {i j : Nat} {o q : Oper} (hi : ops[i]? = some o) (hj : ops[j]? = some q) (hg : o.guard = none) (hg2 : q.guard = none) (h : o.wp P a w (fun a' w' => I w' ∧ wpPl P ops I Q rest a' w') Q) (k : q.wp P a w (fun a' w' => I w' ∧ wpPl P ops I Q rest2 a' w') Q) :
    wpPl P ops I Q (.fork i rest j rest2) a w := ⟨wpo_of hi hg h, wpo_of hj hg2 k⟩
end
end Go.Proofs.Ytmclbechnfedmaa
