/- Regions that draw their order: walked in an order of one's own choice. An operation that reads alone may come where the worlds that the others make cannot turn what it reads (a predicate I on worlds); one that acts comes where nothing else is left to come. No program is named here. -/
import Derived.Test.YtgillcppnpkkiaaGreatDoorDisks
import Derived.Orders
namespace Go.Proofs.YtgillcppnpkkiaaGreatDoor
open Go Go.RowKit

section
variable {P : Program} {ops : Array Oper} {Q : Exit → Act → World → Prop} {md : Region.Mode} {I : World → Prop}

/-- In each world of I the operation gives v and turns nothing (or it is not wanted, and its slot stays empty). -/
def YI (P : Program) (ops : Array Oper) (I : World → Prop) (o : Oper) (v : Value) (a : Act) : Prop :=
  (Region.wanted o (yielded ops a.tmps) = true ∧ ∀ w, I w → (execOp a.eval o).run P w = .ok (.value v) w) ∨ (Region.wanted o (yielded ops a.tmps) = false ∧ v = undef)

/-- What o sees of a frame is the same in both. -/
def Sees (ops : Array Oper) (o : Oper) (a a' : Act) : Prop := execOp a'.eval o = execOp a.eval o ∧ Region.wanted o (yielded ops a'.tmps) = Region.wanted o (yielded ops a.tmps)

theorem YI.same {o : Oper} {v : Value} {a a' : Act} (h : YI P ops I o v a) (hs : Sees ops o a a') : YI P ops I o v a' := by
  unfold YI at *
  rw [hs.1, hs.2]
  exact h

theorem YI.op {i : Nat} {o : Oper} {v : Value} {a : Act} (hi : ops[i]? = some o) (hy : YI P ops I o v a) {K : Act → World → Prop} {w : World} (hw : I w) (h : K (a.put o.dst v) w) : wpOp P ops Q i K a w := by
  unfold wpOp
  simp only [hi]
  rcases hy with ⟨h1, h2⟩ | ⟨h1, rfl⟩
  · rw [if_pos h1]
    left
    unfold Oper.wp
    rw [h2 w hw]
    exact h
  · rw [if_neg (by simp [h1])]
    exact h

theorem op_put {j : Nat} {oi oj : Oper} {v : Value} (hj : ops[j]? = some oj) (hap : oi.apart ops oj = true) (hsi : ∀ cs b, oi.op ≠ .select cs b) (hsj : ∀ cs b, oj.op ≠ .select cs b)
    (hQ : ∀ c a w, Q (.panic c) (a.put oi.dst v) w → Q (.panic c) a w) {K : Act → World → Prop} {a : Act} {w : World} (h : wpOp P ops Q j K (a.put oi.dst v) w) :
    wpOp P ops Q j (fun a' w' => Sees ops oi a a' ∧ K (a'.put oi.dst v) w') a w := by
  obtain ⟨h1, h2, h3⟩ := Oper.apart_spec hap
  have hsee : ∀ u, Sees ops oi a (a.put oj.dst u) := fun u => ⟨execOp_put oi hsi a oj.dst u h3, wanted_put oi a oj.dst u h3⟩
  have hseeD : ∀ d u, Sees ops oi a ({ a with defers := d :: a.defers }.put oj.dst u) := fun d u =>
    ⟨(execOp_put oi hsi { a with defers := d :: a.defers } oj.dst u h3).trans rfl, (wanted_put oi { a with defers := d :: a.defers } oj.dst u h3).trans rfl⟩
  have hcom : ∀ u, (a.put oi.dst v).put oj.dst u = (a.put oj.dst u).put oi.dst v := fun u => Act.put_comm a v u h2
  have hex := execOp_put oj hsj a oi.dst v h1
  have hwa := wanted_put oj a oi.dst v h1
  unfold wpOp at h ⊢
  simp only [hj] at h ⊢
  rw [hwa] at h
  by_cases hw : Region.wanted oj (yielded ops a.tmps) = true
  · rw [if_pos hw] at h ⊢
    rcases h with h | ⟨hasks, hlets⟩
    · left
      unfold Oper.wp at h ⊢
      rw [hex] at h
      generalize (execOp a.eval oj).run P w = r at h ⊢
      cases r with
      | ok n w' =>
        cases n with
        | value u =>
          simp only [Oper.upon] at h ⊢
          exact ⟨hsee u, hcom u ▸ h⟩
        | skip =>
          simp only [Oper.upon] at h ⊢
          exact ⟨hsee _, hcom _ ▸ h⟩
        | defer d =>
          simp only [Oper.upon] at h ⊢
          refine ⟨hseeD d _, ?_⟩
          rw [← Act.put_comm _ v undef h2, ← Act.put_defers]
          exact h
        | enter f args =>
          simp only [Oper.upon] at h ⊢
          refine Calls.mono h fun e w'' he => ?_
          cases e with
          | returned u => exact ⟨hsee u, hcom u ▸ he⟩
          | panicked c => exact hQ _ _ _ he
          | outgrown => exact he
        | row row args =>
          simp only [Oper.upon] at h ⊢
          exact Rows.mono h fun u w'' he => ⟨hsee u, hcom u ▸ he⟩
        | _ => simp only [Oper.upon] at h
      | halt x w' =>
        cases x with
        | panic u =>
          simp only [Oper.upon] at h ⊢
          exact hQ _ _ _ h
        | _ => simp only [Oper.upon] at h
    · right
      refine ⟨?_, hlets⟩
      unfold Oper.asks at hasks ⊢
      rw [hex] at hasks
      exact hasks
  · rw [if_neg hw] at h ⊢
    exact ⟨hsee _, hcom _ ▸ h⟩

/-- Every order that the edges let, each world on the way one of I. -/
def wpI (P : Program) (md : Region.Mode) (ops : Array Oper) (I : World → Prop) (Q : Exit → Act → World → Prop) : Nat → Array Bool → Act → World → Prop
  | 0, listed, a, w => I w ∧ Region.ready md ops listed = [] ∧ Q .normal a w
  | fuel + 1, listed, a, w => I w ∧ (Region.ready md ops listed = [] → Q .normal a w) ∧ ∀ i ∈ Region.ready md ops listed, wpOp P ops Q i (wpI P md ops I Q fuel (listed.setIfInBounds i true)) a w

theorem wpI.inI {fuel : Nat} {listed : Array Bool} {a : Act} {w : World} (h : wpI P md ops I Q fuel listed a w) : I w := by
  cases fuel <;> exact h.1

theorem wpI.any : ∀ (fuel : Nat) (listed : Array Bool) (a : Act) (w : World), wpI P md ops I Q fuel listed a w → wpAny P md ops Q fuel listed a w
  | 0, _, _, _, h => h.2
  | fuel + 1, _, _, _, h => ⟨h.2.1, fun i hi => wpOp_mono (fun a' w' h' => wpI.any fuel _ a' w' h') (h.2.2 i hi)⟩

theorem wpI_take {i : Nat} {oi : Oper} {v : Value} (hi : ops[i]? = some oi) (hsel : ∀ (j : Nat) (o : Oper) cs b, ops[j]? = some o → o.op ≠ .select cs b)
    (hQ : ∀ c a w, Q (.panic c) (a.put oi.dst v) w → Q (.panic c) a w) :
    ∀ (fuel : Nat) (listed : Array Bool) (a : Act) (w : World),
      (∀ j oj, ops[j]? = some oj → j ≠ i → listed.getD j true = false → (∀ e ∈ oj.after, Region.binds md e = true → e.on ≠ i) → oi.apart ops oj = true) →
      i ∈ Region.ready md ops listed → YI P ops I oi v a →
      wpI P md ops I Q fuel (listed.setIfInBounds i true) (a.put oi.dst v) w → wpI P md ops I Q (fuel + 1) listed a w := by
  intro fuel
  induction fuel with
  | zero =>
    intro listed a w _ hr hy H
    refine ⟨H.1, fun h => (by rw [h] at hr; cases hr), fun j hj => ?_⟩
    by_cases hji : j = i
    · subst hji; exact hy.op hi H.1 H
    · have := ready_mono hj hji
      rw [H.2.1] at this
      cases this
  | succ fuel ih =>
    intro listed a w hfree hr hy H
    refine ⟨H.1, fun h => (by rw [h] at hr; cases hr), fun j hj => ?_⟩
    by_cases hji : j = i
    · subst hji; exact hy.op hi H.1 H
    · have h1 := H.2.2 j (ready_mono hj hji)
      obtain ⟨hjun, oj, hoj, hall⟩ := mem_ready.1 hj
      have hnot : ∀ e ∈ oj.after, Region.binds md e = true → e.on ≠ i := fun e he hb heq => by
        have h1 := hall e he hb
        have h0 := (mem_ready.1 hr).1
        rw [heq] at h1
        rcases Nat.lt_or_ge i listed.size with h' | h'
        · simp [h'] at h0 h1; rw [h0] at h1; cases h1
        · simp [Array.getElem?_eq_none h'] at h1
      have h2 := op_put hoj (hfree j oj hoj hji hjun hnot) (fun cs b => hsel i oi cs b hi) (fun cs b => hsel j oj cs b hoj) hQ h1
      have hfree' : ∀ k ok, ops[k]? = some ok → k ≠ i → (listed.setIfInBounds j true).getD k true = false →
          (∀ e ∈ ok.after, Region.binds md e = true → e.on ≠ i) → oi.apart ops ok = true := fun k ok hk hki hun hno => by
        refine hfree k ok hk hki ?_ hno
        by_cases hjk : j = k
        · subst hjk; exact hjun
        · rw [getD_set_ne true hjk] at hun; exact hun
      refine wpOp_mono (fun a' w' h3 => ih (listed.setIfInBounds j true) a' w' hfree' (ready_mono hr (Ne.symm hji)) (hy.same h3.1) ?_) h2
      rw [Array.setIfInBounds_comm _ _ hji]
      exact h3.2

/-- A plan: the operations' numbers, each with whether it acts. -/
def planB (md : Region.Mode) (ops : Array Oper) : Array Bool → List (Nat × Bool) → Bool
  | listed, [] => (Region.ready md ops listed).isEmpty
  | listed, (i, false) :: rest => Region.free md ops listed i && (Region.ready md ops listed).contains i && planB md ops (listed.setIfInBounds i true) rest
  | listed, (i, true) :: rest => (Region.ready md ops listed == [i]) && planB md ops (listed.setIfInBounds i true) rest

/-- What is to be shown, operation by operation, in the plan's order. -/
def wpPlan (P : Program) (ops : Array Oper) (I : World → Prop) (Q : Exit → Act → World → Prop) : List (Nat × Bool) → Act → World → Prop
  | [], a, w => Q .normal a w
  | (i, false) :: rest, a, w => ∃ o v, ops[i]? = some o ∧ YI P ops I o v a ∧ wpPlan P ops I Q rest (a.put o.dst v) w
  | (i, true) :: rest, a, w => wpOp P ops Q i (fun a' w' => I w' ∧ wpPlan P ops I Q rest a' w') a w

theorem wpI_of_plan (hsel : Region.noSelect ops = true) (hQ : ∀ (c : List PanicEntry) (d : Option Tmp) (v : Value) (a : Act) (w : World), Q (.panic c) (a.put d v) w → Q (.panic c) a w) :
    ∀ (plan : List (Nat × Bool)) (listed : Array Bool) (a : Act) (w : World), planB md ops listed plan = true → I w → wpPlan P ops I Q plan a w → wpI P md ops I Q plan.length listed a w
  | [], listed, a, w, hp, hI, h => by
    simp only [planB, List.isEmpty_iff] at hp
    exact ⟨hI, hp, h⟩
  | (i, false) :: rest, listed, a, w, hp, hI, h => by
    simp only [planB, Bool.and_eq_true] at hp
    obtain ⟨o, v, hi, hy, hk⟩ := h
    exact wpI_take hi (Region.noSelect_spec hsel) (fun c a w => hQ c _ _ a w) rest.length listed a w (Region.free_spec hi hp.1.1) (by simpa using hp.1.2) hy (wpI_of_plan hsel hQ rest _ _ _ hp.2 hI hk)
  | (i, true) :: rest, listed, a, w, hp, hI, h => by
    simp only [planB, Bool.and_eq_true, beq_iff_eq] at hp
    show wpI P md ops I Q (rest.length + 1) listed a w
    refine And.intro hI (And.intro (fun h0 => by rw [hp.1] at h0; cases h0) (fun j hj => ?_))
    rw [hp.1] at hj
    obtain rfl : j = i := by simpa using hj
    exact wpOp_mono (fun a' w' h' => wpI_of_plan hsel hQ rest _ _ _ hp.2 h'.1 h'.2) h

theorem wp_plan {id : Nat} {a : Act} {w : World} {l : List Oper} (plan : List (Nat × Bool)) (S : Nat → Prop) (hm : P.follows .mixedOrders = true)
    (hB : (Region.noSelect l.toArray && planB .any l.toArray (Array.replicate l.toArray.size false) plan && plan.length == l.toArray.size) = true)
    (hQ : ∀ (c : List PanicEntry) (d : Option Tmp) (v : Value) (a : Act) (w : World), Q (.panic c) (a.put d v) w → Q (.panic c) a w)
    (h : ∀ w', Mod Non w w' → wpPlan P l.toArray (fun W => Mod S w' W) Q plan a w') : (Code.region id l.toArray true).wp P Q a w := by
  simp only [Bool.and_eq_true, beq_iff_eq] at hB
  refine wp_region_any hm ?_
  have e := wpI.any _ _ _ _ (wpI_of_plan hB.1.1 hQ plan _ _ _ hB.1.2 (Mod.refl S _) (h { w with drawn := w.drawn + 1 } ⟨rfl, rfl, rfl, Nat.le_refl _, fun _ _ _ => rfl⟩))
  rw [hB.2] at e
  exact e

variable {a : Act} {w : World} {rest : List (Nat × Bool)}
theorem wpp_nil (h : Q .normal a w) : wpPlan P ops I Q [] a w := h
/-- An operation that reads alone. -/
theorem wpp_read {i : Nat} {o : Oper} (v : Value) (hi : ops[i]? = some o) (hg : o.guard = none) (hr : ∀ W, I W → (execOp a.eval o).run P W = .ok (.value v) W) (h : wpPlan P ops I Q rest (a.put o.dst v) w) : wpPlan P ops I Q ((i, false) :: rest) a w :=
  ⟨o, v, hi, .inl ⟨by simp [Region.wanted, hg], hr⟩, h⟩
/-- An operation that acts. -/
theorem wpp_act {i : Nat} {o : Oper} (hi : ops[i]? = some o) (hg : o.guard = none) (h : o.wp P a w (fun a' w' => I w' ∧ wpPlan P ops I Q rest a' w') Q) : wpPlan P ops I Q ((i, true) :: rest) a w := by
  show wpOp P ops Q i _ a w
  unfold wpOp
  simp only [hi]
  rw [if_pos (by simp [Region.wanted, hg])]
  exact .inl h
end
end Go.Proofs.YtgillcppnpkkiaaGreatDoor
