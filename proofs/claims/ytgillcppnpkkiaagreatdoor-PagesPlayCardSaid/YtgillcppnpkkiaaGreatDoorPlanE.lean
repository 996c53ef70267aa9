/- Regions that draw their order and end with an operation that may turn what the others read: all else comes ahead of it, in whatever order. -/
import Derived.Test.YtgillcppnpkkiaaGreatDoorPlan
namespace Go.Proofs.YtgillcppnpkkiaaGreatDoor
open Go Go.RowKit
section
variable {P : Program} {ops : Array Oper} {Q : Exit → Act → World → Prop} {md : Region.Mode} {I : World → Prop} {f : Nat}

/-- What is listed has what it waits for listed, too. -/
def Clo (md : Region.Mode) (ops : Array Oper) (L : Array Bool) : Prop := ∀ k o, ops[k]? = some o → L.getD k false = true → ∀ e ∈ o.after, Region.binds md e = true → L.getD e.on false = true
def edgeB (md : Region.Mode) (ops : Array Oper) (k i : Nat) : Bool := match ops[k]? with | some o => o.after.any (fun e => Region.binds md e && e.on == i) | none => false
def chkR (md : Region.Mode) (ops : Array Oper) : List Nat → List Nat → Bool
  | _, [] => true
  | done, i :: rest => done.any (fun k => edgeB md ops k i) && chkR md ops (i :: done) rest
theorem edge_on {k i : Nat} {o : Oper} (ho : ops[k]? = some o) (he : edgeB md ops k i = true) {L : Array Bool} (h : ∀ e ∈ o.after, Region.binds md e = true → L.getD e.on false = true) : L.getD i false = true := by
  unfold edgeB at he
  rw [ho] at he
  simp only [Array.any_eq_true', Bool.and_eq_true, beq_iff_eq] at he
  obtain ⟨e, hem, hbi, hon⟩ := he
  have := h e hem hbi
  rw [hon] at this
  exact this
theorem chkR_all {L : Array Bool} (hc : Clo md ops L) : ∀ (rest done : List Nat), (∀ k ∈ done, L.getD k false = true) → chkR md ops done rest = true → ∀ k ∈ rest, L.getD k false = true
  | [], _, _, _ => by simp
  | i :: rest, done, hd, hb => by
    simp only [chkR, Bool.and_eq_true, List.any_eq_true] at hb
    obtain ⟨⟨k, hk, he⟩, hr⟩ := hb
    have hi : L.getD i false = true := by
      cases ho : ops[k]? with
      | none => unfold edgeB at he; rw [ho] at he; cases he
      | some o => exact edge_on ho he (hc k o ho (hd k hk))
    intro j hj
    rcases List.mem_cons.1 hj with rfl | hj
    · exact hi
    · exact chkR_all hc rest (i :: done) (fun k hk => (List.mem_cons.1 hk).elim (fun e => by rw [e]; exact hi) (hd k)) hr j hj
/-- Where f may come, all else is listed. -/
def Lasts (md : Region.Mode) (ops : Array Oper) (f : Nat) : Prop := ∀ L, Clo md ops L → (∃ o, ops[f]? = some o ∧ ∀ e ∈ o.after, Region.binds md e = true → L.getD e.on false = true) → ∀ j, j < ops.size → j ≠ f → L.getD j false = true
theorem Clo.set {L : Array Bool} (h : Clo md ops L) {i : Nat} {o : Oper} (hi : ops[i]? = some o) (hall : ∀ e ∈ o.after, Region.binds md e = true → L.getD e.on false = true) : Clo md ops (L.setIfInBounds i true) := by
  intro k ok hk hl e he hb
  by_cases hki : i = k
  · subst hki
    rw [hi] at hk
    cases hk
    exact getD_set_true (hall e he hb)
  · rw [getD_set_ne false hki] at hl
    exact getD_set_true (h k ok hk hl e he hb)
def lastB (md : Region.Mode) (ops : Array Oper) (f : Nat) (D rest : List Nat) : Bool := D.all (edgeB md ops f) && chkR md ops D rest && (List.range ops.size).all (fun j => j == f || D.contains j || rest.contains j)
theorem lasts_of {D rest : List Nat} (hb : lastB md ops f D rest = true) : Lasts md ops f := by
  unfold lastB at hb
  simp only [Bool.and_eq_true, List.all_eq_true] at hb
  obtain ⟨⟨h1, h2⟩, h3⟩ := hb
  intro L hc ⟨o, ho, hdep⟩ j hj hjf
  have hD : ∀ k ∈ D, L.getD k false = true := fun k hk => edge_on ho (h1 k hk) hdep
  have h4 := h3 j (List.mem_range.2 hj)
  simp only [Bool.or_eq_true, beq_iff_eq, List.contains_iff_mem] at h4
  rcases h4 with (h4 | h4) | h4
  · exact absurd h4 hjf
  · exact hD j h4
  · exact chkR_all hc rest D hD h2 j h4

/-- Every order that the edges let, each world ahead of f one of I. -/
def wpE (P : Program) (md : Region.Mode) (ops : Array Oper) (I : World → Prop) (Q : Exit → Act → World → Prop) (f : Nat) : Nat → Array Bool → Act → World → Prop
  | 0, listed, a, w => (listed.getD f true = false → I w) ∧ Region.ready md ops listed = [] ∧ Q .normal a w
  | fuel + 1, listed, a, w => (listed.getD f true = false → I w) ∧ (Region.ready md ops listed = [] → Q .normal a w) ∧ ∀ i ∈ Region.ready md ops listed, wpOp P ops Q i (wpE P md ops I Q f fuel (listed.setIfInBounds i true)) a w
theorem wpE.inI {fuel : Nat} {listed : Array Bool} {a : Act} {w : World} (h : wpE P md ops I Q f fuel listed a w) : listed.getD f true = false → I w := by
  cases fuel <;> exact h.1
theorem wpE.any : ∀ (fuel : Nat) (listed : Array Bool) (a : Act) (w : World), wpE P md ops I Q f fuel listed a w → wpAny P md ops Q fuel listed a w
  | 0, _, _, _, h => h.2
  | fuel + 1, _, _, _, h => ⟨h.2.1, fun i hi => wpOp_mono (fun a' w' h' => wpE.any fuel _ a' w' h') (h.2.2 i hi)⟩
theorem wpE_take {i : Nat} {oi : Oper} {v : Value} (hi : ops[i]? = some oi) (hif : i ≠ f) (hfs : f < ops.size) (hlast : Lasts md ops f) (hsel : ∀ (j : Nat) (o : Oper) cs b, ops[j]? = some o → o.op ≠ .select cs b)
    (hQ : ∀ c a w, Q (.panic c) (a.put oi.dst v) w → Q (.panic c) a w) :
    ∀ (fuel : Nat) (listed : Array Bool) (a : Act) (w : World), listed.size = ops.size → Clo md ops listed →
      (∀ j oj, ops[j]? = some oj → j ≠ i → listed.getD j true = false → (∀ e ∈ oj.after, Region.binds md e = true → e.on ≠ i) → oi.apart ops oj = true) →
      i ∈ Region.ready md ops listed → YI P ops I oi v a →
      wpE P md ops I Q f fuel (listed.setIfInBounds i true) (a.put oi.dst v) w → wpE P md ops I Q f (fuel + 1) listed a w := by
  have un : ∀ (L : Array Bool), L.size = ops.size → Clo md ops L → i ∈ Region.ready md ops L → L.getD f true = false := by
    intro L hz hc hr
    have h0 := (mem_ready.1 hr).1
    have hil : i < ops.size := (Array.getElem?_eq_some_iff.1 hi).1
    cases hf : L.getD f true with
    | false => rfl
    | true =>
      exfalso
      have hf' : L.getD f false = true := by
        have : f < L.size := by omega
        simp [this] at hf ⊢
        exact hf
      obtain ⟨o, ho⟩ : ∃ o, ops[f]? = some o := ⟨_, Array.getElem?_eq_getElem hfs⟩
      have h1 := hlast L hc ⟨o, ho, fun e he hb => hc f o ho hf' e he hb⟩ i hil hif
      have : i < L.size := by omega
      simp [this] at h0 h1
      rw [h0] at h1
      cases h1
  intro fuel
  induction fuel with
  | zero =>
    intro listed a w hz hc _ hr hy H
    have hI := H.1 (by rw [getD_set_ne true hif]; exact un listed hz hc hr)
    refine ⟨fun _ => hI, fun h => (by rw [h] at hr; cases hr), fun j hj => ?_⟩
    by_cases hji : j = i
    · subst hji; exact hy.op hi hI H
    · have := ready_mono hj hji
      rw [H.2.1] at this
      cases this
  | succ fuel ih =>
    intro listed a w hz hc hfree hr hy H
    have hI := H.1 (by rw [getD_set_ne true hif]; exact un listed hz hc hr)
    refine ⟨fun _ => hI, fun h => (by rw [h] at hr; cases hr), fun j hj => ?_⟩
    by_cases hji : j = i
    · subst hji; exact hy.op hi hI H
    · have h1 := H.2.2 j (ready_mono hj hji)
      obtain ⟨hjun, oj, hoj, hall⟩ := mem_ready.1 hj
      have hnot : ∀ e ∈ oj.after, Region.binds md e = true → e.on ≠ i := fun e he hb heq => by
        have h1 := hall e he hb
        have h0 := (mem_ready.1 hr).1
        rw [heq] at h1
        rcases Nat.lt_or_ge i listed.size with h' | h'
        · simp [h'] at h0 h1; rw [h0] at h1; cases h1
        · simp [Array.getElem?_eq_none h'] at h1
      have h2 := op_put hoj (hfree j oj hoj hji hjun hnot) (fun cs b => hsel i oi cs b hi) (fun cs b => hsel j oj cs b hoj) hQ h1
      have hfree' : ∀ k ok, ops[k]? = some ok → k ≠ i → (listed.setIfInBounds j true).getD k true = false →
          (∀ e ∈ ok.after, Region.binds md e = true → e.on ≠ i) → oi.apart ops ok = true := fun k ok hk hki hun hno => by
        refine hfree k ok hk hki ?_ hno
        by_cases hjk : j = k
        · subst hjk; exact hjun
        · rw [getD_set_ne true hjk] at hun; exact hun
      refine wpOp_mono (fun a' w' h3 => ih (listed.setIfInBounds j true) a' w' (by simpa using hz) (hc.set hoj hall) hfree' (ready_mono hr (Ne.symm hji)) (hy.same h3.1) ?_) h2
      rw [Array.setIfInBounds_comm _ _ hji]
      exact h3.2

/-- What is to be shown: the plan's operations, then f. -/
def wpPlanE (P : Program) (ops : Array Oper) (I : World → Prop) (Q : Exit → Act → World → Prop) (f : Nat) : List (Nat × Bool) → Act → World → Prop
  | [], a, w => wpOp P ops Q f (fun a' w' => Q .normal a' w') a w
  | (i, false) :: rest, a, w => ∃ o v, ops[i]? = some o ∧ YI P ops I o v a ∧ wpPlanE P ops I Q f rest (a.put o.dst v) w
  | (i, true) :: rest, a, w => wpOp P ops Q i (fun a' w' => I w' ∧ wpPlanE P ops I Q f rest a' w') a w
def planEB (md : Region.Mode) (ops : Array Oper) (f : Nat) : Array Bool → List (Nat × Bool) → Bool
  | listed, [] => Region.ready md ops listed == [f] && (Region.ready md ops (listed.setIfInBounds f true)).isEmpty
  | listed, (i, false) :: rest => i != f && Region.free md ops listed i && (Region.ready md ops listed).contains i && planEB md ops f (listed.setIfInBounds i true) rest
  | listed, (i, true) :: rest => i != f && (Region.ready md ops listed == [i]) && planEB md ops f (listed.setIfInBounds i true) rest
theorem wpE_of_plan (hlast : Lasts md ops f) (hfs : f < ops.size) (hsel : Region.noSelect ops = true) (hQ : ∀ (c : List PanicEntry) (d : Option Tmp) (v : Value) (a : Act) (w : World), Q (.panic c) (a.put d v) w → Q (.panic c) a w) :
    ∀ (plan : List (Nat × Bool)) (listed : Array Bool) (a : Act) (w : World), listed.size = ops.size → Clo md ops listed → planEB md ops f listed plan = true → I w → wpPlanE P ops I Q f plan a w → wpE P md ops I Q f (plan.length + 1) listed a w
  | [], listed, a, w, hz, hc, hp, hI, h => by
    simp only [planEB, Bool.and_eq_true, beq_iff_eq, List.isEmpty_iff] at hp
    refine And.intro (fun _ => hI) (And.intro (fun h0 => by rw [hp.1] at h0; cases h0) (fun j hj => ?_))
    rw [hp.1] at hj
    obtain rfl : j = f := by simpa using hj
    refine wpOp_mono (fun a' w' h' => And.intro (fun h0 => ?_) (And.intro hp.2 h')) h
    exfalso
    have : j < listed.size := by omega
    simp [this] at h0
  | (i, false) :: rest, listed, a, w, hz, hc, hp, hI, h => by
    simp only [planEB, Bool.and_eq_true, bne_iff_ne] at hp
    obtain ⟨o, v, hi, hy, hk⟩ := h
    have hr : i ∈ Region.ready md ops listed := by simpa using hp.1.2
    obtain ⟨_, o', ho', hall⟩ := mem_ready.1 hr
    exact wpE_take hi hp.1.1.1 hfs hlast (Region.noSelect_spec hsel) (fun c a w => hQ c _ _ a w) (rest.length + 1) listed a w hz hc (Region.free_spec hi hp.1.1.2) hr hy (wpE_of_plan hlast hfs hsel hQ rest _ _ _ (by simpa using hz) (hc.set ho' hall) hp.2 hI hk)
  | (i, true) :: rest, listed, a, w, hz, hc, hp, hI, h => by
    simp only [planEB, Bool.and_eq_true, bne_iff_ne, beq_iff_eq] at hp
    show wpE P md ops I Q f ((rest.length + 1) + 1) listed a w
    have hr : i ∈ Region.ready md ops listed := by rw [hp.1.2]; simp
    obtain ⟨_, o', ho', hall⟩ := mem_ready.1 hr
    refine And.intro (fun _ => hI) (And.intro (fun h0 => by rw [hp.1.2] at h0; cases h0) (fun j hj => ?_))
    rw [hp.1.2] at hj
    obtain rfl : j = i := by simpa using hj
    exact wpOp_mono (fun a' w' h' => wpE_of_plan hlast hfs hsel hQ rest _ _ _ (by simpa using hz) (hc.set ho' hall) hp.2 h'.1 h'.2) h
theorem clo_none (n : Nat) : Clo md ops (Array.replicate n false) := by
  intro k o _ hl
  exfalso
  by_cases h : k < n
  · simp [h] at hl
  · simp [h] at hl
/-- D: what f waits for; rest: the others, each ahead of one that stands before it. -/
theorem wp_plan_end {id : Nat} {a : Act} {w : World} {l : List Oper} (plan : List (Nat × Bool)) (f : Nat) (D rest : List Nat) (S : Nat → Prop) (hm : P.follows .mixedOrders = true)
    (hB : (Region.noSelect l.toArray && planEB .any l.toArray f (Array.replicate l.toArray.size false) plan && plan.length + 1 == l.toArray.size && lastB .any l.toArray f D rest && decide (f < l.toArray.size)) = true)
    (hQ : ∀ (c : List PanicEntry) (d : Option Tmp) (v : Value) (a : Act) (w : World), Q (.panic c) (a.put d v) w → Q (.panic c) a w)
    (h : ∀ w', Mod Non w w' → wpPlanE P l.toArray (fun W => Mod S w' W) Q f plan a w') : (Code.region id l.toArray true).wp P Q a w := by
  simp only [Bool.and_eq_true, beq_iff_eq, decide_eq_true_eq] at hB
  obtain ⟨⟨⟨⟨h1, h2⟩, h3⟩, h4⟩, h5⟩ := hB
  refine wp_region_any hm ?_
  have e := wpE.any _ _ _ _ (wpE_of_plan (lasts_of h4) h5 h1 hQ plan _ _ _ (by simp) (clo_none _) h2 (Mod.refl S _) (h { w with drawn := w.drawn + 1 } ⟨rfl, rfl, rfl, Nat.le_refl _, fun _ _ _ => rfl⟩))
  rw [h3] at e
  exact e
variable {a : Act} {w : World} {rest : List (Nat × Bool)}
/-- The last one. -/
theorem wpe_end {o : Oper} (hi : ops[f]? = some o) (hg : o.guard = none) (h : o.wp P a w (fun a' w' => Q .normal a' w') Q) : wpPlanE P ops I Q f [] a w := by
  show wpOp P ops Q f _ a w
  unfold wpOp
  simp only [hi]
  rw [if_pos (by simp [Region.wanted, hg])]
  exact .inl h
theorem wpe_read {i : Nat} {o : Oper} (v : Value) (hi : ops[i]? = some o) (hg : o.guard = none) (hr : ∀ W, I W → (execOp a.eval o).run P W = .ok (.value v) W) (h : wpPlanE P ops I Q f rest (a.put o.dst v) w) : wpPlanE P ops I Q f ((i, false) :: rest) a w :=
  ⟨o, v, hi, .inl ⟨by simp [Region.wanted, hg], hr⟩, h⟩
theorem wpe_act {i : Nat} {o : Oper} (hi : ops[i]? = some o) (hg : o.guard = none) (h : o.wp P a w (fun a' w' => I w' ∧ wpPlanE P ops I Q f rest a' w') Q) : wpPlanE P ops I Q f ((i, true) :: rest) a w := by
  show wpOp P ops Q i _ a w
  unfold wpOp
  simp only [hi]
  rw [if_pos (by simp [Region.wanted, hg])]
  exact .inl h
end
end Go.Proofs.YtgillcppnpkkiaaGreatDoor
