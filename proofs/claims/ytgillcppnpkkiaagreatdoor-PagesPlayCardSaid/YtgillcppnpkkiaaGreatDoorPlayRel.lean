/- PagesPlay, in plain Lean: the pages that are, and the reference's list of them. -/
import Derived.Test.YtgillcppnpkkiaaGreatDoorOpenW
import Derived.Test.YtgillcppnpkkiaaGreatDoorLooks
namespace Go.Proofs.YtgillcppnpkkiaaGreatDoor
open Go Go.RowKit
/-- The list tells the pages. -/
structure Same (now : Nat → Option (List UInt8)) (l : List RP) : Prop where
  sorted : l.Pairwise (fun a b => a.n < b.n)
  range : ∀ x ∈ l, 1 ≤ x.n ∧ x.n ≤ 4000
  val : ∀ n b, now n = some b ↔ ∃ x ∈ l, x.n = n ∧ x.b = b
section
variable {now : Nat → Option (List UInt8)} {l : List RP}
theorem Same.none (h : Same now l) {n : Nat} (hn : ∀ x ∈ l, x.n ≠ n) : now n = none := by
  cases e : now n with
  | none => rfl
  | some b =>
    obtain ⟨x, hx, e2, _⟩ := (h.val n b).1 e
    exact absurd e2 (hn x hx)
theorem Same.isSome (h : Same now l) (n : Nat) : (now n).isSome = true ↔ ∃ x ∈ l, x.n = n := by
  constructor
  · intro hs
    obtain ⟨b, hb⟩ := Option.isSome_iff_exists.1 hs
    obtain ⟨x, hx, e, _⟩ := (h.val n b).1 hb
    exact ⟨x, hx, e⟩
  · rintro ⟨x, hx, e⟩
    rw [(h.val n x.b).2 ⟨x, hx, e, rfl⟩]
    rfl
theorem Same.lt (h : Same now l) {i j : Nat} {x y : RP} (hx : l[i]? = some x) (hy : l[j]? = some y) (hij : i < j) : x.n < y.n := by
  obtain ⟨hi, rfl⟩ := List.getElem?_eq_some_iff.1 hx
  obtain ⟨hj, rfl⟩ := List.getElem?_eq_some_iff.1 hy
  exact List.pairwise_iff_getElem.1 h.sorted i j hi hj hij
theorem Same.inj (h : Same now l) {i j : Nat} {x y : RP} (hx : l[i]? = some x) (hy : l[j]? = some y) (e : x.n = y.n) : i = j := by
  rcases Nat.lt_trichotomy i j with h1 | h1 | h1
  · have := h.lt hx hy h1; omega
  · exact h1
  · have := h.lt hy hx h1; omega
theorem Same.ge (h : Same now l) : ∀ (j : Nat) (x : RP), l[j]? = some x → j + 1 ≤ x.n
  | 0, x, hx => (h.range x (List.mem_of_getElem? hx)).1
  | j + 1, x, hx => by
    have hj : j < l.length := by have := (List.getElem?_eq_some_iff.1 hx).1; omega
    have ih := h.ge j l[j] (List.getElem?_eq_getElem hj)
    have := h.lt (List.getElem?_eq_getElem hj) hx (Nat.lt_succ_self j)
    omega
theorem Same.new : Same (fun _ => Option.none) [] := ⟨.nil, fun x hx => (by cases hx), fun n b => ⟨fun h => (by cases h), fun ⟨x, hx, _⟩ => (by cases hx)⟩⟩
theorem at_some {R : Rf} {n i : Nat} (h : R.at_ n = some i) : ∃ x, R.now[i]? = some x ∧ x.n = n := by
  have hlt := at_lt h
  unfold Rf.at_ at h
  rw [List.findIdx?_eq_some_iff_getElem] at h
  obtain ⟨_, h1, _⟩ := h
  exact ⟨_, List.getElem?_eq_getElem hlt, by simpa using h1⟩
theorem at_none {R : Rf} {n : Nat} (h : R.at_ n = none) : ∀ x ∈ R.now, x.n ≠ n := by
  unfold Rf.at_ at h
  rw [List.findIdx?_eq_none_iff] at h
  intro x hx
  simpa using h x hx
theorem at_mem {R : Rf} {x : RP} {i : Nat} (hs : Same now R.now) (hx : R.now[i]? = some x) : R.at_ x.n = some i := by
  cases e : R.at_ x.n with
  | none => exact absurd rfl (at_none e x (List.mem_of_getElem? hx))
  | some j =>
    obtain ⟨y, hy, e2⟩ := at_some e
    rw [hs.inj hy hx e2]
/-- A page is put. -/
theorem Same.put (h : Same now l) {i n : Nat} {x : RP} (hx : l[i]? = some x) (hn : x.n = n) (a : Addr) (b : List UInt8) : Same (upd now n (some b)) (l.set i ⟨n, a, b⟩) := by
  have hil := (List.getElem?_eq_some_iff.1 hx).1
  have key : ∀ j y, (l.set i ⟨n, a, b⟩)[j]? = some y → ∃ z, l[j]? = some z ∧ z.n = y.n ∧ (j ≠ i → z = y) ∧ (j = i → y.b = b) := by
    intro j y hy
    by_cases e : j = i
    · subst e
      rw [List.getElem?_set_self hil] at hy
      cases hy
      exact ⟨x, hx, hn, fun h => absurd rfl h, fun _ => rfl⟩
    · rw [List.getElem?_set_ne (Ne.symm e)] at hy
      exact ⟨y, hy, rfl, fun _ => rfl, fun h => absurd h e⟩
  refine ⟨?_, fun y hy => ?_, fun m c => ?_⟩
  · rw [List.pairwise_iff_getElem]
    intro s t hs ht hst
    obtain ⟨z1, h1, e1, _⟩ := key s _ (List.getElem?_eq_getElem hs)
    obtain ⟨z2, h2, e2, _⟩ := key t _ (List.getElem?_eq_getElem ht)
    have := h.lt h1 h2 hst
    omega
  · obtain ⟨j, hj⟩ := List.mem_iff_getElem?.1 hy
    obtain ⟨z, h1, e1, _⟩ := key j y hj
    rw [← e1]
    exact h.range z (List.mem_of_getElem? h1)
  · by_cases e : m = n
    · subst e
      rw [upd_same]
      constructor
      · intro h1
        cases h1
        exact ⟨⟨m, a, b⟩, List.mem_of_getElem? (i := i) (by rw [List.getElem?_set_self hil]), rfl, rfl⟩
      · rintro ⟨y, hy, e1, rfl⟩
        obtain ⟨j, hj⟩ := List.mem_iff_getElem?.1 hy
        obtain ⟨z, h1, e2, _, h4⟩ := key j y hj
        rw [h4 (h.inj h1 hx (by omega))]
    · rw [upd_other _ _ e, h.val]
      constructor
      · rintro ⟨y, hy, e1, e2⟩
        obtain ⟨j, hj⟩ := List.mem_iff_getElem?.1 hy
        have hji : j ≠ i := fun e3 => by subst e3; rw [hx] at hj; cases hj; omega
        exact ⟨y, List.mem_of_getElem? (i := j) (by rw [List.getElem?_set_ne (Ne.symm hji)]; exact hj), e1, e2⟩
      · rintro ⟨y, hy, e1, e2⟩
        obtain ⟨j, hj⟩ := List.mem_iff_getElem?.1 hy
        obtain ⟨z, h1, e3, h3, _⟩ := key j y hj
        have hji : j ≠ i := fun e4 => by subst e4; rw [hx] at h1; cases h1; omega
        rw [h3 hji] at h1
        exact ⟨y, List.mem_of_getElem? h1, e1, e2⟩
/-- A page is freed. -/
theorem Same.free (h : Same now l) {i n : Nat} {x : RP} (hx : l[i]? = some x) (hn : x.n = n) : Same (upd now n Option.none) (l.take i ++ l.drop (i + 1)) := by
  have hil := (List.getElem?_eq_some_iff.1 hx).1
  have hsub : (l.take i ++ l.drop (i + 1)).Sublist l := by
    rw [← List.eraseIdx_eq_take_drop_succ]
    exact List.eraseIdx_sublist _ _
  have hmem : ∀ y, y ∈ l.take i ++ l.drop (i + 1) ↔ y ∈ l ∧ y.n ≠ n := by
    intro y
    constructor
    · intro hy
      refine ⟨hsub.subset hy, fun e => ?_⟩
      rcases List.mem_append.1 hy with h1 | h1
      · obtain ⟨j, hj⟩ := List.mem_iff_getElem?.1 h1
        have hji : j < i := by have := (List.getElem?_eq_some_iff.1 hj).1; rw [List.length_take] at this; omega
        rw [List.getElem?_take_of_lt hji] at hj
        have := h.inj hj hx (by omega)
        omega
      · obtain ⟨j, hj⟩ := List.mem_iff_getElem?.1 h1
        rw [List.getElem?_drop] at hj
        have := h.inj hj hx (by omega)
        omega
    · rintro ⟨hy, hne⟩
      obtain ⟨j, hj⟩ := List.mem_iff_getElem?.1 hy
      rcases Nat.lt_trichotomy j i with h1 | h1 | h1
      · exact List.mem_append.2 (.inl (List.mem_of_getElem? (i := j) (by rw [List.getElem?_take_of_lt h1]; exact hj)))
      · subst h1
        rw [hx] at hj
        cases hj
        exact absurd hn hne
      · refine List.mem_append.2 (.inr (List.mem_of_getElem? (i := j - (i + 1)) ?_))
        rw [List.getElem?_drop, show i + 1 + (j - (i + 1)) = j by omega]
        exact hj
  refine ⟨h.sorted.sublist hsub, fun y hy => h.range y (hsub.subset hy), fun m c => ?_⟩
  by_cases e : m = n
  · subst e
    rw [upd_same]
    constructor
    · intro h1; cases h1
    · rintro ⟨y, hy, e1, _⟩
      exact absurd e1 ((hmem y).1 hy).2
  · rw [upd_other _ _ e, h.val]
    constructor
    · rintro ⟨y, hy, e1, e2⟩
      exact ⟨y, (hmem y).2 ⟨hy, by omega⟩, e1, e2⟩
    · rintro ⟨y, hy, e1, e2⟩
      exact ⟨y, ((hmem y).1 hy).1, e1, e2⟩
/-- The least number that is not used. -/
theorem Same.least (h : Same now l) : ∃ L, L ≤ l.length ∧ (∀ j x, j < L → l[j]? = some x → x.n = j + 1) ∧ (∀ x, l[L]? = some x → x.n ≠ L + 1) ∧ (∀ m, 1 ≤ m → m < L + 1 → (now m).isSome = true) ∧ now (L + 1) = Option.none := by
  have hex : ∃ L, L ≤ l.length ∧ (∀ j x, j < L → l[j]? = some x → x.n = j + 1) ∧ (∀ x, l[L]? = some x → x.n ≠ L + 1) := by
    rcases least_or (fun m => decide ((l[m - 1]?).map RP.n = some m)) (l.length + 1) with h1 | ⟨k, hk, h1, h2⟩
    · have := h1 l.length (Nat.lt_succ_self _)
      simp at this
    · refine ⟨k, by omega, fun j x hj hx => ?_, fun x hx e => ?_⟩
      · have := h1 j hj
        simp [hx] at this
        exact this
      · simp [hx, e] at h2
  obtain ⟨L, h1, h2, h3⟩ := hex
  refine ⟨L, h1, h2, h3, fun m hm1 hm2 => ?_, h.none fun x hx e => ?_⟩
  · have hml : m - 1 < l.length := by omega
    rw [h.isSome]
    refine ⟨_, List.getElem_mem hml, ?_⟩
    have := h2 (m - 1) _ (by omega) (List.getElem?_eq_getElem hml)
    omega
  · obtain ⟨j, hj⟩ := List.mem_iff_getElem?.1 hx
    rcases Nat.lt_trichotomy j L with h4 | h4 | h4
    · have := h2 j x h4 hj; omega
    · subst h4; exact h3 x hj e
    · have hL : L < l.length := by have := (List.getElem?_eq_some_iff.1 hj).1; omega
      have h5 := h.ge L _ (List.getElem?_eq_getElem hL)
      have h6 := h.lt (List.getElem?_eq_getElem hL) hj h4
      omega
theorem Same.ins (h : Same now l) {L : Nat} (hL : L ≤ l.length) (h4000 : L < 4000) (hlow : ∀ j x, j < L → l[j]? = some x → x.n = j + 1) (hnone : now (L + 1) = Option.none) (a : Addr) (b : List UInt8) : Same (upd now (L + 1) (some b)) (l.take L ++ ⟨L + 1, a, b⟩ :: l.drop L) := by
  have hno : ∀ x ∈ l, x.n ≠ L + 1 := fun x hx e => by
    have := (h.isSome (L + 1)).2 ⟨x, hx, e⟩
    rw [hnone] at this
    cases this
  have hmem : ∀ y, y ∈ l.take L ++ (⟨L + 1, a, b⟩ : RP) :: l.drop L ↔ y = ⟨L + 1, a, b⟩ ∨ y ∈ l := by
    intro y
    rw [List.mem_append, List.mem_cons]
    constructor
    · rintro (h1 | rfl | h1)
      · exact .inr (List.mem_of_mem_take h1)
      · exact .inl rfl
      · exact .inr (List.mem_of_mem_drop h1)
    · rintro (rfl | h1)
      · exact .inr (.inl rfl)
      · rw [← List.take_append_drop L l] at h1
        rcases List.mem_append.1 h1 with h2 | h2
        · exact .inl h2
        · exact .inr (.inr h2)
  refine ⟨?_, fun y hy => ?_, fun m c => ?_⟩
  · refine pairwise_put h.sorted (fun x hx hxl => ?_) (fun x hx hxl => ?_)
    · obtain ⟨j, hj⟩ := List.mem_iff_getElem?.1 hx
      have hjL : j < L := by have := (List.getElem?_eq_some_iff.1 hj).1; rw [List.length_take] at this; omega
      rw [List.getElem?_take_of_lt hjL] at hj
      have := hlow j x hjL hj
      show x.n < L + 1
      omega
    · obtain ⟨j, hj⟩ := List.mem_iff_getElem?.1 hx
      rw [List.getElem?_drop] at hj
      have := h.ge _ x hj
      have := hno x hxl
      show L + 1 < x.n
      omega
  · rcases (hmem y).1 hy with rfl | h1
    · exact ⟨by show 1 ≤ L + 1; omega, by show L + 1 ≤ 4000; omega⟩
    · exact h.range y h1
  · by_cases e : m = L + 1
    · subst e
      rw [upd_same]
      constructor
      · intro h1
        cases h1
        exact ⟨_, (hmem _).2 (.inl rfl), rfl, rfl⟩
      · rintro ⟨y, hy, e1, e2⟩
        rcases (hmem y).1 hy with rfl | h1
        · rw [← e2]
        · exact absurd e1 (hno y h1)
    · rw [upd_other _ _ e, h.val]
      constructor
      · rintro ⟨y, hy, e1, e2⟩
        exact ⟨y, (hmem y).2 (.inr hy), e1, e2⟩
      · rintro ⟨y, hy, e1, e2⟩
        rcases (hmem y).1 hy with rfl | h1
        · exact absurd e1.symm e
        · exact ⟨y, h1, e1, e2⟩
/-- Two rising lists of the same numbers are one. -/
theorem rising_eq : ∀ (a b : List Nat), a.Pairwise (· < ·) → b.Pairwise (· < ·) → (∀ x, x ∈ a ↔ x ∈ b) → a = b
  | [], [], _, _, _ => rfl
  | [], y :: b, _, _, h => absurd ((h y).2 (by simp)) (by simp)
  | x :: a, [], _, _, h => absurd ((h x).1 (by simp)) (by simp)
  | x :: a, y :: b, ha, hb, h => by
    obtain ⟨ha1, ha2⟩ := List.pairwise_cons.1 ha
    obtain ⟨hb1, hb2⟩ := List.pairwise_cons.1 hb
    have e : x = y := by
      have h1 := (h x).1 (by simp)
      have h2 := (h y).2 (by simp)
      rcases List.mem_cons.1 h1 with h1 | h1
      · exact h1
      · rcases List.mem_cons.1 h2 with h2 | h2
        · exact h2.symm
        · have := hb1 x h1; have := ha1 y h2; omega
    subst e
    rw [rising_eq a b ha2 hb2 (fun z => ?_)]
    have hz := h z
    simp only [List.mem_cons] at hz
    constructor
    · intro hza
      rcases hz.1 (.inr hza) with e | h1
      · subst e; have := ha1 z hza; omega
      · exact h1
    · intro hzb
      rcases hz.2 (.inr hzb) with e | h1
      · subst e; have := hb1 z hzb; omega
      · exact h1
theorem Same.used {G : Pg} {R : Rf} (h : Same G.now R.now) : used G.has 4000 = R.nums := by
  refine rising_eq _ _ (used_sorted _ _) ?_ (fun x => ?_)
  · unfold Rf.nums
    rw [List.pairwise_map]
    exact h.sorted
  · rw [mem_used]
    unfold Rf.nums Pg.has
    rw [List.mem_map]
    constructor
    · rintro ⟨_, _, h1⟩
      obtain ⟨y, hy, e⟩ := (h.isSome x).1 h1
      exact ⟨y, hy, e⟩
    · rintro ⟨y, hy, rfl⟩
      have := h.range y hy
      exact ⟨this.1, this.2, (h.isSome y.n).2 ⟨y, hy, rfl⟩⟩
end
end Go.Proofs.YtgillcppnpkkiaaGreatDoor
