/- PagesPlay, in plain Lean: what holds of the pager, its disk and the reference between two acts. -/
import Derived.Test.YtgillcppnpkkiaaGreatDoorPlayCore
import Derived.Test.YtgillcppnpkkiaaGreatDoorRefPut
import Derived.Test.YtgillcppnpkkiaaGreatDoorOpenS
namespace Go.Proofs.YtgillcppnpkkiaaGreatDoor
open Go Go.RowKit
structure Inv (i : Nat) (G : Pg) (D : Dk) (R : Rf) : Prop where
  file : ∃ f b, OneFile D f b ∧ parse b = .part G.was G.kept true ∧ G.size = b.length
  rootN : G.root < 4294967296
  rootK : G.was < 4294967296
  clean : ∀ n, G.dirty n = false → G.now n = G.kept n
  dirty : ∀ n, G.dirty n = true → 1 ≤ n ∧ n ≤ 4000
  sameN : Same G.now R.now
  sameK : Same G.kept R.kept
  root : R.root = G.root
  was : R.was = G.was
  lenN : R.now.length ≤ i
  lenK : R.kept.length ≤ i
section
variable {i j : Nat} {G : Pg} {D : Dk} {R : Rf}
theorem Inv.mono (h : Inv i G D R) (hij : i ≤ j) : Inv j G D R := { h with lenN := Nat.le_trans h.lenN hij, lenK := Nat.le_trans h.lenK hij }
theorem Inv.few (h : Inv i G D R) : Few G.now := fun k hk => by
  obtain ⟨x, hx, e⟩ := (h.sameN.isSome k).1 hk
  have := h.sameN.range x hx
  omega
theorem Inv.fewK (h : Inv i G D R) : Few G.kept := fun k hk => by
  obtain ⟨x, hx, e⟩ := (h.sameK.isSome k).1 hk
  have := h.sameK.range x hx
  omega
theorem Inv.new (h : Inv i G D R) {L : Nat} (hL : L ≤ R.now.length) (h4 : L < 4000) (hlow : ∀ j x, j < L → R.now[j]? = some x → x.n = j + 1) (hnone : G.now (L + 1) = none) (A : Option Addr) (c : Nat) (ad : Addr) :
    Inv (i + 1) (G.newed (L + 1)) D (R.cut A c (R.now.take L ++ ⟨L + 1, ad, zero256⟩ :: R.now.drop L)) where
  file := h.file
  rootN := h.rootN
  rootK := h.rootK
  clean := fun n hn => by
    have hne : n ≠ L + 1 := fun e => by subst e; rw [show (G.newed (L + 1)).dirty (L + 1) = true from upd_same _ _ _] at hn; cases hn
    show upd G.now (L + 1) _ n = G.kept n
    rw [upd_other _ _ hne]
    exact h.clean n (by have : upd G.dirty (L + 1) true n = false := hn; rwa [upd_other _ _ hne] at this)
  dirty := fun n hn => by
    by_cases hne : n = L + 1
    · omega
    · exact h.dirty n (by have : upd G.dirty (L + 1) true n = true := hn; rwa [upd_other _ _ hne] at this)
  sameN := h.sameN.ins hL h4 hlow hnone ad zero256
  sameK := h.sameK
  root := h.root
  was := h.was
  lenN := by
    show (R.now.take L ++ (⟨L + 1, ad, zero256⟩ : RP) :: R.now.drop L).length ≤ i + 1
    rw [List.length_append, List.length_take, List.length_cons, List.length_drop]
    have := h.lenN
    omega
  lenK := Nat.le_succ_of_le h.lenK
theorem Inv.put (h : Inv i G D R) {q n : Nat} {x : RP} (hx : R.now[q]? = some x) (hn : x.n = n) (A : Option Addr) (c : Nat) (ad : Addr) (l : List UInt8) :
    Inv i (G.puts n l) D (R.cut A c (R.now.set q ⟨n, ad, padded l⟩)) where
  file := h.file
  rootN := h.rootN
  rootK := h.rootK
  clean := fun k hk => by
    have hne : k ≠ n := fun e => by subst e; rw [show (G.puts k l).dirty k = true from upd_same _ _ _] at hk; cases hk
    show upd G.now n _ k = G.kept k
    rw [upd_other _ _ hne]
    exact h.clean k (by have : upd G.dirty n true k = false := hk; rwa [upd_other _ _ hne] at this)
  dirty := fun k hk => by
    by_cases hne : k = n
    · have := h.sameN.range x (List.mem_of_getElem? hx); omega
    · exact h.dirty k (by have : upd G.dirty n true k = true := hk; rwa [upd_other _ _ hne] at this)
  sameN := h.sameN.put hx hn ad (padded l)
  sameK := h.sameK
  root := h.root
  was := h.was
  lenN := by show (R.now.set q _).length ≤ i; rw [List.length_set]; exact h.lenN
  lenK := h.lenK
theorem Inv.free (h : Inv i G D R) {q n : Nat} {x : RP} (hx : R.now[q]? = some x) (hn : x.n = n) (A : Option Addr) (c : Nat) :
    Inv i (G.freed n) D (R.cut A c (R.now.take q ++ R.now.drop (q + 1))) where
  file := h.file
  rootN := h.rootN
  rootK := h.rootK
  clean := fun k hk => by
    have hne : k ≠ n := fun e => by subst e; rw [show (G.freed k).dirty k = true from upd_same _ _ _] at hk; cases hk
    show upd G.now n _ k = G.kept k
    rw [upd_other _ _ hne]
    exact h.clean k (by have : upd G.dirty n true k = false := hk; rwa [upd_other _ _ hne] at this)
  dirty := fun k hk => by
    by_cases hne : k = n
    · have := h.sameN.range x (List.mem_of_getElem? hx); omega
    · exact h.dirty k (by have : upd G.dirty n true k = true := hk; rwa [upd_other _ _ hne] at this)
  sameN := h.sameN.free hx hn
  sameK := h.sameK
  root := h.root
  was := h.was
  lenN := by
    show (R.now.take q ++ R.now.drop (q + 1)).length ≤ i
    rw [List.length_append, List.length_take, List.length_drop]
    have := h.lenN
    have := (List.getElem?_eq_some_iff.1 hx).1
    omega
  lenK := h.lenK
theorem Inv.setRoot (h : Inv i G D R) {n : Nat} (hn : n < 4294967296) : Inv i { G with root := n } D { R with root := n } :=
  { h with rootN := hn, root := rfl }
theorem Inv.undo (h : Inv i G D R) : Inv i G.undone D R.undo where
  file := h.file
  rootN := h.rootK
  rootK := h.rootK
  clean := fun n _ => by
    show (if G.dirty n then G.kept n else G.now n) = G.kept n
    cases e : G.dirty n
    · simp [h.clean n e]
    · simp
  dirty := fun n hn => by cases hn
  sameN := by
    have e : G.undone.now = G.kept := funext fun n => by
      show (if G.dirty n then G.kept n else G.now n) = G.kept n
      cases e : G.dirty n
      · simp [h.clean n e]
      · simp
    rw [e]
    exact h.sameK
  sameK := h.sameK
  root := h.was
  was := h.was
  lenN := h.lenK
  lenK := h.lenK
theorem Inv.commit0 (h : Inv i G D R) (hd : ∀ n, G.dirty n = false) (hroot : G.root = G.was) : Inv i G D R.commit :=
  { h with
    sameK := by
      have e : G.now = G.kept := funext fun n => h.clean n (hd n)
      rw [← e]
      exact h.sameN
    was := by show R.root = G.was; rw [h.root, hroot]
    lenK := h.lenN }
theorem Inv.keepsK (h : Inv i G D R) : G.keeps.kept = G.now := funext fun n => by
  show (if G.dirty n then G.now n else G.kept n) = G.now n
  cases e : G.dirty n
  · simp [h.clean n e]
  · simp
theorem Inv.commit (h : Inv i G D R) (hlen : ∀ n x, G.now n = some x → x.length = 256) {D' : Dk} {f' sz : Nat} {b b' : List UInt8} {l : List Nat} (hp : parse b = .part G.was G.kept true) (hl : l.Perm (used G.dirty 4000)) (hof : OneFile D' f' b') (hsz : sz = b'.length) (hb : b' = b ++ G.record l ∨ b' = G.record (used G.has 4000)) :
    Inv i { G.keeps with size := sz } D' R.commit where
  file := by
    refine ⟨f', b', hof, ?_, hsz⟩
    show parse b' = .part G.root G.keeps.kept true
    rw [h.keepsK]
    rcases hb with rfl | rfl
    · rw [parse_append h.rootN hlen l (fun n hn => by have := mem_used.1 (hl.mem_iff.1 hn); omega) (by rw [hl.length_eq]; have := used_length G.dirty 4000; omega) hp]
      congr 1
      funext n
      rw [turn_at]
      by_cases hn : n ∈ l
      · rw [if_pos hn]
      · rw [if_neg hn]
        refine (h.clean n ?_).symm
        cases e : G.dirty n
        · rfl
        · exact absurd (hl.mem_iff.2 (mem_used.2 ⟨(h.dirty n e).1, (h.dirty n e).2, e⟩)) hn
    · exact parse_record h.rootN h.few hlen
  rootN := h.rootN
  rootK := h.rootN
  clean := fun n _ => by
    show G.now n = G.keeps.kept n
    rw [h.keepsK]
  dirty := fun n hn => by cases hn
  sameN := h.sameN
  sameK := by
    show Same G.keeps.kept R.now
    rw [h.keepsK]
    exact h.sameN
  root := h.root
  was := h.root
  lenN := h.lenN
  lenK := h.lenN
/-- The disk failed, and was opened again. -/
theorem Inv.again (h : Inv i G D R) {G' : Pg} {D' : Dk} {f' : Nat} {b : List UInt8} (hp : parse b = .part G.was G.kept true) (hof : OneFile D' f' b) (hr : G'.root = G.was) (hw : G'.was = G.was) (hn : G'.now = G.kept) (hk : G'.kept = G.kept) (hd : ∀ n, G'.dirty n = false) (hs : G'.size = b.length) : Inv i G' D' R.undo where
  file := ⟨f', b, hof, by rw [hw, hk]; exact hp, hs⟩
  rootN := by rw [hr]; exact h.rootK
  rootK := by rw [hw]; exact h.rootK
  clean := fun n _ => by rw [hn, hk]
  dirty := fun n hn => by rw [hd n] at hn; cases hn
  sameN := by rw [hn]; exact h.sameK
  sameK := by rw [hk]; exact h.sameK
  root := by rw [hr]; exact h.was
  was := by rw [hw]; exact h.was
  lenN := h.lenK
  lenK := h.lenK
theorem Inv.start {f' : Nat} {G : Pg} {D : Dk} (hof : OneFile D f' b00) (hr : G.root = 0) (hw : G.was = 0) (hn : G.now = fun _ => none) (hk : G.kept = fun _ => none) (hd : ∀ n, G.dirty n = false) (hs : G.size = b00.length) : Inv 0 G D .new where
  file := ⟨f', b00, hof, by rw [hw, hk]; exact parse_b00, hs⟩
  rootN := by rw [hr]; decide
  rootK := by rw [hw]; decide
  clean := fun n _ => by rw [hn, hk]
  dirty := fun n hn => by rw [hd n] at hn; cases hn
  sameN := by rw [hn]; exact .new
  sameK := by rw [hk]; exact .new
  root := hr.symm
  was := hw.symm
  lenN := Nat.le_refl _
  lenK := Nat.le_refl _
theorem Inv.record (h : Inv i G D R) (hi : i ≤ 300) (hlen : ∀ n x, G.now n = some x → x.length = 256) : (G.record (used G.has 4000)).length ≤ 1048576 := by
  have h1 := record_le hlen (used G.has 4000)
  rw [h.sameN.used] at h1 ⊢
  have h2 := h.lenN
  unfold Rf.nums at h1 ⊢
  rw [List.length_map] at h1
  omega
end
end Go.Proofs.YtgillcppnpkkiaaGreatDoor
