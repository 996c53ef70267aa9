/- Pager.all and Pager.Used: the pages that are used, rising. -/
import Derived.Test.YtmclbechnfedmaaPagPut
namespace Go.Proofs.Ytmclbechnfedmaa
open Go Go.RowKit

theorem owns_mod {w w' : World} {S : Nat → Prop} {base : Nat} {e : TypeId} {size : Nat} {v : Value} {n : Nat} {xs : List Value} (h : w.ownsRow base e size v n xs) (hm : Mod S w w') (hS : ∀ b, S b → b < base) : w'.ownsRow base e size v n xs := by
  refine ⟨h.1, ?_⟩
  rcases h.2 with hn | ⟨g, cap, cur, hv, hb, hg, r⟩
  · exact .inl hn
  · exact .inr ⟨g, cap, cur, hv, hb, (hm.block g (Array.getElem?_eq_some_iff.1 hg).1 (fun hs => by have := hS g hs; omega)).trans hg, r⟩
theorem Mod.owned {w w' w'' : World} {S : Nat → Prop} {base : Nat} {e : TypeId} {size : Nat} {v : Value} {n : Nat} {xs : List Value} (h : Mod S w w') (ho : w'.ownsRow base e size v n xs) (hg : w'.grownBy w'' v.ownBlock) (hb : w.heap.size ≤ base) : Mod S w w'' :=
  h.andThen (Mod.of_grown (S := fun k => v.ownBlock = some k) hg (fun _ h => h)) (fun b hb' hlt => by have := ho.lt b hb'; omega)

/-- Numbers of 32 bits, as cells. -/
def uv (l : List Nat) : List Value := l.map fun (n : Nat) => Value.int .u32 (n : Int)
theorem uv_one (l : List Nat) : ∀ u ∈ uv l, u.oneCell' = true := by
  intro u hu
  obtain ⟨b, _, rfl⟩ := List.mem_map.1 hu
  rfl
theorem uv_length (l : List Nat) : (uv l).length = l.length := by simp [uv]

/-- Those of 1 .. n that are such, rising. -/
def used (f : Nat → Bool) : Nat → List Nat
  | 0 => []
  | n + 1 => if f (n + 1) then used f n ++ [n + 1] else used f n
theorem used_length (f : Nat → Bool) (n : Nat) : (used f n).length ≤ n := by
  induction n with
  | zero => exact Nat.le_refl _
  | succ n ih =>
    unfold used
    split
    · simp; exact ih
    · omega
theorem mem_used {f : Nat → Bool} {n k : Nat} : k ∈ used f n ↔ 1 ≤ k ∧ k ≤ n ∧ f k = true := by
  induction n with
  | zero => simp [used]; omega
  | succ n ih =>
    unfold used
    split
    · rename_i h
      simp only [List.mem_append, ih, List.mem_singleton]
      constructor
      · rintro (⟨a, b, c⟩ | rfl)
        · exact ⟨a, by omega, c⟩
        · exact ⟨by omega, by omega, h⟩
      · rintro ⟨a, b, c⟩
        by_cases hk : k = n + 1
        · exact .inr hk
        · exact .inl ⟨a, by omega, c⟩
    · rename_i h
      rw [ih]
      constructor
      · rintro ⟨a, b, c⟩; exact ⟨a, by omega, c⟩
      · rintro ⟨a, b, c⟩
        refine ⟨a, ?_, c⟩
        by_cases hk : k = n + 1
        · subst hk; exact absurd c h
        · omega
theorem used_sorted (f : Nat → Bool) (n : Nat) : (used f n).Pairwise (· < ·) := by
  induction n with
  | zero => exact .nil
  | succ n ih =>
    unfold used
    split
    · rw [List.pairwise_append]
      refine ⟨ih, by simp, fun a ha b hb => ?_⟩
      have := (mem_used.1 ha).2.1
      simp at hb
      omega
    · exact ih

theorem und_u32s : Try.prog.underlying 34 = some (.slice 33) := by kernel_rfl
theorem info_u32 : (Try.prog.info? 33).map (fun i => (i.zero, i.size, i.bytes)) = some (some (.int .u32 0), 1, 4) := by kernel_rfl

section
variable {w : World} {p : Nat} {G : Pg}
def Pg.has (G : Pg) : Nat → Bool := fun n => (G.now n).isSome

set_option maxHeartbeats 800000 in
set_option maxRecDepth 100000 in
theorem all_ok (h : PagRep w p G) :
    Calls Try.prog 24 #[.pointer (some ⟨p, 0, none⟩)] w fun e w' => ∃ v, e = .returned v ∧ w'.ownsRow w.heap.size 33 1 v (used G.has 4000).length (uv (used G.has 4000)) ∧ Mod Non w w' := by
  obtain ⟨i0, hi, hz0, hz1, hz2⟩ := info_parts info_u32
  have H := Lib.hid h
  clear h
  go_enter Try.func24, Try.ntmps24
  go_wp2
  go_loopw [2, 6] (fun v i wr => ∃ j : Nat, j ≤ 4000 ∧ i = .int .u32 j ∧ wr.ownsRow w.heap.size 33 1 v (used G.has j).length (uv (used G.has j)) ∧ Mod Non w wr) (fun _ i _ => 4000 - (intOf i).toNat)
  case atStart => exact ⟨0, Nat.zero_le _, rfl, World.ownsRow_nil _ _ _ _, Mod.refl _ _⟩
  case round =>
    obtain ⟨j, hj, rfl, hown, hm⟩ := hrel
    have h1 := H.out.non hm
    have c := h1.blk.cell
    unfold Pg.cells at c
    have hnow := h1.now
    have hul := used_length G.has j
    by_cases hlt : j < 4000
    · cases hg : G.now (j + 1) with
      | none =>
        have Hf := Lib.hid (mapV_none hg)
        have Hu := Lib.hid (show used G.has (j + 1) = used G.has j from by rw [used]; rw [if_neg (by unfold Pg.has; rw [hg]; simp)])
        clear h1 hg
        go_wp2_with (first
          | (at_lookup; refine wpl_lookup_none rfl _ _ rfl und_mapPage und_u32 page_zero rfl hnow (j + 1) rfl Hf.out ?_)
          | (refine wpl_alloc_page rfl rfl ?_; intro w1 hb1 hm1 hs1)
          | (refine wpl_store_page rfl _ _ rfl rfl hb1 (by rw [List.size_toArray, bv_length, zero256_length]) rfl zero256_length ?_; intro w2 hb2 hm2 hs2))
        go_roundw
        case rel =>
          have hm12 := hm1.andThen hm2 (S := Non) (fun b hb hlt => by cases hb; omega)
          exact ⟨j + 1, by omega, by go_num, by rw [Hu.out]; exact owns_mod hown hm12 (fun _ x => x.elim), hm.trans hm12⟩
        case measure => simp [intOf]; omega
      | some l =>
        have Hf := Lib.hid (mapV_some hg)
        have Hll := Lib.hid (h1.len _ _ hg)
        have Hu := Lib.hid (show used G.has (j + 1) = used G.has j ++ [j + 1] from by rw [used]; rw [if_pos (by unfold Pg.has; rw [hg]; simp)])
        clear h1 hg
        have hml : (used G.has j).length + 1 ≤ maxLen := by unfold maxLen; omega
        have hone : ∀ (W : World), RowAt (W.alloc (.cells #[.int .u32 ((j : Int) + 1)] 33)) (some ⟨W.heap.size, 0, none⟩) 1 1 [.int .u32 ((j : Int) + 1)] := fun W =>
          ⟨rfl, fun _ => ⟨_, rfl, fun k u hu => by rw [add_lit, (Blk.new W _ _).cell]; simpa using hu⟩⟩
        have h1c : ∀ u ∈ [Value.int .u32 ((j : Int) + 1)], u.oneCell' = true := by simp [Value.oneCell']
        go_wp2_with (first
          | (at_lookup; refine wpl_lookup_some rfl _ _ rfl und_mapPage und_u32 page_zero rfl hnow (j + 1) rfl Hf.out ?_)
          | (refine wpl_alloc_page rfl rfl ?_; intro w1 hb1 hm1 hs1)
          | (refine wpl_store_page rfl _ _ rfl rfl hb1 (by rw [List.size_toArray, bv_length, zero256_length]) rfl Hll.out ?_; intro w2 hb2 hm2 hs2; have hm12 := hm1.andThen hm2 (S := Non) (fun b hb hlt => by cases hb; omega); have hown2 := owns_mod hown hm12 (fun _ x => x.elim); have hmw2 := hm.trans hm12; have hszw := hmw2.size)
          | (at_builtin; refine wpl_append rfl (.tmp 20) (.tmp 23) _ rfl w.heap.size 33 i0 (.int .u32 0) 1 4 und_u32s hi hz0 hz1 hz2 rfl (by omega) rfl (hown2.alloc _) rfl (hone w2) h1c hml (by omega) (by simp; omega) ?_; intro v' w3 hown3 hg3 hnil3))
        go_roundw
        case rel => exact ⟨j + 1, by omega, by go_num, by rw [Hu.out]; simpa [uv] using hown3, (hmw2.alloc _).owned (hown2.alloc _) hg3 (Nat.le_refl _)⟩
        case measure => simp [intOf]; omega
    · have : j = 4000 := by omega
      subst this
      clear hlt
      go_wp2
      go_ret
      exact ⟨_, rfl, hown, hm⟩

theorem owns_form {base : Nat} {e : TypeId} {size : Nat} {v : Value} {n : Nat} {xs : List Value} (h : w.ownsRow base e size v n xs) :
    ∃ A cap, v = .slice A n cap ∧ n ≤ cap ∧ RowAt w A n size xs ∧ ∀ ad, A = some ad → base ≤ ad.block := by
  by_cases hv : v = .slice none 0 0
  · subst hv
    rcases h.2 with ⟨_, hn⟩ | ⟨g, cap, cur, hv, _⟩
    · subst hn
      exact ⟨none, 0, rfl, Nat.le_refl _, ⟨h.1, fun hh => by omega⟩, fun ad h => by cases h⟩
    · cases hv
  · have hf := Fresh.of_owns h hv
    obtain ⟨g, cap, cur, rfl, hb, hk, hnc, r⟩ := hf
    exact ⟨_, cap, rfl, hnc, Fresh.row (base := base) (t := e) ⟨g, cap, cur, rfl, hb, hk, hnc, r⟩, fun ad h => by cases h; exact hb⟩

theorem clip_u32 (A : Option Addr) (n c : Nat) (w : World) (hc : n ≤ c) :
    Calls Try.prog 23 #[.slice A n c] w fun e w' => e = .returned (.slice A n n) ∧ w' = w := by
  go_enter Try.func23, Try.ntmps23
  go_wp2
  go_ret
  exact ⟨rfl, rfl⟩

theorem used_ok (h : PagRep w p G) :
    Calls Try.prog 10 #[.pointer (some ⟨p, 0, none⟩)] w fun e w' => ∃ A, e = .returned (.slice A (used G.has 4000).length (used G.has 4000).length) ∧ RowAt w' A (used G.has 4000).length 1 (uv (used G.has 4000)) ∧ (∀ ad, A = some ad → w.heap.size ≤ ad.block) ∧ Mod Non w w' := by
  have H := Lib.hid h
  clear h
  go_enter Try.func10, Try.ntmps10
  go_wp2_with (first
    | (go_at_call 22; refine (there_ok H.out).mono ?_; rintro e w' ⟨rfl, rfl⟩)
    | (go_at_call 24; refine (all_ok H.out).mono ?_; rintro e w1 ⟨v, rfl, ho, hm⟩; obtain ⟨A, cap, rfl, hnc, hr, hA⟩ := owns_form ho)
    | (go_at_call 23; refine (clip_u32 _ _ _ _ hnc).mono ?_; rintro e w2 ⟨rfl, rfl⟩))
  go_ret
  exact ⟨A, rfl, hr, hA, hm⟩
end
end Go.Proofs.Ytmclbechnfedmaa
