/- slices.Sort at uint32, at most 12: a permutation. The walk of the insertion sort is the kit's own (Derived/Sort/WalkA.lean) turned to this program and to uint32. -/
import Derived.Test.YtmclbechnfedmaaAnews
import Derived.Sort.Row
import Derived.Sort.LotA
import Derived.BigGuard
import Derived.BigCall
import Derived.CellFam
import Derived.Deep.Draws
import Derived.Deep.QuietTactic
import Derived.BigQuiet
namespace Go.Proofs.Ytmclbechnfedmaa
open Go Go.RowKit Go.Sort Go.Shelf
theorem bits_Len (x : Int) (w : World) (h0 : 0 ≤ x) (h1 : x ≤ 18446744073709551615) :
    Calls Try.prog 57 #[.int .u64 x] w fun e w' => e = .returned (.int .i64 (Lib.bitLen x.toNat)) ∧ w' = w := Any.bits_Len Try.lays125 x w h0 h1

section
variable {α : Type} [Inhabited α] (lt : α → α → Bool)
theorem insInner_go (a j : Nat) (d : Array α) (hj : a < j) (hl : lt d[j]! d[j - 1]! = true) : insInner lt a j d = insInner lt a (j - 1) (swp d j (j - 1)) := by
  obtain ⟨k, rfl⟩ : ∃ k, j = k + 1 := ⟨j - 1, by omega⟩
  rw [insInner]
  simp only [Nat.add_sub_cancel] at hl ⊢
  simp [hj, hl]
theorem insInner_stop (a j : Nat) (d : Array α) (h : j ≤ a ∨ lt d[j]! d[j - 1]! = false) : insInner lt a j d = d := by
  cases j with
  | zero => rw [insInner]
  | succ k =>
    rw [insInner]
    simp only [Nat.add_sub_cancel] at h
    rcases h with h | h
    · simp [show ¬ k + 1 > a by omega]
    · simp [h]
theorem insOuter_go (a b i : Nat) (d : Array α) (h : i < b) : insOuter lt a b i d = insOuter lt a b (i + 1) (insInner lt a i d) := by rw [insOuter, if_pos h]
theorem insOuter_stop (a b i : Nat) (d : Array α) (h : ¬ i < b) : insOuter lt a b i d = d := by rw [insOuter, if_neg h]
end
section
variable {α : Type} [Inhabited α] (ec : α → Value)
theorem putRow_drewN (w : World) (m q blk off : Nat) (d : Array α) : (putRow ec (Sort.ahead w m) blk off d).drewN q = putRow ec (Sort.ahead w (m + q)) blk off d := by
  show Sort.ahead (putRow ec (Sort.ahead w m) blk off d) q = _
  rw [putRow_ahead ec w m, ahead_ahead, ← putRow_ahead]
theorem swap_worldA (w : World) (m q blk off : Nat) (d : Array α) (j k : Nat) (hj : j < d.size) (hk : k < d.size) :
    (((putRow ec (Sort.ahead w m) blk off d).drewN q).setCell ⟨blk, off + j, none⟩ (ec d[k]!)).setCell ⟨blk, off + k, none⟩ (ec d[j]!) = putRow ec (Sort.ahead w (m + q)) blk off (swp d j k) := by
  rw [putRow_drewN]
  exact putRow_swp ec _ blk off d j k hj hk
end

theorem isNaN_u32 (x : Int) (w : World) : Calls Try.prog 83 #[.int .u32 x] w fun e w' => e = .returned (.bool false) ∧ w' = w := by
  go_enter Try.func83, Try.ntmps83
  go_wp2
  go_ret
  exact ⟨by simp, rfl⟩
theorem less_u32 (x y : Int) (w : World) : Calls Try.prog 69 #[.int .u32 x, .int .u32 y] w fun e w' => e = .returned (.bool (Sort.ltInt x y)) ∧ w' = w := by
  go_enter Try.func69, Try.ntmps69
  go_wp2_with (go_at_call 83; refine (isNaN_u32 _ _).mono ?_; rintro e w' ⟨rfl, rfl⟩)
  go_ret
  exact ⟨rfl, rfl⟩

set_option maxHeartbeats 1000000 in
set_option maxRecDepth 100000 in
theorem insertionSort_u32 (blk off cap a b : Nat) (d : Array Int) (w : World) (hH : Holds (Value.int .u32) w blk off d) (hab : a ≤ b) (hb : b ≤ d.size) (hsz : d.size < 4611686018427387904) :
    Calls Try.prog 63 #[.slice (some ⟨blk, off, none⟩) d.size cap, .int .i64 a, .int .i64 b] w fun e w' =>
      e = .returned (.tuple #[]) ∧ ∃ n, w' = putRow (Value.int .u32) (Sort.ahead w n) blk off (Sort.insertionSort ltInt d a b) := by
  go_enter Try.func63, Try.ntmps63
  go_wp2
  go_loopw [6] (fun vi wr => ∃ (i n : Nat) (dk : Array Int), vi = .int .i64 i ∧ a < i ∧ i ≤ b + 1 ∧ dk.size = d.size ∧ wr = putRow (Value.int .u32) (Sort.ahead w n) blk off dk ∧
      insOuter ltInt a b i dk = insOuter ltInt a b (a + 1) d) (fun vi _ => b + 1 - (intOf vi).toNat)
  case atStart => exact ⟨a + 1, 0, d, by go_num, by omega, by omega, rfl, (putRow_self _ _ _ _ _ hH).symm, rfl⟩
  case round =>
    obtain ⟨i, n, dk, rfl, hai, hib, hsk, hwr, hO⟩ := hrel
    have HO : Hid (insOuter ltInt a b i dk = insOuter ltInt a b (a + 1) d) := hO
    clear hO
    go_wp2
    · go_loopw [7] (fun vj wr2 => ∃ (j m : Nat) (dj : Array Int), vj = .int .i64 j ∧ a ≤ j ∧ j ≤ i ∧ dj.size = d.size ∧ wr2 = putRow (Value.int .u32) (Sort.ahead w m) blk off dj ∧
          insInner ltInt a j dj = insInner ltInt a i dk) (fun vj _ => (intOf vj).toNat)
      case atStart => exact ⟨i, n, dk, rfl, by omega, Nat.le_refl _, hsk, rfl, rfl⟩
      case round =>
        obtain ⟨j, m, dj, rfl, haj, hji, hsj, hw2, hI⟩ := hrel
        have hlt : i < b := by assumption
        obtain ⟨G, hG⟩ : ∃ G : Nat → Int, ∀ t, G t = dj[t]! := ⟨fun t => dj[t]!, fun _ => rfl⟩
        have hcw : ∀ t, t < d.size → wr.cell? ⟨blk, off + t, none⟩ = some (.int .u32 (G t)) := fun t ht => by
          rw [hw2, hG]; exact cell?_putRow _ _ _ _ d dj (holds_ahead _ _ _ _ _ _ hH) hsj t (by omega)
        have hfw : ∀ t, t < d.size → wr.frozen? ⟨blk, off + t, none⟩ = false := fun t ht => by
          rw [hw2, frozen?_putRow]; exact ((holds_ahead _ _ m _ _ _ hH) t ht).2
        have HW : Hid (wr = putRow (Value.int .u32) (Sort.ahead w m) blk off dj) := hw2
        have HG : Hid (∀ t, G t = dj[t]!) := hG
        have HI : Hid (insInner ltInt a j dj = insInner ltInt a i dk) := hI
        clear hw2 hG hI hH
        have out : (j ≤ a ∨ ltInt dj[j]! dj[j - 1]! = false) → ∀ q, ∃ i' n' dk', Value.int .i64 ((i : Int) + 1) = .int .i64 (i' : Nat) ∧ a < i' ∧ i' ≤ b + 1 ∧ dk'.size = d.size ∧
            wr.drewN q = putRow (Value.int .u32) (Sort.ahead w n') blk off dk' ∧ insOuter ltInt a b i' dk' = insOuter ltInt a b (a + 1) d := fun hs q =>
          ⟨i + 1, m + q, dj, by go_num, by omega, by omega, hsj, by rw [HW.out]; exact putRow_drewN _ _ _ _ _ _ _,
            by rw [← HO.out, insOuter_go _ _ _ _ _ hlt, ← HI.out, insInner_stop _ _ _ _ hs]⟩
        have OUT : Hid _ := out
        clear out
        go_wp2
        by_cases hja : a < j
        · go_quiet (first | (go_at_call 69; refine Calls.quiet_of_same (less_u32 _ _ _)))
          go_wp2
          · have hl : ltInt (G j) (G (j - 1)) = true := by assumption
            go_region
            all_goals go_wp2
            go_roundw
            case rel =>
              refine ⟨j - 1, m + (nq + 1), swp dj j (j - 1), by congr 1; omega, by omega, by omega, by rw [size_swp]; exact hsj, ?_, ?_⟩
              · rw [HW.out, HG.out, HG.out]
                exact swap_worldA _ w m (nq + 1) blk off dj j (j - 1) (by omega) (by omega)
              · rw [← HI.out, insInner_go ltInt a j dj hja (by rw [← HG.out, ← HG.out]; exact hl)]
            case measure => simp [intOf]; omega
          · have hl : ltInt (G j) (G (j - 1)) = false := by assumption
            go_roundw
            case rel => exact OUT.out (Or.inr (by rw [← HG.out, ← HG.out]; exact hl)) nq
            case measure => simp [intOf]; omega
        · go_quiet (first | (go_at_call 69; refine Calls.quiet_of_same (less_u32 _ _ _)))
          go_wp2
          go_roundw
          case rel => exact OUT.out (Or.inl (by omega)) nq
          case measure => simp [intOf]; omega
    · have hge : ¬ i < b := by assumption
      go_end0
      exact ⟨rfl, n, by unfold Sort.insertionSort; rw [← HO.out, insOuter_stop _ _ _ _ _ hge]⟩

set_option maxHeartbeats 1000000 in
set_option maxRecDepth 100000 in
/-- At most twelve: the insertion sort. -/
theorem sort_u32 (blk off cap : Nat) (d : Array Int) (w : World) (hH : Holds (Value.int .u32) w blk off d) (h12 : d.size ≤ 12) :
    Calls Try.prog 40 #[.slice (some ⟨blk, off, none⟩) d.size cap] w fun e w' =>
      e = .returned (.tuple #[]) ∧ ∃ n, w' = putRow (Value.int .u32) (Sort.ahead w n) blk off (Sort.insertionSort ltInt d 0 d.size) := by
  have HI := Lib.hid (insertionSort_u32 blk off cap 0 d.size d w hH (Nat.zero_le _) (Nat.le_refl _) (by omega))
  have HP : ∀ x, Hid (Calls Try.prog 56 #[.slice (some ⟨blk, off, none⟩) d.size cap, .int .i64 0, .int .i64 d.size, .int .i64 x] w fun e w' =>
      e = .returned (.tuple #[]) ∧ ∃ n, w' = putRow (Value.int .u32) (Sort.ahead w n) blk off (Sort.insertionSort ltInt d 0 d.size)) := by
    intro x
    refine Lib.hid ?_
    clear hH
    go_enter Try.func56, Try.ntmps56
    go_wp2
    go_loopw [1, 2] (fun x y wr => x = .int .i64 0 ∧ y = .int .i64 d.size ∧ wr = w) (fun _ _ _ => 0)
    case atStart => exact ⟨rfl, rfl, rfl⟩
    case round =>
      obtain ⟨rfl, rfl, rfl⟩ := hrel
      have h12' : (d.size : Int) ≤ 12 := by omega
      go_wp2_with (go_at_call 63; refine HI.out.mono ?_; rintro e w' ⟨rfl, hw'⟩)
      refine bodyPost_ret (results_none rfl _ _ _) rfl ?_
      exact ⟨rfl, hw'⟩
  clear hH HI
  go_enter Try.func40, Try.ntmps40
  go_wp2_with (first
    | (go_at_call 57; refine (bits_Len _ _ (by omega) (by omega)).mono ?_; rintro e w' ⟨rfl, rfl⟩)
    | (go_at_call 56; refine (HP _).out.mono ?_; rintro e w' ⟨rfl, hw'⟩))
  go_end0
  exact ⟨rfl, hw'⟩

theorem putCells_take {ec : Int → Value} {d : Array Int} {c : Array Value} (h : d.size ≤ c.size) : (putCells ec 0 d c).toList.take d.size = d.toList.map ec := by
  apply List.ext_getElem
  · simp [putCells]; omega
  · intro i h1 h2
    have hi : i < d.size := by simpa using h2
    simp [putCells, hi]

theorem toNat_map {l : List Int} (h : ∀ x ∈ l, 0 ≤ x) : (l.map Int.toNat).map (fun n : Nat => (n : Int)) = l := by
  rw [List.map_map]
  conv => rhs; rw [← List.map_id l]
  exact List.map_congr_left fun x hx => by simp [Function.comp, Int.toNat_of_nonneg (h x hx)]

theorem sort_row {w : World} {base : Nat} {v : Value} {l : List Nat} (h : w.ownsRow base 33 1 v l.length (uv l)) (hn : 0 < l.length) (h12 : l.length ≤ 12) :
    Calls Try.prog 40 #[v] w fun e w' => e = .returned (.tuple #[]) ∧ ∃ l', l'.Perm l ∧ w'.ownsRow base 33 1 v l'.length (uv l') ∧ Mod (fun b => v.ownBlock = some b) w w' := by
  rcases h.2 with ⟨_, h0⟩ | ⟨g, cap, cur, rfl, hb, hg, hc, hm, hs, ht⟩
  · omega
  · obtain ⟨d, hd⟩ : ∃ d : Array Int, d = (l.map fun n : Nat => (n : Int)).toArray := ⟨_, rfl⟩
    have hsz : d.size = l.length := by rw [hd]; simp
    have hcs : l.length ≤ cur.size := by omega
    have hH : Holds (Value.int .u32) w g 0 d := by
      intro j hj
      rw [hsz] at hj
      refine ⟨?_, Blk.frozen (w := w) (t := 33) (cs := cur) hg _⟩
      rw [Nat.zero_add, Blk.cell (w := w) (t := 33) (cs := cur) hg]
      have e1 : cur.toList[j]? = (cur.toList.take (l.length * 1))[j]? := by rw [List.getElem?_take_of_lt (by omega)]
      rw [← Array.getElem?_toList, e1, ht, hd]
      simp [uv, hj]
    rw [← hsz]
    refine (sort_u32 g 0 cap d w hH (by omega)).mono ?_
    rintro e w' ⟨he, n, rfl⟩
    obtain ⟨⟨hz, _, hp⟩, _⟩ := insertionSort_holds swo_ltInt d 0 d.size (Nat.zero_le _) (Nat.le_refl _)
    generalize insertionSort ltInt d 0 d.size = d' at *
    have hp2 : d'.toList.Perm d.toList := by
      have e1 : d'.extract 0 d.size = d' := by rw [← hz]; simp
      have e2 : d.extract 0 d.size = d := by simp
      rw [e1, e2] at hp
      exact hp
    have hdl : d.toList = l.map fun n : Nat => (n : Int) := by rw [hd]
    have hpos : ∀ x ∈ d'.toList, 0 ≤ x := by
      intro x hx
      have := hp2.mem_iff.1 hx
      rw [hdl] at this
      obtain ⟨k, _, rfl⟩ := List.mem_map.1 this
      omega
    have hback : (d'.toList.map Int.toNat).Perm l := by
      have := hp2.map Int.toNat
      rw [hdl, List.map_map] at this
      have e : l.map (Int.toNat ∘ fun n : Nat => (n : Int)) = l := by
        conv => rhs; rw [← List.map_id l]
        exact List.map_congr_left fun x _ => by simp [Function.comp]
      rwa [e] at this
    have huv : uv (d'.toList.map Int.toNat) = d'.toList.map (Value.int .u32) := by
      have : uv (d'.toList.map Int.toNat) = ((d'.toList.map Int.toNat).map (fun n : Nat => (n : Int))).map (Value.int .u32) := by
        unfold uv; simp only [List.map_map]; rfl
      rw [this, toNat_map hpos]
    have hlen : (d'.toList.map Int.toNat).length = d.size := by simp [hz]
    refine ⟨he, _, hback, ?_, ?_⟩
    · rw [huv]
      refine ⟨by simp, .inr ⟨g, cap, putCells (Value.int .u32) 0 d' cur, by rw [hlen], hb, ?_, by rw [hlen, hsz]; exact hc, hm, ?_, ?_⟩⟩
      · have : (putRow (Value.int .u32) (Sort.ahead w n) g 0 d').heap = w.heap.modify g (onCells (putCells (Value.int .u32) 0 d')) := rfl
        rw [this, Array.getElem?_modify]
        simp [hg, onCells]
      · simp only [putCells, Array.size_mapIdx]; exact hs
      · rw [hlen, Nat.mul_one, ← hz]
        exact putCells_take (by omega)
    · refine ⟨rfl, rfl, rfl, ?_, ?_⟩
      · rw [size_putRow]; exact Nat.le_refl _
      · intro k _ hk
        have : (putRow (Value.int .u32) (Sort.ahead w n) g 0 d').heap = w.heap.modify g (onCells (putCells (Value.int .u32) 0 d')) := rfl
        rw [this, Array.getElem?_modify]
        have hne : ¬ g = k := fun e => hk (by rw [← e]; rfl)
        simp [hne]
end Go.Proofs.Ytmclbechnfedmaa
