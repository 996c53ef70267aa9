/- slices.Sort at uint32, at any length: a permutation. -/
import Derived.Test.YtgillcppnpkkiaaGreatDoorSortD
namespace Go.Proofs.YtgillcppnpkkiaaGreatDoor
open Go.RowKit Go.Sort Go.Shelf
theorem sort_u32_any (blk off cap : Nat) (d : Array Int) (w : World) (hH : Holds (Value.int .u32) w blk off d) (hblk : blk < w.heap.size) (hsz : d.size < 4611686018427387904) :
    Calls Tryz.prog 46 #[.slice (some ⟨blk, off, none⟩) d.size cap] w fun e w' => e = .returned (.tuple #[]) ∧ ∃ n os, w' = grow (putRow (Value.int .u32) (Sort.ahead w n) blk off (Sort.sort ltInt d)) os := by
  have HH : Hid (Holds (Value.int .u32) w blk off d) := hH
  clear hH
  have hLen : ∀ w, Calls Tryz.prog 125 #[.int .u64 (d.size : Int)] w fun e w' => e = .returned (.int .i64 (bitsLen d.size : Nat)) ∧ w' = w := fun w => by
    have h := bits_Len (d.size : Int) w (by omega) (by omega)
    rwa [Int.toNat_natCast, bitLen_eq _ (by omega)] at h
  have hk : bitsLen d.size ≤ 62 := (bitsLen_le_iff d.size 62).2 (by omega)
  have HP := Lib.hid (pdqsort_u32 calleesU plainU (d.size - 0 + 1) blk off cap 0 d.size (bitsLen d.size) d w (by omega) HH.out hblk (Nat.zero_le _) (Nat.le_refl _) hsz (by omega) (Or.inl rfl))
  go_enter Tryz.func46, Tryz.ntmps46
  go_wp2_with (first
    | (go_at_call 125; refine (hLen _).mono ?_; rintro e w' ⟨rfl, rfl⟩)
    | (go_at_call 124; refine HP.out.mono ?_; rintro e w' ⟨rfl, n, os, rfl⟩))
  go_end0
  exact ⟨rfl, n, os, rfl⟩
theorem sort_nil (w : World) : Calls Tryz.prog 46 #[.slice none 0 0] w fun e w' => e = .returned (.tuple #[]) ∧ w' = w := by
  have HI : ∀ W, Hid (Calls Tryz.prog 170 #[.slice none 0 0, .int .i64 0, .int .i64 0] W fun e w' => e = .returned (.tuple #[]) ∧ w' = W) := fun W => by
    refine Lib.hid ?_
    go_enter Tryz.func170, Tryz.ntmps170
    go_wp2
    go_loopw [6] (fun vi wr => vi = .int .i64 1 ∧ wr = W) (fun _ _ => 0)
    case atStart => exact ⟨rfl, rfl⟩
    case round =>
      obtain ⟨rfl, rfl⟩ := hrel
      go_wp2
      go_end0
      exact ⟨rfl, rfl⟩
  have HP : ∀ W, Hid (Calls Tryz.prog 124 #[.slice none 0 0, .int .i64 0, .int .i64 0, .int .i64 0] W fun e w' => e = .returned (.tuple #[]) ∧ w' = W) := fun W => by
    refine Lib.hid ?_
    go_enter Tryz.func124, Tryz.ntmps124
    go_wp2
    go_loopw [1, 2] (fun x y wr => x = .int .i64 0 ∧ y = .int .i64 0 ∧ wr = W) (fun _ _ _ => 0)
    case atStart => exact ⟨rfl, rfl, rfl⟩
    case round =>
      obtain ⟨rfl, rfl, rfl⟩ := hrel
      go_wp2_with (go_at_call 170; refine (HI _).out.mono ?_; rintro e w' ⟨rfl, rfl⟩)
      refine bodyPost_ret (results_none rfl _ _ _) rfl ?_
      exact ⟨rfl, rfl⟩
  have hLen : ∀ w, Calls Tryz.prog 125 #[.int .u64 0] w fun e w' => e = .returned (.int .i64 0) ∧ w' = w := fun w => bits_Len 0 w (by omega) (by omega)
  go_enter Tryz.func46, Tryz.ntmps46
  go_wp2_with (first
    | (go_at_call 125; refine (hLen _).mono ?_; rintro e w' ⟨rfl, rfl⟩)
    | (go_at_call 124; refine (HP _).out.mono ?_; rintro e w' ⟨rfl, rfl⟩))
  go_end0
  exact ⟨rfl, rfl⟩
theorem sort_row_any {w : World} {base : Nat} {v : Value} {l : List Nat} (h : w.ownsRow base 55 1 v l.length (uv l)) (hlen : l.length ≤ 1048576) :
    Calls Tryz.prog 46 #[v] w fun e w' => e = .returned (.tuple #[]) ∧ ∃ l', l'.Perm l ∧ w'.ownsRow base 55 1 v l'.length (uv l') ∧ Mod (fun b => v.ownBlock = some b) w w' := by
  rcases h.2 with ⟨rfl, h0⟩ | ⟨g, cap, cur, rfl, hb, hg, hc, hm, hs, ht⟩
  · refine (sort_nil w).mono ?_
    rintro e w' ⟨he, rfl⟩
    exact ⟨he, l, .refl _, h, Mod.refl _ _⟩
  · obtain ⟨d, hd⟩ : ∃ d : Array Int, d = (l.map fun n : Nat => (n : Int)).toArray := ⟨_, rfl⟩
    have hsz : d.size = l.length := by rw [hd]; simp
    have hcs : l.length ≤ cur.size := by omega
    have hH : Holds (Value.int .u32) w g 0 d := by
      intro j hj
      rw [hsz] at hj
      refine ⟨?_, Blk.frozen (w := w) (t := 55) (cs := cur) hg _⟩
      rw [Nat.zero_add, Blk.cell (w := w) (t := 55) (cs := cur) hg]
      have e1 : cur.toList[j]? = (cur.toList.take (l.length * 1))[j]? := by rw [List.getElem?_take_of_lt (by omega)]
      rw [← Array.getElem?_toList, e1, ht, hd]
      simp [uv, hj]
    have hgl : g < w.heap.size := Blk.lt (w := w) (t := 55) (cs := cur) hg
    rw [← hsz]
    refine (sort_u32_any g 0 cap d w hH hgl (by omega)).mono ?_
    rintro e w' ⟨he, n, os, rfl⟩
    obtain ⟨⟨hz, _, hp⟩, _⟩ := sort_sorts ltInt swo_ltInt d
    generalize Sort.sort ltInt d = d' at *
    have hp2 : d'.toList.Perm d.toList := by
      have e1 : d'.extract 0 d.size = d' := by rw [← hz]; simp
      have e2 : d.extract 0 d.size = d := by simp
      rw [e1, e2] at hp
      exact hp
    have hdl : d.toList = l.map fun n : Nat => (n : Int) := by rw [hd]
    have hpos : ∀ x ∈ d'.toList, 0 ≤ x := by
      intro x hx
      have := hp2.mem_iff.1 hx
      rw [hdl] at this
      obtain ⟨k, _, rfl⟩ := List.mem_map.1 this
      omega
    have hback : (d'.toList.map Int.toNat).Perm l := by
      have := hp2.map Int.toNat
      rw [hdl, List.map_map] at this
      have e : l.map (Int.toNat ∘ fun n : Nat => (n : Int)) = l := by
        conv => rhs; rw [← List.map_id l]
        exact List.map_congr_left fun x _ => by simp [Function.comp]
      rwa [e] at this
    have huv : uv (d'.toList.map Int.toNat) = d'.toList.map (Value.int .u32) := by
      have : uv (d'.toList.map Int.toNat) = ((d'.toList.map Int.toNat).map (fun n : Nat => (n : Int))).map (Value.int .u32) := by
        unfold uv; simp only [List.map_map]; rfl
      rw [this, toNat_map hpos]
    have hlen : (d'.toList.map Int.toNat).length = d.size := by simp [hz]
    have hheap : (putRow (Value.int .u32) (Sort.ahead w n) g 0 d').heap = w.heap.modify g (onCells (putCells (Value.int .u32) 0 d')) := rfl
    have hgr : ∀ k, k < w.heap.size → (grow (putRow (Value.int .u32) (Sort.ahead w n) g 0 d') os).heap[k]? = (putRow (Value.int .u32) (Sort.ahead w n) g 0 d').heap[k]? := fun k hk => by
      show ((putRow (Value.int .u32) (Sort.ahead w n) g 0 d').heap ++ os)[k]? = _
      rw [Array.getElem?_append_left (by rw [size_putRow]; exact hk)]
    refine ⟨he, _, hback, ?_, ?_⟩
    · rw [huv]
      refine ⟨by simp, .inr ⟨g, cap, putCells (Value.int .u32) 0 d' cur, by rw [hlen], hb, ?_, by rw [hlen, hsz]; exact hc, hm, ?_, ?_⟩⟩
      · rw [hgr g hgl, hheap, Array.getElem?_modify]
        simp [hg, onCells]
      · simp only [putCells, Array.size_mapIdx]; exact hs
      · rw [hlen, Nat.mul_one, ← hz]
        exact putCells_take (by omega)
    · refine ⟨rfl, rfl, rfl, ?_, ?_⟩
      · show w.heap.size ≤ ((putRow (Value.int .u32) (Sort.ahead w n) g 0 d').heap ++ os).size
        rw [Array.size_append, size_putRow]; exact Nat.le_add_right _ _
      · intro k hk hne
        rw [hgr k hk, hheap, Array.getElem?_modify]
        have hne : ¬ g = k := fun e => hne (by rw [← e]; rfl)
        simp [hne]
end Go.Proofs.YtgillcppnpkkiaaGreatDoor
