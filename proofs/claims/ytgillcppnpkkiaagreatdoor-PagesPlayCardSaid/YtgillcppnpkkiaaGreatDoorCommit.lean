/- slices.Sort at uint32, at most 12: a permutation. The walk of the insertion sort is the kit's own (Derived/Sort/WalkA.lean) turned to this program and to uint32. Commit, where the record is short and there is room. The law's own functions: Opened, lives. -/
import Derived.Test.YtgillcppnpkkiaaGreatDoorAnews
import Derived.Sort.Row
import Derived.Sort.LotA
import Derived.BigGuard
import Derived.BigCall
import Derived.CellFam
import Derived.Deep.Draws
import Derived.Deep.QuietTactic
import Derived.BigQuiet
namespace Go.Proofs.YtgillcppnpkkiaaGreatDoor
open Go Go.RowKit Go.Sort Go.Shelf
theorem bits_Len (x : Int) (w : World) (h0 : 0 ≤ x) (h1 : x ≤ 18446744073709551615) :
    Calls Tryz.prog 125 #[.int .u64 x] w fun e w' => e = .returned (.int .i64 (Lib.bitLen x.toNat)) ∧ w' = w := Any.bits_Len Tryz.lays125 x w h0 h1

section
variable {α : Type} [Inhabited α] (lt : α → α → Bool)
theorem insInner_go (a j : Nat) (d : Array α) (hj : a < j) (hl : lt d[j]! d[j - 1]! = true) : insInner lt a j d = insInner lt a (j - 1) (swp d j (j - 1)) := by
  obtain ⟨k, rfl⟩ : ∃ k, j = k + 1 := ⟨j - 1, by omega⟩
  rw [insInner]
  simp only [Nat.add_sub_cancel] at hl ⊢
  simp [hj, hl]
theorem insInner_stop (a j : Nat) (d : Array α) (h : j ≤ a ∨ lt d[j]! d[j - 1]! = false) : insInner lt a j d = d := by
  cases j with
  | zero => rw [insInner]
  | succ k =>
    rw [insInner]
    simp only [Nat.add_sub_cancel] at h
    rcases h with h | h
    · simp [show ¬ k + 1 > a by omega]
    · simp [h]
theorem insOuter_go (a b i : Nat) (d : Array α) (h : i < b) : insOuter lt a b i d = insOuter lt a b (i + 1) (insInner lt a i d) := by rw [insOuter, if_pos h]
theorem insOuter_stop (a b i : Nat) (d : Array α) (h : ¬ i < b) : insOuter lt a b i d = d := by rw [insOuter, if_neg h]
end
section
variable {α : Type} [Inhabited α] (ec : α → Value)
theorem putRow_drewN (w : World) (m q blk off : Nat) (d : Array α) : (putRow ec (Sort.ahead w m) blk off d).drewN q = putRow ec (Sort.ahead w (m + q)) blk off d := by
  show Sort.ahead (putRow ec (Sort.ahead w m) blk off d) q = _
  rw [putRow_ahead ec w m, ahead_ahead, ← putRow_ahead]
theorem swap_worldA (w : World) (m q blk off : Nat) (d : Array α) (j k : Nat) (hj : j < d.size) (hk : k < d.size) :
    (((putRow ec (Sort.ahead w m) blk off d).drewN q).setCell ⟨blk, off + j, none⟩ (ec d[k]!)).setCell ⟨blk, off + k, none⟩ (ec d[j]!) = putRow ec (Sort.ahead w (m + q)) blk off (swp d j k) := by
  rw [putRow_drewN]
  exact putRow_swp ec _ blk off d j k hj hk
end

theorem isNaN_u32 (x : Int) (w : World) : Calls Tryz.prog 194 #[.int .u32 x] w fun e w' => e = .returned (.bool false) ∧ w' = w := by
  go_enter Tryz.func194, Tryz.ntmps194
  go_wp2
  go_ret
  exact ⟨by simp, rfl⟩
theorem less_u32 (x y : Int) (w : World) : Calls Tryz.prog 176 #[.int .u32 x, .int .u32 y] w fun e w' => e = .returned (.bool (Sort.ltInt x y)) ∧ w' = w := by
  go_enter Tryz.func176, Tryz.ntmps176
  go_wp2_with (go_at_call 194; refine (isNaN_u32 _ _).mono ?_; rintro e w' ⟨rfl, rfl⟩)
  go_ret
  exact ⟨rfl, rfl⟩

set_option maxHeartbeats 1000000 in
set_option maxRecDepth 100000 in
theorem insertionSort_u32 (blk off cap a b : Nat) (d : Array Int) (w : World) (hH : Holds (Value.int .u32) w blk off d) (hab : a ≤ b) (hb : b ≤ d.size) (hsz : d.size < 4611686018427387904) :
    Calls Tryz.prog 170 #[.slice (some ⟨blk, off, none⟩) d.size cap, .int .i64 a, .int .i64 b] w fun e w' =>
      e = .returned (.tuple #[]) ∧ ∃ n, w' = putRow (Value.int .u32) (Sort.ahead w n) blk off (Sort.insertionSort ltInt d a b) := by
  go_enter Tryz.func170, Tryz.ntmps170
  go_wp2
  go_loopw [6] (fun vi wr => ∃ (i n : Nat) (dk : Array Int), vi = .int .i64 i ∧ a < i ∧ i ≤ b + 1 ∧ dk.size = d.size ∧ wr = putRow (Value.int .u32) (Sort.ahead w n) blk off dk ∧
      insOuter ltInt a b i dk = insOuter ltInt a b (a + 1) d) (fun vi _ => b + 1 - (intOf vi).toNat)
  case atStart => exact ⟨a + 1, 0, d, by go_num, by omega, by omega, rfl, (putRow_self _ _ _ _ _ hH).symm, rfl⟩
  case round =>
    obtain ⟨i, n, dk, rfl, hai, hib, hsk, hwr, hO⟩ := hrel
    have HO : Hid (insOuter ltInt a b i dk = insOuter ltInt a b (a + 1) d) := hO
    clear hO
    go_wp2
    · go_loopw [7] (fun vj wr2 => ∃ (j m : Nat) (dj : Array Int), vj = .int .i64 j ∧ a ≤ j ∧ j ≤ i ∧ dj.size = d.size ∧ wr2 = putRow (Value.int .u32) (Sort.ahead w m) blk off dj ∧
          insInner ltInt a j dj = insInner ltInt a i dk) (fun vj _ => (intOf vj).toNat)
      case atStart => exact ⟨i, n, dk, rfl, by omega, Nat.le_refl _, hsk, rfl, rfl⟩
      case round =>
        obtain ⟨j, m, dj, rfl, haj, hji, hsj, hw2, hI⟩ := hrel
        have hlt : i < b := by assumption
        obtain ⟨G, hG⟩ : ∃ G : Nat → Int, ∀ t, G t = dj[t]! := ⟨fun t => dj[t]!, fun _ => rfl⟩
        have hcw : ∀ t, t < d.size → wr.cell? ⟨blk, off + t, none⟩ = some (.int .u32 (G t)) := fun t ht => by
          rw [hw2, hG]; exact cell?_putRow _ _ _ _ d dj (holds_ahead _ _ _ _ _ _ hH) hsj t (by omega)
        have hfw : ∀ t, t < d.size → wr.frozen? ⟨blk, off + t, none⟩ = false := fun t ht => by
          rw [hw2, frozen?_putRow]; exact ((holds_ahead _ _ m _ _ _ hH) t ht).2
        have HW : Hid (wr = putRow (Value.int .u32) (Sort.ahead w m) blk off dj) := hw2
        have HG : Hid (∀ t, G t = dj[t]!) := hG
        have HI : Hid (insInner ltInt a j dj = insInner ltInt a i dk) := hI
        clear hw2 hG hI hH
        have out : (j ≤ a ∨ ltInt dj[j]! dj[j - 1]! = false) → ∀ q, ∃ i' n' dk', Value.int .i64 ((i : Int) + 1) = .int .i64 (i' : Nat) ∧ a < i' ∧ i' ≤ b + 1 ∧ dk'.size = d.size ∧
            wr.drewN q = putRow (Value.int .u32) (Sort.ahead w n') blk off dk' ∧ insOuter ltInt a b i' dk' = insOuter ltInt a b (a + 1) d := fun hs q =>
          ⟨i + 1, m + q, dj, by go_num, by omega, by omega, hsj, by rw [HW.out]; exact putRow_drewN _ _ _ _ _ _ _,
            by rw [← HO.out, insOuter_go _ _ _ _ _ hlt, ← HI.out, insInner_stop _ _ _ _ hs]⟩
        have OUT : Hid _ := out
        clear out
        go_wp2
        by_cases hja : a < j
        · go_quiet (first | (go_at_call 176; refine Calls.quiet_of_same (less_u32 _ _ _)))
          go_wp2
          · have hl : ltInt (G j) (G (j - 1)) = true := by assumption
            go_region
            all_goals go_wp2
            go_roundw
            case rel =>
              refine ⟨j - 1, m + (nq + 1), swp dj j (j - 1), by congr 1; omega, by omega, by omega, by rw [size_swp]; exact hsj, ?_, ?_⟩
              · rw [HW.out, HG.out, HG.out]
                exact swap_worldA _ w m (nq + 1) blk off dj j (j - 1) (by omega) (by omega)
              · rw [← HI.out, insInner_go ltInt a j dj hja (by rw [← HG.out, ← HG.out]; exact hl)]
            case measure => simp [intOf]; omega
          · have hl : ltInt (G j) (G (j - 1)) = false := by assumption
            go_roundw
            case rel => exact OUT.out (Or.inr (by rw [← HG.out, ← HG.out]; exact hl)) nq
            case measure => simp [intOf]; omega
        · go_quiet (first | (go_at_call 176; refine Calls.quiet_of_same (less_u32 _ _ _)))
          go_wp2
          go_roundw
          case rel => exact OUT.out (Or.inl (by omega)) nq
          case measure => simp [intOf]; omega
    · have hge : ¬ i < b := by assumption
      go_end0
      exact ⟨rfl, n, by unfold Sort.insertionSort; rw [← HO.out, insOuter_stop _ _ _ _ _ hge]⟩

set_option maxHeartbeats 1000000 in
set_option maxRecDepth 100000 in
/-- At most twelve: the insertion sort. -/
theorem sort_u32 (blk off cap : Nat) (d : Array Int) (w : World) (hH : Holds (Value.int .u32) w blk off d) (h12 : d.size ≤ 12) :
    Calls Tryz.prog 46 #[.slice (some ⟨blk, off, none⟩) d.size cap] w fun e w' =>
      e = .returned (.tuple #[]) ∧ ∃ n, w' = putRow (Value.int .u32) (Sort.ahead w n) blk off (Sort.insertionSort ltInt d 0 d.size) := by
  have HI := Lib.hid (insertionSort_u32 blk off cap 0 d.size d w hH (Nat.zero_le _) (Nat.le_refl _) (by omega))
  have HP : ∀ x, Hid (Calls Tryz.prog 124 #[.slice (some ⟨blk, off, none⟩) d.size cap, .int .i64 0, .int .i64 d.size, .int .i64 x] w fun e w' =>
      e = .returned (.tuple #[]) ∧ ∃ n, w' = putRow (Value.int .u32) (Sort.ahead w n) blk off (Sort.insertionSort ltInt d 0 d.size)) := by
    intro x
    refine Lib.hid ?_
    clear hH
    go_enter Tryz.func124, Tryz.ntmps124
    go_wp2
    go_loopw [1, 2] (fun x y wr => x = .int .i64 0 ∧ y = .int .i64 d.size ∧ wr = w) (fun _ _ _ => 0)
    case atStart => exact ⟨rfl, rfl, rfl⟩
    case round =>
      obtain ⟨rfl, rfl, rfl⟩ := hrel
      have h12' : (d.size : Int) ≤ 12 := by omega
      go_wp2_with (go_at_call 170; refine HI.out.mono ?_; rintro e w' ⟨rfl, hw'⟩)
      refine bodyPost_ret (results_none rfl _ _ _) rfl ?_
      exact ⟨rfl, hw'⟩
  clear hH HI
  go_enter Tryz.func46, Tryz.ntmps46
  go_wp2_with (first
    | (go_at_call 125; refine (bits_Len _ _ (by omega) (by omega)).mono ?_; rintro e w' ⟨rfl, rfl⟩)
    | (go_at_call 124; refine (HP _).out.mono ?_; rintro e w' ⟨rfl, hw'⟩))
  go_end0
  exact ⟨rfl, hw'⟩

theorem putCells_take {ec : Int → Value} {d : Array Int} {c : Array Value} (h : d.size ≤ c.size) : (putCells ec 0 d c).toList.take d.size = d.toList.map ec := by
  apply List.ext_getElem
  · simp [putCells]; omega
  · intro i h1 h2
    have hi : i < d.size := by simpa using h2
    simp [putCells, hi]

theorem toNat_map {l : List Int} (h : ∀ x ∈ l, 0 ≤ x) : (l.map Int.toNat).map (fun n : Nat => (n : Int)) = l := by
  rw [List.map_map]
  conv => rhs; rw [← List.map_id l]
  exact List.map_congr_left fun x hx => by simp [Function.comp, Int.toNat_of_nonneg (h x hx)]

theorem sort_row {w : World} {base : Nat} {v : Value} {l : List Nat} (h : w.ownsRow base 55 1 v l.length (uv l)) (hn : 0 < l.length) (h12 : l.length ≤ 12) :
    Calls Tryz.prog 46 #[v] w fun e w' => e = .returned (.tuple #[]) ∧ ∃ l', l'.Perm l ∧ w'.ownsRow base 55 1 v l'.length (uv l') ∧ Mod (fun b => v.ownBlock = some b) w w' := by
  rcases h.2 with ⟨_, h0⟩ | ⟨g, cap, cur, rfl, hb, hg, hc, hm, hs, ht⟩
  · omega
  · obtain ⟨d, hd⟩ : ∃ d : Array Int, d = (l.map fun n : Nat => (n : Int)).toArray := ⟨_, rfl⟩
    have hsz : d.size = l.length := by rw [hd]; simp
    have hcs : l.length ≤ cur.size := by omega
    have hH : Holds (Value.int .u32) w g 0 d := by
      intro j hj
      rw [hsz] at hj
      refine ⟨?_, Blk.frozen (w := w) (t := 55) (cs := cur) hg _⟩
      rw [Nat.zero_add, Blk.cell (w := w) (t := 55) (cs := cur) hg]
      have e1 : cur.toList[j]? = (cur.toList.take (l.length * 1))[j]? := by rw [List.getElem?_take_of_lt (by omega)]
      rw [← Array.getElem?_toList, e1, ht, hd]
      simp [uv, hj]
    rw [← hsz]
    refine (sort_u32 g 0 cap d w hH (by omega)).mono ?_
    rintro e w' ⟨he, n, rfl⟩
    obtain ⟨⟨hz, _, hp⟩, _⟩ := insertionSort_holds swo_ltInt d 0 d.size (Nat.zero_le _) (Nat.le_refl _)
    generalize insertionSort ltInt d 0 d.size = d' at *
    have hp2 : d'.toList.Perm d.toList := by
      have e1 : d'.extract 0 d.size = d' := by rw [← hz]; simp
      have e2 : d.extract 0 d.size = d := by simp
      rw [e1, e2] at hp
      exact hp
    have hdl : d.toList = l.map fun n : Nat => (n : Int) := by rw [hd]
    have hpos : ∀ x ∈ d'.toList, 0 ≤ x := by
      intro x hx
      have := hp2.mem_iff.1 hx
      rw [hdl] at this
      obtain ⟨k, _, rfl⟩ := List.mem_map.1 this
      omega
    have hback : (d'.toList.map Int.toNat).Perm l := by
      have := hp2.map Int.toNat
      rw [hdl, List.map_map] at this
      have e : l.map (Int.toNat ∘ fun n : Nat => (n : Int)) = l := by
        conv => rhs; rw [← List.map_id l]
        exact List.map_congr_left fun x _ => by simp [Function.comp]
      rwa [e] at this
    have huv : uv (d'.toList.map Int.toNat) = d'.toList.map (Value.int .u32) := by
      have : uv (d'.toList.map Int.toNat) = ((d'.toList.map Int.toNat).map (fun n : Nat => (n : Int))).map (Value.int .u32) := by
        unfold uv; simp only [List.map_map]; rfl
      rw [this, toNat_map hpos]
    have hlen : (d'.toList.map Int.toNat).length = d.size := by simp [hz]
    refine ⟨he, _, hback, ?_, ?_⟩
    · rw [huv]
      refine ⟨by simp, .inr ⟨g, cap, putCells (Value.int .u32) 0 d' cur, by rw [hlen], hb, ?_, by rw [hlen, hsz]; exact hc, hm, ?_, ?_⟩⟩
      · have : (putRow (Value.int .u32) (Sort.ahead w n) g 0 d').heap = w.heap.modify g (onCells (putCells (Value.int .u32) 0 d')) := rfl
        rw [this, Array.getElem?_modify]
        simp [hg, onCells]
      · simp only [putCells, Array.size_mapIdx]; exact hs
      · rw [hlen, Nat.mul_one, ← hz]
        exact putCells_take (by omega)
    · refine ⟨rfl, rfl, rfl, ?_, ?_⟩
      · rw [size_putRow]; exact Nat.le_refl _
      · intro k _ hk
        have : (putRow (Value.int .u32) (Sort.ahead w n) g 0 d').heap = w.heap.modify g (onCells (putCells (Value.int .u32) 0 d')) := rfl
        rw [this, Array.getElem?_modify]
        have hne : ¬ g = k := fun e => hk (by rw [← e]; rfl)
        simp [hne]
end Go.Proofs.YtgillcppnpkkiaaGreatDoor

namespace Go.Proofs.YtgillcppnpkkiaaGreatDoor
open Go Go.RowKit
section
variable {P : Program} {a : Act} {o : Oper} {t kt et : TypeId} {m : Nat}
theorem quiet_lenMap {C : World → Prop} {K : Act → Prop} (x : Operand) {ts : Array TypeId} (ho : o.op = .call { callee := .builtin .len, args := #[x], argTypes := ts }) (h0 : ts[0]? = some t) (ht : P.underlying t = some (.map kt et))
    (hx : a.eval x = .map (some m)) {n : Nat} (h : ∀ W, C W → MapLen W m n) (hk : K (a.put o.dst (.int .i64 n))) : o.quiet P a C K :=
  ⟨.int .i64 n, fun W hW => by
    obtain ⟨es, c, hh, rfl⟩ := h W hW
    unfold Oper.quietAt
    have e : (execOp a.eval o).run P W = .ok (.value (.int .i64 es.size)) W := by
      simp [execOp, ho, hx, resolve, invoke, builtin, Builtin.len_, h0, run_underlying ht, getObj_map hh, goInt]
    rw [e]
    exact ⟨rfl, rfl⟩, hk⟩
end
theorem MapLen.mod {w w' : World} {S : Nat → Prop} {m n : Nat} (h : MapLen w m n) (hm : Mod S w w') (hn : ¬ S m) : MapLen w' m n := by
  obtain ⟨es, c, hh, hs⟩ := h
  exact ⟨es, c, (hm.block m (Array.getElem?_eq_some_iff.1 hh).1 hn).trans hh, hs⟩
theorem MapLen.drewN {w : World} {m n : Nat} (h : MapLen w m n) (q : Nat) : MapLen (w.drewN q) m n := h
theorem MapRep.len_pos {w : World} {m n k : Nat} {f : Nat → Option Value} (h : MapRep w m f) (hl : MapLen w m n) (hk : (f k).isSome = true) : 0 < n := by
  obtain ⟨es, c, hh, hok⟩ := h
  obtain ⟨es', c', hh', rfl⟩ := hl
  rw [hh] at hh'
  cases hh'
  rcases Nat.eq_zero_or_pos es.size with h0 | h0
  · have : es = #[] := Array.eq_empty_of_size_eq_zero h0
    subst this
    rw [hok.look] at hk
    simp at hk
  · exact h0

theorem nodup_le {α : Type} [BEq α] [LawfulBEq α] : ∀ (l k : List α), l.Pairwise (· ≠ ·) → (∀ x ∈ l, x ∈ k) → l.length ≤ k.length
  | [], _, _, _ => Nat.zero_le _
  | a :: l, k, hn, hs => by
    have ha : a ∈ k := hs a List.mem_cons_self
    have hk : 0 < k.length := List.length_pos_of_mem ha
    have h1 := nodup_le l (k.erase a) (List.pairwise_cons.1 hn).2 (fun x hx => (List.mem_erase_of_ne (fun e => (List.pairwise_cons.1 hn).1 x hx e.symm)).2 (hs x (List.mem_cons_of_mem _ hx)))
    rw [List.length_erase_of_mem ha] at h1
    simp only [List.length_cons]
    omega
theorem MapRep.len_le {w : World} {m n N : Nat} {f : Nat → Option Value} (h : MapRep w m f) (hl : MapLen w m n) (hN : ∀ k, (f k).isSome = true → k < N) : n ≤ N := by
  obtain ⟨es, c, hh, hok⟩ := h
  obtain ⟨es', c', hh', rfl⟩ := hl
  rw [hh] at hh'
  cases hh'
  have hkey : ∀ e ∈ es.toList, ∃ k : Nat, kOf e = (k : Int) := fun e he => by
    obtain ⟨k, hk⟩ := hok.key e he
    exact ⟨k, kOf_of hk⟩
  have h1 := nodup_le (es.toList.map fun e => (kOf e).toNat) (List.range N) (by
    rw [List.pairwise_map]
    refine hok.nodup.imp_of_mem ?_
    intro a b ha hb hab e
    obtain ⟨ka, hka⟩ := hkey a ha
    obtain ⟨kb, hkb⟩ := hkey b hb
    rw [hka, hkb] at hab e
    simp at e
    exact hab (by rw [e])) (fun x hx => by
    obtain ⟨e, he, rfl⟩ := List.mem_map.1 hx
    obtain ⟨k, hk⟩ := hkey e he
    rw [List.mem_range, hk]
    refine hN k ?_
    rw [(hok.spec k e.val).2 ⟨e, he, hk, rfl⟩]
    rfl)
  simpa using h1

theorem IterRep.nodup {w : World} {r m : Nat} {f : Nat → Option Value} {vis : List Nat} {left : Nat} (h : IterRep w r m f vis left) : vis.Nodup := by
  obtain ⟨es, c, seen, _, _, _, _, _, hn, _⟩ := h
  exact hn

section
variable {w : World} {p : Nat} {G : Pg} {D : Dk}
theorem recB_perm {l l' : List Nat} (h : l.Perm l') : (recB G l).length = (recB G l').length := (List.Perm.flatMap_right _ h).length_eq
theorem record_perm {l l' : List Nat} (h : l.Perm l') : (G.record l).length = (G.record l').length := by
  have h1 : (G.body l).length = (G.body l').length := by unfold Pg.body; rw [List.length_append, List.length_append, recB_perm h]
  unfold Pg.record
  rw [List.length_append, List.length_append, h1]

set_option maxHeartbeats 1000000 in
set_option maxRecDepth 100000 in
theorem commit_ok (h : PagRep w p G) (hd : DiskRep w G.d D) (hap : Apart p G D) (hroot : G.root < 4294967296) (f : Nat) (hl : look D.now nameB = some f)
    (keys : List Nat) (hk : ∀ n, G.dirty n = true ↔ n ∈ keys) (hnd : keys.Nodup) (hk0 : 0 < keys.length) (hk12 : keys.length ≤ 12) (hkb : ∀ n ∈ keys, n < 4294967296)
    (hfew : ∀ k, (G.now k).isSome = true → k < 4294967296) (hshort : G.size + (G.record keys).length ≤ 8192) (hroom : (G.record keys).length ≤ D.left ∧ (G.record keys).length + (D.by_ f).length ≤ 1048576) :
    Calls Tryz.prog 13 #[.pointer (some ⟨p, 0, none⟩)] w fun e w' => e = .returned (.int .i64 0) ∧ ∃ l v, l.Perm keys ∧
      DiskRep w' G.d ((D.setFile f v (D.by_ f ++ G.record l) (D.sure f)).setFile f v (D.by_ f ++ G.record l) (D.by_ f ++ G.record l).length) ∧
      (∀ b, DS G.d ((D.setFile f v (D.by_ f ++ G.record l) (D.sure f)).setFile f v (D.by_ f ++ G.record l) (D.by_ f ++ G.record l).length) b → DS G.d D b ∨ w.heap.size ≤ b) ∧
      PagRep w' p { G.keeps with size := G.size + (G.record keys).length } ∧ Mod (fun b => PS p G b ∨ DS G.d D b) w w' := by
  obtain ⟨i0, hi, hz0, hz1, hz2⟩ := info_parts info_u32
  have cp := h.blk.cell
  unfold Pg.cells at cp
  have HT := Lib.hid (there_ok h)
  obtain ⟨fd, hfd, hfs, hfv⟩ := h.dirty
  obtain ⟨nd, hnd0⟩ := hfd.len
  have hndp : 0 < nd := hfd.len_pos hnd0 (k := keys[0]) (by rw [hfs, hk]; exact List.getElem_mem _)
  have H := Lib.hid h
  have HD := Lib.hid hd
  have HL := Lib.hid hl
  clear h hd hl
  go_enter Tryz.func13, Tryz.ntmps13
  go_wp2_with (go_at_call 44; refine HT.out.mono ?_; rintro e w1 ⟨rfl, rfl⟩)
  have hz : ((nd : Int) == 0) = false := by simp; omega
  refine wp_region_quiet_lit (by kernel_rfl) (by kernel_rfl) ?_
  iterate 4 go_big_quiet_step (fail)
  go_big_quiet_want
  refine quiet_lenMap (.tmp 13) rfl rfl und_mapInt rfl (n := nd) (by rintro W ⟨q, rfl⟩; exact hnd0.drewN q) ?_
  go_frame
  go_big_quiet_on
  iterate 12 go_big_quiet_step (fail)
  refine wpQuiet_nil ?_
  rintro w2 ⟨nq, rfl⟩
  have hm2 : Mod Non w1 (w1.drewN nq) := (Mod.refl _ _).drewN nq
  have hfd2 := hfd.mod hm2 (fun x => x)
  have h2 := H.out.non hm2
  have c2 := h2.blk.cell
  unfold Pg.cells at c2
  have HM2 := Lib.hid hm2
  have HP2 := Lib.hid h2
  generalize w1.drewN nq = w2 at *
  clear hm2 h2 cp hfd hnd0 hz hndp
  go_wp2_with (first
    | (at_range; refine wpl_range rfl _ rfl und_mapInt rfl hfd2 ?_; intro w3 left0 hit0 hm3 hsz3))
  have HI3 := Lib.hid hit0
  have HM3 := Lib.hid hm3
  clear hit0 hm3
  go_frame
  go_loopw [3, 4] (fun v _ wr => ∃ vis left ks, IterRep wr w2.heap.size G.m3 fd vis left ∧ ks.Perm vis ∧ wr.ownsRow (w2.heap.size + 1) 55 1 v ks.length (uv ks) ∧ Mod Non w2 wr) (fun _ _ wr => iterLeft wr G.m3 w2.heap.size)
  case atStart => exact ⟨[], left0, [], HI3.out, .refl _, World.ownsRow_nil _ _ _ _, HM3.out⟩
  case round =>
    obtain ⟨vis, left, ks, hit, hperm, hown, hm⟩ := hrel
    have hin : ∀ x ∈ vis, x ∈ keys := fun x hx => (hk x).1 (by rw [← hfs]; exact hit.told x hx)
    have hks : ks.length ≤ 12 := by
      have h1 := nodup_le vis keys hit.nodup hin
      have h2 := hperm.length_eq
      omega
    have hml : ks.length + 1 ≤ maxLen := by unfold maxLen; omega
    have HKP : Hid ((∀ k, (fd k).isSome = true → k ∈ vis) → ks.Perm keys) := fun hall => hperm.trans ((List.perm_ext_iff_of_nodup hit.nodup hnd).2 fun x => ⟨hin x, fun hx => hall x (by rw [hfs]; exact (hk x).2 hx)⟩)
    have HM := Lib.hid hm
    have HPm := Lib.hid hperm
    clear hm hperm
    go_wp2_with (first
      | (at_next
         refine wpl_next rfl (.tmp 31) rfl rfl hit ?_ ?_
         intro w4 hm4 hall
         have hown4 := owns_mod hown hm4 (fun _ x => x.elim)
         have hkp : ks.Perm keys := HKP.out hall
         have hkl : 0 < ks.length ∧ ks.length ≤ 12 := by have h1 := hkp.length_eq; omega
         have HP4 := Lib.hid ((HP2.out.non HM.out).non hm4)
         have HM4 := Lib.hid (HM.out.trans hm4)
         rotate_left
         intro w4 k v' left' hm4 hfk hnv hlt hit2 hent
         have hown4 := owns_mod hown hm4 (fun b hb => by cases hb; exact Nat.lt_succ_self _)
         have hlt4 := hit2.lt
         have hone : ∀ (W : World), RowAt (W.alloc (.cells #[.int .u32 (k : Int)] 55)) (some ⟨W.heap.size, 0, none⟩) 1 1 [.int .u32 (k : Int)] := fun W =>
           ⟨rfl, fun _ => ⟨_, rfl, fun j u hu => by rw [add_lit, (Blk.new W _ _).cell]; simpa using hu⟩⟩
         have h1c : ∀ u ∈ [Value.int .u32 (k : Int)], u.oneCell' = true := by simp [Value.oneCell']
         rotate_left)
      | (at_builtin; refine wpl_append rfl (.tmp 36) (.tmp 38) _ rfl (w2.heap.size + 1) 55 i0 (.int .u32 0) 1 4 und_u32s hi hz0 hz1 hz2 rfl (by omega) rfl (hown4.alloc _) rfl (hone w4) h1c hml (by omega) (by simp; omega) ?_; intro v' w5 hown5 hg5 hnil5)
      | (go_at_call 46; refine (sort_row hown4 hkl.1 hkl.2).mono ?_; rintro e w5 ⟨rfl, l, hpl, hown5, hm5⟩
         have HP5 := Lib.hid (HP4.out.mod hm5 (fun b hb hs => absurd (hown4.lt b hs).1 (by have h1 := HP2.out.lt hb; omega)))
         have HM5 := Lib.hid (HM4.out.andThen hm5 (fun b hb hlt => absurd (hown4.lt b hb).1 (by omega)))
         obtain ⟨Al, cl, rfl, _, hrl, _⟩ := owns_form hown5
         have hkl2 : l.length ≤ 8192 := by have h1 := hpl.length_eq; omega
         have HR := Lib.hid (record_ok HP5.out hroot Al cl l hrl (fun n hn => hkb n (hkp.mem_iff.1 (hpl.mem_iff.1 hn))) hkl2)
         have HL2 := Lib.hid (hpl.trans hkp)
         clear hown4 hown5 hpl hkp hm5 hrl)
      | (go_at_call 47; refine HR.out.mono ?_; rintro e w6 ⟨vb, rfl, hob, hm6⟩; obtain ⟨Ab, cb, rfl, _, _, _⟩ := owns_form hob))
    · have HO6 := Lib.hid hob
      have h6 := HP5.out.non hm6
      have c6 := h6.blk.cell
      unfold Pg.cells at c6
      obtain ⟨nm, hnm⟩ := h6.now.len
      have hnm5 : nm ≤ 4294967296 := h6.now.len_le hnm (fun k hk => hfew k (by unfold mapV at hk; simpa using hk))
      have hrl : G.size + (G.record l).length ≤ 8192 := by rw [record_perm HL2.out]; exact hshort
      have hm6d : Mod Non w1 w6 := (HM2.out.trans HM5.out).trans hm6
      have HP6 := Lib.hid h6
      have HM6 := Lib.hid hm6d
      clear hob h6 hm6d hm6
      refine wp_region_quiet_lit (by kernel_rfl) (by kernel_rfl) ?_
      iterate 11 go_big_quiet_step (fail)
      go_big_quiet_want
      refine quiet_lenMap (.tmp 55) rfl rfl und_mapPage rfl (n := nm) (by rintro W ⟨q, rfl⟩; exact hnm.drewN q) ?_
      go_frame
      go_big_quiet_on
      iterate 5 go_big_quiet_step (fail)
      refine wpQuiet_nil ?_
      rintro w7 ⟨nq2, rfl⟩
      have hm7 : Mod Non w6 (w6.drewN nq2) := (Mod.refl _ _).drewN nq2
      have HP7 := Lib.hid (HP6.out.non hm7)
      have HM7 := Lib.hid (HM6.out.trans hm7)
      have HO7 := Lib.hid (owns_mod HO6.out hm7 (fun _ x => x.elim))
      have c7 := HP7.out.blk.cell
      unfold Pg.cells at c7
      generalize w6.drewN nq2 = w7 at *
      clear hm7 c6 hnm
      have hrow7 : RowAt w7 Ab (G.record l).length 1 (bv (G.record l)) := by
        obtain ⟨A', c', e', _, hr', _⟩ := owns_form HO7.out
        cases e'
        exact hr'
      have hroom' : (G.record l).length ≤ D.left ∧ (G.record l).length + (D.by_ f).length ≤ 1048576 := by rw [record_perm HL2.out]; exact hroom
      have HA := Lib.hid (append_ok (HD.out.non HM7.out) nameB may_name f HL.out Ab (G.record l).length cb (G.record l) hrow7 hroom')
      unfold nameB at HA
      clear hrow7
      go_wp2_with (first
        | (go_at_call 48; refine HA.out.mono ?_; rintro e w8 ⟨rfl, vf, hst8⟩
           have HP8 := Lib.hid (HP7.out.mod hst8.mod hap)
           have HS := Lib.hid (sync_ok hst8.rep nameB may_name f HL.out)
           have c8 := HP8.out.blk.cell
           unfold Pg.cells at c8
           have HS8 := Lib.hid hst8
           unfold nameB at HS
           clear hst8)
        | (go_at_call 49; refine HS.out.mono ?_; rintro e w9 ⟨rfl, hst9⟩
           have HP9 := Lib.hid (HP8.out.mod hst9.mod (fun b hb hd => (HS8.out.old b hd).elim (hap b hb) (fun h => by have h1 := HP7.out.lt hb; omega)))
           have c9 := HP9.out.blk.cell
           have f9 := HP9.out.blk.frozen
           unfold Pg.cells at c9
           have HS9 := Lib.hid hst9
           clear hst9)
        | (go_at_call 43; refine (keep_ok (HP9.out.setSize (G.size + (G.record l).length))).mono ?_; rintro e w10 ⟨rfl, hrep10, hm10⟩))
      go_ret
      have h9 := HS9.out
      have e1 : (D.setFile f vf (D.by_ f ++ G.record l) (D.sure f)).fv f = vf := upd_same _ _ _
      have e2 : (D.setFile f vf (D.by_ f ++ G.record l) (D.sure f)).by_ f = D.by_ f ++ G.record l := upd_same _ _ _
      rw [e1, e2] at h9
      have hs7 := HM7.out.size
      have hs8 := HS8.out.mod.size
      have hold : ∀ b, DS G.d ((D.setFile f vf (D.by_ f ++ G.record l) (D.sure f)).setFile f vf (D.by_ f ++ G.record l) (D.by_ f ++ G.record l).length) b → DS G.d D b ∨ w7.heap.size ≤ b := fun b hb =>
        (h9.old b hb).elim (HS8.out.old b) (fun h => .inr (by omega))
      have hapn : ∀ b, PS p G b → ¬ DS G.d ((D.setFile f vf (D.by_ f ++ G.record l) (D.sure f)).setFile f vf (D.by_ f ++ G.record l) (D.by_ f ++ G.record l).length) b := fun b hb hd =>
        (hold b hd).elim (hap b hb) (fun h => by have h1 := HP7.out.lt hb; omega)
      have hm9 : Mod (fun b => PS p G b ∨ DS G.d D b) w1 w9 := ((HM7.out.mono (fun _ x => x.elim)).trans (HS8.out.mod.mono (fun _ x => .inr x))).andThen HS9.out.mod (fun b hb hlt => (HS8.out.old b hb).elim .inr (fun h => by omega))
      have hm9c := hm9.setCell (p := ⟨p, 6, none⟩) (.inl (.inl (.inl rfl))) (.int .i64 (G.size + (G.record l).length : Nat))
      refine ⟨rfl, l, vf, HL2.out, (h9.rep.mod ((Mod.refl (One p) w9).setCell (p := ⟨p, 6, none⟩) (.inl rfl) _) (fun b hb e => ?_)).mod hm10 (fun b hb hp => hapn b hp hb), fun b hb => (hold b hb).imp id (fun h => by omega), by rw [← record_perm HL2.out]; exact hrep10, hm9c.trans (hm10.mono (fun _ x => .inl x))⟩
      cases e
      exact hapn p (.inl rfl) hb
    · have hit5 : IterRep w5 w2.heap.size G.m3 fd (k :: vis) left' := (hit2.mod ((Mod.refl Non w4).alloc _) (fun x => x) (fun x => x)).mod (Mod.of_grown hg5 (S := fun b => w2.heap.size + 1 ≤ b) (fun b hb => (hown4.lt b hb).1)) (fun hb => by have h1 := HP2.out.lt (b := G.m3) (.inr (.inr (.inr rfl))); omega) (fun hb => by omega)
      have HLe := Lib.hid hit.left_eq
      have HLe5 := Lib.hid hit5.left_eq
      have hmw4 : Mod Non w2 w4 := HM.out.andThen hm4 (fun b hb hlt => by cases hb; omega)
      go_roundw
      case rel =>
        refine ⟨k :: vis, left', ks ++ [k], hit5, ?_, by simpa [uv] using hown5, (hmw4.alloc _).owned (hown4.alloc _) hg5 (Nat.le_succ _)⟩
        exact (List.perm_append_comm.trans (HPm.out.cons k))
      case measure =>
        rw [HLe.out, HLe5.out]
        exact hlt
end
end Go.Proofs.YtgillcppnpkkiaaGreatDoor

namespace Go.Proofs.YtgillcppnpkkiaaGreatDoor
open Go Go.RowKit
section
variable {w : World} {p d m1 m2 m3 : Nat} {G : Pg} {D : Dk}
/-- A pager on a new disk. -/
def LG (d m1 m2 m3 : Nat) : Pg := { Pg.new d m1 m2 m3 with size := 2 }

set_option maxRecDepth 100000 in
theorem opened_ok (w : World) : Calls Tryz.prog 35 #[] w fun e w' => ∃ d p m1 m2 m3 D f, e = .returned (.tuple #[.pointer (some ⟨d, 0, none⟩), .pointer (some ⟨p, 0, none⟩)]) ∧
    PagRep w' p (LG d m1 m2 m3) ∧ DiskRep w' d D ∧ (∀ b, PS p (LG d m1 m2 m3) b → w.heap.size ≤ b) ∧ (∀ b, DS d D b → w.heap.size ≤ b) ∧ Apart p (LG d m1 m2 m3) D ∧
    D.size = 4194304 ∧ D.now = [(nameB, f)] ∧ (D.by_ f).length = 2 ∧ Mod Non w w' := by
  go_enter Tryz.func35, Tryz.ntmps35
  go_wp2_with (first
    | (go_at_call 6; refine (disk_new w 4194304 (by decide) (by decide)).mono ?_; rintro e w1 ⟨d, rfl, hd1, hdr, hm1⟩
       have HM1 := Lib.hid hm1
       have HO := Lib.hid (open_new hdr (by decide))
       clear hdr hm1)
    | (go_at_call 7; refine HO.out.mono ?_; rintro e w2 ⟨p, m1, m2, m3, D, f, rfl, hrep, hdr, hps, hap, hz, hn, hl, hds, hm2⟩
       have HX := Lib.hid (And.intro hrep (And.intro hdr (And.intro hps (And.intro hap (And.intro hz (And.intro hn (And.intro hl (And.intro hds hm2))))))))
       clear hrep hdr hps hap hz hn hl hds hm2))
  go_ret2
  obtain ⟨hrep, hdr, hps, hap, hz, hn, hl, hds, hm2⟩ := HX.out
  have hs := HM1.out.size
  exact ⟨d, p, m1, m2, m3, D, f, rfl, hrep, hdr, fun b hb => Nat.le_trans hs (hps b hb), fun b hb => (hds b hb).elim (fun e => by omega) (fun e => by omega), hap, hz, hn, hl, HM1.out.andThen hm2 (fun b hb hlt => by cases hb; omega)⟩

theorem commit_nil (w : World) : Calls Tryz.prog 13 #[.pointer none] w fun e w' => e = .returned (.int .i64 2) ∧ w' = w := by
  go_enter Tryz.func13, Tryz.ntmps13
  go_wp2_with (go_at_call 44; refine there_nil.mono ?_; rintro e w1 ⟨rfl, rfl⟩)
  go_ret
  exact ⟨rfl, rfl⟩

theorem record_le (hlen : ∀ n x, G.now n = some x → x.length = 256) (l : List Nat) : (G.record l).length ≤ 20 + l.length * 267 := by
  have h1 := recB_le hlen l
  unfold Pg.record Pg.body
  rw [List.length_append, enc_length]
  have h3 := vlen_le (enc G.root ++ recB G l).length
  rw [List.length_append, enc_length] at h3 ⊢
  have h2 := vlen_le G.root
  omega
theorem rows_row (w : World) (l : List UInt8) : RowAt (w.alloc (.cells (bv l).toArray 5)) (some ⟨w.heap.size, 0, none⟩) l.length 1 (bv l) := ⟨by rw [bv_length]; omega, fun _ => ⟨_, rfl, fun j y hy => by
  rw [add_lit, (Blk.new w 5 (bv l).toArray).cell]
  simpa using hy⟩⟩
end
end Go.Proofs.YtgillcppnpkkiaaGreatDoor
