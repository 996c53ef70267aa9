/- slices.Insert behind all; Create in an empty list. -/
import Derived.Test.YtmclbechnfedmaaAppend
namespace Go.Proofs.Ytmclbechnfedmaa
open Go Go.RowKit

theorem und_entries : Try.prog.underlying 63 = some (.slice 73) := by kernel_rfl
theorem info_entry : (Try.prog.info? 73).map (fun i => (i.zero.map (fun z => z.cells.size), i.size, i.bytes)) = some (some 2, 2, 24) := by kernel_rfl
theorem entry_info : ∃ i z, Try.prog.info? 73 = some i ∧ i.zero = some z ∧ z.cells.size = 2 ∧ i.size = 2 ∧ i.bytes = 24 := by
  have h := info_entry
  cases hi : Try.prog.info? 73 with
  | none => rw [hi] at h; simp at h
  | some i =>
    rw [hi] at h
    cases hz : i.zero with
    | none => simp [hz] at h
    | some z =>
      simp [hz] at h
      exact ⟨i, z, rfl, hz, h.1, h.2.1, h.2.2⟩

section
variable {P : Program} {w : World}
theorem run_append_types {t t' ty e : TypeId} (ht : P.underlying t = some (.slice e)) (ht' : P.underlying t' = some (.slice e)) {i : TypeInfo} (hi : P.info? e = some i) (A B : Option Addr) (n c m k : Nat) :
    (Builtin.append_ #[t, t'] ty #[.slice A n c, .slice B m k]).run P w = (Builtin.append_ #[t, t] ty #[.slice A n c, .slice B m k]).run P w := by
  simp [Builtin.append_, run_underlying ht, run_underlying ht', sizeOf, typeInfo, hi]
theorem wpl_append_two {ops : Array Oper} {rest : List Oper} {o : Oper} {a : Act} {Q : Exit → Act → World → Prop} (hg : o.guard = none) (s x : Operand) (t t' : TypeId)
    (ho : o.op = .call { callee := .builtin .append, args := #[s, x], argTypes := #[t, t'] })
    (base : Nat) (e : TypeId) (i : TypeInfo) (z : Value) (size bytes : Nat) (ht : P.underlying t = some (.slice e)) (ht' : P.underlying t' = some (.slice e)) (hi : P.info? e = some i) (hz : i.zero = some z)
    (hsize : i.size = size) (hby : i.bytes = bytes) (hzs : z.cells.size = size) (hsz : 0 < size)
    {v : Value} {n : Nat} {xs : List Value} (hs : a.eval s = v) (hown : w.ownsRow base e size v n xs) {A : Option Addr} {m c : Nat} {news : List Value} (hx : a.eval x = .slice A m c) (hr : RowAt w A m size news) (h1 : ∀ u ∈ news, u.oneCell' = true)
    (h63 : n + m ≤ maxLen) (hbytes : (n + m) * bytes ≤ 140737488355328) (hbase : base ≤ w.heap.size)
    (h : ∀ v' w', w'.ownsRow base e size v' (n + m) (xs ++ news) → w.grownBy w' v.ownBlock → (v' = .slice none 0 0 ↔ v = .slice none 0 0 ∧ m = 0) → (v'.ownBlock = v.ownBlock ∨ v'.ownBlock = some w.heap.size) → wpList P ops Q rest (a.put o.dst v') w') : wpList P ops Q (o :: rest) a w := by
  obtain ⟨v', w', hrun, h2, h3, h4, h5⟩ := run_append_row_at (P := P) base t o.type e i z size bytes ht hi hz hsize hby hzs hsz hown (c := c) hr h1 h63 hbytes hbase
  obtain ⟨A0, c0, rfl, _⟩ := owns_form hown
  rw [← run_append_types ht ht' hi] at hrun
  refine wpl_run hg ?_ (h v' w' h2 h3 h4 h5)
  simp [execOp, ho, hs, hx, hrun, resolve, invoke, builtin]
end

section
variable {w w' : World}
set_option maxRecDepth 100000 in
theorem insert_end {v : Value} {l : List (ByteArray × Nat)} (hown : w.ownsRow 0 73 2 v l.length (ents l)) (hlen : l.length ≤ 64) (x : ByteArray × Nat) (A : Option Addr) (c : Nat) (hr : RowAt w A 1 2 (ent x)) :
    Calls Try.prog 29 #[v, .int .i64 l.length, .slice A 1 c] w fun e w' => ∃ v', e = .returned v' ∧ w'.ownsRow 0 73 2 v' (l.length + 1) (ents (l ++ [x])) ∧ w.grownBy w' v.ownBlock ∧ (v'.ownBlock = v.ownBlock ∨ v'.ownBlock = some w.heap.size) := by
  obtain ⟨i0, z0, hi, hz0, hz3, hz1, hz2⟩ := entry_info
  obtain ⟨A0, c0, rfl, hc0, _, _⟩ := owns_form hown
  have hone : ∀ u ∈ ent x, u.oneCell' = true := by intro u hu; exact ents_one [x] u (by simpa [ents] using hu)
  go_enter Try.func29, Try.ntmps29
  go_wp2_with (at_builtin; refine wpl_append_two rfl (.tmp 23) (.tmp 24) _ _ rfl 0 73 i0 z0 2 24 und_list und_entries hi hz0 hz1 hz2 hz3 (by omega) (v := .slice A0 l.length c0) rfl hown rfl hr hone (by unfold maxLen; omega) (by omega) (Nat.zero_le _) ?_
               intro v4 w4 ho4 hg4 hn4 ha4
               obtain ⟨A4, c4, rfl, hnc4, hr4, _⟩ := owns_form ho4)
  all_goals
    have hfin : w4.ownsRow 0 73 2 (.slice A4 (l.length + 1) c4) (l.length + 1) (ents (l ++ [x])) := by
      rw [ents_append]
      simpa [ents] using ho4
    go_ret
    refine ⟨.slice A4 (l.length + 1) c4, rfl, hfin, ?_, ?_⟩
    · cases A0 <;> exact hg4
    · cases A0 <;> exact ha4
end

section
variable {w w' : World} {d : Nat} {D : Dk} {S : Nat → Prop}
def Dk.create (D : Dk) (s : ByteArray) (vn : Value) (f : Nat) : Dk :=
  { D with vn := vn, now := D.now ++ [(s, f)], fv := upd D.fv f (.slice none 0 0), by_ := upd D.by_ f [], sure := upd D.sure f 0 }

theorem DiskRep.not_new (h : DiskRep w d D) {f : Nat} (hf : w.heap.size ≤ f) : ¬ D.isFile f := fun hk => by
  have := (h.file f hk).1.lt
  omega

theorem DiskRep.create (h : DiskRep w d D) {s : ByteArray} {f : Nat} {vn : Value} (hm : Mod S w w') (hS : ∀ b, S b → b = d ∨ D.vn.ownBlock = some b) (hf : w.heap.size ≤ f)
    (hb : Blk w' d 66 #[.int .i64 D.size, vn, D.vk]) (hfb : Blk w' f 75 #[.slice none 0 0, .int .i64 0])
    (hv : w'.ownsRow 0 73 2 vn (D.now.length + 1) (ents (D.now ++ [(s, f)]))) (hvn : ∀ b, vn.ownBlock = some b → D.vn.ownBlock = some b ∨ w.heap.size ≤ b)
    (hs : ∀ x ∈ D.now, nlt x.1 s = true) (hlen : D.now.length < 64) : DiskRep w' d (D.create s vn f) := by
  have hnf := h.not_new hf
  have hkeep : ∀ b, b < w.heap.size → b ≠ d → D.vn.ownBlock ≠ some b → w'.heap[b]? = w.heap[b]? := fun b hlt h1 h2 => hm.block b hlt (fun hs => (hS b hs).elim h1 h2)
  have hvk : ∀ b, D.vk.ownBlock = some b → w'.heap[b]? = w.heap[b]? := fun b hb' => by
    obtain ⟨cur, hc⟩ := own_blk h.kept hb'
    exact hkeep b hc.lt (hc.ne h.blk (by decide)) (fun e => h.rows b e hb')
  have old : ∀ g, D.isFile g → g ≠ f := fun g hg e => hnf (e ▸ hg)
  have hold : ∀ g, (D.create s vn f).isFile g → g = f ∨ D.isFile g := by
    rintro g ⟨x, hx | hx, rfl⟩
    · simp only [Dk.create, List.mem_append, List.mem_singleton] at hx
      rcases hx with hx | rfl
      · exact .inr ⟨x, .inl hx, rfl⟩
      · exact .inl rfl
    · exact .inr ⟨x, .inr hx, rfl⟩
  refine ⟨hb, by simpa [Dk.create] using hv, owns_keep h.kept hvk, fun b hb' hk => ?_, fun g hg => ?_, fun g k b hg hk hgk hb' => ?_, ?_, h.risingK, ?_, h.distinctK, ?_, h.lenK, h.s1, h.s2⟩
  · rcases hvn b hb' with e | e
    · exact h.rows b e hk
    · have := (h.kept.lt b hk).2
      omega
  · rcases hold g hg with rfl | hg
    · simp only [Dk.create, upd_same]
      exact ⟨hfb, World.ownsRow_nil _ _ _ _, Nat.le_refl _, Nat.zero_le _⟩
    · simp only [Dk.create, upd_other _ _ (old g hg)]
      obtain ⟨gb, gr, gs⟩ := h.file g hg
      refine ⟨(hkeep g gb.lt (gb.ne h.blk (by decide)) (own_blk_ne h.now gb (by decide))).trans gb, owns_keep gr (fun b hb' => ?_), gs⟩
      obtain ⟨cur, hc⟩ := own_blk gr hb'
      exact hkeep b hc.lt (hc.ne h.blk (by decide)) (own_blk_ne h.now hc (by decide))
  · simp only [Dk.create] at hb' ⊢
    rcases hold g hg with rfl | hg
    · rw [upd_same] at hb'
      simp [Value.ownBlock] at hb'
    · rw [upd_other _ _ (old g hg)] at hb'
      rcases hold k hk with rfl | hk
      · rw [upd_same]
        simp [Value.ownBlock]
      · rw [upd_other _ _ (old k hk)]
        exact h.sep g k b hg hk hgk hb'
  · exact List.pairwise_append.mpr ⟨h.rising, List.pairwise_singleton _ _, fun a ha b hb => by simp at hb; subst hb; exact hs a ha⟩
  · exact List.pairwise_append.mpr ⟨h.distinct, List.pairwise_singleton _ _, fun a ha b hb => by simp at hb; subst hb; exact old _ ⟨a, .inl ha, rfl⟩⟩
  · simp only [Dk.create, List.length_append, List.length_singleton]
    omega

theorem create_DS {s : ByteArray} {f : Nat} {vn : Value} (hf : w.heap.size ≤ f) (hvn : ∀ b, vn.ownBlock = some b → D.vn.ownBlock = some b ∨ w.heap.size ≤ b) {b : Nat} (hb : DS d (D.create s vn f) b) : DS d D b ∨ w.heap.size ≤ b := by
  rcases hb with h | h | h | ⟨g, ⟨x, hx, hg⟩, h⟩
  · exact .inl (.inl h)
  · exact (hvn b h).imp (fun e => .inr (.inl e)) id
  · exact .inl (.inr (.inr (.inl h)))
  · by_cases hgf : g = f
    · subst hgf
      rcases h with h | h
      · exact .inr (h ▸ hf)
      · simp only [Dk.create, upd_same] at h
        simp [Value.ownBlock] at h
    · have hg' : D.isFile g := by
        rcases hx with hx | hx
        · simp only [Dk.create, List.mem_append, List.mem_singleton] at hx
          rcases hx with hx | rfl
          · exact ⟨x, .inl hx, hg⟩
          · exact absurd hg.symm hgf
        · exact ⟨x, .inr hx, hg⟩
      simp only [Dk.create, upd_other _ _ hgf] at h
      exact .inl (.inr (.inr (.inr ⟨g, hg', h⟩)))

set_option maxHeartbeats 800000 in
set_option maxRecDepth 100000 in
theorem create_ok (h : DiskRep w d D) (s : ByteArray) (hm : mayB s = true) (hs : ∀ x ∈ D.now, nlt x.1 s = true) (hlen : D.now.length < 64) :
    Calls Try.prog 14 #[.pointer (some ⟨d, 0, none⟩), .string s] w fun e w' => e = .returned (.int .i64 0) ∧ ∃ vn f, w.heap.size ≤ f ∧ DStep w d D w' (D.create s vn f) := by
  have hp : IsPos D.now s D.now.length := ⟨Nat.le_refl _, fun k x hk _ => hs x (List.mem_of_getElem? hk), fun k x hk hle => by
    have := (List.getElem?_eq_some_iff.1 hk).1
    omega⟩
  have HA := Lib.hid (asked_ok h)
  have HT := Lib.hid (at_ok h s hm _ hp)
  have hfo : foundAt D.now s D.now.length = false := by simp [foundAt]
  rw [hfo] at HT
  have H := Lib.hid h
  clear h hp hfo
  go_enter Try.func14, Try.ntmps14
  go_wp2_with (first
    | (go_at_call 27; refine HA.out.mono ?_; rintro e w1 ⟨rfl, rfl⟩)
    | (go_at_call 28; refine HT.out.mono ?_; rintro e w1 ⟨rfl, hm1⟩
       obtain ⟨A1, c1, A2, c2, e1, e2, l1, l2, r1, r2⟩ := (H.out.non hm1).opens
       have hb := (H.out.non hm1).blk
       rw [e1, e2] at hb
       have cb := hb.cell
       have Hb := Lib.hid hb
       clear hb r1 r2
       have E1 := Lib.hid e1
       have hnow := (H.out.non hm1).now
       rw [e1] at hnow
       have E1 := Lib.hid e1
       have E2 := Lib.hid e2
       clear e1 e2
       have hmW : Mod Non w1 ((w1.alloc (.cells #[.slice none 0 0, .int .i64 0] 75)).alloc (.cells #[.string s, .pointer (some ⟨w1.heap.size, 0, none⟩)] 73)) := ((Mod.refl _ _).alloc _).alloc _
       have hfW := (Blk.new w1 75 #[.slice none 0 0, .int .i64 0]).alloc (.cells #[.string s, .pointer (some ⟨w1.heap.size, 0, none⟩)] 73)
       have heW := Blk.new (w1.alloc (.cells #[.slice none 0 0, .int .i64 0] 75)) 73 #[.string s, .pointer (some ⟨w1.heap.size, 0, none⟩)]
       have hsz1 : (w1.alloc (.cells #[.slice none 0 0, .int .i64 0] 75)).heap.size = w1.heap.size + 1 := by simp
       rw [hsz1] at heW
       have hrW : RowAt ((w1.alloc (.cells #[.slice none 0 0, .int .i64 0] 75)).alloc (.cells #[.string s, .pointer (some ⟨w1.heap.size, 0, none⟩)] 73)) (some ⟨w1.heap.size + 1, 0, none⟩) 1 2 (ent (s, w1.heap.size)) := ⟨rfl, fun _ => ⟨_, rfl, fun j u hu => by
         rw [add_lit, heW.cell]
         simpa [ent] using hu⟩⟩
       have HI := Lib.hid (insert_end (((H.out.non hm1).non hmW).now) (by omega) (s, w1.heap.size) _ 1 hrW)
       rw [E1.out] at HI
       have HW := Lib.hid hmW
       have FW := Lib.hid hfW
       clear hmW hfW heW hrW hnow hsz1)
    | (go_at_call 29; refine HI.out.mono ?_; rintro e w3 ⟨v3, rfl, ho3, hg3, ha3⟩
       obtain ⟨A3, c3, rfl, hc3, _, _⟩ := owns_form ho3
       have hm3 : Mod (fun k => D.vn.ownBlock = some k) w1 w3 := (HW.out.mono (fun _ x => x.elim)).trans (Mod.of_grown hg3 (fun k hk => by rw [E1.out]; exact hk))
       have hb3 := Hb.out.mod hm3 (own_blk_ne (H.out.non hm1).now Hb.out (by decide))
       have cb3 := hb3.cell
       have fb3 := hb3.frozen
       have HB3 := Lib.hid hb3
       clear hb3))
  go_ret
  have h1 := H.out.non hm1
  have hszW : w1.heap.size ≤ ((w1.alloc (.cells #[.slice none 0 0, .int .i64 0] 75)).alloc (.cells #[.string s, .pointer (some ⟨w1.heap.size, 0, none⟩)] 73)).heap.size := HW.out.size
  have hvn : ∀ b, (Value.slice A3 (D.now.length + 1) c3).ownBlock = some b → D.vn.ownBlock = some b ∨ w1.heap.size ≤ b := fun b hb => by
    rcases ha3 with e | e
    · exact .inl (by rw [E1.out, ← e]; exact hb)
    · rw [e] at hb; cases hb; exact .inr hszW
  have hf3 : Blk w3 w1.heap.size 75 #[.slice none 0 0, .int .i64 0] := FW.out.mod (Mod.of_grown (S := fun k => D.vn.ownBlock = some k) hg3 (fun k hk => by rw [E1.out]; exact hk)) (own_blk_ne (h1.non HW.out).now FW.out (by decide))
  have hlt : d < w1.heap.size := h1.blk.lt
  refine ⟨rfl, .slice A3 (D.now.length + 1) c3, w1.heap.size, hm1.size, DStep.after hm1 ⟨h1.create (S := fun b => b = d ∨ D.vn.ownBlock = some b) ((hm3.mono (fun b x => .inr x)).setCell (p := ⟨d, 1, none⟩) (.inl (.inl rfl)) _) (fun b x => x) (Nat.le_refl _) ?_ (hf3.far (fun e => by simp at e; omega) _) (owns_keep ho3 (fun b hb => Below.heap_setCell _ _ _ _ (fun e => own_blk_ne ho3 HB3.out (by decide) (by rw [hb, e])))) hvn hs hlen, (hm3.mono (T := DS d D) (fun b x => .inr (.inl x))).setCell (p := ⟨d, 1, none⟩) (.inl (.inl rfl)) _, fun b hb => create_DS (Nat.le_refl _) hvn hb⟩⟩
  have := HB3.out.set 1 (.slice A3 (D.now.length + 1) c3)
  rw [E2.out]
  exact this
end
end Go.Proofs.Ytmclbechnfedmaa
