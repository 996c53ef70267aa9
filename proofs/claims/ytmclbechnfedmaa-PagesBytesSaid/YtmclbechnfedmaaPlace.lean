/- Insert, Create at any place of the list. -/
import Derived.Test.YtmclbechnfedmaaInsert
namespace Go.Proofs.Ytmclbechnfedmaa
open Go Go.RowKit
def putAt {α : Type} (l : List α) (p : Nat) (x : α) : List α := l.take p ++ x :: l.drop p
theorem put_length {α : Type} {l : List α} {p : Nat} {x : α} (hp : p ≤ l.length) : (putAt l p x).length = l.length + 1 := by
  unfold putAt
  rw [List.length_append, List.length_cons, List.length_take, List.length_drop]
  omega
theorem mem_put {α : Type} {l : List α} {p : Nat} {x y : α} (h : y ∈ putAt l p x) : y = x ∨ y ∈ l := by
  rcases List.mem_append.1 h with h | h
  · exact .inr (List.mem_of_mem_take h)
  · rcases List.mem_cons.1 h with h | h
    · exact .inl h
    · exact .inr (List.mem_of_mem_drop h)
theorem pairwise_put {α : Type} {R : α → α → Prop} {l : List α} {p : Nat} {x : α} (h : l.Pairwise R) (h1 : ∀ a, a ∈ l.take p → a ∈ l → R a x) (h2 : ∀ a, a ∈ l.drop p → a ∈ l → R x a) : (putAt l p x).Pairwise R := by
  have h0 : (l.take p ++ l.drop p).Pairwise R := by rw [List.take_append_drop]; exact h
  obtain ⟨ha, hb, hc⟩ := List.pairwise_append.1 h0
  refine List.pairwise_append.2 ⟨ha, List.pairwise_cons.2 ⟨fun b hb' => h2 b hb' (List.mem_of_mem_drop hb'), hb⟩, fun a ha' b hb' => ?_⟩
  rcases List.mem_cons.1 hb' with rfl | hb'
  · exact h1 a ha' (List.mem_of_mem_take ha')
  · exact hc a ha' b hb'
theorem look_none {l : List (ByteArray × Nat)} {s : ByteArray} (h : look l s = none) : ∀ x ∈ l, x.1 ≠ s := by
  intro x hx e
  unfold look at h
  rw [Option.map_eq_none_iff, List.find?_eq_none] at h
  exact h x hx (by simp [e])
theorem not_found {l : List (ByteArray × Nat)} {s : ByteArray} {p : Nat} (_ : Rising l) (_ : IsPos l s p) (h : look l s = none) : foundAt l s p = false := by
  unfold foundAt
  cases hx : l[p]? with
  | none => rfl
  | some x =>
    have := look_none h x (List.mem_of_getElem? hx)
    simp [this]
theorem rising_put {l : List (ByteArray × Nat)} {s : ByteArray} {p f : Nat} (h : Rising l) (hp : IsPos l s p) (hno : look l s = none) : Rising (putAt l p (s, f)) := by
  refine pairwise_put h (fun a ha _ => ?_) (fun a ha hal => ?_)
  · obtain ⟨k, hk⟩ := List.mem_iff_getElem?.1 ha
    have hkp : k < p := by
      have := (List.getElem?_eq_some_iff.1 hk).1
      rw [List.length_take] at this
      omega
    rw [List.getElem?_take_of_lt hkp] at hk
    exact hp.2.1 k a hk hkp
  · obtain ⟨k, hk⟩ := List.mem_iff_getElem?.1 ha
    rw [List.getElem?_drop] at hk
    have h1 := hp.2.2 _ a hk (Nat.le_add_right _ _)
    cases h2 : nlt s a.1 with
    | true => rfl
    | false => exact absurd (nlt_tri h1 h2) (look_none hno a hal)
theorem look_append (l k : List (ByteArray × Nat)) (s : ByteArray) : look (l ++ k) s = (look l s).or (look k s) := by
  unfold look
  rw [List.find?_append]
  cases l.find? (fun x => decide (x.1 = s)) <;> simp
theorem look_cons (x : ByteArray × Nat) (l : List (ByteArray × Nat)) (s : ByteArray) : look (x :: l) s = if x.1 = s then some x.2 else look l s := by
  unfold look
  by_cases h : x.1 = s <;> simp [h]
theorem look_put_same {l : List (ByteArray × Nat)} {s : ByteArray} {p f : Nat} (hno : look l s = none) : look (putAt l p (s, f)) s = some f := by
  have h0 : look (l.take p ++ l.drop p) s = none := by rw [List.take_append_drop]; exact hno
  rw [look_append, Option.or_eq_none_iff] at h0
  unfold putAt
  rw [look_append, h0.1, look_cons]
  simp
theorem look_put_other {l : List (ByteArray × Nat)} {s t : ByteArray} {p f : Nat} (hne : s ≠ t) : look (putAt l p (s, f)) t = look l t := by
  conv => rhs; rw [← List.take_append_drop p l]
  unfold putAt
  rw [look_append, look_append, look_cons]
  simp [hne]

section
variable {w w' : World}
theorem ent_row {W : World} {vb : Nat} {x : ByteArray × Nat} (hx : Blk W vb 73 (ent x).toArray) : RowAt W (some ⟨vb, 0, none⟩) 1 2 (ent x) := ⟨rfl, fun _ => ⟨_, rfl, fun j u hu => by
  rw [add_lit, hx.cell]
  simpa using hu⟩⟩
theorem insert_any {v : Value} {l : List (ByteArray × Nat)} (hown : w.ownsRow 0 73 2 v l.length (ents l)) (hlen : l.length ≤ 64) (x : ByteArray × Nat) (vb : Nat)
    (hx : Blk w vb 73 (ent x).toArray) (hvb : v.ownBlock ≠ some vb) (p : Nat) (hp : p ≤ l.length) :
    Calls Try.prog 29 #[v, .int .i64 p, .slice (some ⟨vb, 0, none⟩) 1 1] w fun e w' => ∃ v', e = .returned v' ∧ w'.ownsRow 0 73 2 v' (l.length + 1) (ents (putAt l p x)) ∧
      Mod (fun k => v.ownBlock = some k) w w' ∧ (v'.ownBlock = v.ownBlock ∨ v'.ownBlock = some w.heap.size) := by
  by_cases hpl : p = l.length
  · subst hpl
    refine (insert_end hown hlen x _ 1 (ent_row hx)).mono ?_
    rintro e w' ⟨v', he, ho, hg, ha⟩
    refine ⟨v', he, ?_, Mod.of_grown hg (fun k hk => hk), ha⟩
    unfold putAt
    rw [List.take_length, List.drop_length]
    exact ho
  · have hlt : p < l.length := by omega
    rcases hown.2 with ⟨_, h0⟩ | ⟨g, cap, cur, rfl, hb, hg, hnc, r⟩
    · omega
    · by_cases hroom : l.length < cap
      · refine (insert_shift hown hlen x vb hx (fun e => hvb (by rw [e]; rfl)) p hlt hroom).mono ?_
        rintro e w' ⟨he, ho, hm⟩
        exact ⟨_, he, ho, hm.mono (fun b hb => by cases hb; rfl), .inl rfl⟩
      · obtain rfl : cap = l.length := by omega
        refine (insert_grow hown hlen x vb hx p hlt).mono ?_
        rintro e w' ⟨c, he, ho, hm⟩
        exact ⟨_, he, ho, hm.mono (fun _ hb => hb.elim), .inr rfl⟩
end

section
variable {w w' : World} {d : Nat} {D : Dk} {S : Nat → Prop}
def Dk.add (D : Dk) (p : Nat) (s : ByteArray) (vn : Value) (f : Nat) : Dk :=
  { D with vn := vn, now := putAt D.now p (s, f), fv := upd D.fv f (.slice none 0 0), by_ := upd D.by_ f [], sure := upd D.sure f 0 }

theorem DiskRep.add (h : DiskRep w d D) {p : Nat} {s : ByteArray} {f : Nat} {vn : Value} (hm : Mod S w w') (hS : ∀ b, S b → b = d ∨ D.vn.ownBlock = some b) (hf : w.heap.size ≤ f)
    (hb : Blk w' d 66 #[.int .i64 D.size, vn, D.vk]) (hfb : Blk w' f 75 #[.slice none 0 0, .int .i64 0])
    (hv : w'.ownsRow 0 73 2 vn (D.now.length + 1) (ents (putAt D.now p (s, f)))) (hvn : ∀ b, vn.ownBlock = some b → D.vn.ownBlock = some b ∨ w.heap.size ≤ b)
    (hp : IsPos D.now s p) (hno : look D.now s = none) (hlen : D.now.length < 64) : DiskRep w' d (D.add p s vn f) := by
  have hnf := h.not_new hf
  have hkeep : ∀ b, b < w.heap.size → b ≠ d → D.vn.ownBlock ≠ some b → w'.heap[b]? = w.heap[b]? := fun b hlt h1 h2 => hm.block b hlt (fun hs => (hS b hs).elim h1 h2)
  have hvk : ∀ b, D.vk.ownBlock = some b → w'.heap[b]? = w.heap[b]? := fun b hb' => by
    obtain ⟨cur, hc⟩ := own_blk h.kept hb'
    exact hkeep b hc.lt (hc.ne h.blk (by decide)) (fun e => h.rows b e hb')
  have old : ∀ g, D.isFile g → g ≠ f := fun g hg e => hnf (e ▸ hg)
  have hold : ∀ g, (D.add p s vn f).isFile g → g = f ∨ D.isFile g := by
    rintro g ⟨x, hx | hx, rfl⟩
    · rcases mem_put hx with rfl | hx
      · exact .inl rfl
      · exact .inr ⟨x, .inl hx, rfl⟩
    · exact .inr ⟨x, .inr hx, rfl⟩
  refine ⟨hb, by rw [show (D.add p s vn f).now.length = D.now.length + 1 from put_length hp.1]; exact hv, owns_keep h.kept hvk, fun b hb' hk => ?_, fun g hg => ?_, fun g k b hg hk hgk hb' => ?_, ?_, h.risingK, ?_, h.distinctK, ?_, h.lenK, h.s1, h.s2⟩
  · rcases hvn b hb' with e | e
    · exact h.rows b e hk
    · have := (h.kept.lt b hk).2
      omega
  · rcases hold g hg with rfl | hg
    · simp only [Dk.add, upd_same]
      exact ⟨hfb, World.ownsRow_nil _ _ _ _, Nat.le_refl _, Nat.zero_le _⟩
    · simp only [Dk.add, upd_other _ _ (old g hg)]
      obtain ⟨gb, gr, gs⟩ := h.file g hg
      refine ⟨(hkeep g gb.lt (gb.ne h.blk (by decide)) (own_blk_ne h.now gb (by decide))).trans gb, owns_keep gr (fun b hb' => ?_), gs⟩
      obtain ⟨cur, hc⟩ := own_blk gr hb'
      exact hkeep b hc.lt (hc.ne h.blk (by decide)) (own_blk_ne h.now hc (by decide))
  · simp only [Dk.add] at hb' ⊢
    rcases hold g hg with rfl | hg
    · rw [upd_same] at hb'
      simp [Value.ownBlock] at hb'
    · rw [upd_other _ _ (old g hg)] at hb'
      rcases hold k hk with rfl | hk
      · rw [upd_same]
        simp [Value.ownBlock]
      · rw [upd_other _ _ (old k hk)]
        exact h.sep g k b hg hk hgk hb'
  · exact rising_put h.rising hp hno
  · exact pairwise_put (R := fun a b => a.2 ≠ b.2) (p := p) (x := (s, f)) h.distinct (fun a _ ha => old _ ⟨a, .inl ha, rfl⟩) (fun a _ ha (e : f = a.2) => old _ ⟨a, .inl ha, rfl⟩ e.symm)
  · rw [show (D.add p s vn f).now.length = D.now.length + 1 from put_length hp.1]
    omega

theorem add_DS {p : Nat} {s : ByteArray} {f : Nat} {vn : Value} (hf : w.heap.size ≤ f) (hvn : ∀ b, vn.ownBlock = some b → D.vn.ownBlock = some b ∨ w.heap.size ≤ b) {b : Nat} (hb : DS d (D.add p s vn f) b) : DS d D b ∨ w.heap.size ≤ b := by
  rcases hb with h | h | h | ⟨g, ⟨x, hx, hg⟩, h⟩
  · exact .inl (.inl h)
  · exact (hvn b h).imp (fun e => .inr (.inl e)) id
  · exact .inl (.inr (.inr (.inl h)))
  · by_cases hgf : g = f
    · subst hgf
      rcases h with h | h
      · exact .inr (h ▸ hf)
      · simp only [Dk.add, upd_same] at h
        simp [Value.ownBlock] at h
    · have hg' : D.isFile g := by
        rcases hx with hx | hx
        · rcases mem_put hx with rfl | hx
          · exact absurd hg.symm hgf
          · exact ⟨x, .inl hx, hg⟩
        · exact ⟨x, .inr hx, hg⟩
      simp only [Dk.add, upd_other _ _ hgf] at h
      exact .inl (.inr (.inr (.inr ⟨g, hg', h⟩)))

set_option maxHeartbeats 800000 in
set_option maxRecDepth 100000 in
theorem create_any (h : DiskRep w d D) (s : ByteArray) (hm : mayB s = true) (p : Nat) (hp : IsPos D.now s p) (hno : look D.now s = none) (hlen : D.now.length < 64) :
    Calls Try.prog 14 #[.pointer (some ⟨d, 0, none⟩), .string s] w fun e w' => e = .returned (.int .i64 0) ∧ ∃ vn f, w.heap.size ≤ f ∧ DStep w d D w' (D.add p s vn f) := by
  have HA := Lib.hid (asked_ok h)
  have HT := Lib.hid (at_ok h s hm _ hp)
  have hfo : foundAt D.now s p = false := not_found h.rising hp hno
  rw [hfo] at HT
  have H := Lib.hid h
  have HPos := Lib.hid hp
  have HNo := Lib.hid hno
  have hpl := hp.1
  clear h hp hno hfo
  go_enter Try.func14, Try.ntmps14
  go_wp2_with (first
    | (go_at_call 27; refine HA.out.mono ?_; rintro e w1 ⟨rfl, rfl⟩)
    | (go_at_call 28; refine HT.out.mono ?_; rintro e w1 ⟨rfl, hm1⟩
       obtain ⟨A1, c1, A2, c2, e1, e2, l1, l2, r1, r2⟩ := (H.out.non hm1).opens
       have hb := (H.out.non hm1).blk
       rw [e1, e2] at hb
       have cb := hb.cell
       have Hb := Lib.hid hb
       clear hb r1 r2
       have E1 := Lib.hid e1
       have hnow := (H.out.non hm1).now
       rw [e1] at hnow
       have E1 := Lib.hid e1
       have E2 := Lib.hid e2
       clear e1 e2
       have hmW : Mod Non w1 ((w1.alloc (.cells #[.slice none 0 0, .int .i64 0] 75)).alloc (.cells #[.string s, .pointer (some ⟨w1.heap.size, 0, none⟩)] 73)) := ((Mod.refl _ _).alloc _).alloc _
       have hfW := (Blk.new w1 75 #[.slice none 0 0, .int .i64 0]).alloc (.cells #[.string s, .pointer (some ⟨w1.heap.size, 0, none⟩)] 73)
       have heW := Blk.new (w1.alloc (.cells #[.slice none 0 0, .int .i64 0] 75)) 73 #[.string s, .pointer (some ⟨w1.heap.size, 0, none⟩)]
       have hsz1 : (w1.alloc (.cells #[.slice none 0 0, .int .i64 0] 75)).heap.size = w1.heap.size + 1 := by simp
       rw [hsz1] at heW
       have hvbW : D.vn.ownBlock ≠ some (w1.heap.size + 1) := fun e => by have := ((H.out.non hm1).now.lt _ e).2; omega
       have HI := Lib.hid (insert_any (((H.out.non hm1).non hmW).now) (by omega) (s, w1.heap.size) (w1.heap.size + 1) heW hvbW p hpl)
       rw [E1.out] at HI
       have HW := Lib.hid hmW
       have FW := Lib.hid hfW
       clear hmW hfW heW hvbW hnow hsz1)
    | (go_at_call 29; refine HI.out.mono ?_; rintro e w3 ⟨v3, rfl, ho3, hg3, ha3⟩
       obtain ⟨A3, c3, rfl, hc3, _, _⟩ := owns_form ho3
       have hm3 : Mod (fun k => D.vn.ownBlock = some k) w1 w3 := (HW.out.mono (fun _ x => x.elim)).trans ((E1.out ▸ hg3))
       have hb3 := Hb.out.mod hm3 (own_blk_ne (H.out.non hm1).now Hb.out (by decide))
       have cb3 := hb3.cell
       have fb3 := hb3.frozen
       have HB3 := Lib.hid hb3
       clear hb3))
  go_ret
  have h1 := H.out.non hm1
  have hszW : w1.heap.size ≤ ((w1.alloc (.cells #[.slice none 0 0, .int .i64 0] 75)).alloc (.cells #[.string s, .pointer (some ⟨w1.heap.size, 0, none⟩)] 73)).heap.size := HW.out.size
  have hvn : ∀ b, (Value.slice A3 (D.now.length + 1) c3).ownBlock = some b → D.vn.ownBlock = some b ∨ w1.heap.size ≤ b := fun b hb => by
    rcases ha3 with e | e
    · exact .inl (by rw [E1.out, ← e]; exact hb)
    · rw [e] at hb; cases hb; exact .inr hszW
  have hf3 : Blk w3 w1.heap.size 75 #[.slice none 0 0, .int .i64 0] := FW.out.mod ((E1.out ▸ hg3)) (own_blk_ne (h1.non HW.out).now FW.out (by decide))
  have hlt : d < w1.heap.size := h1.blk.lt
  refine ⟨rfl, .slice A3 (D.now.length + 1) c3, w1.heap.size, hm1.size, DStep.after hm1 ⟨h1.add (S := fun b => b = d ∨ D.vn.ownBlock = some b) ((hm3.mono (fun b x => .inr x)).setCell (p := ⟨d, 1, none⟩) (.inl (.inl rfl)) _) (fun b x => x) (Nat.le_refl _) ?_ (hf3.far (fun e => by simp at e; omega) _) (owns_keep ho3 (fun b hb => Below.heap_setCell _ _ _ _ (fun e => own_blk_ne ho3 HB3.out (by decide) (by rw [hb, e])))) hvn HPos.out HNo.out hlen, (hm3.mono (T := DS d D) (fun b x => .inr (.inl x))).setCell (p := ⟨d, 1, none⟩) (.inl (.inl rfl)) _, fun b hb => add_DS (Nat.le_refl _) hvn hb⟩⟩
  have := HB3.out.set 1 (.slice A3 (D.now.length + 1) c3)
  rw [E2.out]
  exact this
end
end Go.Proofs.Ytmclbechnfedmaa
