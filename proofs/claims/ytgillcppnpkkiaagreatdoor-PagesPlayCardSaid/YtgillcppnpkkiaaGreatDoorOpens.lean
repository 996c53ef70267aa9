/- A record is read back; what is behind a file that is whole is read as if it stood alone. Open, on a disk without the file. Open, on a disk with the file. What a failure leaves of a file; two rows of bytes that are the same. Fail, without more bytes and names. Fail, without more bytes and names: the walk. -/
import Derived.Test.YtgillcppnpkkiaaGreatDoorMark
import Derived.Lib.ItoaNum
namespace Go.Proofs.YtgillcppnpkkiaaGreatDoor
open Go Go.RowKit

theorem vlen_fits {n : Nat} (hn : n < 18446744073709551616) : n < 2 ^ (7 * vlen n) ∧ (vlen n = 1 ∨ 2 ^ (7 * (vlen n - 1)) ≤ n) := by
  by_cases h0 : n = 0
  · subst h0
    exact ⟨Nat.pow_pos (by decide), .inl rfl⟩
  · obtain ⟨h1, h2, h3⟩ := Lib.bitLenAux_bounds 64 n hn h0
    have e : Lib.bitLenAux 64 n = Lib.bitLen n := rfl
    rw [e] at h1 h2 h3
    constructor
    · refine Nat.lt_of_lt_of_le h3 (Nat.pow_le_pow_right (by decide) ?_)
      unfold vlen
      omega
    · by_cases hv : vlen n = 1
      · exact .inl hv
      · refine .inr (Nat.le_trans (Nat.pow_le_pow_right (by decide) ?_) h2)
        unfold vlen at hv ⊢
        omega

theorem dec_encK : ∀ (j k v m : Nat) (r : List UInt8), m < 2 ^ (7 * (j + 1)) → (j = 0 ∨ 2 ^ (7 * j) ≤ m) → (0 < k → 0 < m) → m * 2 ^ (7 * k) < 18446744073709551616 → k + j + 1 ≤ 10 →
    dec k v (encK (j + 1) m ++ r) = .ok (v + m * 2 ^ (7 * k)) (k + j + 1)
  | 0, k, v, m, r, hm, _, hk, hlt, hkj => by
    have hm' : m < 128 := by simpa using hm
    have e : encK 1 m = [UInt8.ofNat (m % 128)] := rfl
    have hx : (UInt8.ofNat (m % 128)).toNat = m := by
      rw [UInt8.toNat_ofNat']
      omega
    rw [e, List.singleton_append, dec_cons, hx, if_neg (by omega), if_neg (by omega)]
    have hk9 : k = 9 → m ≤ 1 := fun e => by
      subst e
      have : (2 : Nat) ^ (7 * 9) = 9223372036854775808 := by decide
      omega
    rw [if_neg (by
      rintro (⟨h1, h2⟩ | ⟨h1, h2⟩)
      · have := hk h1; omega
      · have := hk9 h1; omega)]
    congr 1
    unfold nxt
    by_cases h9 : k = 9
    · rw [if_pos h9]
      have := hk9 h9
      rw [show m % 2 = m by omega]
    · rw [if_neg h9, show m % 128 = m by omega]
  | j + 1, k, v, m, r, hm, hmin, hk, hlt, hkj => by
    have e : encK (j + 2) m = UInt8.ofNat (m % 128 + 128) :: encK (j + 1) (m / 128) := rfl
    have hx : (UInt8.ofNat (m % 128 + 128)).toNat = m % 128 + 128 := by
      rw [UInt8.toNat_ofNat']
      omega
    have hp : 2 ^ (7 * (k + 1)) = 128 * 2 ^ (7 * k) := by rw [show 7 * (k + 1) = 7 * k + 7 by omega, Nat.pow_add]; omega
    have hq : 2 ^ (7 * (j + 1)) = 128 * 2 ^ (7 * j) := by rw [show 7 * (j + 1) = 7 * j + 7 by omega, Nat.pow_add]; omega
    have hq2 : 2 ^ (7 * (j + 1 + 1)) = 128 * 2 ^ (7 * (j + 1)) := by rw [show 7 * (j + 1 + 1) = 7 * (j + 1) + 7 by omega, Nat.pow_add]; omega
    have hge : 2 ^ (7 * (j + 1)) ≤ m := hmin.resolve_left (by omega)
    have hpj : 0 < 2 ^ (7 * j) := Nat.pow_pos (by decide)
    have hdm : m % 128 + 128 * (m / 128) = m := Nat.mod_add_div m 128
    have hmul : m % 128 * 2 ^ (7 * k) + m / 128 * (128 * 2 ^ (7 * k)) = m * 2 ^ (7 * k) := by
      rw [← Nat.mul_assoc, ← Nat.add_mul]
      congr 1
      omega
    rw [e, List.cons_append, dec_cons, hx, if_neg (by omega), if_pos (by omega)]
    have ih := dec_encK j (k + 1) (nxt k v (m % 128 + 128)) (m / 128) r (by omega) (by
      rcases Nat.eq_zero_or_pos j with h0 | h0
      · exact .inl h0
      · refine .inr ?_
        rw [Nat.le_div_iff_mul_le (by decide)]
        omega) (fun _ => by omega) (by rw [hp]; omega) (by omega)
    rw [ih, show k + 1 + j + 1 = k + (j + 1) + 1 by omega]
    congr 1
    unfold nxt
    rw [if_neg (by omega), hp, show (m % 128 + 128) % 128 = m % 128 by omega]
    omega
theorem dec_enc {n : Nat} (hn : n < 18446744073709551616) (r : List UInt8) : dec 0 0 (enc n ++ r) = .ok n (vlen n) := by
  obtain ⟨h1, h2⟩ := vlen_fits hn
  have h3 := vlen_pos n
  have h4 := vlen_le n
  obtain ⟨j, hj⟩ : ∃ j, vlen n = j + 1 := ⟨vlen n - 1, by omega⟩
  unfold enc
  rw [hj] at h1 h2 h4 ⊢
  rw [dec_encK j 0 0 n r h1 (h2.imp (fun e => by omega) (fun e => by simpa using e)) (fun h => absurd h (Nat.lt_irrefl _)) (by simpa using hn) (by omega)]
  simp
theorem dec_append : ∀ (b : List UInt8) (k v n t : Nat) (c : List UInt8), dec k v b = .ok n t → dec k v (b ++ c) = .ok n t
  | [], k, v, n, t, c, h => by
    rw [dec_end] at h
    split at h <;> cases h
  | x :: r, k, v, n, t, c, h => by
    rw [List.cons_append, dec_cons]
    rw [dec_cons] at h
    split
    · rename_i h9
      rw [if_pos h9] at h
      cases h
    · rename_i h9
      rw [if_neg h9] at h
      split
      · rename_i h128
        rw [if_pos h128] at h
        exact dec_append r _ _ n t c h
      · rename_i h128
        rw [if_neg h128] at h
        exact h

section
variable {G : Pg}
/-- What a record of pages does. -/
def turn (G : Pg) (now : Nat → Option (List UInt8)) (l : List Nat) : Nat → Option (List UInt8) := l.foldl (fun f n => upd f n (G.now n)) now
theorem recsF_recB (hlen : ∀ n x, G.now n = some x → x.length = 256) : ∀ (l : List Nat) (k : Nat) (now : Nat → Option (List UInt8)), (∀ n ∈ l, 1 ≤ n ∧ n ≤ 4000) → (recB G l).length < k → recsF k now (recB G l) = some (turn G now l)
  | [], k, now, _, hk => by
    obtain ⟨k, rfl⟩ : ∃ j, k = j + 1 := ⟨k - 1, by omega⟩
    rw [recsF]
    rfl
  | n :: l, k, now, hl, hk => by
    obtain ⟨k, rfl⟩ : ∃ j, k = j + 1 := ⟨k - 1, by omega⟩
    have hn := hl n List.mem_cons_self
    have hl' : ∀ m ∈ l, 1 ≤ m ∧ m ≤ 4000 := fun m hm => hl m (List.mem_cons_of_mem _ hm)
    have hv := vlen_pos n
    have hel := enc_length n
    have hc : recB G (n :: l) = enc n ++ ((match G.now n with | some x => 1 :: x | none => [0]) ++ recB G l) := by
      simp [recB, List.append_assoc]
      rfl
    have hne : ¬ recB G (n :: l) = [] := fun e => by
      rw [hc] at e
      have := congrArg List.length e
      rw [List.length_append] at this
      simp only [List.length_nil] at this
      omega
    rw [recsF, if_neg hne]
    rw [hc] at hk ⊢
    rw [dec_enc (by omega)]
    simp only []
    rw [if_neg (by omega), ← hel, List.drop_left]
    rw [List.length_append] at hk
    cases hg : G.now n with
    | none =>
      rw [hg] at hk
      simp only [List.singleton_append] at hk ⊢
      simp only [List.length_cons] at hk
      rw [if_neg (by decide), if_pos (by decide), recsF_recB hlen l k _ hl' (by omega)]
      rw [show turn G now (n :: l) = turn G (upd now n (G.now n)) l from rfl, hg]
    | some x =>
      have hx := hlen n x hg
      rw [hg] at hk
      simp only [List.cons_append] at hk ⊢
      simp only [List.length_cons, List.length_append] at hk
      rw [if_neg (by decide), if_neg (by decide), if_neg (by rw [List.length_append]; omega), show (x ++ recB G l).take 256 = x by rw [← hx, List.take_left], show (x ++ recB G l).drop 256 = recB G l by rw [← hx, List.drop_left], recsF_recB hlen l k _ hl' (by omega)]
      rw [show turn G now (n :: l) = turn G (upd now n (G.now n)) l from rfl, hg]
theorem recR_body (hroot : G.root < 4294967296) (hlen : ∀ n x, G.now n = some x → x.length = 256) (l : List Nat) (hl : ∀ n ∈ l, 1 ≤ n ∧ n ≤ 4000) (now : Nat → Option (List UInt8)) : recR now (G.body l) = some (G.root, turn G now l) := by
  unfold recR Pg.body
  rw [dec_enc (by omega)]
  simp only []
  rw [if_neg (by omega), ← enc_length, List.drop_left, recsF_recB hlen l _ now hl (by rw [List.length_append]; omega)]
  rfl
theorem parseF_record (hroot : G.root < 4294967296) (hlen : ∀ n x, G.now n = some x → x.length = 256) (l : List Nat) (hl : ∀ n ∈ l, 1 ≤ n ∧ n ≤ 4000) (hll : l.length ≤ 8192) (k r0 : Nat) (now : Nat → Option (List UInt8)) (hk : (G.record l).length < k) :
    parseF k r0 now (G.record l) = .part G.root (turn G now l) true := by
  obtain ⟨k, rfl⟩ : ∃ j, k = j + 1 := ⟨k - 1, by omega⟩
  have hb := recB_le hlen l
  have hv0 := vlen_le G.root
  have hbl : (G.body l).length < 18446744073709551616 := by
    unfold Pg.body
    rw [List.length_append, enc_length]
    omega
  have hel := enc_length (G.body l).length
  have hvp := vlen_pos (G.body l).length
  have hne : ¬ G.record l = [] := fun e => by
    have := congrArg List.length e
    unfold Pg.record at this
    rw [List.length_append] at this
    simp only [List.length_nil] at this
    omega
  have hrl : (G.record l).length = vlen (G.body l).length + (G.body l).length := by unfold Pg.record; rw [List.length_append, enc_length]
  rw [parseF, if_neg hne]
  have hd : dec 0 0 (G.record l) = .ok (G.body l).length (vlen (G.body l).length) := dec_enc hbl _
  have hdr : (G.record l).drop (vlen (G.body l).length) = G.body l := by unfold Pg.record; rw [← hel, List.drop_left]
  rw [hd]
  simp only []
  rw [if_neg (by omega), hdr, List.take_length, recR_body hroot hlen l hl, List.drop_length]
  simp only []
  obtain ⟨k, rfl⟩ : ∃ j, k = j + 1 := ⟨k - 1, by omega⟩
  rw [parseF, if_pos rfl]
theorem turn_at : ∀ (l : List Nat) (now : Nat → Option (List UInt8)) (n : Nat), turn G now l n = if n ∈ l then G.now n else now n
  | [], now, n => by simp [turn]
  | a :: l, now, n => by
    rw [show turn G now (a :: l) = turn G (upd now a (G.now a)) l from rfl, turn_at l]
    by_cases h1 : n ∈ l
    · rw [if_pos h1, if_pos (List.mem_cons_of_mem _ h1)]
    · rw [if_neg h1]
      by_cases h2 : n = a
      · subst h2
        rw [upd_same, if_pos List.mem_cons_self]
      · rw [upd_other _ _ h2, if_neg (by simp [h1, h2])]
theorem parse_record (hroot : G.root < 4294967296) (hfew : Few G.now) (hlen : ∀ n x, G.now n = some x → x.length = 256) : parse (G.record (used G.has 4000)) = .part G.root G.now true := by
  have hul := used_length G.has 4000
  unfold parse
  rw [parseF_record hroot hlen _ (fun n hn => by have := mem_used.1 hn; omega) (by omega) _ _ _ (Nat.lt_succ_self _)]
  congr 1
  funext n
  rw [turn_at]
  by_cases h : n ∈ used G.has 4000
  · rw [if_pos h]
  · rw [if_neg h]
    cases hg : G.now n with
    | none => rfl
    | some x =>
      have := hfew n (by rw [hg]; rfl)
      exact absurd (mem_used.2 ⟨this.1, this.2, by unfold Pg.has; rw [hg]; rfl⟩) h
theorem parseF_append (c : List UInt8) (R : PR) : ∀ (k k' root r : Nat) (now x : Nat → Option (List UInt8)) (b : List UInt8), b.length < k → (b ++ c).length < k' → (∀ k2, c.length < k2 → parseF k2 r x c = R) → parseF k root now b = .part r x true → parseF k' root now (b ++ c) = R
  | 0, _, _, _, _, _, b, hb, _, _, _ => absurd hb (Nat.not_lt_zero _)
  | k + 1, k', root, r, now, x, b, hb, hk', hc, h => by
    rw [parseF] at h
    by_cases hn : b = []
    · rw [if_pos hn] at h
      cases h
      subst hn
      exact hc k' (by simpa using hk')
    · rw [if_neg hn] at h
      obtain ⟨k', rfl⟩ : ∃ j, k' = j + 1 := ⟨k' - 1, by omega⟩
      rw [parseF, if_neg (fun e => hn (List.append_eq_nil_iff.1 e).1)]
      cases hd : dec 0 0 b with
      | form => rw [hd] at h; cases h
      | short => rw [hd] at h; cases h
      | ok n t =>
        obtain ⟨h1, h2, _, _⟩ := dec_took b 0 0 n t hd (fun _ => by decide)
        rw [hd] at h
        simp only [] at h
        rw [dec_append b 0 0 n t c hd]
        simp only []
        by_cases hbig : b.length - t < n
        · rw [if_pos hbig] at h
          cases h
        · rw [if_neg hbig] at h
          rw [if_neg (by rw [List.length_append]; omega), List.drop_append_of_le_length (by omega), List.take_append_of_le_length (by rw [List.length_drop]; omega), List.drop_append_of_le_length (by rw [List.length_drop]; omega)]
          cases hr : recR now ((b.drop t).take n) with
          | none => rw [hr] at h; cases h
          | some rx =>
            rw [hr] at h
            simp only [] at h ⊢
            rw [List.length_append] at hk'
            refine parseF_append c R k k' _ r _ x _ ?_ ?_ hc h
            · rw [List.length_drop, List.length_drop]; omega
            · rw [List.length_append, List.length_drop, List.length_drop]; omega
theorem parse_append {b : List UInt8} {r : Nat} {x : Nat → Option (List UInt8)} (hroot : G.root < 4294967296) (hlen : ∀ n x, G.now n = some x → x.length = 256) (l : List Nat) (hl : ∀ n ∈ l, 1 ≤ n ∧ n ≤ 4000) (hll : l.length ≤ 8192) (h : parse b = .part r x true) :
    parse (b ++ G.record l) = .part G.root (turn G x l) true :=
  parseF_append (G.record l) _ _ _ _ r _ x b (Nat.lt_succ_self _) (Nat.lt_succ_self _) (fun k2 hk2 => parseF_record hroot hlen l hl hll k2 r x hk2) h
end
end Go.Proofs.YtgillcppnpkkiaaGreatDoor

namespace Go.Proofs.YtgillcppnpkkiaaGreatDoor
open Go Go.RowKit
/-- What Open comes to on any disk. -/
def OpenSays (w : World) (d : Nat) (D : Dk) (e : Ending) (w' : World) : Prop :=
  (∃ r : Int, (r = 4 ∨ r = 6) ∧ e = .returned (.tuple #[.pointer none, .int .i64 r]) ∧ (∀ f0 root now, look D.now nameB = some f0 → parse (D.by_ f0) ≠ .part root now true) ∧ Mod (DS d D) w w') ∨
  ∃ p G D' f, e = .returned (.tuple #[.pointer (some ⟨p, 0, none⟩), .int .i64 0]) ∧ Opens w' p G D' f ∧ G.d = d ∧ (∀ b, PS p G b → w.heap.size ≤ b) ∧ (∀ b, DS d D' b → DS d D b ∨ w.heap.size ≤ b) ∧ D'.size = D.size ∧ D'.now.length ≤ D.now.length + 1 ∧
    (∀ f0 root now, look D.now nameB = some f0 → parse (D.by_ f0) = .part root now true → G.now = now) ∧ Mod (DS d D) w w'
section
variable {w w' : World} {p d m1 m2 m3 : Nat} {G : Pg} {D D1 D2 : Dk} {f : Nat}
theorem new_root (d m1 m2 m3 : Nat) : (Pg.new d m1 m2 m3).root < 4294967296 := by show 0 < _; decide
theorem name_ne : freshB ≠ nameB := by decide
theorem open_mod {S : Nat → Prop} {w5 : World} (hPS : ∀ b, S b → w.heap.size ≤ b) (hm : Mod Non w w5) (hm6 : Mod (fun b => S b ∨ DS d D b) w5 w') : Mod (DS d D) w w' :=
  (hm.mono (fun _ x => x.elim)).andThen hm6 (fun b hb hlt => hb.elim (fun x => by have := hPS b x; omega) id)
/-- The end of Open: fresh is removed, the names are sure, what there is is kept. -/
theorem opens_end {w1 w8 w11 : World} {s : Nat → Bool} {vn7 vk8 : Value} {l7 : List (ByteArray × Nat)} (hp : PagRep w1 p G) (hap : Apart p G D1) (hroot : G.root < 4294967296) (hfew : Few G.now)
    (hlk : look D1.now nameB = some f) (hpar : parse (D1.by_ f) = .part G.root G.now true) (hsz : G.size = (D1.by_ f).length)
    (hst : DStep w1 G.d D1 w8 ((D1.setNow vn7 l7).setKept vk8 (D1.setNow vn7 l7).now)) (hoth : ∀ t, freshB ≠ t → look l7 t = look D1.now t)
    (hrep : PagRep w11 p (Pg.keeps { G with dirty := s })) (hm : Mod (PS p G) w8 w11) :
    Opens w11 p (Pg.keeps { G with dirty := s }) ((D1.setNow vn7 l7).setKept vk8 (D1.setNow vn7 l7).now) f := by
  have hap' : Apart p G ((D1.setNow vn7 l7).setKept vk8 (D1.setNow vn7 l7).now) := fun b hb hd => (hst.old b hd).elim (hap b hb) (fun e => by have h1 := hp.lt hb; omega)
  exact ⟨hrep, hst.rep.mod hm (fun b hb hd => hap' b hd hb), hap', hroot, hfew, (hoth nameB name_ne).trans hlk, rfl, fun _ => rfl, hpar, hsz⟩
theorem opened_at {w1 w2 w3 w4 : World} (h : DiskRep w d D) (hb : Blk (w4.alloc (.cells (Pg.new d w1.heap.size w2.heap.size w3.heap.size).cells 86)) w4.heap.size 86 (Pg.new d w1.heap.size w2.heap.size w3.heap.size).cells)
    (hm1 : Mod Non w w1) (h2 : MapRep w2 w1.heap.size (fun _ => none)) (hm2 : Mod Non w1 w2) (hs2 : w2.heap.size = w1.heap.size + 1) (h3 : MapRep w3 w2.heap.size (fun _ => none)) (hm3 : Mod Non w2 w3) (hs3 : w3.heap.size = w2.heap.size + 1)
    (h4 : MapRep w4 w3.heap.size (fun _ => none)) (hm4 : Mod Non w3 w4) (hs4 : w4.heap.size = w3.heap.size + 1) :
    PagRep (w4.alloc (.cells (Pg.new d w1.heap.size w2.heap.size w3.heap.size).cells 86)) w4.heap.size (Pg.new d w1.heap.size w2.heap.size w3.heap.size) ∧
    DiskRep (w4.alloc (.cells (Pg.new d w1.heap.size w2.heap.size w3.heap.size).cells 86)) d D ∧ Apart w4.heap.size (Pg.new d w1.heap.size w2.heap.size w3.heap.size) D ∧
    (∀ b, PS w4.heap.size (Pg.new d w1.heap.size w2.heap.size w3.heap.size) b → w.heap.size ≤ b) ∧ Mod Non w (w4.alloc (.cells (Pg.new d w1.heap.size w2.heap.size w3.heap.size).cells 86)) := by
  have hm : Mod Non w (w4.alloc (.cells (Pg.new d w1.heap.size w2.heap.size w3.heap.size).cells 86)) := ((((hm1.trans hm2).trans hm3).trans hm4)).alloc _
  have hz := hm1.size
  have hPS : ∀ b, PS w4.heap.size (Pg.new d w1.heap.size w2.heap.size w3.heap.size) b → w.heap.size ≤ b := by
    intro b hb
    rcases hb with h | h | h | h
    · omega
    · have h : b = w1.heap.size := h
      omega
    · have h : b = w2.heap.size := h
      omega
    · have h : b = w3.heap.size := h
      omega
  exact ⟨.fresh hb ((h2.mod (hm3.trans hm4) (fun x => x)).alloc _) ((h3.mod hm4 (fun x => x)).alloc _) (h4.alloc _) (by omega) (by omega) (by omega), h.non hm, fun b hb hd => by have := hPS b hb; have := h.lt hd; omega, hPS, hm⟩

end

section
variable {w w' : World} {d : Nat} {D : Dk}
set_option maxHeartbeats 2000000 in
set_option maxRecDepth 100000 in
theorem open_none (h : DiskRep w d D) (hlen : D.now.length < 64) (hl : look D.now nameB = none) :
    Calls Tryz.prog 7 #[.pointer (some ⟨d, 0, none⟩)] w fun e w' => OpenSays w d D e w' := by
  have HS := Lib.hid (size_none h nameB may_name hl)
  unfold nameB at HS
  have H := Lib.hid h
  have HL := Lib.hid hl
  have tok1 : Hid True := trivial
  have tok2 : Hid True := trivial
  have tok3 : Hid True := trivial
  clear h hl
  go_enter Tryz.func7, Tryz.ntmps7
  go_wp2_with (first
    | (go_at_call 36; refine HS.out.mono ?_; rintro e w1 ⟨rfl, hm1⟩)
    | (clear tok1; refine wpl_makeMap rfl rfl ?_; intro w2 hA2 hmA2 hsA2)
    | (clear tok2; refine wpl_makeMap rfl rfl ?_; intro w3 hA3 hmA3 hsA3)
    | (clear tok3; refine wpl_makeMap rfl rfl ?_; intro w4 hA4 hmA4 hsA4
       have hb5 := Blk.new w4 86 (Pg.new d w1.heap.size w2.heap.size w3.heap.size).cells
       have cb5 := hb5.cell
       have fb5 := hb5.frozen
       unfold Pg.cells Pg.new at cb5 fb5
       have HB5 := Lib.hid (opened_at H.out hb5 hm1 hA2 hmA2 hsA2.out hA3 hmA3 hsA3.out hA4 hmA4 hsA4.out)
       clear hb5)
    | (go_at_call 40; refine (anew_gen HB5.out.1 HB5.out.2.1 HB5.out.2.2.1 (new_root _ _ _ _) hlen).mono ?_
       rintro e w6 (⟨rfl, D6, f6, hrep6, hold6, hpag6, hz6, hlk6, hby6, hsu6, hkp6, hln6, hm6⟩ | ⟨rfl, hm6⟩)
       rotate_left
       have HMf := Lib.hid hm6
       clear hm6
       rotate_left
       have HRm := Lib.hid (remove_gen hrep6 freshB may_fresh)
       unfold freshB at HRm
       have hap6 : Apart w4.heap.size (Pg.new d w1.heap.size w2.heap.size w3.heap.size) D6 := fun b hb hd => (hold6 b hd).elim (HB5.out.2.2.1 b hb) (fun e => by have := HB5.out.1.lt hb; omega)
       have HPt := Lib.hid hpag6
       have HAt := Lib.hid hap6
       have HX6 := Lib.hid (And.intro hold6 (And.intro hz6 (And.intro hlk6 (And.intro hby6 (And.intro hln6 hm6)))))
       clear hrep6 hold6 hpag6 hz6 hlk6 hby6 hsu6 hkp6 hln6 hm6 hap6)
    | (go_at_call 41; refine HRm.out.mono ?_; rintro e w7 ⟨⟨r7, rfl⟩, vn7, l7, hst7, hno7, hoth7, hle7⟩
       have HS7 := Lib.hid hst7
       have HO7 := Lib.hid (And.intro hoth7 hle7)
       clear hst7 hno7 hoth7 hle7)
    | (go_at_call 42; refine (names_ok HS7.out.rep).mono ?_; rintro e w8 ⟨rfl, vk8, hst8⟩
       have hst78 := HS7.out.trans hst8
       have hp8 := HPt.out.mod hst78.mod HAt.out
       have cp8 := hp8.blk.cell
       unfold Pg.cells at cp8
       have HP8 := Lib.hid hp8
       have HS8 := Lib.hid hst78
       clear hst8 hst78 hp8)
    | (at_range; refine wpl_range rfl _ rfl und_mapPage rfl HP8.out.now ?_; intro w9 left0 hit0 hm9 hsz9))
  · have HI9 := Lib.hid hit0
    have HM9 := Lib.hid hm9
    clear hit0 hm9 hsz9 cp8
    try go_frame
    go_loopw [13] (fun _ wr => ∃ vis left s, IterRep wr w8.heap.size w1.heap.size (mapV ({ Pg.new d w1.heap.size w2.heap.size w3.heap.size with size := ((Pg.new d w1.heap.size w2.heap.size w3.heap.size).record (used (Pg.new d w1.heap.size w2.heap.size w3.heap.size).has 4000)).length }).now) vis left ∧ PagRep wr w4.heap.size { ({ Pg.new d w1.heap.size w2.heap.size w3.heap.size with size := ((Pg.new d w1.heap.size w2.heap.size w3.heap.size).record (used (Pg.new d w1.heap.size w2.heap.size w3.heap.size).has 4000)).length }) with dirty := s } ∧ Mod (One w3.heap.size) w8 wr) (fun _ wr => iterLeft wr w1.heap.size w8.heap.size)
    case atStart => exact ⟨[], left0, ({ Pg.new d w1.heap.size w2.heap.size w3.heap.size with size := ((Pg.new d w1.heap.size w2.heap.size w3.heap.size).record (used (Pg.new d w1.heap.size w2.heap.size w3.heap.size).has 4000)).length }).dirty, HI9.out, HP8.out.non HM9.out, HM9.out.mono (fun _ x => x.elim)⟩
    case round =>
      obtain ⟨vis, left, s, hit, hrep, hm⟩ := hrel
      have HLe := Lib.hid hit.left_eq
      have HM := Lib.hid hm
      have HRep := Lib.hid hrep
      have hm3lt : w3.heap.size < w8.heap.size := HP8.out.lt (.inr (.inr (.inr rfl)))
      have hm1lt : w1.heap.size < w8.heap.size := HP8.out.lt (.inr (.inl rfl))
      have hplt : w4.heap.size < w8.heap.size := HP8.out.lt (.inl rfl)
      clear hm hrep
      go_wp2_with (first
        | (at_next
           refine wpl_next rfl (.tmp 96) rfl rfl hit ?_ ?_
           intro w10 hm10 hall
           have HP10 := Lib.hid (HRep.out.non hm10)
           rotate_left
           intro w10 k v left' hm10 hfk hnv hlt hit2 hent
           have hrep10 : PagRep w10 w4.heap.size { ({ Pg.new d w1.heap.size w2.heap.size w3.heap.size with size := ((Pg.new d w1.heap.size w2.heap.size w3.heap.size).record (used (Pg.new d w1.heap.size w2.heap.size w3.heap.size).has 4000)).length }) with dirty := s } := HRep.out.mod hm10 (fun b hb e => by cases e; exact absurd (HP8.out.lt (b := w8.heap.size) hb) (Nat.lt_irrefl _))
           have cp10 := hrep10.blk.cell
           unfold Pg.cells at cp10
           obtain ⟨fd, c0, hd1, hc0, hdo⟩ := hrep10.dirty.get k
           have HRep10 := Lib.hid hrep10
           have Hc0 := Lib.hid hc0
           clear hrep10 hc0
           rotate_left)
        | (at_lookup; refine wpl_lookup_val rfl _ _ rfl und_mapInt und_u32 zero_int rfl hd1 k rfl Hc0.out ?_)
        | (at_mapUpdate; refine wpl_mapUpdate rfl _ _ _ rfl und_mapInt und_u32 rfl hd1 k rfl rfl ?_; intro w12 hd12 hm12)
        | (go_at_call 43; refine (keep_ok HP10.out).mono ?_; rintro e w11 ⟨rfl, hrep11, hm11⟩))
      · go_ret2
        have hm8 : Mod (PS w4.heap.size ({ Pg.new d w1.heap.size w2.heap.size w3.heap.size with size := ((Pg.new d w1.heap.size w2.heap.size w3.heap.size).record (used (Pg.new d w1.heap.size w2.heap.size w3.heap.size).has 4000)).length })) w8 w11 := ((HM.out.mono (fun b hb => .inr (.inr (.inr hb)))).trans (hm10.mono (fun _ x => x.elim))).trans hm11
        obtain ⟨hold6, hz6, hlk6, hby6, hln6, hm6⟩ := HX6.out
        have hszw := HB5.out.2.2.2.2.size
        have hm06 : Mod (DS d D) w w6 := open_mod HB5.out.2.2.2.1 HB5.out.2.2.2.2 hm6
        have hm08 : Mod (DS d D) w w8 := hm06.andThen HS8.out.mod (fun b hb hlt => (hold6 b hb).elim id (fun e => by omega))
        exact .inr ⟨w4.heap.size, _, _, f6, rfl, opens_end HPt.out HAt.out (new_root d w1.heap.size w2.heap.size w3.heap.size) (fun k hk => by cases hk) hlk6 (by rw [hby6]; exact parse_record (new_root _ _ _ _) (fun k hk => by cases hk) (fun _ _ e => by cases e)) (by rw [hby6]) HS8.out HO7.out.1 hrep11 hm8, rfl, HB5.out.2.2.2.1,
          fun b hb => (HS8.out.old b hb).elim (fun h => (hold6 b h).imp id (fun e => by omega)) (fun e => .inr (by have := hm6.size; omega)), hz6, Nat.le_trans HO7.out.2 hln6, fun f0 root now e => (by rw [HL.out] at e; cases e), hm08.andThen hm8 (fun b hb hlt => absurd (HB5.out.2.2.2.1 b hb) (by omega))⟩
      · have hit12 := hit2.mod hm12 (fun e => HP8.out.ne13 e) (fun e => by have e : w8.heap.size = w3.heap.size := e; omega)
        have HLe12 := Lib.hid hit12.left_eq
        go_roundw
        case rel => exact ⟨⟨k :: vis, left', hit12⟩, ⟨_, HRep10.out.setDirty hm12 (hdo _ _ hd12)⟩, (HM.out.andThen hm10 (fun b hb hlt2 => by cases hb; omega)).andThen hm12 (fun b hb _ => hb)⟩
        case measure =>
          rw [HLe.out, HLe12.out]
          exact hlt
  · go_ret2
    exact .inl ⟨6, .inr rfl, rfl, fun f0 root now e => (by rw [HL.out] at e; cases e), open_mod HB5.out.2.2.2.1 HB5.out.2.2.2.2 HMf.out⟩
end
end Go.Proofs.YtgillcppnpkkiaaGreatDoor

namespace Go.Proofs.YtgillcppnpkkiaaGreatDoor
open Go Go.RowKit
section
variable {w w' : World} {p n : Nat} {G : Pg} {b : List UInt8} {e : Ending} {x : Nat → Option (List UInt8)}
theorem ReadsSay.of_none (h : ReadsSay w p G b e w') (hr : recR G.now b = none) : e = .returned (.bool false) ∧ Mod (PS p G) w w' := by
  rcases h with ⟨_, h1, h2⟩ | ⟨n, x, h0, _⟩
  · exact ⟨h1, h2⟩
  · rw [hr] at h0
    cases h0
theorem ReadsSay.of_some (h : ReadsSay w p G b e w') (hr : recR G.now b = some (n, x)) : e = .returned (.bool true) ∧ n < 4294967296 ∧ PagRep w' p { G with root := n, now := x } ∧ Mod (PS p G) w w' := by
  rcases h with ⟨h0, _⟩ | ⟨n', x', h0, h1, h2, h3, h4⟩
  · rw [hr] at h0
    cases h0
  · rw [hr] at h0
    cases h0
    exact ⟨h1, h2, h3, h4⟩
end
section
variable {w w' : World} {d : Nat} {D : Dk}
set_option maxHeartbeats 4000000 in
set_option maxRecDepth 100000 in
theorem open_some (h : DiskRep w d D) (hlen : D.now.length < 64) (f : Nat) (hl : look D.now nameB = some f) :
    Calls Tryz.prog 7 #[.pointer (some ⟨d, 0, none⟩)] w fun e w' => OpenSays w d D e w' := by
  have HS := Lib.hid (size_some h nameB may_name f hl)
  unfold nameB at HS
  have hby : (D.by_ f).length ≤ 1048576 := (h.file f ⟨_, .inl (look_some hl), rfl⟩).2.2.2
  have H := Lib.hid h
  have HL := Lib.hid hl
  have tok1 : Hid True := trivial
  have tok2 : Hid True := trivial
  have tok3 : Hid True := trivial
  clear h hl
  go_enter Tryz.func7, Tryz.ntmps7
  go_wp2_with (first
    | (go_at_call 36; refine HS.out.mono ?_; rintro e w1 ⟨rfl, hm1⟩)
    | (clear tok1; refine wpl_makeMap rfl rfl ?_; intro w2 hA2 hmA2 hsA2)
    | (clear tok2; refine wpl_makeMap rfl rfl ?_; intro w3 hA3 hmA3 hsA3)
    | (clear tok3; refine wpl_makeMap rfl rfl ?_; intro w4 hA4 hmA4 hsA4
       have hb5 := Blk.new w4 86 (Pg.new d w1.heap.size w2.heap.size w3.heap.size).cells
       have HB5 := Lib.hid (opened_at H.out hb5 hm1 hA2 hmA2 hsA2.out hA3 hmA3 hsA3.out hA4 hmA4 hsA4.out)
       have HRd := Lib.hid (read_ok HB5.out.2.1 nameB may_name f HL.out)
       unfold nameB at HRd
       have HRs := Lib.hid HB5.out.1.blk.lt
       clear hb5)
    | (go_at_call 37; refine HRd.out.mono ?_; rintro e w6 ⟨A6, c6, rfl, hrow6, hnc6, hcc6, hAb6, hm6⟩
       have HR6 := Lib.hid (And.intro hrow6 hAb6)
       have HM6 := Lib.hid hm6
       clear hrow6 hAb6 hm6))
  have hpar0 : parseF ((D.by_ f).length + 1) 0 (fun _ => none) (D.by_ f) = parse (D.by_ f) := rfl
  have HPar0 := Lib.hid hpar0
  obtain ⟨B5, hB5⟩ : ∃ B5, B5 = (w4.alloc (.cells (Pg.new d w1.heap.size w2.heap.size w3.heap.size).cells 86)).heap.size := ⟨_, rfl⟩
  have HB5e := Lib.hid hB5
  clear hpar0 hB5
  go_loopw [7, 8] (fun wh v wr => wh = .bool true ∧ ∃ (k root : Nat) (now : Nat → Option (List UInt8)) (bb : List UInt8) (A' : Option Addr) (m' c' : Nat), v = .slice A' m' c' ∧ m' ≤ c' ∧ c' ≤ 1048576 ∧ (∀ ad, A' = some ad → B5 ≤ ad.block) ∧ RowAt wr A' m' 1 (bv bb) ∧
      PagRep wr w4.heap.size { Pg.new d w1.heap.size w2.heap.size w3.heap.size with root := root, now := now } ∧ Hid (root < 4294967296) ∧ Hid (Few now) ∧ bb.length < k ∧ parseF k root now bb = parse (D.by_ f) ∧ Mod (PS w4.heap.size (Pg.new d w1.heap.size w2.heap.size w3.heap.size)) w6 wr) (fun _ v _ => lenV v)
  case atStart => exact ⟨rfl, _, 0, fun _ => none, D.by_ f, A6, (D.by_ f).length, c6, rfl, hnc6, hcc6, by rw [HB5e.out]; exact HR6.out.2, HR6.out.1, HB5.out.1.non HM6.out, Lib.hid (by decide), Lib.hid (fun k hk => by cases hk), Nat.lt_succ_self _, HPar0.out, Mod.refl _ _⟩
  case round =>
    obtain ⟨rfl, k, root, now, bb, A', m', c', rfl, hmc', hcc', hAb', hrow, hrep, hrt, hfw, hbk, hpf, hmw⟩ := hrel
    have hbm' : bb.length = m' := by have := hrow.1; rw [bv_length] at this; omega
    obtain ⟨k, rfl⟩ : ∃ k0, k = k0 + 1 := ⟨k - 1, by omega⟩
    have hm56 := (HM6.out.mono (T := PS w4.heap.size (Pg.new d w1.heap.size w2.heap.size w3.heap.size)) (fun _ x => x.elim)).trans hmw
    have hdisk : DiskRep wr d D := HB5.out.2.1.mod hm56 (fun b hb hp => HB5.out.2.2.1 b hp hb)
    have HN2 := fun ad (e : A' = some ad) => Lib.hid (get_num (some ad) m' c' bb (e ▸ hrow) (by omega))
    have hrepS := hrep.setSize (D.by_ f).length
    have hdiskS : DiskRep (wr.setCell ⟨w4.heap.size, 6, none⟩ (.int .i64 ((D.by_ f).length : Nat))) d D := hdisk.mod ((Mod.refl (One w4.heap.size) wr).setCell (p := ⟨w4.heap.size, 6, none⟩) (.inl rfl) _) (fun b hb e => HB5.out.2.2.1 b (.inl e) hb)
    have HPt := Lib.hid hrepS
    have HDk := Lib.hid hdiskS
    have HAt0 : Hid (Apart w4.heap.size (Pg.new d w1.heap.size w2.heap.size w3.heap.size) D) := Lib.hid HB5.out.2.2.1
    have HRep := Lib.hid hrep
    have HM56 := Lib.hid hm56
    have HMW := Lib.hid hmw
    have HRow := Lib.hid hrow
    have HAb := Lib.hid hAb'
    have cp := hrep.blk.cell
    have fp := hrep.blk.frozen
    unfold Pg.cells Pg.new at cp
    rw [parseF] at hpf
    by_cases hm0 : m' = 0
    · have hnil : bb = [] := List.length_eq_zero_iff.1 (by omega)
      rw [if_pos hnil] at hpf
      have hpar := Lib.hid hpf.symm
      have HAt : Hid (Apart w4.heap.size ({ Pg.new d w1.heap.size w2.heap.size w3.heap.size with root := root, now := now, size := (D.by_ f).length }) D) := HAt0
      have HRm := Lib.hid (remove_gen hdiskS freshB may_fresh)
      unfold freshB at HRm
      subst hm0
      clear hnil hpf hrep hrow hAb' hbm' hmw hdisk hrepS hdiskS hm56 HN2
      go_wp2_with (first
        | (go_at_call 41; refine HRm.out.mono ?_; rintro e w7 ⟨⟨r7, rfl⟩, vn7, l7, hst7, hno7, hoth7, hle7⟩
           have HS7 := Lib.hid hst7
           have HO7 := Lib.hid (And.intro hoth7 hle7)
           clear hst7 hno7 hoth7 hle7)
        | (go_at_call 42; refine (names_ok HS7.out.rep).mono ?_; rintro e w8 ⟨rfl, vk8, hst8⟩
           have hst78 := HS7.out.trans hst8
           have hp8 := HPt.out.mod hst78.mod HAt.out
           have cp8 := hp8.blk.cell
           unfold Pg.cells at cp8
           have HP8 := Lib.hid hp8
           have HS8 := Lib.hid hst78
           clear hst8 hst78 hp8)
        | (at_range; refine wpl_range rfl _ rfl und_mapPage rfl HP8.out.now ?_; intro w9 left0 hit0 hm9 hsz9))
      have hm56 := HM56.out
      have HI9 := Lib.hid hit0
      have HM9 := Lib.hid hm9
      clear hit0 hm9 hsz9 cp8
      try go_frame
      go_loopw [13] (fun _ wr => ∃ vis left s, IterRep wr w8.heap.size w1.heap.size (mapV ({ Pg.new d w1.heap.size w2.heap.size w3.heap.size with root := root, now := now, size := (D.by_ f).length }).now) vis left ∧ PagRep wr w4.heap.size { ({ Pg.new d w1.heap.size w2.heap.size w3.heap.size with root := root, now := now, size := (D.by_ f).length }) with dirty := s } ∧ Mod (One w3.heap.size) w8 wr) (fun _ wr => iterLeft wr w1.heap.size w8.heap.size)
      case atStart => exact ⟨[], left0, ({ Pg.new d w1.heap.size w2.heap.size w3.heap.size with root := root, now := now, size := (D.by_ f).length }).dirty, HI9.out, HP8.out.non HM9.out, HM9.out.mono (fun _ x => x.elim)⟩
      case round =>
        obtain ⟨vis, left, s, hit, hrep, hm⟩ := hrel
        have HLe := Lib.hid hit.left_eq
        have HM := Lib.hid hm
        have HRep := Lib.hid hrep
        have hm3lt : w3.heap.size < w8.heap.size := HP8.out.lt (.inr (.inr (.inr rfl)))
        have hm1lt : w1.heap.size < w8.heap.size := HP8.out.lt (.inr (.inl rfl))
        have hplt : w4.heap.size < w8.heap.size := HP8.out.lt (.inl rfl)
        clear hm hrep
        go_wp2_with (first
          | (at_next
             refine wpl_next rfl (.tmp 96) rfl rfl hit ?_ ?_
             intro w10 hm10 hall
             have HP10 := Lib.hid (HRep.out.non hm10)
             rotate_left
             intro w10 k v left' hm10 hfk hnv hlt hit2 hent
             have hrep10 : PagRep w10 w4.heap.size { ({ Pg.new d w1.heap.size w2.heap.size w3.heap.size with root := root, now := now, size := (D.by_ f).length }) with dirty := s } := HRep.out.mod hm10 (fun b hb e => by cases e; exact absurd (HP8.out.lt (b := w8.heap.size) hb) (Nat.lt_irrefl _))
             have cp10 := hrep10.blk.cell
             unfold Pg.cells at cp10
             obtain ⟨fd, c0, hd1, hc0, hdo⟩ := hrep10.dirty.get k
             have HRep10 := Lib.hid hrep10
             have Hc0 := Lib.hid hc0
             clear hrep10 hc0
             rotate_left)
          | (at_lookup; refine wpl_lookup_val rfl _ _ rfl und_mapInt und_u32 zero_int rfl hd1 k rfl Hc0.out ?_)
          | (at_mapUpdate; refine wpl_mapUpdate rfl _ _ _ rfl und_mapInt und_u32 rfl hd1 k rfl rfl ?_; intro w12 hd12 hm12)
          | (go_at_call 43; refine (keep_ok HP10.out).mono ?_; rintro e w11 ⟨rfl, hrep11, hm11⟩))
        · go_ret2
          have hm8 : Mod (PS w4.heap.size ({ Pg.new d w1.heap.size w2.heap.size w3.heap.size with root := root, now := now, size := (D.by_ f).length })) w8 w11 := ((HM.out.mono (fun b hb => .inr (.inr (.inr hb)))).trans (hm10.mono (fun _ x => x.elim))).trans hm11
          have hm08 : Mod (DS d D) w w8 := (open_mod HB5.out.2.2.2.1 HB5.out.2.2.2.2 ((hm56.mono (fun _ x => .inl x)).setCell (p := ⟨w4.heap.size, 6, none⟩) (.inl (.inl (.inl rfl))) (.int .i64 ((D.by_ f).length : Nat)))).trans HS8.out.mod
          exact .inr ⟨w4.heap.size, _, _, f, rfl, opens_end HPt.out HAt.out hrt.out hfw.out HL.out hpar.out rfl HS8.out HO7.out.1 hrep11 hm8, rfl, HB5.out.2.2.2.1,
            fun b hb => (HS8.out.old b hb).elim .inl (fun e => .inr (by have h1 := HB5.out.2.2.2.2.size; have h2 := hm56.size; simp at e; omega)), rfl, Nat.le_trans HO7.out.2 (Nat.le_succ _), fun f0 root' now' e1 e2 => (by
              rw [HL.out] at e1
              cases e1
              rw [hpar.out] at e2
              cases e2
              rfl), hm08.andThen hm8 (fun b hb hlt => absurd (HB5.out.2.2.2.1 b hb) (by omega))⟩
        · have hit12 := hit2.mod hm12 (fun e => HP8.out.ne13 e) (fun e => by have e : w8.heap.size = w3.heap.size := e; omega)
          have HLe12 := Lib.hid hit12.left_eq
          go_roundw
          case rel => exact ⟨⟨k :: vis, left', hit12⟩, ⟨_, HRep10.out.setDirty hm12 (hdo _ _ hd12)⟩, (HM.out.andThen hm10 (fun b hb hlt2 => by cases hb; omega)).andThen hm12 (fun b hb _ => hb)⟩
          case measure =>
            rw [HLe.out, HLe12.out]
            exact hlt
    · have hnn : ¬ bb = [] := fun e => hm0 (by rw [e] at hbm'; exact hbm'.symm)
      rw [if_neg hnn] at hpf
      obtain ⟨ad, rfl⟩ : ∃ ad, A' = some ad := by
        obtain ⟨ad, e, _⟩ := hrow.2 (by omega)
        exact ⟨ad, e⟩
      have HN3 := HN2 ad rfl
      have hpos : (0 : Int) < (m' : Int) := by omega
      have HAt : Hid (Apart w4.heap.size ({ Pg.new d w1.heap.size w2.heap.size w3.heap.size with root := root, now := now, size := (D.by_ f).length }) D) := HAt0
      have hHbm := Lib.hid hbm'
      clear HN2
      cases hd2 : dec 0 0 bb with
      | form =>
        rw [hd2] at hpf HN3
        have hpar := Lib.hid hpf.symm
        clear hpf hrep hrow hAb' hbm' hmw hdisk hrepS hdiskS hm56 hnn hm0 hd2
        go_wp2_with ((go_at_call 38; refine HN3.out.mono ?_; rintro e w7 ⟨rfl, hw7⟩; rw [hw7]; clear hw7; unfold Got.val))
        go_ret2
        exact .inl ⟨4, .inl rfl, rfl, fun f0 root' now' e1 e2 => (by rw [HL.out] at e1; cases e1; rw [hpar.out] at e2; cases e2), open_mod HB5.out.2.2.2.1 HB5.out.2.2.2.2 (HM56.out.mono (fun _ x => .inl x))⟩
      | short =>
        rw [hd2] at hpf HN3
        have hpar := Lib.hid hpf.symm
        clear hpf hrep hrow hAb' hbm' hmw hdisk hrepS hdiskS hm56 hnn hm0 hd2
        go_wp2_with (first
          | (go_at_call 38; refine HN3.out.mono ?_; rintro e w7 ⟨rfl, hw7⟩; rw [hw7]; clear hw7; unfold Got.val)
          | (go_at_call 40; refine (anew_gen HPt.out HDk.out HAt.out hrt.out hlen).mono ?_
             rintro e w9a (⟨rfl, D9, f9, hrep9, hold9, hpag9, hz9, hlk9, hby9, hsu9, hkp9, hln9, hm9⟩ | ⟨rfl, hm9⟩)
             rotate_left
             have HMf := Lib.hid hm9
             clear hm9
             rotate_left
             have HRm := Lib.hid (remove_gen hrep9 freshB may_fresh)
             unfold freshB at HRm
             have hap9 : Apart w4.heap.size ({ Pg.new d w1.heap.size w2.heap.size w3.heap.size with root := root, now := now, size := (D.by_ f).length }) D9 := fun b hb hd => (hold9 b hd).elim (HAt.out b hb) (fun e => by have := HPt.out.lt hb; omega)
             have HPt := Lib.hid hpag9
             have HAt := Lib.hid hap9
             have HX9 := Lib.hid (And.intro hold9 (And.intro hz9 (And.intro hlk9 (And.intro hby9 (And.intro hln9 hm9)))))
             clear hrep9 hold9 hpag9 hz9 hlk9 hby9 hsu9 hkp9 hln9 hm9 hap9)
          | (go_at_call 41; refine HRm.out.mono ?_; rintro e w7 ⟨⟨r7, rfl⟩, vn7, l7, hst7, hno7, hoth7, hle7⟩
             have HS7 := Lib.hid hst7
             have HO7 := Lib.hid (And.intro hoth7 hle7)
             clear hst7 hno7 hoth7 hle7)
          | (go_at_call 42; refine (names_ok HS7.out.rep).mono ?_; rintro e w8 ⟨rfl, vk8, hst8⟩
             have hst78 := HS7.out.trans hst8
             have hp8 := HPt.out.mod hst78.mod HAt.out
             have cp8 := hp8.blk.cell
             unfold Pg.cells at cp8
             have HP8 := Lib.hid hp8
             have HS8 := Lib.hid hst78
             clear hst8 hst78 hp8)
          | (at_range; refine wpl_range rfl _ rfl und_mapPage rfl HP8.out.now ?_; intro w9 left0 hit0 hm9 hsz9))
        · have hm56 := HM56.out
          have HI9 := Lib.hid hit0
          have HM9 := Lib.hid hm9
          clear hit0 hm9 hsz9 cp8
          try go_frame
          go_loopw [13] (fun _ wr => ∃ vis left s, IterRep wr w8.heap.size w1.heap.size (mapV ({ ({ Pg.new d w1.heap.size w2.heap.size w3.heap.size with root := root, now := now, size := (D.by_ f).length }) with size := (Pg.record ({ Pg.new d w1.heap.size w2.heap.size w3.heap.size with root := root, now := now, size := (D.by_ f).length }) (used (Pg.has ({ Pg.new d w1.heap.size w2.heap.size w3.heap.size with root := root, now := now, size := (D.by_ f).length })) 4000)).length }).now) vis left ∧ PagRep wr w4.heap.size { ({ ({ Pg.new d w1.heap.size w2.heap.size w3.heap.size with root := root, now := now, size := (D.by_ f).length }) with size := (Pg.record ({ Pg.new d w1.heap.size w2.heap.size w3.heap.size with root := root, now := now, size := (D.by_ f).length }) (used (Pg.has ({ Pg.new d w1.heap.size w2.heap.size w3.heap.size with root := root, now := now, size := (D.by_ f).length })) 4000)).length }) with dirty := s } ∧ Mod (One w3.heap.size) w8 wr) (fun _ wr => iterLeft wr w1.heap.size w8.heap.size)
          case atStart => exact ⟨[], left0, ({ ({ Pg.new d w1.heap.size w2.heap.size w3.heap.size with root := root, now := now, size := (D.by_ f).length }) with size := (Pg.record ({ Pg.new d w1.heap.size w2.heap.size w3.heap.size with root := root, now := now, size := (D.by_ f).length }) (used (Pg.has ({ Pg.new d w1.heap.size w2.heap.size w3.heap.size with root := root, now := now, size := (D.by_ f).length })) 4000)).length }).dirty, HI9.out, HP8.out.non HM9.out, HM9.out.mono (fun _ x => x.elim)⟩
          case round =>
            obtain ⟨vis, left, s, hit, hrep, hm⟩ := hrel
            have HLe := Lib.hid hit.left_eq
            have HM := Lib.hid hm
            have HRep := Lib.hid hrep
            have hm3lt : w3.heap.size < w8.heap.size := HP8.out.lt (.inr (.inr (.inr rfl)))
            have hm1lt : w1.heap.size < w8.heap.size := HP8.out.lt (.inr (.inl rfl))
            have hplt : w4.heap.size < w8.heap.size := HP8.out.lt (.inl rfl)
            clear hm hrep
            go_wp2_with (first
              | (at_next
                 refine wpl_next rfl (.tmp 96) rfl rfl hit ?_ ?_
                 intro w10 hm10 hall
                 have HP10 := Lib.hid (HRep.out.non hm10)
                 rotate_left
                 intro w10 k v left' hm10 hfk hnv hlt hit2 hent
                 have hrep10 : PagRep w10 w4.heap.size { ({ ({ Pg.new d w1.heap.size w2.heap.size w3.heap.size with root := root, now := now, size := (D.by_ f).length }) with size := (Pg.record ({ Pg.new d w1.heap.size w2.heap.size w3.heap.size with root := root, now := now, size := (D.by_ f).length }) (used (Pg.has ({ Pg.new d w1.heap.size w2.heap.size w3.heap.size with root := root, now := now, size := (D.by_ f).length })) 4000)).length }) with dirty := s } := HRep.out.mod hm10 (fun b hb e => by cases e; exact absurd (HP8.out.lt (b := w8.heap.size) hb) (Nat.lt_irrefl _))
                 have cp10 := hrep10.blk.cell
                 unfold Pg.cells at cp10
                 obtain ⟨fd, c0, hd1, hc0, hdo⟩ := hrep10.dirty.get k
                 have HRep10 := Lib.hid hrep10
                 have Hc0 := Lib.hid hc0
                 clear hrep10 hc0
                 rotate_left)
              | (at_lookup; refine wpl_lookup_val rfl _ _ rfl und_mapInt und_u32 zero_int rfl hd1 k rfl Hc0.out ?_)
              | (at_mapUpdate; refine wpl_mapUpdate rfl _ _ _ rfl und_mapInt und_u32 rfl hd1 k rfl rfl ?_; intro w12 hd12 hm12)
              | (go_at_call 43; refine (keep_ok HP10.out).mono ?_; rintro e w11 ⟨rfl, hrep11, hm11⟩))
            · go_ret2
              have hm8 : Mod (PS w4.heap.size ({ ({ Pg.new d w1.heap.size w2.heap.size w3.heap.size with root := root, now := now, size := (D.by_ f).length }) with size := (Pg.record ({ Pg.new d w1.heap.size w2.heap.size w3.heap.size with root := root, now := now, size := (D.by_ f).length }) (used (Pg.has ({ Pg.new d w1.heap.size w2.heap.size w3.heap.size with root := root, now := now, size := (D.by_ f).length })) 4000)).length })) w8 w11 := ((HM.out.mono (fun b hb => .inr (.inr (.inr hb)))).trans (hm10.mono (fun _ x => x.elim))).trans hm11
              obtain ⟨hold9, hz9, hlk9, hby9, hln9, hm9'⟩ := HX9.out
              have hs5 := HB5.out.2.2.2.2.size
              have hs56 := hm56.size
              have hmw9 : Mod (DS d D) w w9a := open_mod HB5.out.2.2.2.1 HB5.out.2.2.2.2 (((hm56.mono (fun _ x => .inl x)).setCell (p := ⟨w4.heap.size, 6, none⟩) (.inl (.inl (.inl rfl))) (.int .i64 ((D.by_ f).length : Nat))).trans hm9')
              have hm08 : Mod (DS d D) w w8 := hmw9.andThen HS8.out.mod (fun b hb hlt => (hold9 b hb).elim id (fun e => by simp at e; omega))
              exact .inr ⟨w4.heap.size, _, _, f9, rfl, opens_end HPt.out HAt.out hrt.out hfw.out hlk9 (by rw [hby9]; exact parse_record (G := { Pg.new d w1.heap.size w2.heap.size w3.heap.size with root := root, now := now, size := (D.by_ f).length }) hrt.out hfw.out HPt.out.len) (by rw [hby9]) HS8.out HO7.out.1 hrep11 hm8, rfl, HB5.out.2.2.2.1,
                fun b hb => (HS8.out.old b hb).elim (fun h => (hold9 b h).imp id (fun e => by simp at e; omega)) (fun e => .inr (by have h3 := hmw9.size; omega)), hz9, Nat.le_trans HO7.out.2 hln9, fun f0 root' now' e1 e2 => (by
                  rw [HL.out] at e1
                  cases e1
                  rw [hpar.out] at e2
                  cases e2), hm08.andThen hm8 (fun b hb hlt => absurd (HB5.out.2.2.2.1 b hb) (by omega))⟩
            · have hit12 := hit2.mod hm12 (fun e => HP8.out.ne13 e) (fun e => by have e : w8.heap.size = w3.heap.size := e; omega)
              have HLe12 := Lib.hid hit12.left_eq
              go_roundw
              case rel => exact ⟨⟨k :: vis, left', hit12⟩, ⟨_, HRep10.out.setDirty hm12 (hdo _ _ hd12)⟩, (HM.out.andThen hm10 (fun b hb hlt2 => by cases hb; omega)).andThen hm12 (fun b hb _ => hb)⟩
              case measure =>
                rw [HLe.out, HLe12.out]
                exact hlt
        · go_ret2
          exact .inl ⟨6, .inr rfl, rfl, fun f0 root' now' e1 e2 => (by rw [HL.out] at e1; cases e1; rw [hpar.out] at e2; cases e2), open_mod HB5.out.2.2.2.1 HB5.out.2.2.2.2 (((HM56.out.mono (fun _ x => .inl x)).setCell (p := ⟨w4.heap.size, 6, none⟩) (.inl (.inl (.inl rfl))) (.int .i64 ((D.by_ f).length : Nat))).trans HMf.out)⟩
      | ok nn t =>
        obtain ⟨ht1, ht2, ht3, hn64⟩ := dec_took bb 0 0 nn t hd2 (fun _ => by decide)
        rw [hd2] at hpf HN3
        simp only [] at hpf
        have hn64' : Hid (nn < 18446744073709551616) := Lib.hid hn64
        have htm : t ≤ m' := by omega
        have hwa : IntKind.u64.wrap ((m' : Int) - (t : Int)) = (m' : Int) - (t : Int) := by rw [IntKind.wrap_u64]; omega
        have hwb : IntKind.i64.wrap ((m' : Int) - (t : Int)) = (m' : Int) - (t : Int) := by rw [IntKind.wrap_i64]; omega
        by_cases hbig : bb.length - t < nn
        · rw [if_pos hbig] at hpf
          have hpar := Lib.hid hpf.symm
          have hI : ((m' : Int) - (t : Int) < (nn : Int)) = True := by simp; omega
          clear hpf hrep hrow hAb' hbm' hmw hdisk hrepS hdiskS hm56 hnn hm0 hd2 hbig hn64
          go_wp2_with (first
            | (go_at_call 38; refine HN3.out.mono ?_; rintro e w7 ⟨rfl, hw7⟩; rw [hw7]; clear hw7; unfold Got.val)
            | (go_at_call 40; refine (anew_gen HPt.out HDk.out HAt.out hrt.out hlen).mono ?_
               rintro e w9a (⟨rfl, D9, f9, hrep9, hold9, hpag9, hz9, hlk9, hby9, hsu9, hkp9, hln9, hm9⟩ | ⟨rfl, hm9⟩)
               rotate_left
               have HMf := Lib.hid hm9
               clear hm9
               rotate_left
               have HRm := Lib.hid (remove_gen hrep9 freshB may_fresh)
               unfold freshB at HRm
               have hap9 : Apart w4.heap.size ({ Pg.new d w1.heap.size w2.heap.size w3.heap.size with root := root, now := now, size := (D.by_ f).length }) D9 := fun b hb hd => (hold9 b hd).elim (HAt.out b hb) (fun e => by have := HPt.out.lt hb; omega)
               have HPt := Lib.hid hpag9
               have HAt := Lib.hid hap9
               have HX9 := Lib.hid (And.intro hold9 (And.intro hz9 (And.intro hlk9 (And.intro hby9 (And.intro hln9 hm9)))))
               clear hrep9 hold9 hpag9 hz9 hlk9 hby9 hsu9 hkp9 hln9 hm9 hap9)
            | (go_at_call 41; refine HRm.out.mono ?_; rintro e w7 ⟨⟨r7, rfl⟩, vn7, l7, hst7, hno7, hoth7, hle7⟩
               have HS7 := Lib.hid hst7
               have HO7 := Lib.hid (And.intro hoth7 hle7)
               clear hst7 hno7 hoth7 hle7)
            | (go_at_call 42; refine (names_ok HS7.out.rep).mono ?_; rintro e w8 ⟨rfl, vk8, hst8⟩
               have hst78 := HS7.out.trans hst8
               have hp8 := HPt.out.mod hst78.mod HAt.out
               have cp8 := hp8.blk.cell
               unfold Pg.cells at cp8
               have HP8 := Lib.hid hp8
               have HS8 := Lib.hid hst78
               clear hst8 hst78 hp8)
            | (at_range; refine wpl_range rfl _ rfl und_mapPage rfl HP8.out.now ?_; intro w9 left0 hit0 hm9 hsz9))
          · have hm56 := HM56.out
            have HI9 := Lib.hid hit0
            have HM9 := Lib.hid hm9
            clear hit0 hm9 hsz9 cp8
            try go_frame
            go_loopw [13] (fun _ wr => ∃ vis left s, IterRep wr w8.heap.size w1.heap.size (mapV ({ ({ Pg.new d w1.heap.size w2.heap.size w3.heap.size with root := root, now := now, size := (D.by_ f).length }) with size := (Pg.record ({ Pg.new d w1.heap.size w2.heap.size w3.heap.size with root := root, now := now, size := (D.by_ f).length }) (used (Pg.has ({ Pg.new d w1.heap.size w2.heap.size w3.heap.size with root := root, now := now, size := (D.by_ f).length })) 4000)).length }).now) vis left ∧ PagRep wr w4.heap.size { ({ ({ Pg.new d w1.heap.size w2.heap.size w3.heap.size with root := root, now := now, size := (D.by_ f).length }) with size := (Pg.record ({ Pg.new d w1.heap.size w2.heap.size w3.heap.size with root := root, now := now, size := (D.by_ f).length }) (used (Pg.has ({ Pg.new d w1.heap.size w2.heap.size w3.heap.size with root := root, now := now, size := (D.by_ f).length })) 4000)).length }) with dirty := s } ∧ Mod (One w3.heap.size) w8 wr) (fun _ wr => iterLeft wr w1.heap.size w8.heap.size)
            case atStart => exact ⟨[], left0, ({ ({ Pg.new d w1.heap.size w2.heap.size w3.heap.size with root := root, now := now, size := (D.by_ f).length }) with size := (Pg.record ({ Pg.new d w1.heap.size w2.heap.size w3.heap.size with root := root, now := now, size := (D.by_ f).length }) (used (Pg.has ({ Pg.new d w1.heap.size w2.heap.size w3.heap.size with root := root, now := now, size := (D.by_ f).length })) 4000)).length }).dirty, HI9.out, HP8.out.non HM9.out, HM9.out.mono (fun _ x => x.elim)⟩
            case round =>
              obtain ⟨vis, left, s, hit, hrep, hm⟩ := hrel
              have HLe := Lib.hid hit.left_eq
              have HM := Lib.hid hm
              have HRep := Lib.hid hrep
              have hm3lt : w3.heap.size < w8.heap.size := HP8.out.lt (.inr (.inr (.inr rfl)))
              have hm1lt : w1.heap.size < w8.heap.size := HP8.out.lt (.inr (.inl rfl))
              have hplt : w4.heap.size < w8.heap.size := HP8.out.lt (.inl rfl)
              clear hm hrep
              go_wp2_with (first
                | (at_next
                   refine wpl_next rfl (.tmp 96) rfl rfl hit ?_ ?_
                   intro w10 hm10 hall
                   have HP10 := Lib.hid (HRep.out.non hm10)
                   rotate_left
                   intro w10 k v left' hm10 hfk hnv hlt hit2 hent
                   have hrep10 : PagRep w10 w4.heap.size { ({ ({ Pg.new d w1.heap.size w2.heap.size w3.heap.size with root := root, now := now, size := (D.by_ f).length }) with size := (Pg.record ({ Pg.new d w1.heap.size w2.heap.size w3.heap.size with root := root, now := now, size := (D.by_ f).length }) (used (Pg.has ({ Pg.new d w1.heap.size w2.heap.size w3.heap.size with root := root, now := now, size := (D.by_ f).length })) 4000)).length }) with dirty := s } := HRep.out.mod hm10 (fun b hb e => by cases e; exact absurd (HP8.out.lt (b := w8.heap.size) hb) (Nat.lt_irrefl _))
                   have cp10 := hrep10.blk.cell
                   unfold Pg.cells at cp10
                   obtain ⟨fd, c0, hd1, hc0, hdo⟩ := hrep10.dirty.get k
                   have HRep10 := Lib.hid hrep10
                   have Hc0 := Lib.hid hc0
                   clear hrep10 hc0
                   rotate_left)
                | (at_lookup; refine wpl_lookup_val rfl _ _ rfl und_mapInt und_u32 zero_int rfl hd1 k rfl Hc0.out ?_)
                | (at_mapUpdate; refine wpl_mapUpdate rfl _ _ _ rfl und_mapInt und_u32 rfl hd1 k rfl rfl ?_; intro w12 hd12 hm12)
                | (go_at_call 43; refine (keep_ok HP10.out).mono ?_; rintro e w11 ⟨rfl, hrep11, hm11⟩))
              · go_ret2
                have hm8 : Mod (PS w4.heap.size ({ ({ Pg.new d w1.heap.size w2.heap.size w3.heap.size with root := root, now := now, size := (D.by_ f).length }) with size := (Pg.record ({ Pg.new d w1.heap.size w2.heap.size w3.heap.size with root := root, now := now, size := (D.by_ f).length }) (used (Pg.has ({ Pg.new d w1.heap.size w2.heap.size w3.heap.size with root := root, now := now, size := (D.by_ f).length })) 4000)).length })) w8 w11 := ((HM.out.mono (fun b hb => .inr (.inr (.inr hb)))).trans (hm10.mono (fun _ x => x.elim))).trans hm11
                obtain ⟨hold9, hz9, hlk9, hby9, hln9, hm9'⟩ := HX9.out
                have hs5 := HB5.out.2.2.2.2.size
                have hs56 := hm56.size
                have hmw9 : Mod (DS d D) w w9a := open_mod HB5.out.2.2.2.1 HB5.out.2.2.2.2 (((hm56.mono (fun _ x => .inl x)).setCell (p := ⟨w4.heap.size, 6, none⟩) (.inl (.inl (.inl rfl))) (.int .i64 ((D.by_ f).length : Nat))).trans hm9')
                have hm08 : Mod (DS d D) w w8 := hmw9.andThen HS8.out.mod (fun b hb hlt => (hold9 b hb).elim id (fun e => by simp at e; omega))
                exact .inr ⟨w4.heap.size, _, _, f9, rfl, opens_end HPt.out HAt.out hrt.out hfw.out hlk9 (by rw [hby9]; exact parse_record (G := { Pg.new d w1.heap.size w2.heap.size w3.heap.size with root := root, now := now, size := (D.by_ f).length }) hrt.out hfw.out HPt.out.len) (by rw [hby9]) HS8.out HO7.out.1 hrep11 hm8, rfl, HB5.out.2.2.2.1,
                  fun b hb => (HS8.out.old b hb).elim (fun h => (hold9 b h).imp id (fun e => by simp at e; omega)) (fun e => .inr (by have h3 := hmw9.size; omega)), hz9, Nat.le_trans HO7.out.2 hln9, fun f0 root' now' e1 e2 => (by
                    rw [HL.out] at e1
                    cases e1
                    rw [hpar.out] at e2
                    cases e2), hm08.andThen hm8 (fun b hb hlt => absurd (HB5.out.2.2.2.1 b hb) (by omega))⟩
              · have hit12 := hit2.mod hm12 (fun e => HP8.out.ne13 e) (fun e => by have e : w8.heap.size = w3.heap.size := e; omega)
                have HLe12 := Lib.hid hit12.left_eq
                go_roundw
                case rel => exact ⟨⟨k :: vis, left', hit12⟩, ⟨_, HRep10.out.setDirty hm12 (hdo _ _ hd12)⟩, (HM.out.andThen hm10 (fun b hb hlt2 => by cases hb; omega)).andThen hm12 (fun b hb _ => hb)⟩
                case measure =>
                  rw [HLe.out, HLe12.out]
                  exact hlt
          · go_ret2
            exact .inl ⟨6, .inr rfl, rfl, fun f0 root' now' e1 e2 => (by rw [HL.out] at e1; cases e1; rw [hpar.out] at e2; cases e2), open_mod HB5.out.2.2.2.1 HB5.out.2.2.2.2 (((HM56.out.mono (fun _ x => .inl x)).setCell (p := ⟨w4.heap.size, 6, none⟩) (.inl (.inl (.inl rfl))) (.int .i64 ((D.by_ f).length : Nat))).trans HMf.out)⟩
        · rw [if_neg hbig] at hpf
          have hI : ((m' : Int) - (t : Int) < (nn : Int)) = False := by simp; omega
          have hnn2 : t + nn ≤ m' := by omega
          have hwc : IntKind.i64.wrap (nn : Int) = (nn : Int) := by rw [IntKind.wrap_i64]; omega
          have hB5l : ∀ b, PS w4.heap.size (Pg.new d w1.heap.size w2.heap.size w3.heap.size) b → b < B5 := fun b hb => by rw [HB5e.out]; exact HB5.out.1.lt hb
          have hadp : ¬ PS w4.heap.size (Pg.new d w1.heap.size w2.heap.size w3.heap.size) ad.block := fun hp => by have h1 := hB5l _ hp; have h2 := HAb.out ad rfl; omega
          have HAD := Lib.hid hadp
          have hnm : nn ≤ 1048576 := by omega
          have hncc : nn ≤ c' - t := by omega
          have hc63 : c' - t ≤ maxLen := by unfold maxLen; omega
          cases hrec : recR now ((bb.drop t).take nn) with
          | none =>
            rw [hrec] at hpf
            have hpar := Lib.hid hpf.symm
            have HRec := Lib.hid hrec
            clear hpf hrep hrow hAb' hbm' hmw hdisk hrepS hdiskS hm56 hnn hm0 hd2 hbig hn64 hadp hB5l hrec
            go_wp2_with (first
              | (go_at_call 38; refine HN3.out.mono ?_; rintro e w7 ⟨rfl, hw7⟩; rw [hw7]; clear hw7; unfold Got.val)
              | (refine wpl_part rfl (.tmp 60) (.tmp 61) (.tmp 65) rfl rfl rfl (h := t + nn) rfl HRow.out (Nat.le_add_right _ _) hnn2 hmc' ?_; intro ad1 hab1 hr1
                 rw [Nat.add_sub_cancel_left] at hr1 ⊢
                 have HAD1 : Hid (¬ PS w4.heap.size (Pg.new d w1.heap.size w2.heap.size w3.heap.size) ad1.block) := by rw [hab1]; exact HAD)
              | (go_at_call 39; refine (reads_ok HRep.out ad1 nn (c' - t) _ hr1 hncc hc63 hnm HAD1.out).mono ?_
                 intro e w8 hsay
                 obtain ⟨rfl, hm8⟩ := hsay.of_none HRec.out))
            go_ret2
            exact .inl ⟨4, .inl rfl, rfl, fun f0 root' now' e1 e2 => (by rw [HL.out] at e1; cases e1; rw [hpar.out] at e2; cases e2), open_mod HB5.out.2.2.2.1 HB5.out.2.2.2.2 ((HM56.out.trans hm8).mono (fun _ x => .inl x))⟩
          | some rx =>
            obtain ⟨r', x'⟩ := rx
            rw [hrec] at hpf
            have hpf2 := Lib.hid hpf
            have HRec := Lib.hid hrec
            clear hpf hrep hrow hAb' hbm' hmw hdisk hrepS hdiskS hm56 hnn hm0 hd2 hbig hn64 hadp hB5l hrec
            go_wp2_with (first
              | (go_at_call 38; refine HN3.out.mono ?_; rintro e w7 ⟨rfl, hw7⟩; rw [hw7]; clear hw7; unfold Got.val)
              | (refine wpl_part rfl (.tmp 60) (.tmp 61) (.tmp 65) rfl rfl rfl (h := t + nn) rfl HRow.out (Nat.le_add_right _ _) hnn2 hmc' ?_; intro ad1 hab1 hr1
                 rw [Nat.add_sub_cancel_left] at hr1 ⊢
                 have HAD1 : Hid (¬ PS w4.heap.size (Pg.new d w1.heap.size w2.heap.size w3.heap.size) ad1.block) := by rw [hab1]; exact HAD)
              | (go_at_call 39; refine (reads_ok HRep.out ad1 nn (c' - t) _ hr1 hncc hc63 hnm HAD1.out).mono ?_
                 intro e w8 hsay
                 obtain ⟨rfl, hr32, hrep8, hm8⟩ := hsay.of_some HRec.out
                 have hrow8 : RowAt w8 (some ad) m' 1 (bv bb) := HRow.out.mod (by decide) hm8 (fun ad' e _ hs => by cases e; exact HAD.out hs)
                 have HRep8 := Lib.hid hrep8
                 have HR32 := Lib.hid hr32
                 clear hrep8 hr32 hsay)
              | (refine wpl_from rfl (.tmp 69) (.tmp 73) rfl rfl (t := t + nn) rfl hrow8 hnn2 hmc' ?_; intro ad3 hab3 hr3))
            go_roundw
            case rel =>
              refine ⟨rfl, k, r', x', bb.drop (t + nn), some ad3, m' - (t + nn), c' - (t + nn), rfl, by omega, by omega, fun ad' e => (by cases e; rw [hab3]; exact HAb.out ad rfl), hr3, HRep8.out, HR32, Lib.hid (recR_few hfw.out HRec.out), ?_, ?_, HMW.out.trans hm8⟩
              · rw [List.length_drop]; omega
              · rw [← hpf2.out, List.drop_drop]
            case measure => simp [lenV]; omega
end
end Go.Proofs.YtgillcppnpkkiaaGreatDoor

namespace Go.Proofs.YtgillcppnpkkiaaGreatDoor
open Go Go.RowKit
section
variable {w : World}
set_option maxHeartbeats 400000 in
theorem clone_owns (ad : Addr) (n c : Nat) (l : List UInt8) (h : RowAt w (some ad) n 1 (bv l)) (hn : n ≤ 1048576) :
    Calls Tryz.prog 51 #[.slice (some ad) n c] w fun e w' => ∃ v, e = .returned v ∧ w'.ownsRow w.heap.size 5 1 v n (bv l) ∧ Mod Non w w' := by
  have hq := fun (W : World) a n c n' c' => Lib.run_eql_slice_nil (P := Tryz.prog) W 56 5 a n c n' c' und_bytes
  obtain ⟨i0, hi, hz0, hz1, hz2⟩ := info_parts info_u8
  have hown : (w.alloc (.cells #[] 5)).ownsRow w.heap.size 5 1 (.slice (some ⟨w.heap.size, 0, none⟩) 0 0) 0 [] := World.ownsRow_made w #[] 0 (Nat.le_refl _) (Nat.zero_le _) (by simp)
  have hm1 : Mod Non w (w.alloc (.cells #[] 5)) := (Mod.refl _ _).alloc _
  have hr1 := h.non (by omega) hm1
  have hml : (0 + n) ≤ maxLen := by unfold maxLen; omega
  go_enter Tryz.func51, Tryz.ntmps51
  go_wp2_with (at_builtin; refine wpl_append rfl (.tmp 5) (.tmp 6) _ rfl w.heap.size 5 i0 (.int .u8 0) 1 1 und_bytes hi hz0 hz1 hz2 rfl (by omega) (v := .slice (some ⟨w.heap.size, 0, none⟩) 0 0) rfl hown rfl hr1 (bv_one l) hml (by omega) hm1.size ?_; intro v' w1 ho1 hg1 hnil)
  go_ret
  have ho2 : w1.ownsRow w.heap.size 5 1 v' n (bv l) := by simpa using ho1
  refine ⟨v', rfl, ho2, hm1.andThen (Mod.of_grown (S := One w.heap.size) hg1 (fun k hk => by simp [Value.ownBlock] at hk; exact hk.symm)) (fun b hb hlt => by cases hb; omega)⟩

end
section
variable {w w' : World} {d : Nat} {D : Dk}
set_option maxRecDepth 100000 in
theorem min_one {g : Nat} {a : Int} (hb : Blk w g 3 #[.int .i64 a]) :
    Calls Tryz.prog 128 #[.slice (some ⟨g, 0, none⟩) 1 1] w fun e w' => e = .returned (.int .i64 a) ∧ w' = w := by
  have c0 := hb.cell
  clear hb
  go_enter Tryz.func128, Tryz.ntmps128
  go_wp2
  go_loopw [3, 4] (fun m i wr => (m = .int .i64 a ∧ i = .int .i64 1) ∧ wr = w) (fun _ i _ => 3 - (intOf i).toNat)
  case atStart => exact ⟨⟨rfl, rfl⟩, rfl⟩
  case round =>
    obtain ⟨⟨rfl, rfl⟩, rfl⟩ := hrel
    go_wp2
    go_ret
    exact ⟨rfl, rfl⟩
set_option maxRecDepth 100000 in
theorem asked_one (h : DiskRep w d D) {g : Nat} (hb : Blk w g 3 #[.int .i64 0]) :
    Calls Tryz.prog 53 #[.pointer (some ⟨d, 0, none⟩), .slice (some ⟨g, 0, none⟩) 1 1] w fun e w' => e = .returned (.int .i64 0) ∧ w' = w := by
  have c := h.blk.cell
  have hs := h.s1
  have h0 : ((D.size : Int) == 0) = false := by simp; omega
  have HM := Lib.hid (min_one hb)
  clear h hb
  go_enter Tryz.func53, Tryz.ntmps53
  go_wp2_with (go_at_call 128; refine HM.out.mono ?_; rintro e w1 ⟨rfl, rfl⟩)
  go_ret
  exact ⟨rfl, rfl⟩

def LeftSays (w : World) (sure : Nat) (b : List UInt8) (e : Ending) (w' : World) : Prop := ∃ g v, e = .returned (.pointer (some ⟨g, 0, none⟩)) ∧ w.heap.size ≤ g ∧ Blk w' g 118 #[v, .int .i64 sure] ∧
      w'.ownsRow w.heap.size 5 1 v sure (bv (b.take sure)) ∧ Mod Non w w'
set_option maxHeartbeats 1000000 in
set_option maxRecDepth 100000 in
theorem left_file {f sure : Nat} {fv : Value} {b : List UInt8} (h : Blk w f 118 #[fv, .int .i64 sure]) (ho : w.ownsRow 0 5 1 fv b.length (bv b)) (hs : sure ≤ b.length) (hl : b.length ≤ 1048576) :
    Calls Tryz.prog 55 #[.pointer (some ⟨f, 0, none⟩), .int .i64 0] w fun e w' => LeftSays w sure b e w' := by
  have hmn : min (0 : Int) ((b.length : Int) - (sure : Int)) = 0 := by omega
  have hwr : IntKind.i64.wrap ((b.length : Int) - (sure : Int)) = (b.length : Int) - (sure : Int) := by rw [IntKind.wrap_i64]; omega
  rcases ho.2 with ⟨rfl, hn0⟩ | ⟨g, cap, cur, rfl, _, hg, hnc, hcm, hcs, ht⟩
  · have hnil : b = [] := List.length_eq_zero_iff.1 hn0
    subst hnil
    have hs0 : sure = 0 := by simpa using hs
    subst hs0
    have h' : Blk w f 118 #[.slice none 0 0, .int .i64 0] := h
    have c := h'.cell
    clear h h' ho hmn hwr
    go_enter Tryz.func55, Tryz.ntmps55
    go_wp2
    go_quiet (fail)
    have hmq : Mod Non w (w.drewN nq) := (Mod.refl _ _).drewN nq
    go_wp2_with (go_at_call 51; refine clone_nil.mono ?_; rintro e w2 ⟨rfl, hw2⟩; rw [hw2]; clear hw2)
    go_ret
    exact ⟨_, _, rfl, Nat.le_refl _, Blk.new _ _ _, World.ownsRow_nil _ _ _ _, hmq.alloc _⟩
  · have hrow : RowAt w (some ⟨g, 0, none⟩) b.length 1 (bv b) := by
      obtain ⟨A', c', e', _, hr', _⟩ := owns_form ho
      cases e'
      exact hr'
    have c := h.cell
    have HR := Lib.hid (row_take hrow hs)
    have hsc : sure ≤ cap := by omega
    have hcap : cap ≤ 9223372036854775807 := hcm
    clear h ho hrow hg hcs ht hcm
    go_enter Tryz.func55, Tryz.ntmps55
    go_wp2
    go_quiet (fail)
    have hmq : Mod Non w (w.drewN nq) := (Mod.refl _ _).drewN nq
    have hrq := HR.out.non (by decide) hmq
    have cq : ∀ i, (w.drewN nq).cell? ⟨f, i, none⟩ = w.cell? ⟨f, i, none⟩ := fun _ => rfl
    go_wp2_with (go_at_call 51; refine (clone_owns _ sure cap (b.take sure) hrq (by omega)).mono ?_; rintro e w2 ⟨v2, rfl, ho2, hm2⟩; obtain ⟨A2, c2, rfl, _, _, _⟩ := owns_form ho2)
    go_ret
    exact ⟨_, _, rfl, Nat.le_trans hmq.size hm2.size, Blk.new _ _ _, ho2.alloc _, (hmq.trans hm2).alloc _⟩
end
end Go.Proofs.YtgillcppnpkkiaaGreatDoor

namespace Go.Proofs.YtgillcppnpkkiaaGreatDoor
open Go Go.RowKit
section
variable {w w' : World} {d : Nat} {D : Dk} {S : Nat → Prop}
def Dk.swap (D : Dk) (q : Nat) (s : ByteArray) (g : Nat) (v : Value) (b : List UInt8) (n : Nat) : Dk :=
  { D with now := D.now.set q (s, g), fv := upd D.fv g v, by_ := upd D.by_ g b, sure := upd D.sure g n }
theorem names_set {l : List (ByteArray × Nat)} {q f g : Nat} {s : ByteArray} (h : l[q]? = some (s, f)) : (l.set q (s, g)).map (·.1) = l.map (·.1) := by
  rw [List.map_set]
  apply set_self_of
  rw [List.getElem?_map, h]
  rfl
theorem rising_of_names {l k : List (ByteArray × Nat)} (h : Rising l) (e : k.map (·.1) = l.map (·.1)) : Rising k := by
  unfold Rising at h ⊢
  have e0 : ∀ l : List (ByteArray × Nat), l.Pairwise (fun a b => nlt a.1 b.1 = true) ↔ (l.map (·.1)).Pairwise (fun a b => nlt a b = true) := fun l => (List.pairwise_map (f := fun x : ByteArray × Nat => x.1) (R := fun a b => nlt a b = true)).symm
  rw [e0] at h ⊢
  rw [e]
  exact h
theorem DiskRep.swap (h : DiskRep w d D) {q f g : Nat} {s : ByteArray} {v : Value} {b : List UInt8} {n : Nat} (hx : D.now[q]? = some (s, f)) (hm : Mod S w w') (hS : ∀ b, S b → D.vn.ownBlock = some b) (hg : w.heap.size ≤ g)
    (hv : w'.ownsRow 0 112 2 D.vn (D.now.set q (s, g)).length (ents (D.now.set q (s, g)))) (hgb : Blk w' g 118 #[v, .int .i64 n]) (hgr : w'.ownsRow w.heap.size 5 1 v b.length (bv b)) (hn : n ≤ b.length) (hbl : b.length ≤ 1048576) :
    DiskRep w' d (D.swap q s g v b n) := by
  have hkeep : ∀ b, b < w.heap.size → D.vn.ownBlock ≠ some b → w'.heap[b]? = w.heap[b]? := fun b hlt h2 => hm.block b hlt (fun hs => h2 (hS b hs))
  have old : ∀ k, D.isFile k → k ≠ g := fun k hk e => h.not_new (e ▸ hg) hk
  have hold : ∀ k, (D.swap q s g v b n).isFile k → k = g ∨ D.isFile k := by
    rintro k ⟨x, hx | hx, rfl⟩
    · rcases List.mem_or_eq_of_mem_set hx with h1 | rfl
      · exact .inr ⟨x, .inl h1, rfl⟩
      · exact .inl rfl
    · exact .inr ⟨x, .inr hx, rfl⟩
  have hd : D.vn.ownBlock ≠ some d := own_blk_ne h.now h.blk (by decide)
  refine ⟨(hkeep d h.blk.lt hd).trans h.blk, hv, owns_keep h.kept (fun b' hb' => hkeep b' (h.kept.lt b' hb').2 (fun e => h.rows b' e hb')), h.rows, fun k hk => ?_, fun k j b' hk hj hkj hb' => ?_, rising_of_names h.rising (names_set hx), h.risingK, ?_, h.distinctK, by rw [show (D.swap q s g v b n).now.length = D.now.length from List.length_set]; exact h.len, h.lenK, h.s1, h.s2⟩
  · rcases hold k hk with rfl | hk
    · simp only [Dk.swap, upd_same]
      exact ⟨hgb, owns_base hgr, hn, hbl⟩
    · simp only [Dk.swap, upd_other _ _ (old k hk)]
      obtain ⟨gb, gr, gs⟩ := h.file k hk
      refine ⟨(hkeep k gb.lt (own_blk_ne h.now gb (by decide))).trans gb, owns_keep gr (fun b' hb' => ?_), gs⟩
      obtain ⟨cur, hc⟩ := own_blk gr hb'
      exact hkeep b' hc.lt (own_blk_ne h.now hc (by decide))
  · simp only [Dk.swap] at hb' ⊢
    rcases hold k hk with e1 | hk1
    · rw [e1, upd_same] at hb'
      rcases hold j hj with e2 | hj1
      · exact absurd (e1.trans e2.symm) hkj
      · rw [upd_other _ _ (old j hj1)]
        intro e
        have h1 := (hgr.lt b' hb').1
        have h2 := ((h.file j hj1).2.1.lt b' e).2
        omega
    · rw [upd_other _ _ (old k hk1)] at hb'
      rcases hold j hj with e2 | hj1
      · rw [e2, upd_same]
        intro e
        have h1 := (hgr.lt b' e).1
        have h2 := ((h.file k hk1).2.1.lt b' hb').2
        omega
      · rw [upd_other _ _ (old j hj1)]
        exact h.sep k j b' hk1 hj1 hkj hb'
  · have h0 := h.distinct
    show (D.now.set q (s, g)).Pairwise _
    rw [List.pairwise_iff_getElem] at h0 ⊢
    intro i j hi hj hij
    rw [List.getElem_set, List.getElem_set]
    rw [List.length_set] at hi hj
    by_cases e1 : q = i
    · rw [if_pos e1, if_neg (by omega)]
      exact fun e => old _ ⟨_, .inl (List.getElem_mem hj), rfl⟩ e.symm
    · rw [if_neg e1]
      by_cases e2 : q = j
      · rw [if_pos e2]
        exact old _ ⟨_, .inl (List.getElem_mem hi), rfl⟩
      · rw [if_neg e2]
        exact h0 i j hi hj hij
theorem swap_DS {q g : Nat} {s : ByteArray} {v : Value} {b : List UInt8} {n B : Nat} (hg : B ≤ g) (hv : ∀ b, v.ownBlock = some b → B ≤ b) {x : Nat} (hx : DS d (D.swap q s g v b n) x) : DS d D x ∨ B ≤ x := by
  rcases hx with h | h | h | ⟨k, ⟨y, hy, rfl⟩, h⟩
  · exact .inl (.inl h)
  · exact .inl (.inr (.inl h))
  · exact .inl (.inr (.inr (.inl h)))
  · by_cases hk : y.2 = g
    · rw [hk] at h
      rcases h with h | h
      · exact .inr (h ▸ hg)
      · simp only [Dk.swap, upd_same] at h
        exact .inr (hv _ h)
    · simp only [Dk.swap, upd_other _ _ hk] at h
      refine .inl (.inr (.inr (.inr ⟨y.2, ?_, h⟩)))
      rcases hy with hy | hy
      · rcases List.mem_or_eq_of_mem_set hy with h1 | rfl
        · exact ⟨y, .inl h1, rfl⟩
        · exact absurd rfl hk
      · exact ⟨y, .inr hy, rfl⟩
end

section
variable {w w' : World} {d : Nat} {D : Dk}
def FailSays (w : World) (d : Nat) (D : Dk) (e : Ending) (w' : World) : Prop :=
  ∃ x E, e = .returned (.tuple #[.pointer (some ⟨x, 0, none⟩), .int .i64 0]) ∧ DiskRep w' x E ∧ w.heap.size ≤ x ∧ (∀ b, DS x E b → DS d D b ∨ w.heap.size ≤ b) ∧ E.size = D.size ∧ E.now.length = D.kept.length ∧
    (∀ s f, look D.kept s = some f → ∃ g, look E.now s = some g ∧ E.by_ g = (D.by_ f).take (D.sure f)) ∧ Mod Non w w'
/-- The disk that a failure lays, ahead of its files. -/
def Dk.failed (D : Dk) (v : Value) : Dk := { D with vn := v, vk := .slice none 0 0, now := D.kept, kept := [] }
theorem failed_rep {w0 : World} (h : DiskRep w0 d D) (hm : Mod Non w0 w) {x : Nat} {v : Value} (hb : Blk w x 80 #[.int .i64 D.size, v, .slice none 0 0]) (hv : w.ownsRow 0 112 2 v D.kept.length (ents D.kept)) : DiskRep w x (D.failed v) := by
  have h1 := h.non hm
  have hf : ∀ f, (D.failed v).isFile f → D.isFile f := by
    rintro f ⟨y, hy | hy, rfl⟩
    · exact ⟨y, .inr hy, rfl⟩
    · cases hy
  exact ⟨hb, hv, World.ownsRow_nil _ _ _ _, fun b _ e => (by cases e), fun f hff => h1.file f (hf f hff), fun f g b hff hg hne => h1.sep f g b (hf f hff) (hf g hg) hne, h1.risingK, .nil, h1.distinctK, .nil, h1.lenK, Nat.zero_le _, h1.s1, h1.s2⟩

/-- The state of Fail's loop behind k files. -/
structure FSt (w : World) (d : Nat) (D : Dk) (x : Nat) (v : Value) (k : Nat) (wr : World) (E : Dk) : Prop where
  rep : DiskRep wr x E
  vn : E.vn = v
  vk : E.vk = .slice none 0 0
  kept : E.kept = []
  size : E.size = D.size
  len : E.now.length = D.kept.length
  rest : ∀ j, k ≤ j → E.now[j]? = D.kept[j]?
  same : ∀ f, f < w.heap.size → E.fv f = D.fv f ∧ E.by_ f = D.by_ f ∧ E.sure f = D.sure f
  done : ∀ j s f, j < k → D.kept[j]? = some (s, f) → ∃ g, E.now[j]? = some (s, g) ∧ E.by_ g = (D.by_ f).take (D.sure f) ∧ E.sure g = D.sure f
  ds : ∀ b, DS x E b → DS d D b ∨ w.heap.size ≤ b
  mod : Mod Non w wr
theorem FSt.start {w wr : World} (h : DiskRep w d D) (hm : Mod Non w wr) {x : Nat} {v : Value} (hb : Blk wr x 80 #[.int .i64 D.size, v, .slice none 0 0]) (hv : wr.ownsRow 0 112 2 v D.kept.length (ents D.kept)) (hx : w.heap.size ≤ x) (hvn : ∀ b, v.ownBlock = some b → w.heap.size ≤ b) : FSt w d D x v 0 wr (D.failed v) := by
  refine ⟨failed_rep h hm hb hv, rfl, rfl, rfl, rfl, rfl, fun _ _ => rfl, fun _ _ => ⟨rfl, rfl, rfl⟩, fun j _ _ hj => absurd hj (Nat.not_lt_zero _), fun b hb => ?_, hm⟩
  rcases hb with h | h | h | ⟨k, ⟨y, hy | hy, rfl⟩, h⟩
  · exact .inr (h ▸ hx)
  · exact .inr (hvn b h)
  · cases h
  · exact .inl (.inr (.inr (.inr ⟨y.2, ⟨y, .inr hy, rfl⟩, h⟩)))
  · cases hy
theorem owns_up {w : World} {base base' : Nat} {e : TypeId} {size : Nat} {v : Value} {n : Nat} {xs : List Value} (h : w.ownsRow base e size v n xs) (hB : base' ≤ base) : w.ownsRow base' e size v n xs :=
  ⟨h.1, h.2.imp id (fun ⟨g, cap, cur, e, hb, r⟩ => ⟨g, cap, cur, e, Nat.le_trans hB hb, r⟩)⟩
theorem FSt.next {w wr w2 : World} {x : Nat} {k n c gb : Nat} {E : Dk} (h0 : DiskRep w d D) (h : FSt w d D x (.slice (some ⟨gb, 0, none⟩) n c) k wr E) {s : ByteArray} {f : Nat} (hk : D.kept[k]? = some (s, f)) (hm : Mod Non wr w2) (hvn : w.heap.size ≤ gb) {g : Nat} (hg : wr.heap.size ≤ g)
    {vv : Value} {B : Nat} (hgb : Blk w2 g 118 #[vv, .int .i64 (D.sure f)]) (hB : wr.heap.size ≤ B) (hgr : w2.ownsRow B 5 1 vv (D.sure f) (bv ((D.by_ f).take (D.sure f)))) :
    FSt w d D x (.slice (some ⟨gb, 0, none⟩) n c) (k + 1) (w2.setCell ⟨gb, k * 2 + 1, none⟩ (.pointer (some ⟨g, 0, none⟩))) (E.swap k s g vv ((D.by_ f).take (D.sure f)) (D.sure f)) := by
  have hfile : D.isFile f := ⟨_, .inr (List.mem_of_getElem? hk), rfl⟩
  obtain ⟨fb, fr, fs, fl⟩ := h0.file f hfile
  have hlen : ((D.by_ f).take (D.sure f)).length = D.sure f := by rw [List.length_take]; omega
  have hek := (h.rest k (Nat.le_refl _)).trans hk
  have hkl := (List.getElem?_eq_some_iff.1 hek).1
  have hnow := (h.rep.non hm).now
  rw [h.vn] at hnow
  obtain ⟨g', c', cur, e1, hb', hnc, hcm, hcs, hct⟩ := owns_open hnow (by omega)
  cases e1
  have hgbl : gb < wr.heap.size := (h.rep.now.lt gb (by rw [h.vn]; rfl)).2
  have hmd : Mod (One gb) wr (w2.setCell ⟨gb, k * 2 + 1, none⟩ (.pointer (some ⟨g, 0, none⟩))) := (hm.mono (T := One gb) (fun _ x => x.elim)).setCell (p := ⟨gb, k * 2 + 1, none⟩) (.inl rfl) _
  have hrow : (w2.setCell ⟨gb, k * 2 + 1, none⟩ (.pointer (some ⟨g, 0, none⟩))).ownsRow 0 112 2 E.vn (E.now.set k (s, g)).length (ents (E.now.set k (s, g))) := by
    rw [List.length_set, ents_set hek, h.vn]
    refine ⟨by rw [List.length_set, ents_length], .inr ⟨gb, c, _, rfl, Nat.zero_le _, hb'.set (k * 2 + 1) (.pointer (some ⟨g, 0, none⟩)), hnc, hcm, ?_, ?_⟩⟩
    · rw [Array.size_setIfInBounds]
      exact hcs
    · rw [Array.toList_setIfInBounds, ← hct, List.take_set]
  have hgr' : (w2.setCell ⟨gb, k * 2 + 1, none⟩ (.pointer (some ⟨g, 0, none⟩))).ownsRow wr.heap.size 5 1 vv ((D.by_ f).take (D.sure f)).length (bv ((D.by_ f).take (D.sure f))) := by
    rw [hlen]
    exact owns_keep (owns_up hgr hB) (fun b hb => Below.heap_setCell _ _ _ _ (fun e => by have := (hgr.lt b hb).1; simp at e; omega))
  have hvb : ∀ b, vv.ownBlock = some b → wr.heap.size ≤ b := fun b hb => Nat.le_trans hB (hgr.lt b hb).1
  have hrep := h.rep.swap hek hmd (fun b hb => by cases hb; rw [h.vn]; rfl) hg hrow (hgb.far (fun e => by simp at e; omega) _) hgr' (by rw [hlen]; exact Nat.le_refl _) (by rw [hlen]; omega)
  have hold : ∀ y : ByteArray × Nat, y ∈ E.now → y.2 ≠ g := fun y hy e => h.rep.not_new (f := y.2) (e ▸ hg) ⟨y, .inl hy, rfl⟩
  refine ⟨hrep, h.vn, h.vk, h.kept, h.size, by rw [← h.len]; exact List.length_set, fun j hj => ?_, fun f' hf' => ?_, fun j s' f' hj hj' => ?_, fun b hb => ?_, h.mod.andThen hmd (fun b hb hlt => by cases hb; omega)⟩
  · show (E.now.set k (s, g))[j]? = _
    rw [List.getElem?_set_ne (by omega)]
    exact h.rest j (by omega)
  · have hne : f' ≠ g := by have := h.mod.size; omega
    simp only [Dk.swap, upd_other _ _ hne]
    exact h.same f' hf'
  · rcases Nat.lt_or_eq_of_le (Nat.le_of_lt_succ hj) with h1 | h1
    · obtain ⟨g2, e2, e3⟩ := h.done j s' f' h1 hj'
      refine ⟨g2, by show (E.now.set k (s, g))[j]? = _; rw [List.getElem?_set_ne (by omega)]; exact e2, ?_⟩
      simp only [Dk.swap, upd_other _ _ (hold _ (List.mem_of_getElem? e2))]
      exact e3
    · subst h1
      rw [hk] at hj'
      cases hj'
      exact ⟨g, by show (E.now.set j (s, g))[j]? = _; rw [List.getElem?_set_self hkl], by simp only [Dk.swap, upd_same], by simp only [Dk.swap, upd_same]⟩
  · have := h.mod.size
    rcases swap_DS hg hvb hb with h1 | h1
    · exact h.ds b h1
    · exact .inr (by omega)
theorem look_of_pos {l : List (ByteArray × Nat)} (h : Rising l) {j : Nat} {s : ByteArray} {f : Nat} (hj : l[j]? = some (s, f)) : look l s = some f := by
  unfold look
  have hjl := (List.getElem?_eq_some_iff.1 hj).1
  have hs : l.find? (fun x => decide (x.1 = s)) = some (s, f) := by
    rw [List.find?_eq_some_iff_getElem]
    refine ⟨by simp, j, hjl, (List.getElem?_eq_some_iff.1 hj).2, fun i hi => ?_⟩
    have h0 := List.pairwise_iff_getElem.1 h i j (by omega) hjl hi
    rw [(List.getElem?_eq_some_iff.1 hj).2] at h0
    simp only [Bool.not_eq_true', decide_eq_false_iff_not]
    intro e
    simp only [e] at h0
    rw [nlt_irrefl] at h0
    cases h0
  rw [hs]
  rfl
theorem FSt.says {w wr : World} {x : Nat} {v : Value} {E : Dk} (h0 : DiskRep w d D) (h : FSt w d D x v D.kept.length wr E) : ∀ s f, look D.kept s = some f → ∃ g, look E.now s = some g ∧ E.by_ g = (D.by_ f).take (D.sure f) := by
  intro s f hl
  obtain ⟨p, hp, hf, hx⟩ := pos_at h0.risingK hl
  obtain ⟨g, e1, e2⟩ := h.done p s f (List.getElem?_eq_some_iff.1 hx).1 hx
  exact ⟨g, look_of_pos h.rep.rising e1, e2.1⟩
set_option maxHeartbeats 800000 in
set_option maxRecDepth 100000 in
theorem names_one (h : DiskRep w d D) :
    Calls Tryz.prog 42 #[.pointer (some ⟨d, 0, none⟩)] w fun e w' => e = .returned (.int .i64 0) ∧ ∃ vk, DStep w d D w' (D.setKept vk D.now) ∧ Mod (One d) w w' := by
  have HA := Lib.hid (asked_ok h)
  obtain ⟨A1, c1, A2, c2, e1, e2, l1, l2, r1, r2⟩ := h.opens
  have hb := h.blk
  rw [e1, e2] at hb
  have cb := hb.cell
  have Hb := Lib.hid hb
  have HC := Lib.hid (clone_list h.now h.len)
  rw [e1] at HC
  have E1 := Lib.hid e1
  have H := Lib.hid h
  clear hb r1 r2 e1 e2 h
  go_enter Tryz.func42, Tryz.ntmps42
  go_wp2_with (first
    | (go_at_call 53; refine HA.out.mono ?_; rintro e w1 ⟨rfl, rfl⟩)
    | (go_at_call 54; refine HC.out.mono ?_; rintro e w3 ⟨v3, rfl, ho3, hm3⟩
       obtain ⟨A3, c3, rfl, hc3, _, _⟩ := owns_form ho3
       have HO3 := Lib.hid ho3
       have hb4 := Hb.out.mod hm3 (fun x => x)
       have cb4 := hb4.cell
       have fb4 := hb4.frozen
       have HB4 := Lib.hid hb4
       clear ho3 hb4))
  go_ret
  have hsub : ∀ x ∈ D.now, D.isFile x.2 := fun x hx => ⟨x, .inl hx, rfl⟩
  have hnew : ∀ b, (Value.slice A3 D.now.length c3).ownBlock = some b → w.heap.size ≤ b := fun b hb => (HO3.out.lt b hb).1
  have hmd : Mod (One d) w (w3.setCell ⟨d, 2, none⟩ (.slice A3 D.now.length c3)) := (hm3.mono (T := One d) (fun _ x => x.elim)).setCell (p := ⟨d, 2, none⟩) (.inl rfl) _
  refine ⟨rfl, .slice A3 D.now.length c3, ⟨H.out.setKept hmd ?_ (owns_keep (owns_base HO3.out) (fun b hb => Below.heap_setCell _ _ _ _ (fun e => ?_))) hnew hsub H.out.rising H.out.distinct H.out.len, hmd.mono (fun b x => .inl x), fun b hb => setKept_DS hnew hsub hb⟩, hmd⟩
  · have := HB4.out.set 2 (.slice A3 D.now.length c3)
    rw [E1.out]
    exact this
  · have h1 := hnew b hb
    have h2 := H.out.blk.lt
    simp at e
    omega
end
end Go.Proofs.YtgillcppnpkkiaaGreatDoor

namespace Go.Proofs.YtgillcppnpkkiaaGreatDoor
open Go Go.RowKit
section
variable {w w' : World} {d : Nat} {D : Dk}
set_option maxHeartbeats 2000000 in
set_option maxRecDepth 100000 in
theorem fail_ok (h : DiskRep w d D) : Calls Tryz.prog 23 #[.pointer (some ⟨d, 0, none⟩), .int .i64 0, .bool false] w fun e w' => FailSays w d D e w' := by
  have HA : ∀ W, Mod Non w W → Hid (Calls Tryz.prog 53 #[.pointer (some ⟨d, 0, none⟩), .slice (some ⟨W.heap.size, 0, none⟩) 1 1] (W.alloc (.cells #[.int .i64 0] 3)) fun e w' => e = .returned (.int .i64 0) ∧ w' = W.alloc (.cells #[.int .i64 0] 3)) := fun W hW =>
    Lib.hid (asked_one (h.non (hW.alloc _)) (Blk.new W 3 #[.int .i64 0]))
  obtain ⟨A1, c1, A2, c2, e1, e2, l1, l2, r1, r2⟩ := h.opens
  have H := Lib.hid h
  have hlenK := h.lenK
  have hb0 := h.blk
  rw [e1, e2] at hb0
  have HB0 := Lib.hid hb0
  have E2 := Lib.hid e2
  clear h hb0 e1 e2 r1 r2
  go_enter Tryz.func23, Tryz.ntmps23
  go_wp2_with (go_at_call 53; refine (HA w (Mod.refl _ _)).out.mono ?_; rintro e w1 ⟨rfl, hw1⟩; rw [hw1]; clear hw1)
  refine wp_plan [(0, false), (1, false), (2, false), (3, false), (4, false), (5, false), (6, false), (7, false), (8, true), (9, false), (10, true), (11, false)] Non (by kernel_rfl) (by kernel_rfl) (fun c d v a w h => by cases d <;> exact h) (fun w2 hm2 => ?_)
  have hm02 : Mod Non w w2 := ((Mod.refl _ w).alloc _).trans hm2
  have HB := Lib.hid (HB0.out.mod hm02 (fun x => x))
  refine wpp_read _ rfl rfl (fun W hW => by have cW := (HB.out.mod hW (fun x => x)).cell; first | (go_simp; done) | (go_simp; rfl) | rfl) ?_
  simp only [List.getElem_toArray, List.getElem_cons_zero]
  go_frame
  refine wpp_read _ rfl rfl (fun W hW => by have cW := (HB.out.mod hW (fun x => x)).cell; first | (go_simp; done) | (go_simp; rfl) | rfl) ?_
  simp only [List.getElem_toArray, List.getElem_cons_succ, List.getElem_cons_zero]
  go_frame
  refine wpp_read _ rfl rfl (fun W hW => by have cW := (HB.out.mod hW (fun x => x)).cell; first | (go_simp; done) | (go_simp; rfl) | rfl) ?_
  simp only [List.getElem_toArray, List.getElem_cons_succ, List.getElem_cons_zero]
  go_frame
  refine wpp_read _ rfl rfl (fun W hW => by have cW := (HB.out.mod hW (fun x => x)).cell; first | (go_simp; done) | (go_simp; rfl) | rfl) ?_
  simp only [List.getElem_toArray, List.getElem_cons_succ, List.getElem_cons_zero]
  go_frame
  refine wpp_read _ rfl rfl (fun W hW => by have cW := (HB.out.mod hW (fun x => x)).cell; first | (go_simp; done) | (go_simp; rfl) | rfl) ?_
  simp only [List.getElem_toArray, List.getElem_cons_succ, List.getElem_cons_zero]
  go_frame
  refine wpp_read _ rfl rfl (fun W hW => by have cW := (HB.out.mod hW (fun x => x)).cell; first | (go_simp; done) | (go_simp; rfl) | rfl) ?_
  simp only [List.getElem_toArray, List.getElem_cons_succ, List.getElem_cons_zero]
  go_frame
  refine wpp_read _ rfl rfl (fun W hW => by have cW := (HB.out.mod hW (fun x => x)).cell; first | (go_simp; done) | (go_simp; rfl) | rfl) ?_
  simp only [List.getElem_toArray, List.getElem_cons_succ, List.getElem_cons_zero]
  go_frame
  refine wpp_read _ rfl rfl (fun W hW => by have cW := (HB.out.mod hW (fun x => x)).cell; first | (go_simp; done) | (go_simp; rfl) | rfl) ?_
  simp only [List.getElem_toArray, List.getElem_cons_succ, List.getElem_cons_zero]
  go_frame
  refine wpp_act rfl rfl ?_
  have hcl := clone_list (H.out.non hm02).kept hlenK
  rw [E2.out] at hcl
  go_simp
  refine hcl.mono ?_
  rintro e w3 ⟨v3, rfl, ho3, hm3⟩
  obtain ⟨A3, c3, rfl, hc3, _, _⟩ := owns_form ho3
  have HO3 := Lib.hid ho3
  clear ho3 hcl
  refine ⟨hm3, ?_⟩
  try simp only [List.getElem_toArray, List.getElem_cons_succ, List.getElem_cons_zero]
  try go_frame
  refine wpp_read _ rfl rfl (fun W hW => by first | (go_simp; done) | (go_simp; rfl) | rfl) ?_
  simp only [List.getElem_toArray, List.getElem_cons_succ, List.getElem_cons_zero]
  go_frame
  refine wpp_act rfl rfl ?_
  go_simp
  have hm4 : Mod Non w3 (w3.alloc (.cells #[.int .i64 D.size, .slice A3 D.kept.length c3, .slice none 0 0] 80)) := (Mod.refl _ _).alloc _
  refine ⟨hm3.trans hm4, ?_⟩
  refine wpp_read _ rfl rfl (fun W hW => by first | (go_simp; done) | (go_simp; rfl) | rfl) ?_
  simp only [List.getElem_toArray, List.getElem_cons_succ, List.getElem_cons_zero]
  go_frame
  refine wpp_nil ?_
  have HM4 := Lib.hid (hm02.trans (hm3.trans hm4))
  have hxn := Nat.le_trans hm02.size hm3.size
  have hvn : ∀ b, (Value.slice A3 D.kept.length c3).ownBlock = some b → w.heap.size ≤ b := fun b hb => Nat.le_trans hm02.size (HO3.out.lt b hb).1
  have HF := Lib.hid (FSt.start H.out HM4.out (Blk.new w3 80 #[.int .i64 D.size, .slice A3 D.kept.length c3, .slice none 0 0]) ((owns_base HO3.out).alloc _) hxn hvn)
  have hbx := Blk.new w3 80 #[.int .i64 D.size, .slice A3 D.kept.length c3, .slice none 0 0]
  have cbx := hbx.cell
  clear hbx hm4 hm3 hm2
  generalize hW4 : w3.alloc (.cells #[.int .i64 D.size, .slice A3 D.kept.length c3, .slice none 0 0] 80) = w4 at *
  generalize hX : w3.heap.size = x at *
  go_wp2
  clear cbx
  go_loopw [44] (fun i wr => ∃ k E, k ≤ D.kept.length ∧ i = .int .i64 k ∧ FSt w d D x (.slice A3 D.kept.length c3) k wr E) (fun i _ => D.kept.length - (intOf i).toNat)
  case atStart => exact ⟨0, _, Nat.zero_le _, rfl, HF.out⟩
  case round =>
    obtain ⟨k, E, hk, rfl, hst⟩ := hrel
    by_cases hlt : k < D.kept.length
    · obtain ⟨y, hy⟩ : ∃ y, D.kept[k]? = some y := ⟨_, List.getElem?_eq_getElem hlt⟩
      obtain ⟨s, f⟩ := y
      have hek := (hst.rest k (Nat.le_refl _)).trans hy
      have hnow := hst.rep.now
      rw [hst.vn, hst.len] at hnow
      obtain ⟨gb, c', cur, e1, hgb, hnc, hcm, hcs, hct⟩ := owns_open hnow (by omega)
      obtain ⟨rfl, rfl⟩ : A3 = some ⟨gb, 0, none⟩ ∧ c3 = c' := by
        injection e1 with h1 _ h2
        exact ⟨h1, h2⟩
      have hg := ents_get hek
      have hfile : D.isFile f := ⟨_, .inr (List.mem_of_getElem? hy), rfl⟩
      have hfE : E.isFile f := ⟨_, .inl (List.mem_of_getElem? hek), rfl⟩
      obtain ⟨sa1, sa2, sa3⟩ := hst.same f (H.out.file f hfile).1.lt
      obtain ⟨fb, fr, fs, fl⟩ := hst.rep.file f hfE
      rw [sa1, sa3] at fb
      rw [sa1, sa2] at fr
      rw [sa3, sa2] at fs
      rw [sa2] at fl
      have hbk := hst.rep.blk
      rw [hst.vn, hst.vk, hst.size] at hbk
      have hlt0 : gb < wr.heap.size := hgb.lt
      have hltx := hbk.lt
      have hltf := fb.lt
      have hrow : cur[k * 2]? = some (.string s) ∧ cur[k * 2 + 1]? = some (.pointer (some ⟨f, 0, none⟩)) := by
        rw [hst.len.symm] at hct
        have hq := (List.getElem?_eq_some_iff.1 hek).1
        rw [← hct, List.getElem?_take_of_lt (by omega), List.getElem?_take_of_lt (by omega)] at hg
        simpa using hg
      have hxg : x ≠ gb := hbk.ne hgb (by decide)
      have hfg : f ≠ gb := fb.ne hgb (by decide)
      have cg := hgb.cell
      have c0 : wr.cell? ⟨gb, k * 2, none⟩ = some (.string s) := (cg _).trans hrow.1
      have c1 : wr.cell? ⟨gb, k * 2 + 1, none⟩ = some (.pointer (some ⟨f, 0, none⟩)) := (cg _).trans hrow.2
      have HST := Lib.hid hst
      have HY := Lib.hid hy
      have HFB := Lib.hid fb
      have HFR := Lib.hid fr
      have HBK := Lib.hid hbk
      have HGB := Lib.hid hgb
      have HROW := Lib.hid hrow
      have hne : ¬ f = wr.heap.size := by omega
      clear hst hy hek hnow e1 hg sa1 sa2 sa3 fb fr hbk hgb hcs hct cg hrow
      go_wp2
      refine wp_plan [(0, false), (1, false), (2, false), (3, false), (4, false), (5, false), (6, false), (7, false), (8, true), (9, false), (10, false), (11, true)] (One gb) (by kernel_rfl) (by kernel_rfl) (fun c d v a w h => by cases d <;> exact h) (fun w5 hm5 => ?_)
      have hm05 : Mod Non wr w5 := ((Mod.refl _ wr).alloc _).trans hm5
      have HB5 := Lib.hid (HBK.out.mod hm05 (fun x => x))
      have HE := Lib.hid ((Blk.new wr 112 #[.string s, .pointer (some ⟨f, 0, none⟩)]).mod hm5 (fun x => x))
      have hXg : ¬ One gb x := hxg
      have hEg : ¬ One gb wr.heap.size := fun e => by have e : wr.heap.size = gb := e; omega
      have hlk : k < D.kept.length := hlt
      refine wpp_read _ rfl rfl (fun W hW => by have cW := (HB5.out.mod hW hXg).cell; have cE := (HE.out.mod hW hEg).cell; first | (go_simp; done) | (go_simp; rfl) | rfl) ?_
      simp only [List.getElem_toArray, List.getElem_cons_zero]
      go_frame
      refine wpp_read _ rfl rfl (fun W hW => by have cW := (HB5.out.mod hW hXg).cell; have cE := (HE.out.mod hW hEg).cell; first | (go_simp; done) | (go_simp; rfl) | rfl) ?_
      simp only [List.getElem_toArray, List.getElem_cons_succ, List.getElem_cons_zero]
      go_frame
      refine wpp_read _ rfl rfl (fun W hW => by have cW := (HB5.out.mod hW hXg).cell; have cE := (HE.out.mod hW hEg).cell; first | (go_simp; done) | (go_simp; rfl) | rfl) ?_
      simp only [List.getElem_toArray, List.getElem_cons_succ, List.getElem_cons_zero]
      go_frame
      refine wpp_read _ rfl rfl (fun W hW => by have cW := (HB5.out.mod hW hXg).cell; have cE := (HE.out.mod hW hEg).cell; first | (go_simp; done) | (go_simp; rfl) | rfl) ?_
      simp only [List.getElem_toArray, List.getElem_cons_succ, List.getElem_cons_zero]
      go_frame
      refine wpp_read _ rfl rfl (fun W hW => by have cW := (HB5.out.mod hW hXg).cell; have cE := (HE.out.mod hW hEg).cell; first | (go_simp; done) | (go_simp; rfl) | rfl) ?_
      simp only [List.getElem_toArray, List.getElem_cons_succ, List.getElem_cons_zero]
      go_frame
      refine wpp_read _ rfl rfl (fun W hW => by have cW := (HB5.out.mod hW hXg).cell; have cE := (HE.out.mod hW hEg).cell; first | (go_simp; done) | (go_simp; rfl) | rfl) ?_
      simp only [List.getElem_toArray, List.getElem_cons_succ, List.getElem_cons_zero]
      go_frame
      refine wpp_read _ rfl rfl (fun W hW => by have cW := (HB5.out.mod hW hXg).cell; have cE := (HE.out.mod hW hEg).cell; first | (go_simp; done) | (go_simp; rfl) | rfl) ?_
      simp only [List.getElem_toArray, List.getElem_cons_succ, List.getElem_cons_zero]
      go_frame
      refine wpp_read _ rfl rfl (fun W hW => by have cW := (HB5.out.mod hW hXg).cell; have cE := (HE.out.mod hW hEg).cell; first | (go_simp; done) | (go_simp; rfl) | rfl) ?_
      simp only [List.getElem_toArray, List.getElem_cons_succ, List.getElem_cons_zero]
      go_frame
      have hlf := left_file (HFB.out.mod hm05 (fun x => x)) (owns_keep HFR.out (fun b hb => hm05.block b (HFR.out.lt b hb).2 (fun x => x))) fs fl
      refine wpp_act rfl rfl ?_
      go_simp
      refine hlf.mono ?_
      rintro e w6 ⟨g, vv, rfl, hg6, hb6, ho6, hm6⟩
      refine ⟨hm6.mono (fun _ x => x.elim), ?_⟩
      try simp only [List.getElem_toArray, List.getElem_cons_succ, List.getElem_cons_zero]
      try go_frame
      refine wpp_read _ rfl rfl (fun W hW => by first | (go_simp; done) | (go_simp; rfl) | rfl) ?_
      simp only [List.getElem_toArray, List.getElem_cons_succ, List.getElem_cons_zero]
      go_frame
      refine wpp_read _ rfl rfl (fun W hW => by first | (go_simp; done) | (go_simp; rfl) | rfl) ?_
      simp only [List.getElem_toArray, List.getElem_cons_succ, List.getElem_cons_zero]
      go_frame
      have hgb6 := HGB.out.mod (hm05.trans hm6) (fun x => x)
      have c6 : w6.cell? ⟨gb, k * 2 + 1, none⟩ = some (.pointer (some ⟨f, 0, none⟩)) := (hgb6.cell _).trans HROW.out.2
      have f6 := hgb6.frozen (k * 2 + 1)
      refine wpp_act rfl rfl ?_
      go_simp
      have hnx := Lib.hid (HST.out.next H.out HY.out (hm05.trans hm6) (hvn gb rfl) (Nat.le_trans hm05.size hg6) hb6 hm05.size ho6)
      refine ⟨(hm6.mono (T := One gb) (fun _ x => x.elim)).setCell (p := ⟨gb, k * 2 + 1, none⟩) (.inl rfl) _, ?_⟩
      refine wpp_nil ?_
      clear c0 c1
      go_wp2
      go_roundw
      case rel => exact ⟨k + 1, _, by omega, by go_num, hnx.out⟩
      case measure => simp [intOf]; omega
    · obtain rfl : k = D.kept.length := by omega
      clear hlt
      have HN := Lib.hid (names_one hst.rep)
      have HST := Lib.hid hst
      clear hst
      go_wp2_with (go_at_call 42; refine HN.out.mono ?_; rintro e w5 ⟨rfl, vk5, hst5, hm5⟩)
      go_ret2
      have hs0 := HST.out
      refine ⟨x, E.setKept vk5 E.now, rfl, hst5.rep, hxn, fun b hb => ?_, hs0.size, hs0.len, (show _ from FSt.says (E := E) H.out hs0), hs0.mod.andThen hm5 (fun b hb hlt => by cases hb; omega)⟩
      rcases hst5.old b hb with h1 | h1
      · exact hs0.ds b h1
      · exact .inr (Nat.le_trans hs0.mod.size h1)
end
end Go.Proofs.YtgillcppnpkkiaaGreatDoor
