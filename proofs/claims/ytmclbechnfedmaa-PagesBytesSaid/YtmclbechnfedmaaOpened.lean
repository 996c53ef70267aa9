/- The law's own functions: Opened, lives. -/
import Derived.Test.YtmclbechnfedmaaCommit
namespace Go.Proofs.Ytmclbechnfedmaa
open Go Go.RowKit
section
variable {w : World} {p d m1 m2 m3 : Nat} {G : Pg} {D : Dk}
/-- A pager on a new disk. -/
def LG (d m1 m2 m3 : Nat) : Pg := { Pg.new d m1 m2 m3 with size := 2 }

set_option maxRecDepth 100000 in
theorem opened_ok (w : World) : Calls Try.prog 5 #[] w fun e w' => ∃ d p m1 m2 m3 D f, e = .returned (.tuple #[.pointer (some ⟨d, 0, none⟩), .pointer (some ⟨p, 0, none⟩)]) ∧
    PagRep w' p (LG d m1 m2 m3) ∧ DiskRep w' d D ∧ (∀ b, PS p (LG d m1 m2 m3) b → w.heap.size ≤ b) ∧ (∀ b, DS d D b → w.heap.size ≤ b) ∧ Apart p (LG d m1 m2 m3) D ∧
    D.size = 4194304 ∧ D.now = [(nameB, f)] ∧ (D.by_ f).length = 2 ∧ Mod Non w w' := by
  go_enter Try.func5, Try.ntmps5
  go_wp2_with (first
    | (go_at_call 13; refine (disk_new w 4194304 (by decide) (by decide)).mono ?_; rintro e w1 ⟨d, rfl, hd1, hdr, hm1⟩
       have HM1 := Lib.hid hm1
       have HO := Lib.hid (open_new hdr (by decide))
       clear hdr hm1)
    | (go_at_call 16; refine HO.out.mono ?_; rintro e w2 ⟨p, m1, m2, m3, D, f, rfl, hrep, hdr, hps, hap, hz, hn, hl, hds, hm2⟩
       have HX := Lib.hid (And.intro hrep (And.intro hdr (And.intro hps (And.intro hap (And.intro hz (And.intro hn (And.intro hl (And.intro hds hm2))))))))
       clear hrep hdr hps hap hz hn hl hds hm2))
  go_ret2
  obtain ⟨hrep, hdr, hps, hap, hz, hn, hl, hds, hm2⟩ := HX.out
  have hs := HM1.out.size
  exact ⟨d, p, m1, m2, m3, D, f, rfl, hrep, hdr, fun b hb => Nat.le_trans hs (hps b hb), fun b hb => (hds b hb).elim (fun e => by omega) (fun e => by omega), hap, hz, hn, hl, HM1.out.andThen hm2 (fun b hb hlt => by cases hb; omega)⟩

theorem commit_nil (w : World) : Calls Try.prog 18 #[.pointer none] w fun e w' => e = .returned (.int .i64 2) ∧ w' = w := by
  go_enter Try.func18, Try.ntmps18
  go_wp2_with (go_at_call 22; refine there_nil.mono ?_; rintro e w1 ⟨rfl, rfl⟩)
  go_ret
  exact ⟨rfl, rfl⟩

theorem record_le (hlen : ∀ n x, G.now n = some x → x.length = 256) (l : List Nat) : (G.record l).length ≤ 20 + l.length * 267 := by
  have h1 := recB_le hlen l
  unfold Pg.record Pg.body
  rw [List.length_append, enc_length]
  have h3 := vlen_le (enc G.root ++ recB G l).length
  rw [List.length_append, enc_length] at h3 ⊢
  have h2 := vlen_le G.root
  omega
theorem rows_row (w : World) (l : List UInt8) : RowAt (w.alloc (.cells (bv l).toArray 5)) (some ⟨w.heap.size, 0, none⟩) l.length 1 (bv l) := ⟨by rw [bv_length]; omega, fun _ => ⟨_, rfl, fun j y hy => by
  rw [add_lit, (Blk.new w 5 (bv l).toArray).cell]
  simpa using hy⟩⟩
end
end Go.Proofs.Ytmclbechnfedmaa
