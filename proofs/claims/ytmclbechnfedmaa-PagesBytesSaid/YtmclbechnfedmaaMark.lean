/- Pages that are marked: p.dirty[n]++. -/
import Derived.Test.YtmclbechnfedmaaReads
namespace Go.Proofs.Ytmclbechnfedmaa
open Go Go.RowKit
inductive PR | form | part (root : Nat) (now : Nat → Option (List UInt8)) (whole : Bool)
/-- What Open reads of a file. -/
def parseF : Nat → Nat → (Nat → Option (List UInt8)) → List UInt8 → PR
  | 0, _, _, _ => .form
  | k + 1, root, now, b => if b = [] then .part root now true else
    match dec 0 0 b with
    | .form => .form
    | .short => .part root now false
    | .ok n t => if b.length - t < n then .part root now false else
      match recR now ((b.drop t).take n) with
      | none => .form
      | some (r, x) => parseF k r x ((b.drop t).drop n)
def parse (b : List UInt8) : PR := parseF (b.length + 1) 0 (fun _ => none) b

/-- Pages are numbers from 1 to 4000. -/
def Few (now : Nat → Option (List UInt8)) : Prop := ∀ k, (now k).isSome = true → 1 ≤ k ∧ k ≤ 4000
theorem recsF_few : ∀ (k : Nat) (now x : Nat → Option (List UInt8)) (b : List UInt8), Few now → recsF k now b = some x → Few x
  | 0, now, x, b, _, h => by rw [recsF] at h; cases h
  | k + 1, now, x, b, hf, h => by
    rw [recsF] at h
    split at h
    · cases h; exact hf
    · split at h
      · split at h
        · cases h
        · rename_i n t _ hn
          have hup : ∀ o, Few (upd now n o) := fun o a ha => by
            unfold upd at ha
            split at ha
            · subst_vars; omega
            · exact hf a ha
          split at h
          · cases h
          · split at h
            · cases h
            · split at h
              · exact recsF_few k _ x _ (hup _) h
              · split at h
                · cases h
                · exact recsF_few k _ x _ (hup _) h
      · cases h
theorem recR_few {now x : Nat → Option (List UInt8)} {b : List UInt8} {r : Nat} (hf : Few now) (h : recR now b = some (r, x)) : Few x := by
  unfold recR at h
  split at h
  · split at h
    · cases h
    · rename_i n t _ _
      cases hx : recsF (b.length + 1) now (b.drop t) with
      | none => rw [hx] at h; cases h
      | some y => rw [hx] at h; cases h; exact recsF_few _ _ _ _ hf hx
  · cases h

/-- What a pager that was opened on a disk is. -/
structure Opens (w' : World) (p : Nat) (G : Pg) (D' : Dk) (f : Nat) : Prop where
  pag : PagRep w' p G
  disk : DiskRep w' G.d D'
  apart : Apart p G D'
  root : G.root < 4294967296
  few : Few G.now
  look : look D'.now nameB = some f
  kept : D'.kept = D'.now
  dirty : ∀ n, G.dirty n = false
  parse : parse (D'.by_ f) = .part G.root G.now true
  size : G.size = (D'.by_ f).length

section
variable {w w' : World} {p : Nat} {G : Pg} {D : Dk}
theorem PagRep.setDirty (h : PagRep w p G) (hm : Mod (One G.m3) w w') {s : Nat → Bool} (hd : DirtyRep w' G.m3 s) : PagRep w' p { G with dirty := s } :=
  ⟨h.blk.mod hm (fun e => h.dirty.blk_ne h.blk e.symm), h.now.mod hm (fun e => h.ne13 e), h.kept.mod hm (fun e => h.ne23 e), hd, h.ne12, h.ne13, h.ne23, h.len, h.lenK⟩
end
end Go.Proofs.Ytmclbechnfedmaa
