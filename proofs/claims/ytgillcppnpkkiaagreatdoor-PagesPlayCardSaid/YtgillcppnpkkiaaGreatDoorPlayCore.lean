/- PagesPlay: a pager, its disk, the reference and the Book beside each other in memory. -/
import Derived.Test.YtgillcppnpkkiaaGreatDoorPlayRel
import Derived.Test.YtgillcppnpkkiaaGreatDoorFailR
import Derived.Test.YtgillcppnpkkiaaGreatDoorBookApart
namespace Go.Proofs.YtgillcppnpkkiaaGreatDoor
open Go Go.RowKit
/-- All four, in blocks apart; X: blocks that are kept aside. -/
structure Core (w0 : World) (X : Nat → Prop) (w : World) (d p m k : Nat) (G : Pg) (D : Dk) (R : Rf) (B : Bk) : Prop where
  pag : PagRep w p G
  disk : DiskRep w G.d D
  gd : G.d = d
  ref : RefRep w m R
  book : BookRep w k B
  pd : ∀ b, PS p G b → ¬ DS G.d D b
  pr : ∀ b, PS p G b → ¬ RS m R b
  pb : ∀ b, PS p G b → ¬ BS k B b
  px : ∀ b, PS p G b → ¬ X b
  dr : ∀ b, DS G.d D b → ¬ RS m R b
  db : ∀ b, DS G.d D b → ¬ BS k B b
  dx : ∀ b, DS G.d D b → ¬ X b
  rb : ∀ b, RS m R b → ¬ BS k B b
  rx : ∀ b, RS m R b → ¬ X b
  bx : ∀ b, BS k B b → ¬ X b
  newP : ∀ b, PS p G b → w0.heap.size ≤ b
  newD : ∀ b, DS G.d D b → w0.heap.size ≤ b
  newR : ∀ b, RS m R b → w0.heap.size ≤ b
  newB : ∀ b, BS k B b → w0.heap.size ≤ b
  xlt : ∀ b, X b → b < w.heap.size
  newX : ∀ b, X b → w0.heap.size ≤ b
  mod : Mod Non w0 w
section
variable {w0 w w' : World} {X : Nat → Prop} {d p m k : Nat} {G G' : Pg} {D D' : Dk} {R R' : Rf} {B : Bk}
theorem Core.non (h : Core w0 X w d p m k G D R B) (hm : Mod Non w w') : Core w0 X w' d p m k G D R B :=
  { h with pag := h.pag.non hm, disk := h.disk.non hm, ref := h.ref.non hm, book := h.book.non hm, xlt := fun b hb => Nat.lt_of_lt_of_le (h.xlt b hb) hm.size, mod := h.mod.trans hm }
def Off (X : Nat → Prop) : Nat → Prop := fun b => ¬ X b
def With (X : Nat → Prop) (g : Nat) : Nat → Prop := fun b => X b ∨ b = g
/-- A block that is new is kept aside. -/
theorem Core.take {g : Nat} (h : Core w0 X w d p m k G D R B) (hm : Mod Non w w') (hg : w.heap.size ≤ g) (hlt : g < w'.heap.size) : Core w0 (With X g) w' d p m k G D R B :=
  { h.non hm with
    px := fun b hb e => e.elim (h.px b hb) (fun e => by cases e; have := h.pag.lt hb; omega)
    dx := fun b hb e => e.elim (h.dx b hb) (fun e => by cases e; have := h.disk.lt hb; omega)
    rx := fun b hb e => e.elim (h.rx b hb) (fun e => by cases e; have := h.ref.lt hb; omega)
    bx := fun b hb e => e.elim (h.bx b hb) (fun e => by cases e; have := h.book.lt hb; omega)
    xlt := fun b e => e.elim (fun e => Nat.lt_of_lt_of_le (h.xlt b e) hm.size) (fun e => by cases e; exact hlt)
    newX := fun b e => e.elim (h.newX b) (fun e => by cases e; exact Nat.le_trans h.mod.size hg) }
theorem Core.offP (h : Core w0 X w d p m k G D R B) (hm : Mod (PS p G) w w') : Mod (Off X) w w' := hm.mono h.px
theorem Core.offR (h : Core w0 X w d p m k G D R B) (hm : Mod (One m) w w') : Mod (Off X) w w' := hm.mono (fun b e => h.rx b (.inl e))
theorem Core.offN (_ : Core w0 X w d p m k G D R B) (hm : Mod Non w w') : Mod (Off X) w w' := hm.mono (fun _ x => x.elim)
theorem Core.offD (h : Core w0 X w d p m k G D R B) (hm : Mod (fun b => PS p G b ∨ DS G.d D b) w w') : Mod (Off X) w w' := hm.mono (fun b hb => hb.elim (h.px b) (h.dx b))
theorem Core.drop (h : Core w0 X w d p m k G D R B) : Core w0 Non w d p m k G D R B :=
  { h with px := fun _ _ x => x, dx := fun _ _ x => x, rx := fun _ _ x => x, bx := fun _ _ x => x, xlt := fun _ x => x.elim, newX := fun _ x => x.elim }
theorem Core.pagS (h : Core w0 X w d p m k G D R B) (hm : Mod (PS p G) w w') (hp : PagRep w' p G') (hd : G'.d = G.d) (hs : ∀ b, PS p G' b → PS p G b) : Core w0 X w' d p m k G' D R B where
  pag := hp
  disk := by rw [hd]; exact h.disk.mod hm (fun b hb hp => h.pd b hp hb)
  gd := hd.trans h.gd
  ref := h.ref.mod hm (fun b hb hp => h.pr b hp hb)
  book := h.book.mod hm (fun b hb hp => h.pb b hp hb)
  pd := fun b hb => by rw [hd]; exact h.pd b (hs b hb)
  pr := fun b hb => h.pr b (hs b hb)
  pb := fun b hb => h.pb b (hs b hb)
  px := fun b hb => h.px b (hs b hb)
  dr := by rw [hd]; exact h.dr
  db := by rw [hd]; exact h.db
  dx := by rw [hd]; exact h.dx
  rb := h.rb
  rx := h.rx
  bx := h.bx
  newP := fun b hb => h.newP b (hs b hb)
  newD := by rw [hd]; exact h.newD
  newR := h.newR
  newB := h.newB
  xlt := fun b hb => Nat.lt_of_lt_of_le (h.xlt b hb) hm.size
  newX := h.newX
  mod := h.mod.andThen hm (fun b hb hlt => by have := h.newP b hb; omega)
theorem Core.refS (h : Core w0 X w d p m k G D R B) (hm : Mod (One m) w w') (hr : RefRep w' m R') (hri : ∀ b, RI R' b → RI R b ∨ w.heap.size ≤ b) : Core w0 X w' d p m k G D R' B := by
  have hrs : ∀ b, RS m R' b → RS m R b ∨ w.heap.size ≤ b := fun b hb => hb.elim (fun e => .inl (.inl e)) (fun h1 => (hri b h1).imp .inr id)
  have hs0 := h.mod.size
  exact {
    pag := h.pag.mod hm (fun b hb e => h.pr b hb (.inl e))
    disk := h.disk.mod hm (fun b hb e => h.dr b hb (.inl e))
    gd := h.gd
    ref := hr
    book := h.book.mod hm (fun b hb e => h.rb b (.inl e) hb)
    pd := h.pd
    pr := fun b hb hr => (hrs b hr).elim (h.pr b hb) (fun e => by have := h.pag.lt hb; omega)
    pb := h.pb
    px := h.px
    dr := fun b hb hr => (hrs b hr).elim (h.dr b hb) (fun e => by have := h.disk.lt hb; omega)
    db := h.db
    dx := h.dx
    rb := fun b hr hb => (hrs b hr).elim (fun h1 => h.rb b h1 hb) (fun e => by have := h.book.lt hb; omega)
    rx := fun b hr hx => (hrs b hr).elim (fun h1 => h.rx b h1 hx) (fun e => by have := h.xlt b hx; omega)
    bx := h.bx
    newP := h.newP
    newD := h.newD
    newR := fun b hr => (hrs b hr).elim (h.newR b) (fun e => by omega)
    newB := h.newB
    xlt := fun b hb => Nat.lt_of_lt_of_le (h.xlt b hb) hm.size
    newX := h.newX
    mod := h.mod.andThen hm (fun b hb hlt => by have := h.newR b (.inl hb); omega) }
/-- Another reference, of the same lists. -/
theorem Core.again {m' : Nat} (h : Core w0 X w d p m k G D R B) (hm : Mod Non w w') (hm' : w.heap.size ≤ m') (hr : RefRep w' m' R') (hri : ∀ b, RI R' b → RI R b) : Core w0 X w' d p m' k G D R' B := by
  have h1 := h.non hm
  have hrs : ∀ b, RS m' R' b → RS m R b ∨ w.heap.size ≤ b := fun b hb => hb.elim (fun e => .inr (by rw [e]; exact hm')) (fun h1 => .inl (.inr (hri b h1)))
  have hs0 := h.mod.size
  exact { h1 with
    ref := hr
    pr := fun b hb hr => (hrs b hr).elim (h.pr b hb) (fun e => by have := h.pag.lt hb; omega)
    dr := fun b hb hr => (hrs b hr).elim (h.dr b hb) (fun e => by have := h.disk.lt hb; omega)
    rb := fun b hr hb => (hrs b hr).elim (fun h1 => h.rb b h1 hb) (fun e => by have := h.book.lt hb; omega)
    rx := fun b hr hx => (hrs b hr).elim (fun h1 => h.rx b h1 hx) (fun e => by have := h.xlt b hx; omega)
    newR := fun b hr => (hrs b hr).elim (h.newR b) (fun e => by omega) }
/-- The pager and its disk have turned. -/
theorem Core.both (h : Core w0 X w d p m k G D R B) (hm : Mod (fun b => PS p G b ∨ DS G.d D b) w w') (hp : PagRep w' p G') (hd : DiskRep w' G.d D') (hgd : G'.d = G.d) (hs : ∀ b, PS p G' b → PS p G b) (hds : ∀ b, DS G.d D' b → DS G.d D b ∨ w.heap.size ≤ b) (hap : ∀ b, PS p G b → ¬ DS G.d D' b) : Core w0 X w' d p m k G' D' R B := by
  have hs0 := h.mod.size
  exact {
    pag := hp
    disk := by rw [hgd]; exact hd
    gd := hgd.trans h.gd
    ref := h.ref.mod hm (fun b hb hh => hh.elim (fun h1 => h.pr b h1 hb) (fun h1 => h.dr b h1 hb))
    book := h.book.mod hm (fun b hb hh => hh.elim (fun h1 => h.pb b h1 hb) (fun h1 => h.db b h1 hb))
    pd := fun b hb => by rw [hgd]; exact hap b (hs b hb)
    pr := fun b hb => h.pr b (hs b hb)
    pb := fun b hb => h.pb b (hs b hb)
    px := fun b hb => h.px b (hs b hb)
    dr := fun b hb hr => by rw [hgd] at hb; exact (hds b hb).elim (fun h1 => h.dr b h1 hr) (fun e => by have := h.ref.lt hr; omega)
    db := fun b hb hr => by rw [hgd] at hb; exact (hds b hb).elim (fun h1 => h.db b h1 hr) (fun e => by have := h.book.lt hr; omega)
    dx := fun b hb hr => by rw [hgd] at hb; exact (hds b hb).elim (fun h1 => h.dx b h1 hr) (fun e => by have := h.xlt b hr; omega)
    rb := h.rb
    rx := h.rx
    bx := h.bx
    newP := fun b hb => h.newP b (hs b hb)
    newD := fun b hb => by rw [hgd] at hb; exact (hds b hb).elim (h.newD b) (fun e => by omega)
    newR := h.newR
    newB := h.newB
    xlt := fun b hb => Nat.lt_of_lt_of_le (h.xlt b hb) hm.size
    newX := h.newX
    mod := h.mod.andThen hm (fun b hb hlt => by have := hb.elim (h.newP b) (h.newD b); omega) }
/-- The disk has failed, and is opened again. -/
theorem Core.reopen {w1 : World} {x p' : Nat} {E : Dk} (h : Core w0 X w d p m k G D R B) (hm1 : Mod Non w w1) (hE : ∀ b, DS x E b → DS G.d D b ∨ w.heap.size ≤ b) (hm2 : Mod (DS x E) w1 w') (hp : PagRep w' p' G') (hd : DiskRep w' G'.d D') (hgd : G'.d = x) (hap : ∀ b, PS p' G' b → ¬ DS G'.d D' b)
    (hps : ∀ b, PS p' G' b → w1.heap.size ≤ b) (hds : ∀ b, DS x D' b → DS x E b ∨ w1.heap.size ≤ b) : Core w0 X w' x p' m k G' D' R B := by
  have hs0 := h.mod.size
  have hs1 := hm1.size
  have hD : ∀ b, DS G'.d D' b → DS G.d D b ∨ w.heap.size ≤ b := fun b hb => by rw [hgd] at hb; exact (hds b hb).elim (hE b) (fun e => .inr (by omega))
  exact {
    pag := hp
    disk := hd
    gd := hgd
    ref := (h.ref.non hm1).mod hm2 (fun b hb hh => (hE b hh).elim (fun h1 => h.dr b h1 hb) (fun e => by have := h.ref.lt hb; omega))
    book := (h.book.non hm1).mod hm2 (fun b hb hh => (hE b hh).elim (fun h1 => h.db b h1 hb) (fun e => by have := h.book.lt hb; omega))
    pd := hap
    pr := fun b hb hr => by have := hps b hb; have := h.ref.lt hr; omega
    pb := fun b hb hr => by have := hps b hb; have := h.book.lt hr; omega
    px := fun b hb hr => by have := hps b hb; have := h.xlt b hr; omega
    dr := fun b hb hr => (hD b hb).elim (fun h1 => h.dr b h1 hr) (fun e => by have := h.ref.lt hr; omega)
    db := fun b hb hr => (hD b hb).elim (fun h1 => h.db b h1 hr) (fun e => by have := h.book.lt hr; omega)
    dx := fun b hb hr => (hD b hb).elim (fun h1 => h.dx b h1 hr) (fun e => by have := h.xlt b hr; omega)
    rb := h.rb
    rx := h.rx
    bx := h.bx
    newP := fun b hb => by have := hps b hb; omega
    newD := fun b hb => (hD b hb).elim (h.newD b) (fun e => by omega)
    newR := h.newR
    newB := h.newB
    xlt := fun b hb => Nat.lt_of_lt_of_le (h.xlt b hb) (Nat.le_trans hs1 hm2.size)
    newX := h.newX
    mod := (h.mod.trans hm1).andThen hm2 (fun b hb hlt => by have := (hE b hb).elim (h.newD b) (fun e => by omega); omega) }
/-- A list is kept in the Book; it lay aside. -/
theorem Core.kept {g : Option Nat} {len cap : Nat} {e : Ending} (h : Core w0 X w d p m k G D R B) (hk : KeepSays w k B g len cap e w') (hg : ∀ b, g = some b → X b) : ∃ v, Core w0 Non w' d p m k G D R (B.keep v g len cap) := by
  obtain ⟨_, v, hb, hbs, hm⟩ := hk
  have hs0 := h.mod.size
  have hB : ∀ b, BS k (B.keep v g len cap) b → BS k B b ∨ X b ∨ w.heap.size ≤ b := fun b hb => (hbs b hb).imp id (fun h1 => h1.imp (hg b) id)
  refine ⟨v, ?_⟩
  exact {
    pag := h.pag.mod hm (fun b hb hh => h.pb b hb hh)
    disk := h.disk.mod hm (fun b hb hh => h.db b hb hh)
    gd := h.gd
    ref := h.ref.mod hm (fun b hb hh => h.rb b hb hh)
    book := hb
    pd := h.pd
    pr := h.pr
    pb := fun b hp hb => (hB b hb).elim (h.pb b hp) (fun h1 => h1.elim (h.px b hp) (fun e => by have := h.pag.lt hp; omega))
    px := fun _ _ x => x
    dr := h.dr
    db := fun b hp hb => (hB b hb).elim (h.db b hp) (fun h1 => h1.elim (h.dx b hp) (fun e => by have := h.disk.lt hp; omega))
    dx := fun _ _ x => x
    rb := fun b hp hb => (hB b hb).elim (h.rb b hp) (fun h1 => h1.elim (h.rx b hp) (fun e => by have := h.ref.lt hp; omega))
    rx := fun _ _ x => x
    bx := fun _ _ x => x
    newP := h.newP
    newD := h.newD
    newR := h.newR
    newB := fun b hb => (hbs b hb).elim (h.newB b) (fun h1 => h1.elim (fun e => h.newX b (hg b e)) (fun e => by omega))
    xlt := fun _ x => x.elim
    newX := fun _ x => x.elim
    mod := h.mod.andThen hm (fun b hb hlt => by have := h.newB b hb; omega) }
end
end Go.Proofs.YtgillcppnpkkiaaGreatDoor
