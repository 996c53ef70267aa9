/-
  No cell of these rows narrows 'for every input' (looked for: loops, veiled, ifaces, maps, wideKeys, modest, calm, conditions, laid).
  DERIVED. THE GIVEN ROWS OF THIS SEAT. 2 by the template 'for every input the law returns true; each argument reads behind the call as it read before'; 0 by the template 'total and deterministic' (their statements: YtmclbechnfedmaaTotals.lean).
  GIVEN WITH THE SEED: the statements are not yours to turn. If you find one false, say at which input.
  Laid BY PROGRAM, IN A SANDBOX (cutbox-rows.mjs): the forced cells as the released guide's own fill.sh prints them over the translation b131ec50c971eadc… (all of the seat's roots in one cut). By AI agents, Wed Nov 11 2026. No macro, syntax, notation, axiom, sorry.
-/
import Derived.Test.YtmclbechnfedmaaChecked
import GoSem.Claim
import GoSem.ClaimJoined
import GoSem.ClaimMapViews
import Derived.JoinedTies
import Derived.KernelRfl
namespace Go.Proofs.Ytmclbechnfedmaa
/- THE CELL 'sum', in the pinned program and in every row, IS THE sha256 OF THE DUMP (.gsa) THAT YtmclbechnfedmaaProg.lean LOADS. Nothing in Lean hashes anything: it is a label: what it is worth is what the hold of that sum in a sandbox is worth. -/
noncomputable def Try.pinned : Pinned := { name := "ytmclbechnfedmaa", sum := "b131ec50c971eadcfb013020618d6496d4fccb42f3a79da8560cecac95fd6934", checked := Try.checked }
namespace Rows
def none {H : Type} : Left H := { results := [], args := [] }

/-- 'folkmootlaw14.PagesLeast': WHATEVER THE INPUT: true; the input reads as it did. -/
def pagesLeastSpec : ChangeSpec := { name := "pagesLeast", fn := fun _ => fun
  | [d1, d2] => { results := [.lit (.bool true)], args := [d1, d2] }
  | _ => none }
def pagesLeastRow : OpenClaim := { program := "ytmclbechnfedmaa", sum := "b131ec50c971eadcfb013020618d6496d4fccb42f3a79da8560cecac95fd6934", func := "folkmoot/folkmootlaw14.PagesLeast", spec := "pagesLeast", inPlace := ["slices.overlaps[folkmoot/files.entry]"], unfollowed := true, recurses := true, apart := false }
def PagesLeastSaid : Prop := pagesLeastRow.holds Try.pinned (OpenSpec.ofChange pagesLeastSpec)

/-- ITS FALSE NEIGHBOUR: 'it returns false'. Refute it at one input. -/
def pagesLeastWrong : ChangeSpec := { name := "pagesLeast", fn := fun _ => fun
  | [d1, d2] => { results := [.lit (.bool false)], args := [d1, d2] }
  | _ => none }
def PagesLeastWrongFalsely : Prop := pagesLeastRow.holds Try.pinned (OpenSpec.ofChange pagesLeastWrong)

/-- 'folkmootlaw14.PagesBytes': WHATEVER THE INPUT: true; the input reads as it did. -/
def pagesBytesSpec : ChangeSpec := { name := "pagesBytes", fn := fun _ => fun
  | [d1, d2] => { results := [.lit (.bool true)], args := [d1, d2] }
  | _ => none }
def pagesBytesRow : OpenClaim := { program := "ytmclbechnfedmaa", sum := "b131ec50c971eadcfb013020618d6496d4fccb42f3a79da8560cecac95fd6934", func := "folkmoot/folkmootlaw14.PagesBytes", spec := "pagesBytes", inPlace := ["slices.overlaps[folkmoot/files.entry]"], unfollowed := true, recurses := true, apart := false }
def PagesBytesSaid : Prop := pagesBytesRow.holds Try.pinned (OpenSpec.ofChange pagesBytesSpec)

/-- ITS FALSE NEIGHBOUR: 'it returns false'. Refute it at one input. -/
def pagesBytesWrong : ChangeSpec := { name := "pagesBytes", fn := fun _ => fun
  | [d1, d2] => { results := [.lit (.bool false)], args := [d1, d2] }
  | _ => none }
def PagesBytesWrongFalsely : Prop := pagesBytesRow.holds Try.pinned (OpenSpec.ofChange pagesBytesWrong)

/- THE SECOND FORM. 'bulk': how many values and letters a reading holds, each counted each time it is reached (what is shared counts as often as it is met; a slice's spare places count too). A statement '..UptoSaid' is the law's where the arguments, and the package variables that the reading takes, are together of bulk at most 1048576: NARROWER than '..Said'. Prove '..Said' where nothing that the law and all that it calls make is longer than what came in: it says more and counts as full. Else prove '..UptoSaid'. A law counts once. -/
mutual
def uptoBulk {H : Type} : DataW H → Nat
  | .lit (.string bytes) => bytes.length + 1
  | .lit _ => 1
  | .nil => 1
  | .ptr d => uptoBulk d + 1
  | .slice elems spare => uptoBulkAll elems + uptoBulkAll spare + 1
  | .agg parts => uptoBulkAll parts + 1
  | .iface _ d => uptoBulk d + 1
  | .map entries => uptoBulkEntries entries + 1
  | .held _ => 1
def uptoBulkAll {H : Type} : List (DataW H) → Nat
  | [] => 0
  | d :: r => uptoBulk d + uptoBulkAll r
def uptoBulkEntries {H : Type} : List (Lit × DataW H) → Nat
  | [] => 0
  | x :: r => uptoBulkEntry x + uptoBulkEntries r
def uptoBulkEntry {H : Type} : Lit × DataW H → Nat
  | (.string bytes, d) => bytes.length + uptoBulk d + 1
  | (_, d) => uptoBulk d + 1
 end
def uptoSmall : (H : Type) → List (DataW H) → Bool := fun _ ds => decide (uptoBulkAll ds ≤ 1048576)
def OpenSpec.upto (s : _root_.Go.ChangeSpec) : _root_.Go.OpenSpec := { _root_.Go.OpenSpec.ofChange s with cond := some uptoSmall }

/-- 'folkmootlaw14.PagesLeast', WHERE WHAT IT READS IS OF BULK AT MOST 1048576: true; the input reads as it did. -/
def pagesLeastUptoRow : OpenClaim := { program := "ytmclbechnfedmaa", sum := "b131ec50c971eadcfb013020618d6496d4fccb42f3a79da8560cecac95fd6934", func := "folkmoot/folkmootlaw14.PagesLeast", spec := "pagesLeast", inPlace := ["slices.overlaps[folkmoot/files.entry]"], unfollowed := true, recurses := true, apart := false, narrowed := true }
def PagesLeastUptoSaid : Prop := pagesLeastUptoRow.holds Try.pinned (OpenSpec.upto pagesLeastSpec)

/-- 'folkmootlaw14.PagesBytes', WHERE WHAT IT READS IS OF BULK AT MOST 1048576: true; the input reads as it did. -/
def pagesBytesUptoRow : OpenClaim := { program := "ytmclbechnfedmaa", sum := "b131ec50c971eadcfb013020618d6496d4fccb42f3a79da8560cecac95fd6934", func := "folkmoot/folkmootlaw14.PagesBytes", spec := "pagesBytes", inPlace := ["slices.overlaps[folkmoot/files.entry]"], unfollowed := true, recurses := true, apart := false, narrowed := true }
def PagesBytesUptoSaid : Prop := pagesBytesUptoRow.holds Try.pinned (OpenSpec.upto pagesBytesSpec)

end Rows
end Go.Proofs.Ytmclbechnfedmaa
