/- files.New. -/
import Derived.Test.YtmclbechnfedmaaRename
namespace Go.Proofs.Ytmclbechnfedmaa
open Go Go.RowKit
section
variable {w w' : World}
def Dk.new (n : Nat) : Dk := { size := n, vn := .slice none 0 0, vk := .slice none 0 0, now := [], kept := [], fv := fun _ => .slice none 0 0, by_ := fun _ => [], sure := fun _ => 0 }
theorem DiskRep.fresh {d n : Nat} (hb : Blk w d 66 #[.int .i64 n, .slice none 0 0, .slice none 0 0]) (h1 : 1 ≤ n) (h2 : n ≤ 8388608) : DiskRep w d (Dk.new n) := by
  refine ⟨hb, World.ownsRow_nil _ _ _ _, World.ownsRow_nil _ _ _ _, fun b hb => by simp [Dk.new, Value.ownBlock] at hb, fun f hf => ?_, fun f g b hf => ?_, .nil, .nil, .nil, .nil, Nat.zero_le _, Nat.zero_le _, h1, h2⟩
  · obtain ⟨x, hx, _⟩ := hf
    simp [Dk.new] at hx
  · obtain ⟨x, hx, _⟩ := hf
    simp [Dk.new] at hx
theorem new_DS {d n b : Nat} (h : DS d (Dk.new n) b) : b = d := by
  rcases h with h | h | h | ⟨f, ⟨x, hx, _⟩, _⟩
  · exact h
  · simp [Dk.new, Value.ownBlock] at h
  · simp [Dk.new, Value.ownBlock] at h
  · simp [Dk.new] at hx

theorem disk_new (w : World) (n : Nat) (h1 : 1 ≤ n) (h2 : n ≤ 8388608) :
    Calls Try.prog 13 #[.int .i64 n] w fun e w' => ∃ d, e = .returned (.tuple #[.pointer (some ⟨d, 0, none⟩), .int .i64 0]) ∧ w.heap.size ≤ d ∧ DiskRep w' d (Dk.new n) ∧ Mod Non w w' := by
  go_enter Try.func13, Try.ntmps13
  go_wp2
  go_ret2
  exact ⟨w.heap.size, rfl, Nat.le_refl _, .fresh (Blk.new w _ _) h1 h2, (Mod.refl _ _).alloc _⟩
end
end Go.Proofs.Ytmclbechnfedmaa
