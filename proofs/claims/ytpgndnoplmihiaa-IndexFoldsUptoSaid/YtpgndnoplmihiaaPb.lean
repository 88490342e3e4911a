/-
  The laws' pair of indexes: fresh; two of them at once. Conditions: none.
-/
import Derived.Test.YtpgndnoplmihiaaPa
namespace Go.Proofs.Ytpgndnoplmihiaa
open Go.RowKit
section
variable {B : Nat} {W w : World} {L : List Assn}

set_option maxHeartbeats 4000000 in
set_option maxRecDepth 100000 in
theorem fresh_st (h : St B W w L) : Calls Try.prog 16 #[] w fun e w' => ∃ x0 d0 x1 d1, e = .returned (.tuple #[.agg #[ptr x0, ptr d0, ptr x1, ptr d1], .bool true]) ∧ St B W w' (Rf d1 [] :: iIx x1 [] :: Rf d0 [] :: iIx x0 [] :: L) := by
  go_enter Try.func16, Try.ntmps16
  go_wp2
  refine wp_loop_rounds 3 ?_
  rw [rounds_succ]
  go_wp2
  rw [rounds_succ]
  go_wp2
  rw [rounds_succ]
  go_wp2
  have h1 := ((((h.new #[ptr (w.heap.size + 1 + 1), ptr (w.heap.size + 1 + 1 + 1), ptr (w.heap.size + 1 + 1 + 1 + 1), ptr (w.heap.size + 1 + 1 + 1 + 1 + 1)] 39).drop.new #[ptr (w.heap.size + 1 + 1), ptr (w.heap.size + 1 + 1 + 1), ptr (w.heap.size + 1 + 1 + 1 + 1), ptr (w.heap.size + 1 + 1 + 1 + 1 + 1)] 39).drop.new #[.slice none 0 0] 89).nilRow 91 2).swap.iix (l := [])
  have h2 := ((h1.new #[.slice none 0 0] 71).nilRow 106 3).swap.rf (g := [])
  have h3 := ((h2.new #[.slice none 0 0] 89).nilRow 91 2).swap.iix (l := [])
  have h4 := ((h3.new #[.slice none 0 0] 71).nilRow 106 3).swap.rf (g := [])
  simp only [World.size_alloc] at h4
  refine bodyPost_ret (v := .tuple #[.agg #[ptr (w.heap.size + 1 + 1), ptr (w.heap.size + 1 + 1 + 1), ptr (w.heap.size + 1 + 1 + 1 + 1), ptr (w.heap.size + 1 + 1 + 1 + 1 + 1)], .bool true]) (by simp [results, Try.results16, go_sem, ptr]) rfl ⟨_, _, _, _, rfl, h4⟩
end
end Go.Proofs.Ytpgndnoplmihiaa
