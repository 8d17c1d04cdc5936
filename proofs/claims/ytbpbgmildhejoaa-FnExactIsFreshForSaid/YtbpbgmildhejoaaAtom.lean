/- Contracts: atoms, least and greatest of two, the swap of two atoms, the model's and the program's. -/
import Derived.Test.YtbpbgmildhejoaaConv
namespace Go.Proofs.Ytbpbgmildhejoaa.Base
def atom (a : Int) : Bool := decide (0 ≤ a) && decide (a ≤ 999)
def swapL (a b : Int) : List (Int × Int) := if a ≠ b ∧ atom a = true ∧ atom b = true then [(min a b, max a b), (max a b, min a b)] else []
theorem swapL_len (a b : Int) : (swapL a b).length ≤ 2 := by unfold swapL; split <;> simp
end Go.Proofs.Ytbpbgmildhejoaa.Base
namespace Go.Proofs.Ytbpbgmildhejoaa.Cx
open Go.RowKit Base
set_option linter.unusedVariables false
set_option linter.unusedSimpArgs false
set_option maxHeartbeats 800000
theorem l1In (w : World) (a lo hi : Int) : Calls Try.prog 64 #[.int .i64 a, .int .i64 lo, .int .i64 hi] w fun e w' => e = .returned (.bool (decide (lo ≤ a) && decide (a ≤ hi))) ∧ Below w.heap.size w w' := by
  by_cases h1 : lo ≤ a
  all_goals by_cases h2 : a ≤ hi
  all_goals
    go_enter Try.func64, Try.ntmps64
    go_wp2
    go_ret
    exact ⟨by simp [h1, h2], bl⟩
theorem l1Atom (w : World) (a : Int) : Calls Try.prog 69 #[.int .i64 a] w fun e w' => e = .returned (.bool (atom a)) ∧ Below w.heap.size w w' := by
  go_enter Try.func69, Try.ntmps69
  go_wp2_with fail
  refine (l1In _ a 0 999).mono ?_
  rintro e w1 ⟨rfl, hb1⟩
  obtain ⟨hc1, hf1⟩ := bcell hb1
  have hB1 : Below w.heap.size w w1 := bStep bl hb1
  have hp1 := Stp.mk hb1
  have hs1 := hb1.size
  try simp only [World.size_alloc, World.size_setCell, World.size_drew, World.heap_drewN] at hs1
  try simp only [World.size_drew, World.heap_drewN, World.cell?_drew, World.frozen?_drew, World.cell?_drewN, World.frozen?_drewN] at hc1 hf1
  go_wp2
  go_ret
  exact ⟨rfl, bl⟩
theorem isAtom (w : World) (a : Int) : Calls Try.prog 72 #[.int .i64 a] w fun e w' => e = .returned (.bool (atom a)) ∧ Below w.heap.size w w' := by
  by_cases h1 : 0 ≤ a
  all_goals by_cases h2 : a ≤ 999
  all_goals
    go_enter Try.func72, Try.ntmps72
    go_wp2
    go_ret
    exact ⟨by simp [atom, h1, h2], bl⟩
end Go.Proofs.Ytbpbgmildhejoaa.Cx
