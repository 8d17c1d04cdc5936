/- Contracts: atoms, least and greatest of two, the swap of two atoms, the model's and the program's. -/
import Derived.Test.YtmeaghkpojiniaaConv
namespace Go.Proofs.Ytmeaghkpojiniaa.Base
def atom (a : Int) : Bool := decide (0 ≤ a) && decide (a ≤ 999)
def swapL (a b : Int) : List (Int × Int) := if a ≠ b ∧ atom a = true ∧ atom b = true then [(min a b, max a b), (max a b, min a b)] else []
theorem swapL_len (a b : Int) : (swapL a b).length ≤ 2 := by unfold swapL; split <;> simp
end Go.Proofs.Ytmeaghkpojiniaa.Base
namespace Go.Proofs.Ytmeaghkpojiniaa.Cx
open Go.RowKit Base
set_option linter.unusedVariables false
set_option linter.unusedSimpArgs false
set_option maxHeartbeats 800000
theorem l1In (w : World) (a lo hi : Int) : Calls Try.prog 70 #[.int .i64 a, .int .i64 lo, .int .i64 hi] w fun e w' => e = .returned (.bool (decide (lo ≤ a) && decide (a ≤ hi))) ∧ Below w.heap.size w w' := by
  by_cases h1 : lo ≤ a
  all_goals by_cases h2 : a ≤ hi
  all_goals
    go_enter Try.func70, Try.ntmps70
    go_wp2
    go_ret
    exact ⟨by simp [h1, h2], bl⟩
theorem l1Atom (w : World) (a : Int) : Calls Try.prog 49 #[.int .i64 a] w fun e w' => e = .returned (.bool (atom a)) ∧ Below w.heap.size w w' := by
  go_enter Try.func49, Try.ntmps49
  go_wp2_with fail
  refine (l1In _ a 0 999).mono ?_
  rintro e w1 ⟨rfl, hb1⟩
  obtain ⟨hc1, hf1⟩ := bcell hb1
  have hB1 : Below w.heap.size w w1 := bStep bl hb1
  have hp1 := Stp.mk hb1
  have hs1 := hb1.size
  try simp only [World.size_alloc, World.size_setCell, World.size_drew, World.heap_drewN] at hs1
  try simp only [World.size_drew, World.heap_drewN, World.cell?_drew, World.frozen?_drew, World.cell?_drewN, World.frozen?_drewN] at hc1 hf1
  go_wp2
  go_ret
  exact ⟨rfl, bl⟩
theorem isAtom (w : World) (a : Int) : Calls Try.prog 51 #[.int .i64 a] w fun e w' => e = .returned (.bool (atom a)) ∧ Below w.heap.size w w' := by
  by_cases h1 : 0 ≤ a
  all_goals by_cases h2 : a ≤ 999
  all_goals
    go_enter Try.func51, Try.ntmps51
    go_wp2
    go_ret
    exact ⟨by simp [atom, h1, h2], bl⟩
theorem l1Min (w : World) (a b : Int) : Calls Try.prog 88 #[.int .i64 a, .int .i64 b] w fun e w' => e = .returned (.int .i64 (min a b)) ∧ Below w.heap.size w w' := by
  by_cases h1 : a < b
  all_goals
    go_enter Try.func88, Try.ntmps88
    go_wp2
    go_ret
    exact ⟨ret_int (by omega), bl⟩
theorem l1Max (w : World) (a b : Int) : Calls Try.prog 89 #[.int .i64 a, .int .i64 b] w fun e w' => e = .returned (.int .i64 (max a b)) ∧ Below w.heap.size w w' := by
  by_cases h1 : a > b
  all_goals
    go_enter Try.func89, Try.ntmps89
    go_wp2
    go_ret
    exact ⟨ret_int (by omega), bl⟩
theorem specSwap (w : World) (a b : Int) : Calls Try.prog 76 #[.int .i64 a, .int .i64 b] w fun e w' => ∃ r, e = .returned r ∧ OwP 51 w' w.heap.size r (swapL a b) ∧ Below w.heap.size w w' := by
  by_cases h1 : a = b
  all_goals cases h2 : atom a
  all_goals cases h3 : atom b
  all_goals
    go_enter Try.func76, Try.ntmps76
    go_wp2_with (first 
      | (go_at_call 49; refine (l1Atom _ _).mono ?_; rintro e w2 ⟨rfl, hb2⟩; have hp2 := Stp.mk hb2)
      | (go_at_call 88; refine (l1Min _ _ _).mono ?_; rintro e w2 ⟨rfl, hb2⟩; have hp2 := Stp.mk hb2) 
      | (go_at_call 89; refine (l1Max _ _ _).mono ?_; rintro e w2 ⟨rfl, hb2⟩; have hp2 := Stp.mk hb2)
      | (go_at_call 51; refine (isAtom _ _).mono ?_; rintro e w2 ⟨rfl, hb2⟩; have hp2 := Stp.mk hb2)
      )
    all_goals go_ret
    all_goals first
    | exact ⟨_, rfl, by unfold swapL; rw [if_neg (by simp [h1, h2, h3])]; exact World.ownsRow_nil _ _ _ _, bl⟩
    | (refine ⟨_, rfl, ?_, bl⟩
       have hz : w.heap.size ≤ w2.heap.size := (show Below w.heap.size w w2 from bl).size
       have e := World.ownsRow_lit (w := w2) (base := w.heap.size) (e := 51) (size := 2) #[.int .i64 (min a b), .int .i64 (max a b), .int .i64 (max a b), .int .i64 (min a b)] 2 hz (by decide) rfl
       unfold swapL
       rw [if_pos ⟨h1, h2, h3⟩]
       first
       | exact (by simpa [OwP, cP] using e)
       | (have m1 : min a b = a := by omega
          have m2 : max a b = b := by omega
          rw [m1, m2] at e ⊢
          simpa [OwP, cP] using e)
       | (have m1 : min a b = b := by omega
          have m2 : max a b = a := by omega
          rw [m1, m2] at e ⊢
          simpa [OwP, cP] using e))
theorem implSwap (w : World) (a b : Int) : Calls Try.prog 44 #[.int .i64 a, .int .i64 b] w fun e w' => ∃ r, e = .returned r ∧ OwP 51 w' w.heap.size r (swapL a b) ∧ Below w.heap.size w w' := by
  by_cases h1 : a = b
  all_goals cases h2 : atom a
  all_goals cases h3 : atom b
  all_goals
    go_enter Try.func44, Try.ntmps44
    go_wp2_with (first 
      | (go_at_call 49; refine (l1Atom _ _).mono ?_; rintro e w2 ⟨rfl, hb2⟩; have hp2 := Stp.mk hb2)
      | (go_at_call 88; refine (l1Min _ _ _).mono ?_; rintro e w2 ⟨rfl, hb2⟩; have hp2 := Stp.mk hb2) 
      | (go_at_call 89; refine (l1Max _ _ _).mono ?_; rintro e w2 ⟨rfl, hb2⟩; have hp2 := Stp.mk hb2)
      | (go_at_call 51; refine (isAtom _ _).mono ?_; rintro e w2 ⟨rfl, hb2⟩; have hp2 := Stp.mk hb2)
      )
    all_goals go_ret
    all_goals first
    | exact ⟨_, rfl, by unfold swapL; rw [if_neg (by simp [h1, h2, h3])]; exact World.ownsRow_nil _ _ _ _, bl⟩
    | (refine ⟨_, rfl, ?_, bl⟩
       have hz : w.heap.size ≤ w2.heap.size := (show Below w.heap.size w w2 from bl).size
       have e := World.ownsRow_lit (w := w2) (base := w.heap.size) (e := 51) (size := 2) #[.int .i64 (min a b), .int .i64 (max a b), .int .i64 (max a b), .int .i64 (min a b)] 2 hz (by decide) rfl
       unfold swapL
       rw [if_pos ⟨h1, h2, h3⟩]
       first
       | exact (by simpa [OwP, cP] using e)
       | (have m1 : min a b = a := by omega
          have m2 : max a b = b := by omega
          rw [m1, m2] at e ⊢
          simpa [OwP, cP] using e)
       | (have m1 : min a b = b := by omega
          have m2 : max a b = a := by omega
          rw [m1, m2] at e ⊢
          simpa [OwP, cP] using e))
end Go.Proofs.Ytmeaghkpojiniaa.Cx
