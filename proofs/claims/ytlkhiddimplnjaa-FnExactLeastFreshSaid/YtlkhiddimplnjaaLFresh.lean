/- Contracts: the least number that a list lacks, the model's and the program's. -/
import Derived.Test.YtlkhiddimplnjaaInts
namespace Go.Proofs.Ytlkhiddimplnjaa.Cx
open Go.RowKit Base
set_option linter.unusedVariables false
set_option linter.unusedSimpArgs false
set_option maxHeartbeats 1600000
theorem specLeast (w : World) (v : Value) (xs : List Int) (h : SlI w v xs) :
    Calls Try.prog 9 #[v] w fun e w' => ∃ r, e = .returned (.int .i64 r) ∧ LF xs r ∧ Below w.heap.size w w' := by
  go_enter Try.func9, Try.ntmps9
  go_wp2
  go_loopg [3] 1001 (fun n v3 wr => ∃ k : Nat, n + k = 1001 ∧ k ≤ 1000 ∧ v3 = .int .i64 k ∧ Hid (∀ c : Nat, c < k → (c : Int) ∈ xs) ∧ Hid (Below w.heap.size w wr))
  case atStart => exact ⟨0, by omega, by omega, rfl, fun c hc => by omega, Below.refl _ _⟩
  case round =>
    obtain ⟨k, hn, hk, rfl, hq, hB⟩ := hrel
    have hBw := hB.out
    clear hB
    by_cases hlt : k < 1000
    · have l1 : decide ((k : Int) ≤ 999) = true := by simp; omega
      cases h5 : hasI xs k
      all_goals
        go_wp2_with fail
        refine (l1Has _ v xs k (h.below KI.mono bl)).mono ?_
        rintro e w1 ⟨rfl, hb1⟩
        obtain ⟨hc1, hf1⟩ := bcell hb1
        have hB1 : Below w.heap.size w w1 := bStep bl hb1
        have hp1 := Stp.mk hb1
        have hs1 := hb1.size
        try simp only [World.size_alloc, World.size_setCell, World.size_drew, World.heap_drewN] at hs1
        try simp only [World.size_drew, World.heap_drewN, World.cell?_drew, World.frozen?_drew, World.cell?_drewN, World.frozen?_drewN] at hc1 hf1
        go_wp2
      · go_ret
        exact ⟨_, rfl, .inl ⟨k, rfl, hlt, by simpa [hasI] using h5, hq.out⟩, bl⟩
      · go_roundg (gk - 1)
        case measure => omega
        case rel => exact ⟨k + 1, by omega, by omega, by go_num, upTo_succ hq.out h5, bl⟩
    · obtain rfl : k = 1000 := by omega
      go_wp2
      go_ret
      exact ⟨_, rfl, .inr ⟨rfl, hq.out⟩, bl⟩
theorem zeroBool (W : World) : (zeroValue 4).run Try.prog W = .ok (.bool false) W := by kernel_rfl
theorem implLeast (w : World) (v : Value) (xs : List Int) (h : SlI w v xs) (hx : ∀ x ∈ xs, wfI x) :
    Calls Try.prog 11 #[v] w fun e w' => ∃ r, e = .returned (.int .i64 r) ∧ LF xs r ∧ Below w.heap.size w w' := by
  obtain ⟨A, c, rfl, hc, hl, hr⟩ := h
  have hmm := @run_makeMap Try.prog
  go_enter Try.func11, Try.ntmps11
  go_wp2
  go_loopg [5, 10] (xs.length + 1) (fun n v5 v10 wr => ∃ k : Nat, n + k = xs.length + 1 ∧ k ≤ xs.length ∧ v10 = .int .i64 k ∧ Hid (SetI Try.prog 3 4 wr w.heap.size k (xs.take k)) ∧ Hid (Below w.heap.size w wr))
  case atStart => exact ⟨0, by omega, by omega, rfl, SetI.made, bl⟩
  case round =>
    obtain ⟨k, hn, hk, rfl, hq, hB⟩ := hrel
    have hBw := hB.out
    clear hB
    by_cases hlt : k < xs.length
    · obtain ⟨ad, rfl, c0⟩ := (hr.below KI.mono hBw).atI hlt
      have g0 : (0 : Int) ≤ (k : Int) := by omega
      have g1 : (k : Int) < (xs.length : Int) := by omega
      obtain ⟨w2, hrun, hs2, hg⟩ := hq.out.put Try.underlying3 Try.underlying4 Try.underlying53 (by unfold maxLen; omega) (hx xs[k] (List.getElem_mem hlt))
      have HS := Lib.hid hs2
      clear hs2
      go_wp2
      go_roundg (gk - 1)
      case measure => omega
      case rel => exact ⟨k + 1, by omega, by omega, by go_num, by unfold Hid; rw [take_snoc xs k hlt]; exact HS.out, bGrown hBw hg hBw.size (fun j hj => by cases hj; exact Nat.le_refl _)⟩
    · obtain rfl : k = xs.length := by omega
      rw [List.take_length] at hq
      go_wp2
      go_loopg [6, 17] 1001 (fun n v6 v17 wq => ∃ a : Nat, n + a = 1001 ∧ a ≤ 1000 ∧ v17 = .int .i64 a ∧ Hid (∀ c : Nat, c < a → (c : Int) ∈ xs) ∧ Hid (Below wr.heap.size wr wq))
      case atStart => exact ⟨0, by omega, by omega, rfl, fun c hc => by omega, Below.refl _ _⟩
      case round =>
        obtain ⟨a, hn2, ha, rfl, hq2, hB2⟩ := hrel
        have hB3 := hB2.out
        have hp3 := Stp.mk hB3
        by_cases hlt2 : a < 1000
        · have l1 : decide ((a : Int) < 1000) = true := by simp; omega
          have hlk := (hq.out.keep hB3).look (t := 53) Try.underlying3 Try.underlying4 Try.underlying53 (zeroBool _) (x := (a : Int)) (wfI_of (by omega) (by omega))
          cases h5 : hasI xs a
          all_goals
            rw [h5] at hlk
            go_wp2
          · go_ret
            exact ⟨_, rfl, .inl ⟨a, rfl, hlt2, by simpa [hasI] using h5, hq2.out⟩, bl⟩
          · go_roundg (gk - 1)
            case measure => omega
            case rel => exact ⟨a + 1, by omega, by omega, by go_num, upTo_succ hq2.out h5, hB3⟩
        · obtain rfl : a = 1000 := by omega
          go_wp2
          go_ret
          exact ⟨_, rfl, .inr ⟨rfl, hq2.out⟩, bl⟩
end Go.Proofs.Ytlkhiddimplnjaa.Cx
