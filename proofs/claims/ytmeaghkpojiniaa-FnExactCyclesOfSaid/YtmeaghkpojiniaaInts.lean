/- Contracts of the laws' own helpers over lists of numbers, and of the model's search in one. -/
import Derived.Test.YtmeaghkpojiniaaConv
import Derived.Test.YtmeaghkpojiniaaSet
namespace Go.Proofs.Ytmeaghkpojiniaa.Cx
open Go.RowKit Base
set_option linter.unusedVariables false
set_option linter.unusedSimpArgs false
set_option maxHeartbeats 1600000
theorem mk_int (n : Nat) (h : n * 8 ≤ 281474976710656) : ∀ W : World, (Instr.makeSlice 31 (.int .i64 (n : Int)) (.int .i64 (n : Int))).run Try.prog W = .ok (.slice (some ⟨W.heap.size, 0, none⟩) n n) (W.alloc (.cells (madeCells #[.int .i64 0] (n * 1)) 3)) :=
  ty_ints.make #[.int .i64 0] (fun i z hi hz => by have := info_int; rw [hi] at this; simp at this; rw [this.1] at hz; cases hz; rfl) n h (by omega)
theorem eqIntS (w : World) (va vb : Value) (xs ys : List Int) (ha : SlI w va xs) (hb : SlI w vb ys) :
    Calls Try.prog 24 #[va, vb] w fun e w' => e = .returned (.bool (xs == ys)) ∧ Below w.heap.size w w' := by
  obtain ⟨A, c, rfl, hc, hl, hr⟩ := ha
  obtain ⟨A', c', rfl, hc', hl', hr'⟩ := hb
  by_cases hlen : xs.length = ys.length
  · have b1 : (xs.length != ys.length) = false := by simp [hlen]
    have b2 : ((xs.length : Int) != (ys.length : Int)) = false := by simp [hlen]
    have HL := Lib.hid hlen
    clear hlen
    go_enter Try.func24, Try.ntmps24
    go_wp2
    go_loopg [5] (xs.length + 1) (fun n v5 wr => ∃ k : Nat, n + k = xs.length + 1 ∧ k ≤ xs.length ∧ v5 = .int .i64 k ∧ Hid (xs.take k = ys.take k) ∧ Hid (Below w.heap.size w wr))
    case atStart => exact ⟨0, by omega, by omega, rfl, rfl, Below.refl _ _⟩
    case round =>
      obtain ⟨k, hn, hk, rfl, hq, hB⟩ := hrel
      by_cases hlt : k < xs.length
      · have hlt' : k < ys.length := by have := HL.out; omega
        obtain ⟨ad, rfl, c0⟩ := (hr.below KI.mono hB.out).atI hlt
        obtain ⟨ad', rfl, c1⟩ := (hr'.below KI.mono hB.out).atI hlt'
        have g0 : (0 : Int) ≤ (k : Int) := by omega
        have g1 : (k : Int) < (xs.length : Int) := by omega
        have g2 : (k : Int) < (ys.length : Int) := by omega
        have f0 := clsCell c0
        have f1 := clsCell c1
        by_cases he : xs[k] = ys[k]
        all_goals
          first | have b3 : (xs[k] != ys[k]) = false := by simp [he]
                | have b3 : (xs[k] != ys[k]) = true := by simp [he]
          have HE := Lib.hid he
          clear he
          go_wp2
          refine wp_region_plan ([], [0,1,2,3,4,5,6,7,8], []) (by kernel_rfl) (by kernel_rfl) ?_
          simp only [wpSegs, opsAt, consAt_some, List.getElem?_cons_succ, List.getElem?_cons_zero]
          repeat (go_big_quiet_step (fail))
          refine wpQuiet_nil (wpList_nil (nrm_mk ?_))
          go_wp2
        · go_roundg (gk - 1)
          case measure => omega
          case rel => exact ⟨k + 1, by omega, by omega, by go_num, by unfold Hid; rw [take_snoc xs k hlt, take_snoc ys k hlt', hq.out, HE.out], bDrewN hB.out 1⟩
        · go_ret
          exact ⟨ret_bool (by symm; rw [beq_eq_false_iff_ne]; rintro rfl; exact HE.out rfl), bDrewN hB.out 1⟩
      · obtain rfl : k = xs.length := by omega
        go_wp2
        go_ret
        exact ⟨ret_bool (by symm; rw [beq_iff_eq]; have h1 := hq.out; rw [List.take_length, List.take_of_length_le (by have := HL.out; omega)] at h1; exact h1), hB.out⟩
  · have b1 : (xs.length != ys.length) = true := by simp [hlen]
    have b2 : ((xs.length : Int) != (ys.length : Int)) = true := by simp; omega
    have HL := Lib.hid hlen
    clear hlen
    go_enter Try.func24, Try.ntmps24
    go_wp2
    go_ret
    exact ⟨ret_bool (by symm; rw [beq_eq_false_iff_ne]; rintro rfl; exact HL.out rfl), Below.refl _ _⟩
theorem l1Has (w : World) (v : Value) (xs : List Int) (x : Int) (h : SlI w v xs) :
    Calls Try.prog 66 #[v, .int .i64 x] w fun e w' => e = .returned (.bool (hasI xs x)) ∧ Below w.heap.size w w' := by
  obtain ⟨A, c, rfl, hc, hl, hr⟩ := h
  go_enter Try.func66, Try.ntmps66
  go_wp2
  go_loopg [5] (xs.length + 1) (fun n v5 wr => ∃ k : Nat, n + k = xs.length + 1 ∧ k ≤ xs.length ∧ v5 = .int .i64 k ∧ Hid (x ∉ xs.take k) ∧ Hid (Below w.heap.size w wr))
  case atStart => exact ⟨0, by omega, by omega, rfl, by simp [Hid], Below.refl _ _⟩
  case round =>
    obtain ⟨k, hn, hk, rfl, hq, hB⟩ := hrel
    have hBw := hB.out
    clear hB
    by_cases hlt : k < xs.length
    · obtain ⟨ad, rfl, c0⟩ := (hr.below KI.mono hBw).atI hlt
      have g0 : (0 : Int) ≤ (k : Int) := by omega
      have g1 : (k : Int) < (xs.length : Int) := by omega
      cases h5 : (xs[k] == x)
      all_goals
        go_wp2
      · go_roundg (gk - 1)
        case measure => omega
        case rel =>
          refine ⟨k + 1, by omega, by omega, by go_num, ?_, hBw⟩
          unfold Hid
          rw [take_snoc xs k hlt]
          simp only [List.mem_append, List.mem_singleton]
          rintro (h3 | h3)
          · exact hq.out h3
          · subst h3; simp at h5
      · go_ret
        exact ⟨ret_bool (by symm; simp only [hasI, decide_eq_true_eq]; have := beq_iff_eq.1 h5; subst this; exact List.getElem_mem hlt), hBw⟩
    · obtain rfl : k = xs.length := by omega
      go_wp2
      go_ret
      exact ⟨ret_bool (by symm; simp only [hasI, decide_eq_false_iff_not]; have := hq.out; rwa [List.take_length] at this), hBw⟩
end Go.Proofs.Ytmeaghkpojiniaa.Cx
