/- Contracts: what a list of pairs gives to a number, and what it gives it to. -/
import Derived.Test.YtmeaghkpojiniaaPermL
namespace Go.Proofs.Ytmeaghkpojiniaa.Base
theorem imgL_cons (x : Int × Int) (r : List (Int × Int)) (a : Int) : imgL (x :: r) a = if x.1 == a then x.2 else imgL r a := by
  unfold imgL; rw [List.find?_cons]; cases x.1 == a <;> rfl
theorem backL_cons (x : Int × Int) (r : List (Int × Int)) (a : Int) : backL (x :: r) a = if x.2 == a then x.1 else backL r a := by
  unfold backL; rw [List.find?_cons]; cases x.2 == a <;> rfl
theorem imgL_hit {p : List (Int × Int)} {k : Nat} {a : Int} (h : k < p.length) (h1 : (p[k].1 == a) = true) : imgL (p.drop k) a = p[k].2 := by rw [List.drop_eq_getElem_cons h, imgL_cons, h1]; rfl
theorem imgL_miss {p : List (Int × Int)} {k : Nat} {a : Int} (h : k < p.length) (h1 : (p[k].1 == a) = false) : imgL (p.drop k) a = imgL (p.drop (k + 1)) a := by rw [List.drop_eq_getElem_cons h, imgL_cons, h1]; rfl
theorem imgL_end (p : List (Int × Int)) (a : Int) : imgL (p.drop p.length) a = a := by simp [imgL]
theorem backL_hit {p : List (Int × Int)} {k : Nat} {a : Int} (h : k < p.length) (h1 : (p[k].2 == a) = true) : backL (p.drop k) a = p[k].1 := by rw [List.drop_eq_getElem_cons h, backL_cons, h1]; rfl
theorem backL_miss {p : List (Int × Int)} {k : Nat} {a : Int} (h : k < p.length) (h1 : (p[k].2 == a) = false) : backL (p.drop k) a = backL (p.drop (k + 1)) a := by rw [List.drop_eq_getElem_cons h, backL_cons, h1]; rfl
theorem backL_end (p : List (Int × Int)) (a : Int) : backL (p.drop p.length) a = a := by simp [backL]
end Go.Proofs.Ytmeaghkpojiniaa.Base
namespace Go.Proofs.Ytmeaghkpojiniaa.Cx
open Go.RowKit Base
set_option linter.unusedVariables false
set_option linter.unusedSimpArgs false
set_option maxHeartbeats 1600000
attribute [local go_sem] cell_alloc_some in
theorem l1Image (w : World) (v : Value) (xs : List (Int × Int)) (a : Int) (h : SlP w v xs) : Calls Try.prog 56 #[v, .int .i64 a] w fun e w' => e = .returned (.int .i64 (imgL xs a)) ∧ Below w.heap.size w w' := by
  obtain ⟨A, c, rfl, hc, hl, hr⟩ := h
  go_enter Try.func56, Try.ntmps56
  go_wp2
  go_loopg [5] (xs.length + 1) (fun n v5 wr => ∃ k : Nat, n + k = xs.length + 1 ∧ k ≤ xs.length ∧ v5 = .int .i64 k ∧ Hid (imgL xs a = imgL (xs.drop k) a) ∧ Hid (Below w.heap.size w wr))
  case atStart => exact ⟨0, by omega, by omega, rfl, rfl, Below.refl _ _⟩
  case round =>
    obtain ⟨k, hn, hk, rfl, hq, hB⟩ := hrel
    have hBw := hB.out
    clear hB
    by_cases hlt : k < xs.length
    · obtain ⟨ad, rfl, c0, c1⟩ := (hr.below KP.mono hBw).atP hlt
      have g0 : (0 : Int) ≤ (k : Int) := by omega
      have g1 : (k : Int) < (xs.length : Int) := by omega
      cases h5 : (xs[k].1 == a)
      all_goals
        go_wp2
      · go_roundg (gk - 1)
        case measure => omega
        case rel => exact ⟨k + 1, by omega, by omega, by go_num, by unfold Hid; rw [hq.out, imgL_miss hlt h5], bl⟩
      · go_ret
        exact ⟨ret_int (by rw [hq.out, imgL_hit hlt h5]), bl⟩
    · obtain rfl : k = xs.length := by omega
      go_wp2
      go_ret
      exact ⟨ret_int (by rw [hq.out, imgL_end]), bl⟩
attribute [local go_sem] cell_alloc_some in
theorem l1Back (w : World) (v : Value) (xs : List (Int × Int)) (a : Int) (h : SlP w v xs) : Calls Try.prog 77 #[v, .int .i64 a] w fun e w' => e = .returned (.int .i64 (backL xs a)) ∧ Below w.heap.size w w' := by
  obtain ⟨A, c, rfl, hc, hl, hr⟩ := h
  go_enter Try.func77, Try.ntmps77
  go_wp2
  go_loopg [5] (xs.length + 1) (fun n v5 wr => ∃ k : Nat, n + k = xs.length + 1 ∧ k ≤ xs.length ∧ v5 = .int .i64 k ∧ Hid (backL xs a = backL (xs.drop k) a) ∧ Hid (Below w.heap.size w wr))
  case atStart => exact ⟨0, by omega, by omega, rfl, rfl, Below.refl _ _⟩
  case round =>
    obtain ⟨k, hn, hk, rfl, hq, hB⟩ := hrel
    have hBw := hB.out
    clear hB
    by_cases hlt : k < xs.length
    · obtain ⟨ad, rfl, c0, c1⟩ := (hr.below KP.mono hBw).atP hlt
      have g0 : (0 : Int) ≤ (k : Int) := by omega
      have g1 : (k : Int) < (xs.length : Int) := by omega
      cases h5 : (xs[k].2 == a)
      all_goals
        go_wp2
      · go_roundg (gk - 1)
        case measure => omega
        case rel => exact ⟨k + 1, by omega, by omega, by go_num, by unfold Hid; rw [hq.out, backL_miss hlt h5], bl⟩
      · go_ret
        exact ⟨ret_int (by rw [hq.out, backL_hit hlt h5]), bl⟩
    · obtain rfl : k = xs.length := by omega
      go_wp2
      go_ret
      exact ⟨ret_int (by rw [hq.out, backL_end]), bl⟩
attribute [local go_sem] cell_alloc_some in
theorem image (w : World) (v : Value) (xs : List (Int × Int)) (a : Int) (h : SlP w v xs) : Calls Try.prog 57 #[v, .int .i64 a] w fun e w' => e = .returned (.int .i64 (imgL xs a)) ∧ Below w.heap.size w w' := by
  obtain ⟨A, c, rfl, hc, hl, hr⟩ := h
  go_enter Try.func57, Try.ntmps57
  go_wp2
  go_loopg [6, 9] (xs.length + 1) (fun n v6 v9 wr => ∃ k : Nat, n + k = xs.length + 1 ∧ k ≤ xs.length ∧ v9 = .int .i64 k ∧ Hid (imgL xs a = imgL (xs.drop k) a) ∧ Hid (Below w.heap.size w wr))
  case atStart => exact ⟨0, by omega, by omega, rfl, rfl, Below.refl _ _⟩
  case round =>
    obtain ⟨k, hn, hk, rfl, hq, hB⟩ := hrel
    have hBw := hB.out
    clear hB
    by_cases hlt : k < xs.length
    · obtain ⟨ad, rfl, c0, c1⟩ := (hr.below KP.mono hBw).atP hlt
      have g0 : (0 : Int) ≤ (k : Int) := by omega
      have g1 : (k : Int) < (xs.length : Int) := by omega
      cases h5 : (xs[k].1 == a)
      all_goals
        go_wp2
      · go_roundg (gk - 1)
        case measure => omega
        case rel => exact ⟨k + 1, by omega, by omega, by go_num, by unfold Hid; rw [hq.out, imgL_miss hlt h5], bl⟩
      · go_ret
        exact ⟨ret_int (by rw [hq.out, imgL_hit hlt h5]), bl⟩
    · obtain rfl : k = xs.length := by omega
      go_wp2
      go_ret
      exact ⟨ret_int (by rw [hq.out, imgL_end]), bl⟩
end Go.Proofs.Ytmeaghkpojiniaa.Cx
