/- '==' on structs of two whole numbers; the library's Equal over them. -/
import Derived.Test.YtlkhiddimplnjaaConv
import Derived.Laws.StructEq
namespace Go.Proofs.Ytlkhiddimplnjaa.Cx
open Go.RowKit Base
set_option linter.unusedVariables false
set_option linter.unusedSimpArgs false
/-- '==' on two structs of two whole numbers. -/
theorem eqOpPair (d : Nat) (w : World) (a b c e : Int) :
    (Op.equalIn (d + 2) 57 (.agg #[.int .i64 a, .int .i64 b]) (.agg #[.int .i64 c, .int .i64 e])).run Try.prog w = .ok (a == c && b == e) w := by
  have hu := Try.underlying57
  rw [run_equalIn_struct w (d + 1) 57 _ _ (by simp [Program.fieldsOf, hu]) (by kernel_rfl)]
  simp only [Program.fieldsOf, hu]
  go_simp
  split
  · split <;> simp_all
  · simp_all
/-- '==' on two structs of two whole numbers. -/
theorem eqOpFresh (d : Nat) (w : World) (a b c e : Int) :
    (Op.equalIn (d + 2) 60 (.agg #[.int .i64 a, .int .i64 b]) (.agg #[.int .i64 c, .int .i64 e])).run Try.prog w = .ok (a == c && b == e) w := by
  have hu := Try.underlying60
  rw [run_equalIn_struct w (d + 1) 60 _ _ (by simp [Program.fieldsOf, hu]) (by kernel_rfl)]
  simp only [Program.fieldsOf, hu]
  go_simp
  split
  · split <;> simp_all
  · simp_all
attribute [local go_sem high] eqOpPair
set_option maxHeartbeats 800000 in
theorem equalPair (w : World) (va vb : Value) (xs ys : List (Int × Int)) (ha : SlP w va xs) (hb : SlP w vb ys) :
    Calls Try.prog 47 #[va, vb] w fun e w' => e = .returned (.bool (xs == ys)) ∧ Below w.heap.size w w' := by
  obtain ⟨A, c, rfl, hc, hl, hr⟩ := ha
  obtain ⟨A', c', rfl, hc', hl', hr'⟩ := hb
  by_cases hlen : xs.length = ys.length
  · have b1 : (xs.length != ys.length) = false := by simp [hlen]
    have b2 : ((xs.length : Int) != (ys.length : Int)) = false := by simp [hlen]
    have HL := Lib.hid hlen
    clear hlen
    go_enter Try.func47, Try.ntmps47
    go_wp2
    go_loopg [5, 13] (xs.length + 1) (fun n v5 v13 wr => ∃ k : Nat, n + k = xs.length + 1 ∧ k ≤ xs.length ∧ v13 = .int .i64 k ∧ Hid (xs.take k = ys.take k) ∧ Hid (Below w.heap.size w wr))
    case atStart => exact ⟨0, by omega, by omega, rfl, rfl, Below.refl _ _⟩
    case round =>
      obtain ⟨k, hn, hk, rfl, hq, hB⟩ := hrel
      have hBw := hB.out
      clear hB
      by_cases hlt : k < xs.length
      · have hlt' : k < ys.length := by have := HL.out; omega
        obtain ⟨ad, rfl, c0, c1⟩ := (hr.below KP.mono hBw).atP hlt
        obtain ⟨ad', rfl, d0, d1⟩ := (hr'.below KP.mono hBw).atP hlt'
        have g0 : (0 : Int) ≤ (k : Int) := by omega
        have g1 : (k : Int) < (xs.length : Int) := by omega
        have g2 : (k : Int) < (ys.length : Int) := by omega
        have cls_c0 := clsCell c0
        have cls_c1 := clsCell c1
        have cls_d0 := clsCell d0
        have cls_d1 := clsCell d1
        cases h5 : (xs[k].1 == ys[k].1 && xs[k].2 == ys[k].2)
        all_goals
          go_wp2
          refine wp_region_plan ([], [0,1,2,3,4,5,6,7,8], []) (by kernel_rfl) (by kernel_rfl) ?_
          simp only [wpSegs, opsAt, consAt_some, List.getElem?_cons_succ, List.getElem?_cons_zero]
          repeat (go_big_quiet_step (fail))
          refine wpQuiet_nil (wpList_nil (nrm_mk ?_))
          go_wp2
        · go_ret
          exact ⟨ret_bool (by symm; rw [beq_eq_false_iff_ne]; rintro rfl; simp at h5), bDrewN hBw 1⟩
        · go_roundg (gk - 1)
          case measure => omega
          case rel =>
            have h6 : xs[k] = ys[k] := by simp at h5; exact Prod.ext h5.1 h5.2
            exact ⟨k + 1, by omega, by omega, by go_num, by unfold Hid; rw [take_snoc xs k hlt, take_snoc ys k hlt', hq.out, h6], bDrewN hBw 1⟩
      · obtain rfl : k = xs.length := by omega
        go_wp2
        go_ret
        exact ⟨ret_bool (by symm; rw [beq_iff_eq]; have h1 := hq.out; rw [List.take_length, List.take_of_length_le (by have := HL.out; omega)] at h1; exact h1), hBw⟩
  · have b1 : (xs.length != ys.length) = true := by simp [hlen]
    have b2 : ((xs.length : Int) != (ys.length : Int)) = true := by simp; omega
    have HL := Lib.hid hlen
    clear hlen
    go_enter Try.func47, Try.ntmps47
    go_wp2
    go_ret
    exact ⟨ret_bool (by symm; rw [beq_eq_false_iff_ne]; rintro rfl; exact HL.out rfl), Below.refl _ _⟩
end Go.Proofs.Ytlkhiddimplnjaa.Cx
