/- Contracts of the laws' own helpers over pairs and elements: copies, sizes, comparisons. -/
import Derived.Test.YtmeaghkpojiniaaBase
import Derived.Test.YtmeaghkpojiniaaRegion
import Derived.Test.YtmeaghkpojiniaaRows
import Derived.Deep.LoopGhost
namespace Go.Proofs.Ytmeaghkpojiniaa.Cx
open Go.RowKit Base
set_option linter.unusedVariables false
set_option linter.unusedSimpArgs false

theorem info_int : (Try.prog.info? 3).map (fun i => (i.zero, i.size, i.bytes)) = some (some (.int .i64 0), 1, 8) := by kernel_rfl
theorem ty_ints : SlTy Try.prog 31 3 1 8 := SlTy.of Try.underlying31 info_int rfl (by decide)
theorem szPairS (w : World) (v : Value) (xs : List (Int × Int)) (l : Int) (h : SlP w v xs) (h0 : 0 ≤ l) (h1 : l ≤ 1048576) :
    Calls Try.prog 15 #[v, .int .i64 l] w fun e w' => e = .returned (.int .i64 (szr l xs.length)) ∧ Below w.heap.size w w' := by
  obtain ⟨A, c, rfl, hc, hl, hr⟩ := h
  go_enter Try.func15, Try.ntmps15
  go_wp2
  all_goals
    go_ret
    exact ⟨ret_int (by unfold szr; first | rw [if_pos (by omega)] | rw [if_neg (by omega)]), bl⟩
set_option maxHeartbeats 800000 in
theorem toPair (w : World) (x : Int × Int) :
    Calls Try.prog 50 #[.agg #[.int .i64 x.1, .int .i64 x.2]] w fun e w' => e = .returned (.agg #[.int .i64 x.1, .int .i64 x.2]) ∧ Below w.heap.size w w' := by
  go_enter Try.func50, Try.ntmps50
  go_wp2
  exact bodyPost_ret (v := .agg #[.int .i64 x.1, .int .i64 x.2]) (by simp [results, Try.results50, go_sem]) rfl ⟨rfl, bl⟩
set_option maxHeartbeats 800000 in
theorem eqPair (w : World) (x y : Int × Int) :
    Calls Try.prog 55 #[.agg #[.int .i64 x.1, .int .i64 x.2], .agg #[.int .i64 y.1, .int .i64 y.2]] w fun e w' => e = .returned (.bool (x == y)) ∧ Below w.heap.size w w' := by
  obtain ⟨a, b⟩ := x
  obtain ⟨c, d⟩ := y
  go_enter Try.func55, Try.ntmps55
  go_wp2
  all_goals
    go_ret
    refine ⟨ret_bool ?_, bl⟩
    simp_all
set_option maxHeartbeats 800000 in
theorem eqPairS (w : World) (va vb : Value) (xs ys : List (Int × Int)) (ha : SlP w va xs) (hb : SlP w vb ys) :
    Calls Try.prog 19 #[va, vb] w fun e w' => e = .returned (.bool (xs == ys)) ∧ Below w.heap.size w w' := by
  obtain ⟨A, c, rfl, hc, hl, hr⟩ := ha
  obtain ⟨A', c', rfl, hc', hl', hr'⟩ := hb
  by_cases hlen : xs.length = ys.length
  · have b1 : (xs.length != ys.length) = false := by simp [hlen]
    have b2 : ((xs.length : Int) != (ys.length : Int)) = false := by simp [hlen]
    have HL := Lib.hid hlen
    clear hlen
    go_enter Try.func19, Try.ntmps19
    go_wp2
    go_loopg [5] (xs.length + 1) (fun n v5 wr => ∃ k : Nat, n + k = xs.length + 1 ∧ k ≤ xs.length ∧ v5 = .int .i64 k ∧ Hid (xs.take k = ys.take k) ∧ Hid (Below w.heap.size w wr))
    case atStart => exact ⟨0, by omega, by omega, rfl, rfl, Below.refl _ _⟩
    case round =>
      obtain ⟨k, hn, hk, rfl, hq, hB⟩ := hrel
      have hBw := hB.out
      clear hB
      by_cases hlt : k < xs.length
      · have hlt' : k < ys.length := by have := HL.out; omega
        obtain ⟨ad, rfl, c0, c1⟩ := (hr.below KP.mono hBw).atP hlt
        obtain ⟨ad', rfl, d0, d1⟩ := (hr'.below KP.mono hBw).atP hlt'
        have g0 : (0 : Int) ≤ (k : Int) := by omega
        have g1 : (k : Int) < (xs.length : Int) := by omega
        have g2 : (k : Int) < (ys.length : Int) := by omega
        have cls_c0 := clsCell c0
        have cls_c1 := clsCell c1
        have cls_d0 := clsCell d0
        have cls_d1 := clsCell d1
        cases h5 : xs[k] == ys[k]
        all_goals
          go_wp2
          refine wp_region_plan ([([0,1,2,3,4,5,6,7],8)],[9],[]) (by kernel_rfl) (by kernel_rfl) ?_
          simp only [wpSegs, opsAt, consAt_some, List.getElem?_cons_succ, List.getElem?_cons_zero]
          repeat (go_big_quiet_step (fail))
          refine wpQuiet_nil ?_
          go_wp2_with (go_at_call 55; refine (eqPair _ xs[k] ys[k]).mono ?_; rintro e w4 ⟨rfl, hb4⟩)
          refine nrm_mk ⟨hb4, ?_⟩
          have hB4 : Below w.heap.size w w4 := bStep (Below.drew hBw) hb4
          clear hb4
          repeat (go_big_quiet_step (fail))
          refine wpQuiet_nil (wpList_nil (nrm_mk ?_))
          go_wp2
        · go_ret
          exact ⟨ret_bool (by symm; rw [beq_eq_false_iff_ne]; rintro rfl; simp at h5), hB4⟩
        · go_roundg (gk - 1)
          case measure => omega
          case rel => exact ⟨k + 1, by omega, by omega, by go_num, by unfold Hid; rw [take_snoc xs k hlt, take_snoc ys k hlt', hq.out, beq_iff_eq.1 h5], hB4⟩
      · obtain rfl : k = xs.length := by omega
        go_wp2
        go_ret
        exact ⟨ret_bool (by symm; rw [beq_iff_eq]; have h1 := hq.out; rw [List.take_length, List.take_of_length_le (by have := HL.out; omega)] at h1; exact h1), hBw⟩
  · have b1 : (xs.length != ys.length) = true := by simp [hlen]
    have b2 : ((xs.length : Int) != (ys.length : Int)) = true := by simp; omega
    have HL := Lib.hid hlen
    clear hlen
    go_enter Try.func19, Try.ntmps19
    go_wp2
    go_ret
    exact ⟨ret_bool (by symm; rw [beq_eq_false_iff_ne]; rintro rfl; exact HL.out rfl), Below.refl _ _⟩
theorem info_Pair : (Try.prog.info? 51).map (fun i => (i.zero, i.size, i.bytes)) = some (some (.agg #[.int .i64 0, .int .i64 0]), 2, 16) := by kernel_rfl
theorem ty_Pair : SlTy Try.prog 25 51 2 16 := SlTy.of Try.underlying25 info_Pair rfl (by decide)
theorem mk_Pair (n : Nat) (h : n * 16 ≤ 281474976710656) : ∀ W : World, (Instr.makeSlice 25 (.int .i64 (n : Int)) (.int .i64 (n : Int))).run Try.prog W = .ok (.slice (some ⟨W.heap.size, 0, none⟩) n n) (W.alloc (.cells (madeCells #[.int .i64 0, .int .i64 0] (n * 2)) 51)) :=
  ty_Pair.make #[.int .i64 0, .int .i64 0] (fun i z hi hz => by have := info_Pair; rw [hi] at this; simp at this; rw [this.1] at hz; cases hz; rfl) n h (by omega)
set_option maxHeartbeats 1600000 in
theorem toPairS (w : World) (v : Value) (xs : List (Int × Int)) (h : SlP w v xs) :
    Calls Try.prog 17 #[v] w fun e w' => ∃ r, e = .returned r ∧ OwP 51 w' w.heap.size r xs ∧ Below w.heap.size w w' := by
  obtain ⟨A, c, rfl, hc, hl, hr⟩ := h
  have hmk := mk_Pair xs.length (by omega)
  go_enter Try.func17, Try.ntmps17
  go_wp2
  go_loopg [4] (xs.length + 1) (fun n v4 wr => ∃ k : Nat, n + k = xs.length + 1 ∧ k ≤ xs.length ∧ v4 = .int .i64 k ∧ Hid (wr.ownsRow w.heap.size 51 2 (.slice (some ⟨w.heap.size, 0, none⟩) xs.length xs.length) xs.length (cP (xs.take k ++ List.replicate (xs.length - k) (0, 0)))) ∧ Hid (Below w.heap.size w wr))
  case atStart =>
    refine ⟨0, by omega, by omega, rfl, ?_, bl⟩
    have := World.ownsRow_lit (w := w) (base := w.heap.size) (e := 51) (size := 2) (madeCells #[.int .i64 0, .int .i64 0] (xs.length * 2)) xs.length (Nat.le_refl _) (by unfold maxLen; omega) (size_madeCells _ _)
    rw [cP_zeros] at this
    simpa [Hid, OwP] using this
  case round =>
    obtain ⟨k, hn, hk, rfl, hown, hB⟩ := hrel
    have hBw := hB.out
    clear hB
    by_cases hlt : k < xs.length
    · obtain ⟨ad, rfl, c0, c1⟩ := (hr.below KP.mono hBw).atP hlt
      have g0 : (0 : Int) ≤ (k : Int) := by omega
      have g1 : (k : Int) < (xs.length : Int) := by omega
      go_wp2_with (go_at_call 50; refine (toPair _ xs[k]).mono ?_; rintro e w4 ⟨rfl, hb4⟩; have hB4 : Below w.heap.size w w4 := bStep hBw hb4; have ho4 := owns_below hown.out hb4; obtain ⟨z0, e0, f0⟩ := own_at ho4 (k * 2) (by omega); obtain ⟨z1, e1, f1⟩ := own_at ho4 (k * 2 + 1) (by omega))
      have ho5 := ((ho4.stored (k * 2) (.int .i64 xs[k].1)).1.stored (k * 2 + 1) (.int .i64 xs[k].2)).1
      rw [cP_set _ k _ (by simp; omega), cont_set xs k (0, 0) hlt] at ho5
      go_roundg (gk - 1)
      case measure => omega
      case rel => exact ⟨k + 1, by omega, by omega, by go_num, ho5, Below.setCell (Below.setCell hB4 (Nat.le_refl _) _) (Nat.le_refl _) _⟩
    · obtain rfl : k = xs.length := by omega
      go_wp2
      go_ret
      exact ⟨_, rfl, by have := hown.out; simpa [OwP] using this, hBw⟩
end Go.Proofs.Ytmeaghkpojiniaa.Cx
