/- Contracts: comparison of numbers and of elements of contexts, the model's and the program's. -/
import Derived.Test.YtlkhiddimplnjaaAtom
import Derived.Test.YtlkhiddimplnjaaRegion
namespace Go.Proofs.Ytlkhiddimplnjaa.Base
def allTo (s : Nat → Bool) : Nat → Bool | 0 => true | n + 1 => allTo s n && s n
theorem allTo_no (s : Nat → Bool) : ∀ (n k : Nat), k < n → s k = false → allTo s n = false
  | 0, k, h, _ => by omega
  | n + 1, k, h, hs => by
    rcases Nat.lt_or_ge k n with h1 | h1
    · simp [allTo, allTo_no s n k h1 hs]
    · obtain rfl : k = n := by omega
      simp [allTo, hs]
theorem allTo_congr {s t : Nat → Bool} : ∀ (n : Nat), (∀ k, k < n → s k = t k) → allTo s n = allTo t n
  | 0, _ => rfl
  | n + 1, h => by rw [allTo, allTo, allTo_congr n (fun k hk => h k (by omega)), h n (by omega)]
theorem allTo_yes (s : Nat → Bool) : ∀ (n : Nat), allTo s n = true ↔ ∀ k, k < n → s k = true
  | 0 => by simp [allTo]
  | n + 1 => by
    simp only [allTo, Bool.and_eq_true, allTo_yes s n]
    exact ⟨fun h k hk => (Nat.lt_or_ge k n).elim (fun h1 => h.1 k h1) (fun h1 => (show k = n by omega) ▸ h.2), fun h => ⟨fun k hk => h k (by omega), h n (by omega)⟩⟩
def cmpI (a b : Int) : Int := if a < b then -1 else if b < a then 1 else 0
def orI (xs : List Int) : Int := (xs.find? (· != 0)).getD 0
theorem orI_zero (x : Int) (r : List Int) (h : x = 0) : orI (x :: r) = orI r := by subst h; simp [orI]
theorem orI_nz (x : Int) (r : List Int) (h : x ≠ 0) : orI (x :: r) = x := by simp [orI, h]
def lessF (x y : Int × Int) : Bool := decide (x.2 < y.2) || decide (x.2 = y.2) && decide (x.1 < y.1)
def cmpF (x y : Int × Int) : Int := orI [cmpI x.2 y.2, cmpI x.1 y.1]
theorem cmpF_ge (x y : Int × Int) : decide (0 ≤ cmpF x y) = !lessF x y := by
  obtain ⟨a, b⟩ := x
  obtain ⟨c, d⟩ := y
  unfold cmpF orI lessF cmpI
  rcases Int.lt_trichotomy b d with h | h | h
  · simp [h]
  · subst h
    rcases Int.lt_trichotomy a c with h | h | h
    · simp [h]
    · subst h; simp
    · have h2 : ¬ a < c := by omega
      simp [h, h2]
  · have h2 : ¬ b < d := by omega
    have h3 : ¬ b = d := by omega
    simp [h, h2, h3]
end Go.Proofs.Ytlkhiddimplnjaa.Base
namespace Go.Proofs.Ytlkhiddimplnjaa.Cx
open Go.RowKit Base
set_option linter.unusedVariables false
set_option linter.unusedSimpArgs false
set_option maxHeartbeats 1600000
theorem l3Less (w : World) (x y : Int × Int) : Calls Try.prog 51 #[.agg #[.int .i64 x.1, .int .i64 x.2], .agg #[.int .i64 y.1, .int .i64 y.2]] w fun e w' => e = .returned (.bool (lessF x y)) ∧ Below w.heap.size w w' := by
  obtain ⟨a, b⟩ := x
  obtain ⟨c, d⟩ := y
  by_cases h1 : b < d
  all_goals by_cases h2 : b = d
  all_goals by_cases h3 : a < c
  all_goals first
  | (exfalso; omega)
  | skip
  all_goals
    go_enter Try.func51, Try.ntmps51
    go_wp2
    go_ret
    exact ⟨ret_bool (by unfold lessF; simp [h1, h2, h3]), bl⟩
theorem isNaN (w : World) (x : Int) : Calls Try.prog 59 #[.int .i64 x] w fun e w' => e = .returned (.bool false) ∧ Below w.heap.size w w' := by
  have b := bne_self_eq_false x
  go_enter Try.func59, Try.ntmps59
  go_wp2
  go_ret
  exact ⟨rfl, bl⟩
theorem compareInt (w : World) (a b : Int) : Calls Try.prog 53 #[.int .i64 a, .int .i64 b] w fun e w' => e = .returned (.int .i64 (cmpI a b)) ∧ Below w.heap.size w w' := by
  by_cases h1 : a < b
  all_goals by_cases h2 : b < a
  all_goals first
  | (exfalso; omega)
  | skip
  all_goals
    go_enter Try.func53, Try.ntmps53
    go_wp2_with fail
    refine (isNaN _ a).mono ?_
    rintro e w1 ⟨rfl, hb1⟩
    obtain ⟨hc1, hf1⟩ := bcell hb1
    have hB1 : Below w.heap.size w w1 := bStep bl hb1
    have hp1 := Stp.mk hb1
    have hs1 := hb1.size
    try simp only [World.size_alloc, World.size_setCell, World.size_drew, World.heap_drewN] at hs1
    try simp only [World.size_drew, World.heap_drewN, World.cell?_drew, World.frozen?_drew, World.cell?_drewN, World.frozen?_drewN] at hc1 hf1
    go_wp2_with fail
    refine (isNaN _ b).mono ?_
    rintro e w2 ⟨rfl, hb2⟩
    obtain ⟨hc2, hf2⟩ := bcell hb2
    have hB2 : Below w.heap.size w w2 := bStep bl hb2
    have hp2 := Stp.mk hb2
    have hs2 := hb2.size
    try simp only [World.size_alloc, World.size_setCell, World.size_drew, World.heap_drewN] at hs2
    try simp only [World.size_drew, World.heap_drewN, World.cell?_drew, World.frozen?_drew, World.cell?_drewN, World.frozen?_drewN] at hc2 hf2
    go_wp2
    go_ret
    exact ⟨ret_int (by unfold cmpI; (repeat split) <;> first | rfl | omega), bl⟩
theorem orInt (w : World) (v : Value) (xs : List Int) (h : SlI w v xs) : Calls Try.prog 52 #[v] w fun e w' => e = .returned (.int .i64 (orI xs)) ∧ Below w.heap.size w w' := by
  obtain ⟨A, c, rfl, hc, hl, hr⟩ := h
  go_enter Try.func52, Try.ntmps52
  go_wp2
  go_loopg [5, 8] (xs.length + 1) (fun n v5 v8 wr => ∃ k : Nat, n + k = xs.length + 1 ∧ k ≤ xs.length ∧ v8 = .int .i64 k ∧ Hid (orI xs = orI (xs.drop k)) ∧ Hid (Below w.heap.size w wr))
  case atStart => exact ⟨0, by omega, by omega, rfl, rfl, Below.refl _ _⟩
  case round =>
    obtain ⟨k, hn, hk, rfl, hq, hB⟩ := hrel
    have hBw := hB.out
    clear hB
    by_cases hlt : k < xs.length
    · obtain ⟨ad, rfl, c0⟩ := (hr.below KI.mono hBw).atI hlt
      have g0 : (0 : Int) ≤ (k : Int) := by omega
      have g1 : (k : Int) < (xs.length : Int) := by omega
      have hd := List.drop_eq_getElem_cons hlt
      have HD := Lib.hid hd
      clear hd
      by_cases he : xs[k] = 0
      · have b3 : (xs[k] != 0) = false := by simp [he]
        have HE := Lib.hid he
        clear he
        go_wp2
        go_roundg (gk - 1)
        case measure => omega
        case rel => exact ⟨k + 1, by omega, by omega, by go_num, by unfold Hid; rw [hq.out, HD.out, orI_zero _ _ HE.out], hBw⟩
      · have b3 : (xs[k] != 0) = true := by simp [he]
        have HE := Lib.hid he
        clear he
        go_wp2
        go_ret
        exact ⟨ret_int (by rw [hq.out, HD.out, orI_nz _ _ HE.out]), hBw⟩
    · obtain rfl : k = xs.length := by omega
      go_wp2
      go_ret
      exact ⟨ret_int (by rw [hq.out]; simp [orI]), hBw⟩
theorem compareFresh (w : World) (x y : Int × Int) : Calls Try.prog 38 #[.agg #[.int .i64 x.1, .int .i64 x.2], .agg #[.int .i64 y.1, .int .i64 y.2]] w fun e w' => e = .returned (.int .i64 (cmpF x y)) ∧ Below w.heap.size w w' := by
  obtain ⟨a, b⟩ := x
  obtain ⟨c, d⟩ := y
  go_enter Try.func38, Try.ntmps38
  go_wp2
  refine wp_region_plan ([([0, 1, 2, 3, 5, 6, 7, 8], 4), ([], 9), ([], 10), ([], 11)], [12], []) (by kernel_rfl) (by kernel_rfl) ?_
  simp only [wpSegs, opsAt, consAt_some, List.getElem?_cons_succ, List.getElem?_cons_zero]
  repeat (go_big_quiet_step (fail))
  refine wpQuiet_nil ?_
  go_wp2_with fail
  refine (compareInt _ b d).mono ?_
  rintro e w1 ⟨rfl, hb1⟩
  go_wp2_with fail
  refine nrm_mk ⟨hb1, ?_⟩
  obtain ⟨hc1, hf1⟩ := bcell hb1
  have hB1 : Below w.heap.size w w1 := bStep bl hb1
  have hp1 := Stp.mk hb1
  have hs1 := hb1.size
  try simp only [World.size_alloc, World.size_setCell, World.size_drew, World.heap_drewN] at hs1
  try simp only [World.size_drew, World.heap_drewN, World.cell?_drew, World.frozen?_drew, World.cell?_drewN, World.frozen?_drewN] at hc1 hf1
  have hz1_0 : w.heap.size < w1.heap.size := by omega
  have hz1_1 : w.heap.size + 1 < w1.heap.size := by omega
  repeat (go_big_quiet_step (fail))
  refine wpQuiet_nil ?_
  go_wp2_with fail
  refine (compareInt _ a c).mono ?_
  rintro e w2 ⟨rfl, hb2⟩
  go_wp2_with fail
  refine nrm_mk ⟨hb2, ?_⟩
  obtain ⟨hc2, hf2⟩ := bcell hb2
  have hB2 : Below w.heap.size w w2 := bStep bl hb2
  have hp2 := Stp.mk hb2
  have hs2 := hb2.size
  try simp only [World.size_alloc, World.size_setCell, World.size_drew, World.heap_drewN] at hs2
  try simp only [World.size_drew, World.heap_drewN, World.cell?_drew, World.frozen?_drew, World.cell?_drewN, World.frozen?_drewN] at hc2 hf2
  have hz2_0 : w.heap.size < w2.heap.size := by omega
  have hz2_1 : w.heap.size + 1 < w2.heap.size := by omega
  repeat (go_big_quiet_step (fail))
  refine wpQuiet_nil ?_
  go_wp2_with fail
  refine nrm_mk ⟨bl, ?_⟩
  repeat (go_big_quiet_step (fail))
  refine wpQuiet_nil ?_
  have ho := World.ownsRow_lit (w := w2) (base := 0) (e := 3) (size := 1) #[.int .i64 (cmpI b d), .int .i64 (cmpI a c)] 2 (Nat.zero_le _) (by decide) rfl
  have hs := OwI.sl (xs := [cmpI b d, cmpI a c]) ho (by simp)
  go_wp2_with fail
  refine (orInt _ _ _ hs).mono ?_
  rintro e w3 ⟨rfl, hb3⟩
  go_wp2_with fail
  refine nrm_mk ⟨hb3, ?_⟩
  obtain ⟨hc3, hf3⟩ := bcell hb3
  have hB3 : Below w.heap.size w w3 := bStep bl hb3
  have hp3 := Stp.mk hb3
  have hs3 := hb3.size
  try simp only [World.size_alloc, World.size_setCell, World.size_drew, World.heap_drewN] at hs3
  try simp only [World.size_drew, World.heap_drewN, World.cell?_drew, World.frozen?_drew, World.cell?_drewN, World.frozen?_drewN] at hc3 hf3
  repeat (go_big_quiet_step (fail))
  refine wpQuiet_nil ?_
  refine wpList_nil (nrm_mk ?_)
  go_wp2
  go_ret
  exact ⟨rfl, bl⟩
end Go.Proofs.Ytlkhiddimplnjaa.Cx
