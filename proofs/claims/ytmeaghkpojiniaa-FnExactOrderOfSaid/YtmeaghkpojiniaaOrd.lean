/- Contracts: the greatest common divisor; the order of a permutation, both ways. -/
import Derived.Test.YtmeaghkpojiniaaOrdL
import Derived.Test.YtmeaghkpojiniaaCycI
import Derived.Test.YtmeaghkpojiniaaRegion
namespace Go.Proofs.Ytmeaghkpojiniaa.Cx
open Go.RowKit Base
set_option linter.unusedVariables false
set_option linter.unusedSimpArgs false
set_option maxRecDepth 100000
set_option maxHeartbeats 6400000
theorem gcdN (w : World) (a b : Nat) (ha : a ≤ 1152921504606846976) (hb : b ≤ 1152921504606846976) : Calls Try.prog 59 #[.int .i64 (a : Int), .int .i64 (b : Int)] w fun e w' => e = .returned (.int .i64 ((Nat.gcd a b : Nat) : Int)) ∧ Below w.heap.size w w' := by
  go_enter Try.func59, Try.ntmps59
  go_wp2
  go_loopg [0, 1] (b + 1) (fun n v0 v1 wr => ∃ x y : Nat, n = y + 1 ∧ v0 = .int .i64 (x : Int) ∧ v1 = .int .i64 (y : Int) ∧ x ≤ 1152921504606846976 ∧ y ≤ 1152921504606846976 ∧ Hid (Nat.gcd x y = Nat.gcd a b) ∧ Hid (Below w.heap.size w wr))
  case atStart => exact ⟨a, b, rfl, rfl, rfl, ha, hb, rfl, Below.refl _ _⟩
  case round =>
    obtain ⟨x, y, hn, rfl, rfl, hx, hy, hg, hB⟩ := hrel
    have hBw := hB.out
    clear hB
    by_cases h0 : y = 0
    · have b0 : ((y : Int) != 0) = false := by subst h0; rfl
      have HG := Lib.hid (show Nat.gcd a b = x by rw [← hg.out, h0, Nat.gcd_zero_right])
      clear h0
      go_wp2
      go_ret
      exact ⟨ret_int (by rw [HG.out]), bl⟩
    · have b0 : ((y : Int) != 0) = true := by rw [bne_iff_ne]; omega
      have hne : (y : Int) ≠ 0 := by omega
      have hyp : (0 : Int) < (y : Int) := by omega
      have hmod := Nat.mod_lt x (show 0 < y by omega)
      have HMOD := Lib.hid hmod
      have HG := Lib.hid (show Nat.gcd y (x % y) = Nat.gcd a b by rw [← hg.out, Nat.gcd_comm x y, Nat.gcd_rec y x, Nat.gcd_comm])
      clear hmod
      go_wp2
      refine wp_region_plan ([], [0, 1, 2, 3, 4, 5], []) (by kernel_rfl) (by kernel_rfl) ?_
      simp only [wpSegs, opsAt, consAt_some, List.getElem?_cons_succ, List.getElem?_cons_zero]
      repeat (go_big_quiet_step (fail))
      refine wpQuiet_nil (wpList_nil (nrm_mk ?_))
      go_wp2
      go_roundg (x % y + 1)
      case measure => have := HMOD.out; omega
      case rel => exact ⟨y, x % y, rfl, rfl, by rw [Int.natCast_emod], hy, by have := HMOD.out; omega, HG.out, bl⟩
theorem specOrder (w : World) (v : Value) (xs : List (Int × Int)) (h : SlP w v xs) : Calls Try.prog 28 #[v] w fun e w' => e = .returned (.int .i64 (orderO xs)) ∧ Below w.heap.size w w' := by
  cases hP : permS xs
  · go_enter Try.func28, Try.ntmps28
    go_wp2_with fail
    refine (specIsPerm _ v xs (h.below KP.mono bl)).mono ?_
    rintro e w1 ⟨rfl, hb1⟩
    obtain ⟨hc1, hf1⟩ := bcell hb1
    have hB1 : Below w.heap.size w w1 := bStep bl hb1
    have hp1 := Stp.mk hb1
    have hs1 := hb1.size
    try simp only [World.size_alloc, World.size_setCell, World.size_drew, World.heap_drewN] at hs1
    try simp only [World.size_drew, World.heap_drewN, World.cell?_drew, World.frozen?_drew, World.cell?_drewN, World.frozen?_drewN] at hc1 hf1
    go_wp2
    go_ret
    exact ⟨ret_int (by simp [orderO, hP]), bl⟩
  · have hcl : ∀ l ∈ cycL xs, 0 < l.length ∧ l.length ≤ 40 := fun l hl => cyc_mem_len hP hl
    have hsm := lcmF_small (fun l hl => (hcl l hl).1) (cyc_sum hP)
    have HO := Lib.hid (show orderO xs = (lcmF (cycL xs) : Int) by simp [orderO, hP])
    have HC := Lib.hid (show cyclesO xs = cycL xs by simp [cyclesO, hP])
    have hcn : (cycL xs).length ≤ 40 := Nat.le_trans (cycS_len xs xs []) (permS_len hP)
    generalize hX : cycL xs = X at hcl hsm hcn
    have HX := Lib.hid hX
    have HCL := Lib.hid hcl
    have HSM := Lib.hid hsm
    clear hX hcl hsm
    go_enter Try.func28, Try.ntmps28
    go_wp2_with fail
    refine (specIsPerm _ v xs (h.below KP.mono bl)).mono ?_
    rintro e w1 ⟨rfl, hb1⟩
    obtain ⟨hc1, hf1⟩ := bcell hb1
    have hB1 : Below w.heap.size w w1 := bStep bl hb1
    have hp1 := Stp.mk hb1
    have hs1 := hb1.size
    try simp only [World.size_alloc, World.size_setCell, World.size_drew, World.heap_drewN] at hs1
    try simp only [World.size_drew, World.heap_drewN, World.cell?_drew, World.frozen?_drew, World.cell?_drewN, World.frozen?_drewN] at hc1 hf1
    go_wp2_with fail
    refine (specCycles _ v xs (h.below KP.mono bl)).mono ?_
    rintro e w2 ⟨r2, F, rfl, ho2, hn2, hF2, hb2⟩
    obtain ⟨hc2, hf2⟩ := bcell hb2
    have hB2 : Below w.heap.size w w2 := bStep bl hb2
    have hp2 := Stp.mk hb2
    have hs2 := hb2.size
    try simp only [World.size_alloc, World.size_setCell, World.size_drew, World.heap_drewN] at hs2
    try simp only [World.size_drew, World.heap_drewN, World.cell?_drew, World.frozen?_drew, World.cell?_drewN, World.frozen?_drewN] at hc2 hf2
    rw [HC.out, HX.out] at ho2
    obtain ⟨A2, c2, rfl⟩ := ho2.slice
    have HO2 := Lib.hid ho2
    clear ho2 hn2 hF2 hP
    go_wp2
    go_loopg [3, 5, 6] (X.length + 1) (fun n v3 v5 v6 wr => ∃ k : Nat, ∃ N : Nat, n + k = X.length + 1 ∧ k ≤ X.length ∧ v5 = .int .i64 k ∧ v3 = .int .i64 (N : Int) ∧ 0 < N ∧ N ≤ 1099511627776 ∧ Hid (N = lcmF (X.take k)) ∧ Hid (Below w2.heap.size w2 wr))
    case atStart => exact ⟨0, 1, by omega, by omega, rfl, rfl, by omega, by omega, rfl, Below.refl _ _⟩
    case round =>
      obtain ⟨k, N, hn0, hk, rfl, rfl, hN0, hN1, hN, hB⟩ := hrel
      obtain ⟨gi, hgi⟩ : ∃ g, g = gk := ⟨gk, rfl⟩
      have hpr := Stp.mk hB.out
      by_cases hlt : k < X.length
      · obtain ⟨ad, A3, c3, rfl, k0, _, _, _⟩ := (HO2.out.keep hB.out).at_ (fun l hl => by have := HCL.out l hl; omega) hlt
        have hl0 := (HCL.out X[k] (List.getElem_mem hlt)).1
        have hl1 := (HCL.out X[k] (List.getElem_mem hlt)).2
        have g0 : (0 : Int) ≤ (k : Int) := by omega
        have g1 : (k : Int) < (X.length : Int) := by omega
        have SN := Lib.hid (lcmF_snoc X k hlt)
        generalize hL : X[k].length = L at *
        go_wp2
        go_loopg [6] L (fun n v6 wq => ∃ j : Nat, ∃ M : Nat, n + j = L + 1 ∧ 0 < j ∧ j ≤ L ∧ v6 = .int .i64 (M : Int) ∧ M ≤ 70368744177664 ∧ Hid (M = N * j) ∧ Hid (∀ i, 0 < i → i < j → ¬ L ∣ N * i) ∧ Hid (Below w2.heap.size w2 wq))
        case atStart => exact ⟨1, N, by omega, by omega, by omega, rfl, by omega, by simp [Hid], fun i h1 h2 => by omega, hB.out⟩
        case round =>
          obtain ⟨j, M, hn3, hj0, hj1, rfl, hM1, hM, hf, hBq⟩ := hrel
          have e0 := ((HO2.out.keep hBq.out).at_ (fun l hl => by have := HCL.out l hl; omega) hlt)
          obtain ⟨ad', A4, c4, ea, k4, _, _, _⟩ := e0
          obtain rfl := Option.some.inj ea
          have hL0 : (L : Int) ≠ 0 := by omega
          have hLp : (0 : Int) < (L : Int) := by omega
          rw [hL] at k4
          by_cases hd : L ∣ M
          · have hz : M % L = 0 := Nat.mod_eq_zero_of_dvd hd
            have b0 : ((M : Int) % (L : Int) != 0) = false := by
              rw [← Int.natCast_emod, hz]; rfl
            have hlc : M = lcmF (X.take (k + 1)) := by
              rw [SN.out, ← hN.out, ← lcm_first hN0 hl0 hj0 (hM.out ▸ hd) hf.out, hM.out]
            have HLC := Lib.hid hlc
            have hs := HSM.out (k + 1)
            rw [← hlc] at hs
            clear hd hz hlc
            go_wp2
            go_roundg (gi - 1)
            case measure => omega
            case rel => exact ⟨k + 1, M, by omega, by omega, by go_num, rfl, hs.1, hs.2, HLC.out, hBq.out⟩
          · have hz : M % L ≠ 0 := fun h => hd (Nat.dvd_of_mod_eq_zero h)
            have b0 : ((M : Int) % (L : Int) != 0) = true := by
              rw [bne_iff_ne, ← Int.natCast_emod]; omega
            have hroom : j < L := lcm_room hN0 hl0 (fun i h1 h2 h3 => by
              rcases Nat.lt_or_ge i j with h | h
              · exact hf.out i h1 h h3
              · have : i = j := by omega
                subst this
                exact hd (hM.out ▸ h3))
            have hstep : M + N = N * (j + 1) := by rw [hM.out, Nat.mul_add, Nat.mul_one]
            have hbd : M + N ≤ 70368744177664 := by
              rw [hstep]
              exact Nat.le_trans (Nat.mul_le_mul hN1 (show j + 1 ≤ 40 by omega)) (by decide)
            have HST := Lib.hid hstep
            have HNF : Hid (∀ i, 0 < i → i < j + 1 → ¬ L ∣ N * i) := fun i h1 h2 h3 => by
              rcases Nat.lt_or_ge i j with h | h
              · exact hf.out i h1 h h3
              · have : i = j := by omega
                subst this
                exact hd (hM.out ▸ h3)
            clear hd hz hstep
            go_wp2
            go_roundg (gk - 1)
            case measure => omega
            case rel => exact ⟨j + 1, M + N, by omega, by omega, by omega, by go_num, hbd, HST.out, HNF.out, hBq.out⟩
      · obtain rfl : k = X.length := by omega
        rw [List.take_length] at hN
        go_wp2
        go_ret
        exact ⟨ret_int (by rw [HO.out, HX.out, hN.out]), bl⟩
end Go.Proofs.Ytmeaghkpojiniaa.Cx
