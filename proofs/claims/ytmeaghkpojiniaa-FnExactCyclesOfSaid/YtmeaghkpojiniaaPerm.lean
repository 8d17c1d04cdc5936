/- Contract: the model's test whether a list of pairs is a permutation. -/
import Derived.Test.YtmeaghkpojiniaaImg
import Derived.Test.YtmeaghkpojiniaaRegion
import Derived.Deep.LoopGhost
namespace Go.Proofs.Ytmeaghkpojiniaa.Base
theorem stepS_zero (p : List (Int × Int)) (h : 0 < p.length) : stepS p 0 = (atom p[0].1 && !(p[0].1 == p[0].2)) := by simp [stepS, gp_lt h]
theorem stepS_succ (p : List (Int × Int)) (q : Nat) (h : q + 1 < p.length) : stepS p (q + 1) = (atom p[q + 1].1 && !(p[q + 1].1 == p[q + 1].2) && !decide (p[q + 1].1 ≤ p[q].1)) := by
  have h2 : q < p.length := by omega
  simp [stepS, gp_lt h, gp_lt h2]
def cntUp (p : List (Int × Int)) (a : Int) (k : Nat) : Nat := ((tgtL p).take k).count a
theorem cntUp_le (p : List (Int × Int)) (a : Int) (k : Nat) : cntUp p a k ≤ k := Nat.le_trans List.count_le_length (by simp [List.length_take]; omega)
theorem cntUp_succ (p : List (Int × Int)) (a : Int) (k : Nat) (h : k < p.length) : cntUp p a (k + 1) = cntUp p a k + (if p[k].2 == a then 1 else 0) := by
  have h' : k < (tgtL p).length := by rw [tgt_len]; exact h
  unfold cntUp
  rw [take_snoc _ k h', List.count_append, List.count_cons, List.count_nil]
  simp [tgtL]
theorem cntUp_all (p : List (Int × Int)) (i : Nat) (h : i < p.length) : cntS p i = (cntUp p p[i].1 p.length == 1) := by
  unfold cntS cntUp
  rw [gp_lt h, ← tgt_len p, List.take_length]
end Go.Proofs.Ytmeaghkpojiniaa.Base
namespace Go.Proofs.Ytmeaghkpojiniaa.Cx
open Go.RowKit Base
set_option linter.unusedVariables false
set_option linter.unusedSimpArgs false
set_option maxHeartbeats 3200000
theorem specIsPerm (w : World) (v : Value) (xs : List (Int × Int)) (h : SlP w v xs) : Calls Try.prog 16 #[v] w fun e w' => e = .returned (.bool (permS xs)) ∧ Below w.heap.size w w' := by
  obtain ⟨A, c, rfl, hc, hl, hr⟩ := h
  by_cases hlen : xs.length ≤ 40
  · have l0 : decide ((40 : Int) < (xs.length : Int)) = false := by simp; omega
    have hfin : permS xs = (allTo (stepS xs) xs.length && allTo (cntS xs) xs.length) := by simp [permS, hlen]
    have HF := Lib.hid hfin
    clear hfin
    go_enter Try.func16, Try.ntmps16
    go_wp2
    go_loopg [3] (xs.length + 1) (fun n v3 wr => ∃ k : Nat, n + k = xs.length + 1 ∧ k ≤ xs.length ∧ v3 = .int .i64 k ∧ Hid (allTo (stepS xs) k = true) ∧ Hid (Below w.heap.size w wr))
    case atStart => exact ⟨0, by omega, by omega, rfl, rfl, Below.refl _ _⟩
    case round =>
      obtain ⟨k, hn, hk, rfl, hq, hB⟩ := hrel
      have hBw := hB.out
      clear hB
      by_cases hlt : k < xs.length
      · obtain ⟨ad, rfl, c0, c1⟩ := (hr.below KP.mono hBw).atP hlt
        have g0 : (0 : Int) ≤ (k : Int) := by omega
        have g1 : (k : Int) < (xs.length : Int) := by omega
        have fin : stepS xs k = false → (allTo (stepS xs) xs.length && allTo (cntS xs) xs.length) = false := fun h1 => by rw [allTo_no _ _ k hlt h1]; rfl
        have FIN := Lib.hid fin
        clear fin
        by_cases hz : k = 0
        · have st : stepS xs k = (atom xs[k].1 && !(xs[k].1 == xs[k].2)) := by subst hz; exact stepS_zero xs hlt
          have z0 : decide ((0 : Int) < (k : Int)) = false := by simp; omega
          have z0n : decide (0 < k) = false := by simp; omega
          clear hz
          cases hA : atom xs[k].1
          all_goals cases hE : (xs[k].1 == xs[k].2)
          all_goals
            rw [hA, hE] at st
            have HN := Lib.hid st
            clear st
            have cls_c0 := clsCell c0
            have cls_c1 := clsCell c1
            go_wp2
            refine wp_region_plan ([([0, 1, 2, 3, 4], 5)], [6, 7, 8, 9, 10, 11, 12, 13, 14, 15, 16, 17, 18, 19, 20, 21, 22, 23, 24, 25, 26, 27, 28, 29, 30, 31, 32, 33, 34, 35, 36, 37], []) (by kernel_rfl) (by kernel_rfl) ?_
            simp only [wpSegs, opsAt, consAt_some, List.getElem?_cons_succ, List.getElem?_cons_zero]
            repeat (go_big_quiet_step (fail))
            refine wpQuiet_nil ?_
            go_wp2_with fail
            refine (l1Atom _ xs[k].1).mono ?_
            rintro e w1 ⟨rfl, hb1⟩
            go_wp2_with fail
            refine nrm_mk ⟨hb1, ?_⟩
            obtain ⟨hc1, hf1⟩ := bcell hb1
            have hB1 : Below w.heap.size w w1 := bStep bl hb1
            have hp1 := Stp.mk hb1
            have hs1 := hb1.size
            try simp only [World.size_alloc, World.size_setCell, World.size_drew, World.heap_drewN] at hs1
            try simp only [World.size_drew, World.heap_drewN, World.cell?_drew, World.frozen?_drew, World.cell?_drewN, World.frozen?_drewN] at hc1 hf1
            have c0_1 := clsCell (bCell (w := wr) (bStep bl hb1) c0)
            have c1_1 := clsCell (bCell (w := wr) (bStep bl hb1) c1)
            repeat (go_big_quiet_step (fail))
            refine wpQuiet_nil ?_
            refine wpList_nil (nrm_mk ?_)
            go_wp2
            first
            | (go_ret
               exact ⟨ret_bool (by rw [HF.out]; exact (FIN.out (HN.out.trans rfl)).symm), bl⟩)
            | (go_roundg (gk - 1)
               case measure => omega
               case rel => exact ⟨k + 1, by omega, by omega, by go_num, by unfold Hid; rw [allTo, hq.out, HN.out]; rfl, bl⟩)
        · obtain ⟨q, rfl⟩ : ∃ q, k = q + 1 := ⟨k - 1, by omega⟩
          have hq1 : q < xs.length := by omega
          obtain ⟨ad', ea, d0, d1⟩ := (hr.below KP.mono hBw).atP hq1
          obtain rfl := Option.some.inj ea
          have z0 : (0 : Int) < (q : Int) + 1 := by omega
          have z1 : (q : Int) + 1 - 1 = (q : Int) := by omega
          have z2 : (0 : Int) ≤ (q : Int) := by omega
          have z3 : (q : Int) < (xs.length : Int) := by omega
          have st := stepS_succ xs q hlt
          cases hA : atom xs[q + 1].1
          all_goals cases hE : (xs[q + 1].1 == xs[q + 1].2)
          all_goals cases hL : decide (xs[q + 1].1 ≤ xs[q].1)
          all_goals
            have hst : stepS xs (q + 1) = _ := st
            rw [hA, hE, hL] at hst
            have HN := Lib.hid hst
            clear st hst
            have cls_c0 := clsCell c0
            have cls_c1 := clsCell c1
            have cls_d0 := clsCell d0
            have cls_d1 := clsCell d1
            go_wp2
            refine wp_region_plan ([([0, 1, 2, 3, 4], 5)], [6, 7, 8, 9, 10, 11, 12, 13, 14, 15, 16, 17, 18, 19, 20, 21, 22, 23, 24, 25, 26, 27, 28, 29, 30, 31, 32, 33, 34, 35, 36, 37], []) (by kernel_rfl) (by kernel_rfl) ?_
            simp only [wpSegs, opsAt, consAt_some, List.getElem?_cons_succ, List.getElem?_cons_zero]
            repeat (go_big_quiet_step (fail))
            refine wpQuiet_nil ?_
            go_wp2_with fail
            refine (l1Atom _ xs[q + 1].1).mono ?_
            rintro e w1 ⟨rfl, hb1⟩
            go_wp2_with fail
            refine nrm_mk ⟨hb1, ?_⟩
            obtain ⟨hc1, hf1⟩ := bcell hb1
            have hB1 : Below w.heap.size w w1 := bStep bl hb1
            have hp1 := Stp.mk hb1
            have hs1 := hb1.size
            try simp only [World.size_alloc, World.size_setCell, World.size_drew, World.heap_drewN] at hs1
            try simp only [World.size_drew, World.heap_drewN, World.cell?_drew, World.frozen?_drew, World.cell?_drewN, World.frozen?_drewN] at hc1 hf1
            have c0_1 := clsCell (bCell (w := wr) (bStep bl hb1) c0)
            have c1_1 := clsCell (bCell (w := wr) (bStep bl hb1) c1)
            have d0_1 := clsCell (bCell (w := wr) (bStep bl hb1) d0)
            have d1_1 := clsCell (bCell (w := wr) (bStep bl hb1) d1)
            repeat (go_big_quiet_step (fail))
            refine wpQuiet_nil ?_
            refine wpList_nil (nrm_mk ?_)
            go_wp2
            first
            | (go_ret
               exact ⟨ret_bool (by rw [HF.out]; exact (FIN.out (HN.out.trans rfl)).symm), bl⟩)
            | (go_roundg (gk - 1)
               case measure => omega
               case rel => exact ⟨q + 1 + 1, by omega, by omega, by go_num, by unfold Hid; rw [allTo, hq.out, HN.out]; rfl, bl⟩)
      · obtain rfl : k = xs.length := by omega
        go_wp2
        go_loopg [5, 6, 4] (xs.length + 1) (fun n v5 v6 v4 wq => ∃ i : Nat, n + i = xs.length + 1 ∧ i ≤ xs.length ∧ v4 = .int .i64 i ∧ Hid (allTo (cntS xs) i = true) ∧ Hid (Below w.heap.size w wq))
        case atStart => exact ⟨0, by omega, by omega, rfl, rfl, hBw⟩
        case round =>
          obtain ⟨i, hn1, hi, rfl, hq1, hB1⟩ := hrel
          obtain ⟨gi, hgi⟩ : ∃ g, g = gk := ⟨gk, rfl⟩
          have hBq := hB1.out
          clear hB1
          by_cases hlt1 : i < xs.length
          · obtain ⟨ad, rfl, c0, c1⟩ := (hr.below KP.mono hBw).atP hlt1
            have gi0 : (0 : Int) ≤ (i : Int) := by omega
            have gi1 : (i : Int) < (xs.length : Int) := by omega
            clear c0 c1
            go_wp2
            go_loopg [5, 6] (xs.length + 1) (fun n v5 v6 wz => ∃ k : Nat, n + k = xs.length + 1 ∧ k ≤ xs.length ∧ v6 = .int .i64 k ∧ v5 = .int .i64 (cntUp xs xs[i].1 k) ∧ Hid (Below w.heap.size w wz))
            case atStart => exact ⟨0, by omega, by omega, rfl, rfl, hBq⟩
            case round =>
              obtain ⟨k, hn2, hk2, rfl, rfl, hB2⟩ := hrel
              have hBz := hB2.out
              clear hB2
              by_cases hlt2 : k < xs.length
              · obtain ⟨ad', ea, c0, c1⟩ := (hr.below KP.mono hBz).atP hlt1
                obtain rfl := Option.some.inj ea
                obtain ⟨ad', ea, d0, d1⟩ := (hr.below KP.mono hBz).atP hlt2
                obtain rfl := Option.some.inj ea
                have g0 : (0 : Int) ≤ (k : Int) := by omega
                have g1 : (k : Int) < (xs.length : Int) := by omega
                have cs := cntUp_succ xs xs[i].1 k hlt2
                have cl := cntUp_le xs xs[i].1 k
                cases h5 : (xs[k].2 == xs[i].1)
                all_goals
                  rw [h5] at cs
                  simp only [Bool.false_eq_true, if_false, if_true, Nat.add_zero] at cs
                  have CS := Lib.hid cs
                  clear cs
                  have cls_c0 := clsCell c0
                  have cls_d1 := clsCell d1
                  go_wp2
                  refine wp_region_plan ([], [0, 1, 2, 3, 4, 5, 6, 7, 8, 9, 10], []) (by kernel_rfl) (by kernel_rfl) ?_
                  simp only [wpSegs, opsAt, consAt_some, List.getElem?_cons_succ, List.getElem?_cons_zero]
                  repeat (go_big_quiet_step (fail))
                  refine wpQuiet_nil (wpList_nil (nrm_mk ?_))
                  go_wp2
                  go_roundg (gk - 1)
                  case measure => omega
                  case rel => exact ⟨k + 1, by omega, by omega, by go_num, by rw [CS.out]; (try go_num), bl⟩
              · obtain rfl : k = xs.length := by omega
                have ca := cntUp_all xs i hlt1
                have h7 : ((cntUp xs xs[i].1 xs.length : Int) != 1) = !(cntUp xs xs[i].1 xs.length == 1) := by
                  generalize cntUp xs xs[i].1 xs.length = m
                  by_cases h : m = 1
                  · subst h; rfl
                  · have h2 : ¬ (m : Int) = 1 := by omega
                    rw [bne, beq_eq_false_iff_ne.2 h2, beq_eq_false_iff_ne.2 h]
                cases h6 : (cntUp xs xs[i].1 xs.length == 1)
                all_goals
                  rw [h6] at ca h7
                  simp only [Bool.not_true, Bool.not_false] at h7
                  have CA := Lib.hid ca
                  clear ca h6
                  go_wp2
                · go_ret
                  exact ⟨ret_bool (by rw [HF.out, allTo_no _ _ i hlt1 CA.out]; simp), bl⟩
                · go_roundg (gi - 1)
                  case measure => omega
                  case rel => exact ⟨i + 1, by omega, by omega, by go_num, by unfold Hid; rw [allTo, hq1.out, CA.out]; rfl, bl⟩
          · obtain rfl : i = xs.length := by omega
            go_wp2
            go_ret
            exact ⟨ret_bool (by rw [HF.out, hq.out, hq1.out]; rfl), bl⟩
  · have l0 : decide ((40 : Int) < (xs.length : Int)) = true := by simp; omega
    have hfin : permS xs = false := by simp [permS, hlen]
    have HF := Lib.hid hfin
    go_enter Try.func16, Try.ntmps16
    go_wp2
    go_ret
    exact ⟨ret_bool HF.out.symm, bl⟩
end Go.Proofs.Ytmeaghkpojiniaa.Cx
