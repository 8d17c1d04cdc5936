/- Contracts: is a list a context; has it an element, all elements of another: the model's and the program's. -/
import Derived.Test.YtlkhiddimplnjaaCmp
import Derived.Test.YtlkhiddimplnjaaEqp
namespace Go.Proofs.Ytlkhiddimplnjaa.Base
def okF (x : Int × Int) : Bool := atom x.1 && (decide (0 ≤ x.2) && decide (x.2 ≤ 9))
def stepF (xs : List (Int × Int)) (i : Nat) : Bool := okF (xs.getD i (0, 0)) && (decide (i = 0) || lessF (xs.getD (i - 1) (0, 0)) (xs.getD i (0, 0)))
def rightF (xs : List (Int × Int)) : Bool := allTo (stepF xs) xs.length
def isCtx (xs : List (Int × Int)) : Bool := rightF xs && decide (xs.length ≤ 40)
theorem stepF_zero (xs : List (Int × Int)) (h : 0 < xs.length) : stepF xs 0 = okF xs[0] := by simp [stepF, h, List.getD]
theorem stepF_succ (xs : List (Int × Int)) (q : Nat) (h : q + 1 < xs.length) : stepF xs (q + 1) = (okF xs[q + 1] && lessF xs[q] xs[q + 1]) := by
  have h2 : q < xs.length := by omega
  simp [stepF, h, h2, List.getD]
end Go.Proofs.Ytlkhiddimplnjaa.Base
namespace Go.Proofs.Ytlkhiddimplnjaa.Cx
open Go.RowKit Base
set_option linter.unusedVariables false
set_option linter.unusedSimpArgs false
set_option maxHeartbeats 3200000
attribute [local go_sem] cell_alloc_some
theorem l3Right (w : World) (v : Value) (xs : List (Int × Int)) (h : SlP w v xs) : Calls Try.prog 36 #[v] w fun e w' => e = .returned (.bool (rightF xs)) ∧ Below w.heap.size w w' := by
  obtain ⟨A, c, rfl, hc, hl, hr⟩ := h
  go_enter Try.func36, Try.ntmps36
  go_wp2
  go_loopg [3, 4, 7] (xs.length + 1) (fun n v3 v4 v7 wr => ∃ k : Nat, n + k = xs.length + 1 ∧ k ≤ xs.length ∧ v7 = .int .i64 k ∧ Hid (allTo (stepF xs) k = true) ∧ Hid (Below w.heap.size w wr))
  case atStart => exact ⟨0, by omega, by omega, rfl, rfl, Below.refl _ _⟩
  case round =>
    obtain ⟨k, hn, hk, rfl, hq, hB⟩ := hrel
    have hBw := hB.out
    clear hB
    by_cases hlt : k < xs.length
    · obtain ⟨ad, rfl, c0, c1⟩ := (hr.below KP.mono hBw).atP hlt
      have g0 : (0 : Int) ≤ (k : Int) := by omega
      have g1 : (k : Int) < (xs.length : Int) := by omega
      have hk0 : ∃ p : Bool, p = decide ((0 : Int) < (k : Int)) := ⟨_, rfl⟩
      have st : stepF xs k = (okF xs[k] && (decide (k = 0) || lessF (xs.getD (k - 1) (0, 0)) xs[k])) := by simp [stepF, hlt, List.getD]
      cases hA : atom xs[k].1
      · have hno : stepF xs k = false := by rw [st]; simp [okF, hA]
        have HN := Lib.hid hno
        clear hno st
        go_wp2
        refine wp_region_plan ([([0, 1], 2), ([3, 4, 5, 6], 7), ([8, 9, 10, 11, 12, 13, 14, 15, 16, 17, 18, 19], 20)], [21, 22, 23], []) (by kernel_rfl) (by kernel_rfl) ?_
        simp only [wpSegs, opsAt, consAt_some, List.getElem?_cons_succ, List.getElem?_cons_zero]
        repeat (go_big_quiet_step (fail))
        refine wpQuiet_nil ?_
        go_wp2_with fail
        refine (l1Atom _ xs[k].1).mono ?_
        rintro e w1 ⟨rfl, hb1⟩
        go_wp2_with fail
        refine nrm_mk ⟨hb1, ?_⟩
        obtain ⟨hc1, hf1⟩ := bcell hb1
        have hB1 : Below w.heap.size w w1 := bStep bl hb1
        have hp1 := Stp.mk hb1
        have hs1 := hb1.size
        try simp only [World.size_alloc, World.size_setCell, World.size_drew, World.heap_drewN] at hs1
        try simp only [World.size_drew, World.heap_drewN, World.cell?_drew, World.frozen?_drew, World.cell?_drewN, World.frozen?_drewN] at hc1 hf1
        have hz1_0 : wr.heap.size < w1.heap.size := by omega
        repeat (go_big_quiet_step (fail))
        refine wpQuiet_nil ?_
        go_wp2
        refine nrm_mk ⟨Below.refl _ _, ?_⟩
        repeat (go_big_quiet_step (fail))
        refine wpQuiet_nil ?_
        go_wp2
        refine nrm_mk ⟨Below.refl _ _, ?_⟩
        repeat (go_big_quiet_step (fail))
        refine wpQuiet_nil (wpList_nil (nrm_mk ?_))
        go_wp2
        go_ret
        exact ⟨ret_bool (allTo_no _ _ k hlt HN.out).symm, bl⟩
      · cases hH : (decide (0 ≤ xs[k].2) && decide (xs[k].2 ≤ 9))
        · have hno : stepF xs k = false := by rw [st]; simp only [okF, hH]; simp
          have HN := Lib.hid hno
          clear hno st
          go_wp2
          refine wp_region_plan ([([0, 1], 2), ([3, 4, 5, 6], 7), ([8, 9, 10, 11, 12, 13, 14, 15, 16, 17, 18, 19], 20)], [21, 22, 23], []) (by kernel_rfl) (by kernel_rfl) ?_
          simp only [wpSegs, opsAt, consAt_some, List.getElem?_cons_succ, List.getElem?_cons_zero]
          repeat (go_big_quiet_step (fail))
          refine wpQuiet_nil ?_
          go_wp2_with fail
          refine (l1Atom _ xs[k].1).mono ?_
          rintro e w1 ⟨rfl, hb1⟩
          go_wp2_with fail
          refine nrm_mk ⟨hb1, ?_⟩
          obtain ⟨hc1, hf1⟩ := bcell hb1
          have hB1 : Below w.heap.size w w1 := bStep bl hb1
          have hp1 := Stp.mk hb1
          have hs1 := hb1.size
          try simp only [World.size_alloc, World.size_setCell, World.size_drew, World.heap_drewN] at hs1
          try simp only [World.size_drew, World.heap_drewN, World.cell?_drew, World.frozen?_drew, World.cell?_drewN, World.frozen?_drewN] at hc1 hf1
          have hz1_0 : wr.heap.size < w1.heap.size := by omega
          repeat (go_big_quiet_step (fail))
          refine wpQuiet_nil ?_
          go_wp2_with fail
          refine (l1In _ xs[k].2 0 9).mono ?_
          rintro e w2 ⟨rfl, hb2⟩
          go_wp2_with fail
          refine nrm_mk ⟨hb2, ?_⟩
          obtain ⟨hc2, hf2⟩ := bcell hb2
          have hB2 : Below w.heap.size w w2 := bStep bl hb2
          have hp2 := Stp.mk hb2
          have hs2 := hb2.size
          try simp only [World.size_alloc, World.size_setCell, World.size_drew, World.heap_drewN] at hs2
          try simp only [World.size_drew, World.heap_drewN, World.cell?_drew, World.frozen?_drew, World.cell?_drewN, World.frozen?_drewN] at hc2 hf2
          have hz2_0 : wr.heap.size < w2.heap.size := by omega
          repeat (go_big_quiet_step (fail))
          refine wpQuiet_nil ?_
          go_wp2
          refine nrm_mk ⟨Below.refl _ _, ?_⟩
          repeat (go_big_quiet_step (fail))
          refine wpQuiet_nil (wpList_nil (nrm_mk ?_))
          go_wp2
          go_ret
          exact ⟨ret_bool (allTo_no _ _ k hlt HN.out).symm, bl⟩
        · by_cases hz : k = 0
          · have hyes : stepF xs k = true := by rw [st]; simp only [okF, hH, hA]; simp [hz]
            have HN := Lib.hid hyes
            have z0 : ¬ (0 : Int) < (k : Int) := by omega
            have z0n : ¬ 0 < k := by omega
            clear hyes st hz
            go_wp2
            refine wp_region_plan ([([0, 1], 2), ([3, 4, 5, 6], 7), ([8, 9, 10, 11, 12, 13, 14, 15, 16, 17, 18, 19], 20)], [21, 22, 23], []) (by kernel_rfl) (by kernel_rfl) ?_
            simp only [wpSegs, opsAt, consAt_some, List.getElem?_cons_succ, List.getElem?_cons_zero]
            repeat (go_big_quiet_step (fail))
            refine wpQuiet_nil ?_
            go_wp2_with fail
            refine (l1Atom _ xs[k].1).mono ?_
            rintro e w1 ⟨rfl, hb1⟩
            go_wp2_with fail
            refine nrm_mk ⟨hb1, ?_⟩
            obtain ⟨hc1, hf1⟩ := bcell hb1
            have hB1 : Below w.heap.size w w1 := bStep bl hb1
            have hp1 := Stp.mk hb1
            have hs1 := hb1.size
            try simp only [World.size_alloc, World.size_setCell, World.size_drew, World.heap_drewN] at hs1
            try simp only [World.size_drew, World.heap_drewN, World.cell?_drew, World.frozen?_drew, World.cell?_drewN, World.frozen?_drewN] at hc1 hf1
            have hz1_0 : wr.heap.size < w1.heap.size := by omega
            repeat (go_big_quiet_step (fail))
            refine wpQuiet_nil ?_
            go_wp2_with fail
            refine (l1In _ xs[k].2 0 9).mono ?_
            rintro e w2 ⟨rfl, hb2⟩
            go_wp2_with fail
            refine nrm_mk ⟨hb2, ?_⟩
            obtain ⟨hc2, hf2⟩ := bcell hb2
            have hB2 : Below w.heap.size w w2 := bStep bl hb2
            have hp2 := Stp.mk hb2
            have hs2 := hb2.size
            try simp only [World.size_alloc, World.size_setCell, World.size_drew, World.heap_drewN] at hs2
            try simp only [World.size_drew, World.heap_drewN, World.cell?_drew, World.frozen?_drew, World.cell?_drewN, World.frozen?_drewN] at hc2 hf2
            have hz2_0 : wr.heap.size < w2.heap.size := by omega
            repeat (go_big_quiet_step (fail))
            refine wpQuiet_nil ?_
            go_wp2
            refine nrm_mk ⟨Below.refl _ _, ?_⟩
            repeat (go_big_quiet_step (fail))
            refine wpQuiet_nil (wpList_nil (nrm_mk ?_))
            go_wp2
            go_roundg (gk - 1)
            case measure => omega
            case rel => exact ⟨k + 1, by omega, by omega, by go_num, by unfold Hid; rw [allTo, hq.out, HN.out]; rfl, bl⟩
          · obtain ⟨q, rfl⟩ : ∃ q, k = q + 1 := ⟨k - 1, by omega⟩
            have hq1 : q < xs.length := by omega
            obtain ⟨ad', ea, d0, d1⟩ := (hr.below KP.mono hBw).atP hq1
            obtain rfl := Option.some.inj ea
            have z0 : (0 : Int) < (q : Int) + 1 := by omega
            have z1 : (q : Int) + 1 - 1 = (q : Int) := by omega
            have z2 : (0 : Int) ≤ (q : Int) := by omega
            have z3 : (q : Int) < (xs.length : Int) := by omega
            have st' := stepF_succ xs q hlt
            clear st
            cases hL : lessF xs[q] xs[q + 1]
            all_goals
              have hst : stepF xs (q + 1) = _ := st'
              rw [hL] at hst
              simp only [okF, hA, hH, Bool.and_true, Bool.and_false] at hst
              have HN := Lib.hid hst
              clear hst st'
              go_wp2
              refine wp_region_plan ([([0, 1], 2), ([3, 4, 5, 6], 7), ([8, 9, 10, 11, 12, 13, 14, 15, 16, 17, 18, 19], 20)], [21, 22, 23], []) (by kernel_rfl) (by kernel_rfl) ?_
              simp only [wpSegs, opsAt, consAt_some, List.getElem?_cons_succ, List.getElem?_cons_zero]
              repeat (go_big_quiet_step (fail))
              refine wpQuiet_nil ?_
              go_wp2_with fail
              refine (l1Atom _ xs[q + 1].1).mono ?_
              rintro e w1 ⟨rfl, hb1⟩
              go_wp2_with fail
              refine nrm_mk ⟨hb1, ?_⟩
              obtain ⟨hc1, hf1⟩ := bcell hb1
              have hB1 : Below w.heap.size w w1 := bStep bl hb1
              have hp1 := Stp.mk hb1
              have hs1 := hb1.size
              try simp only [World.size_alloc, World.size_setCell, World.size_drew, World.heap_drewN] at hs1
              try simp only [World.size_drew, World.heap_drewN, World.cell?_drew, World.frozen?_drew, World.cell?_drewN, World.frozen?_drewN] at hc1 hf1
              have hz1_0 : wr.heap.size < w1.heap.size := by omega
              repeat (go_big_quiet_step (fail))
              refine wpQuiet_nil ?_
              go_wp2_with fail
              refine (l1In _ xs[q + 1].2 0 9).mono ?_
              rintro e w2 ⟨rfl, hb2⟩
              go_wp2_with fail
              refine nrm_mk ⟨hb2, ?_⟩
              obtain ⟨hc2, hf2⟩ := bcell hb2
              have hB2 : Below w.heap.size w w2 := bStep bl hb2
              have hp2 := Stp.mk hb2
              have hs2 := hb2.size
              try simp only [World.size_alloc, World.size_setCell, World.size_drew, World.heap_drewN] at hs2
              try simp only [World.size_drew, World.heap_drewN, World.cell?_drew, World.frozen?_drew, World.cell?_drewN, World.frozen?_drewN] at hc2 hf2
              have hz2_0 : wr.heap.size < w2.heap.size := by omega
              have d0_2 := clsCell (bCell (w := wr) (bStep bl hb2) d0)
              have d1_2 := clsCell (bCell (w := wr) (bStep bl hb2) d1)
              repeat (go_big_quiet_step (fail))
              refine wpQuiet_nil ?_
              go_wp2_with fail
              refine (l3Less _ xs[q] xs[q + 1]).mono ?_
              rintro e w3 ⟨rfl, hb3⟩
              go_wp2_with fail
              refine nrm_mk ⟨hb3, ?_⟩
              obtain ⟨hc3, hf3⟩ := bcell hb3
              have hB3 : Below w.heap.size w w3 := bStep bl hb3
              have hp3 := Stp.mk hb3
              have hs3 := hb3.size
              try simp only [World.size_alloc, World.size_setCell, World.size_drew, World.heap_drewN] at hs3
              try simp only [World.size_drew, World.heap_drewN, World.cell?_drew, World.frozen?_drew, World.cell?_drewN, World.frozen?_drewN] at hc3 hf3
              have hz3_0 : wr.heap.size < w3.heap.size := by omega
              repeat (go_big_quiet_step (fail))
              refine wpQuiet_nil ?_
              refine wpList_nil (nrm_mk ?_)
              go_wp2
              first
              | (go_ret
                 exact ⟨ret_bool (allTo_no _ _ _ hlt HN.out).symm, bl⟩)
              | (go_roundg (gk - 1)
                 case measure => omega
                 case rel => exact ⟨q + 1 + 1, by omega, by omega, by go_num, by unfold Hid; rw [allTo, hq.out, HN.out]; rfl, bl⟩)
    · obtain rfl : k = xs.length := by omega
      go_wp2
      go_ret
      exact ⟨ret_bool hq.out.symm, hBw⟩
theorem specIsContext (w : World) (v : Value) (xs : List (Int × Int)) (h : SlP w v xs) : Calls Try.prog 19 #[v] w fun e w' => e = .returned (.bool (isCtx xs)) ∧ Below w.heap.size w w' := by
  obtain ⟨A, c, rfl, hc, hl, hr⟩ := h
  cases hR : rightF xs
  · go_enter Try.func19, Try.ntmps19
    go_wp2_with fail
    refine (l3Right _ _ xs ⟨A, c, rfl, hc, hl, hr⟩).mono ?_
    rintro e w1 ⟨rfl, hb1⟩
    obtain ⟨hc1, hf1⟩ := bcell hb1
    have hB1 : Below w.heap.size w w1 := bStep bl hb1
    have hp1 := Stp.mk hb1
    have hs1 := hb1.size
    try simp only [World.size_alloc, World.size_setCell, World.size_drew, World.heap_drewN] at hs1
    try simp only [World.size_drew, World.heap_drewN, World.cell?_drew, World.frozen?_drew, World.cell?_drewN, World.frozen?_drewN] at hc1 hf1
    go_wp2
    go_ret
    exact ⟨ret_bool (by simp [isCtx, hR]), bl⟩
  · go_enter Try.func19, Try.ntmps19
    go_wp2_with fail
    refine (l3Right _ _ xs ⟨A, c, rfl, hc, hl, hr⟩).mono ?_
    rintro e w1 ⟨rfl, hb1⟩
    obtain ⟨hc1, hf1⟩ := bcell hb1
    have hB1 : Below w.heap.size w w1 := bStep bl hb1
    have hp1 := Stp.mk hb1
    have hs1 := hb1.size
    try simp only [World.size_alloc, World.size_setCell, World.size_drew, World.heap_drewN] at hs1
    try simp only [World.size_drew, World.heap_drewN, World.cell?_drew, World.frozen?_drew, World.cell?_drewN, World.frozen?_drewN] at hc1 hf1
    go_wp2
    go_ret
    exact ⟨ret_bool (by simp [isCtx, hR]; try omega), bl⟩
theorem implIsContext (w : World) (v : Value) (xs : List (Int × Int)) (h : SlP w v xs) : Calls Try.prog 21 #[v] w fun e w' => e = .returned (.bool (isCtx xs)) ∧ Below w.heap.size w w' := by
  obtain ⟨A, c, rfl, hc, hl, hr⟩ := h
  by_cases hlen : xs.length ≤ 40
  · have l0 : ¬ (40 : Int) < (xs.length : Int) := by omega
    have l1 : ¬ 40 < xs.length := by omega
    have hfin : isCtx xs = rightF xs := by simp [isCtx, hlen]
    have HF := Lib.hid hfin
    clear hfin hlen
    go_enter Try.func21, Try.ntmps21
    go_wp2
    go_loopg [3, 4, 10] (xs.length + 1) (fun n v3 v4 v10 wr => ∃ k : Nat, n + k = xs.length + 1 ∧ k ≤ xs.length ∧ v10 = .int .i64 k ∧ Hid (allTo (stepF xs) k = true) ∧ Hid (Below w.heap.size w wr))
    case atStart => exact ⟨0, by omega, by omega, rfl, rfl, Below.refl _ _⟩
    case round =>
      obtain ⟨k, hn, hk, rfl, hq, hB⟩ := hrel
      have hBw := hB.out
      clear hB
      by_cases hlt : k < xs.length
      · obtain ⟨ad, rfl, c0, c1⟩ := (hr.below KP.mono hBw).atP hlt
        have g0 : (0 : Int) ≤ (k : Int) := by omega
        have g1 : (k : Int) < (xs.length : Int) := by omega
        have st : stepF xs k = (okF xs[k] && (decide (k = 0) || lessF (xs.getD (k - 1) (0, 0)) xs[k])) := by simp [stepF, hlt, List.getD]
        cases hA : atom xs[k].1
        · have hno : stepF xs k = false := by rw [st]; simp [okF, hA]
          have HN := Lib.hid hno
          clear hno st
          go_wp2
          refine wp_region_plan ([([0, 1], 2), ([3, 4, 5, 6, 7, 8, 9, 10, 11, 12, 13, 14, 15, 16, 17, 18, 19, 20, 21, 22, 23], 24)], [25, 26, 27], []) (by kernel_rfl) (by kernel_rfl) ?_
          simp only [wpSegs, opsAt, consAt_some, List.getElem?_cons_succ, List.getElem?_cons_zero]
          repeat (go_big_quiet_step (fail))
          refine wpQuiet_nil ?_
          go_wp2_with fail
          refine (isAtom _ xs[k].1).mono ?_
          rintro e w1 ⟨rfl, hb1⟩
          go_wp2_with fail
          refine nrm_mk ⟨hb1, ?_⟩
          obtain ⟨hc1, hf1⟩ := bcell hb1
          have hB1 : Below w.heap.size w w1 := bStep bl hb1
          have hp1 := Stp.mk hb1
          have hs1 := hb1.size
          try simp only [World.size_alloc, World.size_setCell, World.size_drew, World.heap_drewN] at hs1
          try simp only [World.size_drew, World.heap_drewN, World.cell?_drew, World.frozen?_drew, World.cell?_drewN, World.frozen?_drewN] at hc1 hf1
          have hz1_0 : wr.heap.size < w1.heap.size := by omega
          repeat (go_big_quiet_step (fail))
          refine wpQuiet_nil ?_
          go_wp2
          refine nrm_mk ⟨Below.refl _ _, ?_⟩
          repeat (go_big_quiet_step (fail))
          refine wpQuiet_nil (wpList_nil (nrm_mk ?_))
          go_wp2
          go_ret
          exact ⟨ret_bool (by rw [HF.out]; exact (allTo_no _ _ k hlt HN.out).symm), bl⟩
        · by_cases hH : xs[k].2 < 0 ∨ 9 < xs[k].2
          · have hno : stepF xs k = false := by
              rw [st]
              have : okF xs[k] = false := by
                simp only [okF, Bool.and_eq_false_iff, decide_eq_false_iff_not]
                omega
              simp [this]
            have HN := Lib.hid hno
            clear hno st
            cases hH1 : decide (xs[k].2 < 0)
            all_goals
              first | have hH2 : decide (9 < xs[k].2) = true := by (simp at hH1 ⊢; omega)
                    | skip
              clear hH
              go_wp2
              refine wp_region_plan ([([0, 1], 2), ([3, 4, 5, 6, 7, 8, 9, 10, 11, 12, 13, 14, 15, 16, 17, 18, 19, 20, 21, 22, 23], 24)], [25, 26, 27], []) (by kernel_rfl) (by kernel_rfl) ?_
              simp only [wpSegs, opsAt, consAt_some, List.getElem?_cons_succ, List.getElem?_cons_zero]
              repeat (go_big_quiet_step (fail))
              refine wpQuiet_nil ?_
              go_wp2_with fail
              refine (isAtom _ xs[k].1).mono ?_
              rintro e w1 ⟨rfl, hb1⟩
              go_wp2_with fail
              refine nrm_mk ⟨hb1, ?_⟩
              obtain ⟨hc1, hf1⟩ := bcell hb1
              have hB1 : Below w.heap.size w w1 := bStep bl hb1
              have hp1 := Stp.mk hb1
              have hs1 := hb1.size
              try simp only [World.size_alloc, World.size_setCell, World.size_drew, World.heap_drewN] at hs1
              try simp only [World.size_drew, World.heap_drewN, World.cell?_drew, World.frozen?_drew, World.cell?_drewN, World.frozen?_drewN] at hc1 hf1
              have hz1_0 : wr.heap.size < w1.heap.size := by omega
              repeat (go_big_quiet_step (fail))
              refine wpQuiet_nil ?_
              go_wp2
              refine nrm_mk ⟨Below.refl _ _, ?_⟩
              repeat (go_big_quiet_step (fail))
              refine wpQuiet_nil (wpList_nil (nrm_mk ?_))
              go_wp2
              go_ret
              exact ⟨ret_bool (by rw [HF.out]; exact (allTo_no _ _ k hlt HN.out).symm), bl⟩
          · have hok : okF xs[k] = true := by
              simp only [okF, Bool.and_eq_true, decide_eq_true_eq]
              exact ⟨hA, by omega, by omega⟩
            have hH1 : decide (xs[k].2 < 0) = false := by simp; omega
            have hH2 : decide (9 < xs[k].2) = false := by simp; omega
            rw [hok] at st
            have HO := Lib.hid hok
            clear hok hH
            by_cases hz : k = 0
            · have hyes : stepF xs k = true := by rw [st]; simp [hz]
              have HN := Lib.hid hyes
              have z0 : ¬ (0 : Int) < (k : Int) := by omega
              have z0n : ¬ 0 < k := by omega
              clear hyes st hz
              go_wp2
              refine wp_region_plan ([([0, 1], 2), ([3, 4, 5, 6, 7, 8, 9, 10, 11, 12, 13, 14, 15, 16, 17, 18, 19, 20, 21, 22, 23], 24)], [25, 26, 27], []) (by kernel_rfl) (by kernel_rfl) ?_
              simp only [wpSegs, opsAt, consAt_some, List.getElem?_cons_succ, List.getElem?_cons_zero]
              repeat (go_big_quiet_step (fail))
              refine wpQuiet_nil ?_
              go_wp2_with fail
              refine (isAtom _ xs[k].1).mono ?_
              rintro e w1 ⟨rfl, hb1⟩
              go_wp2_with fail
              refine nrm_mk ⟨hb1, ?_⟩
              obtain ⟨hc1, hf1⟩ := bcell hb1
              have hB1 : Below w.heap.size w w1 := bStep bl hb1
              have hp1 := Stp.mk hb1
              have hs1 := hb1.size
              try simp only [World.size_alloc, World.size_setCell, World.size_drew, World.heap_drewN] at hs1
              try simp only [World.size_drew, World.heap_drewN, World.cell?_drew, World.frozen?_drew, World.cell?_drewN, World.frozen?_drewN] at hc1 hf1
              have hz1_0 : wr.heap.size < w1.heap.size := by omega
              repeat (go_big_quiet_step (fail))
              refine wpQuiet_nil ?_
              go_wp2
              refine nrm_mk ⟨Below.refl _ _, ?_⟩
              repeat (go_big_quiet_step (fail))
              refine wpQuiet_nil (wpList_nil (nrm_mk ?_))
              go_wp2
              go_roundg (gk - 1)
              case measure => omega
              case rel => exact ⟨k + 1, by omega, by omega, by go_num, by unfold Hid; rw [allTo, hq.out, HN.out]; rfl, bl⟩
            · obtain ⟨q, rfl⟩ : ∃ q, k = q + 1 := ⟨k - 1, by omega⟩
              have hq1 : q < xs.length := by omega
              obtain ⟨ad', ea, d0, d1⟩ := (hr.below KP.mono hBw).atP hq1
              obtain rfl := Option.some.inj ea
              have z0 : (0 : Int) < (q : Int) + 1 := by omega
              have z1 : (q : Int) + 1 - 1 = (q : Int) := by omega
              have z2 : (0 : Int) ≤ (q : Int) := by omega
              have z3 : (q : Int) < (xs.length : Int) := by omega
              have st' := stepF_succ xs q hlt
              have cg := cmpF_ge xs[q] xs[q + 1]
              rw [HO.out] at st'
              clear st
              cases hL : lessF xs[q] xs[q + 1]
              all_goals
                have hst : stepF xs (q + 1) = _ := st'
                rw [hL] at hst cg
                simp only [Bool.true_and, Bool.and_false, Bool.not_true, Bool.not_false] at hst cg
                have HN := Lib.hid hst
                clear hst st'
                go_wp2
                refine wp_region_plan ([([0, 1], 2), ([3, 4, 5, 6, 7, 8, 9, 10, 11, 12, 13, 14, 15, 16, 17, 18, 19, 20, 21, 22, 23], 24)], [25, 26, 27], []) (by kernel_rfl) (by kernel_rfl) ?_
                simp only [wpSegs, opsAt, consAt_some, List.getElem?_cons_succ, List.getElem?_cons_zero]
                repeat (go_big_quiet_step (fail))
                refine wpQuiet_nil ?_
                go_wp2_with fail
                refine (isAtom _ xs[q + 1].1).mono ?_
                rintro e w1 ⟨rfl, hb1⟩
                go_wp2_with fail
                refine nrm_mk ⟨hb1, ?_⟩
                obtain ⟨hc1, hf1⟩ := bcell hb1
                have hB1 : Below w.heap.size w w1 := bStep bl hb1
                have hp1 := Stp.mk hb1
                have hs1 := hb1.size
                try simp only [World.size_alloc, World.size_setCell, World.size_drew, World.heap_drewN] at hs1
                try simp only [World.size_drew, World.heap_drewN, World.cell?_drew, World.frozen?_drew, World.cell?_drewN, World.frozen?_drewN] at hc1 hf1
                have hz1_0 : wr.heap.size < w1.heap.size := by omega
                have d0_1 := clsCell (bCell (w := wr) (bStep bl hb1) d0)
                have d1_1 := clsCell (bCell (w := wr) (bStep bl hb1) d1)
                repeat (go_big_quiet_step (fail))
                refine wpQuiet_nil ?_
                go_wp2_with fail
                refine (compareFresh _ xs[q] xs[q + 1]).mono ?_
                rintro e w3 ⟨rfl, hb3⟩
                go_wp2_with fail
                refine nrm_mk ⟨hb3, ?_⟩
                obtain ⟨hc3, hf3⟩ := bcell hb3
                have hB3 : Below w.heap.size w w3 := bStep bl hb3
                have hp3 := Stp.mk hb3
                have hs3 := hb3.size
                try simp only [World.size_alloc, World.size_setCell, World.size_drew, World.heap_drewN] at hs3
                try simp only [World.size_drew, World.heap_drewN, World.cell?_drew, World.frozen?_drew, World.cell?_drewN, World.frozen?_drewN] at hc3 hf3
                have hz3_0 : wr.heap.size < w3.heap.size := by omega
                repeat (go_big_quiet_step (fail))
                refine wpQuiet_nil ?_
                refine wpList_nil (nrm_mk ?_)
                go_wp2
                first
                | (go_ret
                   exact ⟨ret_bool (by rw [HF.out]; exact (allTo_no _ _ _ hlt HN.out).symm), bl⟩)
                | (go_roundg (gk - 1)
                   case measure => omega
                   case rel => exact ⟨q + 1 + 1, by omega, by omega, by go_num, by unfold Hid; rw [allTo, hq.out, HN.out]; rfl, bl⟩)
      · obtain rfl : k = xs.length := by omega
        go_wp2
        go_ret
        exact ⟨ret_bool (by rw [HF.out]; exact hq.out.symm), hBw⟩
  · have l0 : (40 : Int) < (xs.length : Int) := by omega
    have l1 : 40 < xs.length := by omega
    have hfin : isCtx xs = false := by simp [isCtx, hlen]
    have HF := Lib.hid hfin
    clear hfin hlen
    go_enter Try.func21, Try.ntmps21
    go_wp2
    go_ret
    exact ⟨ret_bool HF.out.symm, bl⟩
end Go.Proofs.Ytlkhiddimplnjaa.Cx
