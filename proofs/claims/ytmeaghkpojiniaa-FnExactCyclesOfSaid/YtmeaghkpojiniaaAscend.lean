/- Contracts: the different numbers of lists, in order; the program's test whether a list of pairs is a permutation. -/
import Derived.Test.YtmeaghkpojiniaaConcat
import Derived.Test.YtmeaghkpojiniaaPerm
namespace Go.Proofs.Ytmeaghkpojiniaa.Base
theorem stepImp_zero (p : List (Int × Int)) (h : 0 < p.length) : stepImp p 0 = (atom p[0].1 && atom p[0].2 && !(p[0].1 == p[0].2)) := by simp [stepImp, gp_lt h]
theorem stepImp_succ (p : List (Int × Int)) (q : Nat) (h : q + 1 < p.length) : stepImp p (q + 1) = (atom p[q + 1].1 && atom p[q + 1].2 && !(p[q + 1].1 == p[q + 1].2) && !decide (p[q + 1].1 ≤ p[q].1)) := by
  have h2 : q < p.length := by omega
  simp [stepImp, gp_lt h, gp_lt h2]
end Go.Proofs.Ytmeaghkpojiniaa.Base
namespace Go.Proofs.Ytmeaghkpojiniaa.Cx
open Go.RowKit Base
set_option linter.unusedVariables false
set_option linter.unusedSimpArgs false
set_option maxRecDepth 100000
set_option maxHeartbeats 3200000
theorem ascending (w : World) (v : Value) (ls : List (Value × List Int)) (h : Sl KL 1 w v ls) (hb : (cat ls).length ≤ 17592186044416) : Calls Try.prog 53 #[v] w fun e w' => ∃ r, e = .returned r ∧ OwI 3 w' w.heap.size r (ascL (cat ls)) ∧ Below w.heap.size w w' := by
  have hms : ((cat ls).mergeSort fun x y => decide (x ≤ y)).length = (cat ls).length := List.length_mergeSort _
  go_enter Try.func53, Try.ntmps53
  go_wp2_with fail
  refine (concatInts _ v ls (h.below KL.mono bl) hb).mono ?_
  rintro e w1 ⟨r1, rfl, ho1, hb1⟩
  obtain ⟨hc1, hf1⟩ := bcell hb1
  have hB1 : Below w.heap.size w w1 := bStep bl hb1
  have hp1 := Stp.mk hb1
  have hs1 := hb1.size
  try simp only [World.size_alloc, World.size_setCell, World.size_drew, World.heap_drewN] at hs1
  try simp only [World.size_drew, World.heap_drewN, World.cell?_drew, World.frozen?_drew, World.cell?_drewN, World.frozen?_drewN] at hc1 hf1
  go_wp2_with fail
  refine (sortInts _ w.heap.size _ _ _ (ho1.keep bl) (show Below w.heap.size w _ from bl).size hb).mono ?_
  rintro e w2 ⟨rfl, ho2, hb2⟩
  obtain ⟨hc2, hf2⟩ := bcellB hb2
  have hp2 : Stp w w2 := Below.trans bl hb2
  have hs2 := hb2.size
  try simp only [World.size_alloc, World.size_setCell, World.size_drew, World.heap_drewN] at hs2
  try simp only [World.size_drew, World.heap_drewN, World.cell?_drew, World.frozen?_drew, World.cell?_drewN, World.frozen?_drewN] at hc2 hf2
  go_wp2_with fail
  refine (compactInts _ w.heap.size _ _ _ (OwI.keep ho2 bl) (show Below w.heap.size w _ from bl).size (by rw [hms]; exact hb)).mono ?_
  rintro e w3 ⟨r3, rfl, ho3, hb3⟩
  obtain ⟨hc3, hf3⟩ := bcellB hb3
  have hp3 : Stp w w3 := Below.trans bl hb3
  have hs3 := hb3.size
  try simp only [World.size_alloc, World.size_setCell, World.size_drew, World.heap_drewN] at hs3
  try simp only [World.size_drew, World.heap_drewN, World.cell?_drew, World.frozen?_drew, World.cell?_drewN, World.frozen?_drewN] at hc3 hf3
  go_wp2
  go_ret
  exact ⟨_, rfl, by rw [← compact_ascL]; exact ho3, bl⟩
theorem implIsPerm (w : World) (v : Value) (xs : List (Int × Int)) (h : SlP w v xs) : Calls Try.prog 18 #[v] w fun e w' => e = .returned (.bool (permS xs)) ∧ Below w.heap.size w w' := by
  rw [← perm_eq]
  have h0 := h
  obtain ⟨A, c, rfl, hc, hl, hr⟩ := h
  by_cases hlen : xs.length ≤ 40
  · have l0 : decide ((40 : Int) < (xs.length : Int)) = false := by simp; omega
    have hfin : permT xs = (allTo (stepImp xs) xs.length && (ascL (tgtL xs) == srcL xs)) := by simp [permT, hlen]
    have HF := Lib.hid hfin
    clear hfin
    go_enter Try.func18, Try.ntmps18
    go_wp2
    go_loopg [3, 4, 5, 11] (xs.length + 1) (fun n v3 v4 v5 v11 wr => ∃ k : Nat, n + k = xs.length + 1 ∧ k ≤ xs.length ∧ v11 = .int .i64 k ∧ Hid (allTo (stepImp xs) k = true) ∧ Hid (OwI 3 wr w.heap.size v3 (tgtL (xs.take k))) ∧ Hid (Below w.heap.size w wr))
    case atStart => exact ⟨0, by omega, by omega, rfl, rfl, World.ownsRow_nil _ _ _ _, Below.refl _ _⟩
    case round =>
      obtain ⟨k, hn, hk, rfl, hq, hown, hB⟩ := hrel
      have hBw := hB.out
      clear hB
      by_cases hlt : k < xs.length
      · obtain ⟨ad, rfl, c0, c1⟩ := (hr.below KP.mono hBw).atP hlt
        have g0 : (0 : Int) ≤ (k : Int) := by omega
        have g1 : (k : Int) < (xs.length : Int) := by omega
        have fin : stepImp xs k = false → (allTo (stepImp xs) xs.length && (ascL (tgtL xs) == srcL xs)) = false := fun h1 => by rw [allTo_no _ _ k hlt h1]; rfl
        have FIN := Lib.hid fin
        clear fin
        have fl : (tgtL (xs.take k)).length = k := by rw [tgt_len]; simp; omega
        have FL := Lib.hid fl
        clear fl
        have sn := tgtL_snoc xs k hlt
        have SN := Lib.hid sn
        clear sn
        have st : ∃ b, stepImp xs k = (atom xs[k].1 && (atom xs[k].2 && b)) := ⟨_, by unfold stepImp; rw [gp_lt hlt, Bool.and_assoc, Bool.and_assoc]⟩
        cases hA : atom xs[k].1
        · have HN := Lib.hid (show stepImp xs k = false by obtain ⟨b, e⟩ := st; rw [e, hA]; rfl)
          clear st
          go_wp2
          refine wp_region_plan ([([0, 1], 2), ([3, 4, 5, 6], 7)], [8, 9, 10, 11, 12, 13, 14, 15, 16, 17, 18, 19, 20, 21, 22, 23, 24, 25, 26, 27, 28, 29, 30, 31], []) (by kernel_rfl) (by kernel_rfl) ?_
          simp only [wpSegs, opsAt, consAt_some, List.getElem?_cons_succ, List.getElem?_cons_zero]
          repeat (go_big_quiet_step (fail))
          refine wpQuiet_nil ?_
          go_wp2_with fail
          refine (isAtom _ xs[k].1).mono ?_
          rintro e w1 ⟨rfl, hb1⟩
          go_wp2_with fail
          refine nrm_mk ⟨hb1, ?_⟩
          obtain ⟨hc1, hf1⟩ := bcell hb1
          have hB1 : Below w.heap.size w w1 := bStep bl hb1
          have hp1 := Stp.mk hb1
          have hs1 := hb1.size
          try simp only [World.size_alloc, World.size_setCell, World.size_drew, World.heap_drewN] at hs1
          try simp only [World.size_drew, World.heap_drewN, World.cell?_drew, World.frozen?_drew, World.cell?_drewN, World.frozen?_drewN] at hc1 hf1
          have hz1_0 : wr.heap.size < w1.heap.size := by omega
          repeat (go_big_quiet_step (fail))
          refine wpQuiet_nil ?_
          go_wp2
          refine nrm_mk ⟨Below.refl _ _, ?_⟩
          repeat (go_big_quiet_step (fail))
          refine wpQuiet_nil (wpList_nil (nrm_mk ?_))
          go_wp2
          go_ret
          exact ⟨ret_bool (by rw [HF.out]; exact (FIN.out HN.out).symm), bl⟩
        · cases hA2 : atom xs[k].2
          · have HN := Lib.hid (show stepImp xs k = false by obtain ⟨b, e⟩ := st; rw [e, hA, hA2]; rfl)
            clear st
            go_wp2
            refine wp_region_plan ([([0, 1], 2), ([3, 4, 5, 6], 7)], [8, 9, 10, 11, 12, 13, 14, 15, 16, 17, 18, 19, 20, 21, 22, 23, 24, 25, 26, 27, 28, 29, 30, 31], []) (by kernel_rfl) (by kernel_rfl) ?_
            simp only [wpSegs, opsAt, consAt_some, List.getElem?_cons_succ, List.getElem?_cons_zero]
            repeat (go_big_quiet_step (fail))
            refine wpQuiet_nil ?_
            go_wp2_with fail
            refine (isAtom _ xs[k].1).mono ?_
            rintro e w1 ⟨rfl, hb1⟩
            go_wp2_with fail
            refine nrm_mk ⟨hb1, ?_⟩
            obtain ⟨hc1, hf1⟩ := bcell hb1
            have hB1 : Below w.heap.size w w1 := bStep bl hb1
            have hp1 := Stp.mk hb1
            have hs1 := hb1.size
            try simp only [World.size_alloc, World.size_setCell, World.size_drew, World.heap_drewN] at hs1
            try simp only [World.size_drew, World.heap_drewN, World.cell?_drew, World.frozen?_drew, World.cell?_drewN, World.frozen?_drewN] at hc1 hf1
            have hz1_0 : wr.heap.size < w1.heap.size := by omega
            repeat (go_big_quiet_step (fail))
            refine wpQuiet_nil ?_
            go_wp2_with fail
            refine (isAtom _ xs[k].2).mono ?_
            rintro e w2 ⟨rfl, hb2⟩
            go_wp2_with fail
            refine nrm_mk ⟨hb2, ?_⟩
            obtain ⟨hc2, hf2⟩ := bcell hb2
            have hB2 : Below w.heap.size w w2 := bStep bl hb2
            have hp2 := Stp.mk hb2
            have hs2 := hb2.size
            try simp only [World.size_alloc, World.size_setCell, World.size_drew, World.heap_drewN] at hs2
            try simp only [World.size_drew, World.heap_drewN, World.cell?_drew, World.frozen?_drew, World.cell?_drewN, World.frozen?_drewN] at hc2 hf2
            have hz2_0 : wr.heap.size < w2.heap.size := by omega
            repeat (go_big_quiet_step (fail))
            refine wpQuiet_nil ?_
            refine wpList_nil (nrm_mk ?_)
            go_wp2
            go_ret
            exact ⟨ret_bool (by rw [HF.out]; exact (FIN.out HN.out).symm), bl⟩
          · clear st
            by_cases hz : k = 0
            · have st : stepImp xs k = (atom xs[k].1 && atom xs[k].2 && !(xs[k].1 == xs[k].2)) := by subst hz; exact stepImp_zero xs hlt
              have z0 : decide ((0 : Int) < (k : Int)) = false := by simp; omega
              have z0n : decide (0 < k) = false := by simp; omega
              clear hz
              cases hE : (xs[k].1 == xs[k].2)
              all_goals
                rw [hA, hA2, hE] at st
                have HN := Lib.hid st
                clear st
                go_wp2
                refine wp_region_plan ([([0, 1], 2), ([3, 4, 5, 6], 7)], [8, 9, 10, 11, 12, 13, 14, 15, 16, 17, 18, 19, 20, 21, 22, 23, 24, 25, 26, 27, 28, 29, 30, 31], []) (by kernel_rfl) (by kernel_rfl) ?_
                simp only [wpSegs, opsAt, consAt_some, List.getElem?_cons_succ, List.getElem?_cons_zero]
                repeat (go_big_quiet_step (fail))
                refine wpQuiet_nil ?_
                go_wp2_with fail
                refine (isAtom _ xs[k].1).mono ?_
                rintro e w1 ⟨rfl, hb1⟩
                go_wp2_with fail
                refine nrm_mk ⟨hb1, ?_⟩
                obtain ⟨hc1, hf1⟩ := bcell hb1
                have hB1 : Below w.heap.size w w1 := bStep bl hb1
                have hp1 := Stp.mk hb1
                have hs1 := hb1.size
                try simp only [World.size_alloc, World.size_setCell, World.size_drew, World.heap_drewN] at hs1
                try simp only [World.size_drew, World.heap_drewN, World.cell?_drew, World.frozen?_drew, World.cell?_drewN, World.frozen?_drewN] at hc1 hf1
                have hz1_0 : wr.heap.size < w1.heap.size := by omega
                repeat (go_big_quiet_step (fail))
                refine wpQuiet_nil ?_
                go_wp2_with fail
                refine (isAtom _ xs[k].2).mono ?_
                rintro e w2 ⟨rfl, hb2⟩
                go_wp2_with fail
                refine nrm_mk ⟨hb2, ?_⟩
                obtain ⟨hc2, hf2⟩ := bcell hb2
                have hB2 : Below w.heap.size w w2 := bStep bl hb2
                have hp2 := Stp.mk hb2
                have hs2 := hb2.size
                try simp only [World.size_alloc, World.size_setCell, World.size_drew, World.heap_drewN] at hs2
                try simp only [World.size_drew, World.heap_drewN, World.cell?_drew, World.frozen?_drew, World.cell?_drewN, World.frozen?_drewN] at hc2 hf2
                have hz2_0 : wr.heap.size < w2.heap.size := by omega
                repeat (go_big_quiet_step (fail))
                refine wpQuiet_nil ?_
                refine wpList_nil (nrm_mk ?_)
                go_wp2_with (at_builtin; refine Hid.out ?_)
                first
                | (go_ret
                   exact ⟨ret_bool (by rw [HF.out]; exact (FIN.out (HN.out.trans rfl)).symm), bl⟩)
                | (refine Lib.hid ?_
                   have hW0 : Below wr.heap.size wr (w2.alloc (.cells #[.int .i64 xs[k].2] 3)) := bl
                   have hsz : w.heap.size ≤ (w2.alloc (.cells #[.int .i64 xs[k].2] 3)).heap.size := (show Below w.heap.size w (w2.alloc (.cells #[.int .i64 xs[k].2] 3)) from bl).size
                   have hown1 := owns_below hown.out hW0
                   refine wpList_app ty_ints w.heap.size u3 _ _ hown1 w2.heap.size 1 [.int .i64 xs[k].2] (heap_alloc_new w2 _) rfl (by simp [Value.oneCell']) (by rw [FL.out]; omega) (by rw [FL.out]; omega) hsz (.tmp 48) (.tmp 51) rfl rfl rfl rfl ?_
                   intro v' w4 hown2 hgrow hat
                   have hO : Hid (OwI 3 w4 w.heap.size v' (tgtL (xs.take (k + 1)))) := by
                     unfold Hid
                     rw [SN.out]
                     simpa [cI, OwI] using hown2
                   have hB2 : Hid (Below w.heap.size w w4) := bOwn (bStep hBw hW0) hown1 hgrow hsz
                   clear hown2 hgrow hat hW0 hsz hown1
                   go_wp2
                   go_roundg (gk - 1)
                   case measure => omega
                   case rel => exact ⟨k + 1, by omega, by omega, by go_num, by unfold Hid; rw [allTo, hq.out, HN.out]; rfl, hO, hB2⟩)
            · obtain ⟨q, rfl⟩ : ∃ q, k = q + 1 := ⟨k - 1, by omega⟩
              have hq1 : q < xs.length := by omega
              obtain ⟨ad', ea, d0, d1⟩ := (hr.below KP.mono hBw).atP hq1
              obtain rfl := Option.some.inj ea
              have z0 : (0 : Int) < (q : Int) + 1 := by omega
              have z1 : (q : Int) + 1 - 1 = (q : Int) := by omega
              have z2 : (0 : Int) ≤ (q : Int) := by omega
              have z3 : (q : Int) < (xs.length : Int) := by omega
              have st := stepImp_succ xs q hlt
              cases hE : (xs[q + 1].1 == xs[q + 1].2)
              all_goals cases hL : decide (xs[q + 1].1 ≤ xs[q].1)
              all_goals
                have hst : stepImp xs (q + 1) = _ := st
                rw [hA, hA2, hE, hL] at hst
                have HN := Lib.hid hst
                clear st hst
                go_wp2
                refine wp_region_plan ([([0, 1], 2), ([3, 4, 5, 6], 7)], [8, 9, 10, 11, 12, 13, 14, 15, 16, 17, 18, 19, 20, 21, 22, 23, 24, 25, 26, 27, 28, 29, 30, 31], []) (by kernel_rfl) (by kernel_rfl) ?_
                simp only [wpSegs, opsAt, consAt_some, List.getElem?_cons_succ, List.getElem?_cons_zero]
                repeat (go_big_quiet_step (fail))
                refine wpQuiet_nil ?_
                go_wp2_with fail
                refine (isAtom _ xs[q + 1].1).mono ?_
                rintro e w1 ⟨rfl, hb1⟩
                go_wp2_with fail
                refine nrm_mk ⟨hb1, ?_⟩
                obtain ⟨hc1, hf1⟩ := bcell hb1
                have hB1 : Below w.heap.size w w1 := bStep bl hb1
                have hp1 := Stp.mk hb1
                have hs1 := hb1.size
                try simp only [World.size_alloc, World.size_setCell, World.size_drew, World.heap_drewN] at hs1
                try simp only [World.size_drew, World.heap_drewN, World.cell?_drew, World.frozen?_drew, World.cell?_drewN, World.frozen?_drewN] at hc1 hf1
                have hz1_0 : wr.heap.size < w1.heap.size := by omega
                repeat (go_big_quiet_step (fail))
                refine wpQuiet_nil ?_
                go_wp2_with fail
                refine (isAtom _ xs[q + 1].2).mono ?_
                rintro e w2 ⟨rfl, hb2⟩
                go_wp2_with fail
                refine nrm_mk ⟨hb2, ?_⟩
                obtain ⟨hc2, hf2⟩ := bcell hb2
                have hB2 : Below w.heap.size w w2 := bStep bl hb2
                have hp2 := Stp.mk hb2
                have hs2 := hb2.size
                try simp only [World.size_alloc, World.size_setCell, World.size_drew, World.heap_drewN] at hs2
                try simp only [World.size_drew, World.heap_drewN, World.cell?_drew, World.frozen?_drew, World.cell?_drewN, World.frozen?_drewN] at hc2 hf2
                have hz2_0 : wr.heap.size < w2.heap.size := by omega
                have d0_2 := clsCell (bCell (w := wr) (bStep bl hb2) d0)
                have d1_2 := clsCell (bCell (w := wr) (bStep bl hb2) d1)
                repeat (go_big_quiet_step (fail))
                refine wpQuiet_nil ?_
                refine wpList_nil (nrm_mk ?_)
                go_wp2_with (at_builtin; refine Hid.out ?_)
                first
                | (go_ret
                   exact ⟨ret_bool (by rw [HF.out]; exact (FIN.out (HN.out.trans rfl)).symm), bl⟩)
                | (refine Lib.hid ?_
                   have hW0 : Below wr.heap.size wr (w2.alloc (.cells #[.int .i64 xs[(q + 1)].2] 3)) := bl
                   have hsz : w.heap.size ≤ (w2.alloc (.cells #[.int .i64 xs[(q + 1)].2] 3)).heap.size := (show Below w.heap.size w (w2.alloc (.cells #[.int .i64 xs[(q + 1)].2] 3)) from bl).size
                   have hown1 := owns_below hown.out hW0
                   refine wpList_app ty_ints w.heap.size u3 _ _ hown1 w2.heap.size 1 [.int .i64 xs[(q + 1)].2] (heap_alloc_new w2 _) rfl (by simp [Value.oneCell']) (by rw [FL.out]; omega) (by rw [FL.out]; omega) hsz (.tmp 48) (.tmp 51) rfl rfl rfl rfl ?_
                   intro v' w4 hown2 hgrow hat
                   have hO : Hid (OwI 3 w4 w.heap.size v' (tgtL (xs.take ((q + 1) + 1)))) := by
                     unfold Hid
                     rw [SN.out]
                     simpa [cI, OwI] using hown2
                   have hB2 : Hid (Below w.heap.size w w4) := bOwn (bStep hBw hW0) hown1 hgrow hsz
                   clear hown2 hgrow hat hW0 hsz hown1
                   go_wp2
                   go_roundg (gk - 1)
                   case measure => omega
                   case rel => exact ⟨(q + 1) + 1, by omega, by omega, by go_num, by unfold Hid; rw [allTo, hq.out, HN.out]; rfl, hO, hB2⟩)
      · obtain rfl : k = xs.length := by omega
        rw [List.take_length] at hown
        obtain ⟨Ar, cr, eu⟩ := owns_slice hown.out
        subst eu
        have hKL : ∀ W : World, W = wr.alloc (.cells #[.slice Ar (tgtL xs).length cr] 31) → Sl KL 1 W (.slice (some ⟨wr.heap.size, 0, none⟩) 1 1) [(.slice Ar (tgtL xs).length cr, tgtL xs)] := by
          rintro _ rfl
          refine ⟨some ⟨wr.heap.size, 0, none⟩, 1, rfl, Nat.le_refl _, by simp, fun j hj => ?_⟩
          obtain rfl : j = 0 := by simpa using hj
          refine ⟨⟨wr.heap.size, 0, none⟩, [.slice Ar (tgtL xs).length cr], rfl, ⟨rfl, (OwI.keep hown.out (bAlloc (Below.refl _ _) _)).sl (by rw [tgt_len]; omega), owns_nz hown.out⟩, fun i u hu => ?_⟩
          match i, hu with
          | 0, hu => simp at hu; subst hu; simp [Addr.add]
        have HKL := Lib.hid hKL
        clear hKL
        go_wp2_with fail
        refine (ascending _ _ _ (HKL.out _ rfl) (by simp [cat, tgt_len]; omega)).mono ?_
        rintro e w1 ⟨r1, rfl, ho1, hb1⟩
        obtain ⟨hc1, hf1⟩ := bcell hb1
        have hB1 : Below w.heap.size w w1 := bStep bl hb1
        have hp1 := Stp.mk hb1
        have hs1 := hb1.size
        try simp only [World.size_alloc, World.size_setCell, World.size_drew, World.heap_drewN] at hs1
        try simp only [World.size_drew, World.heap_drewN, World.cell?_drew, World.frozen?_drew, World.cell?_drewN, World.frozen?_drewN] at hc1 hf1
        go_wp2_with fail
        refine (sources _ _ xs (h0.below KP.mono bl)).mono ?_
        rintro e w2 ⟨r2, rfl, ho2, hb2⟩
        obtain ⟨hc2, hf2⟩ := bcell hb2
        have hB2 : Below w.heap.size w w2 := bStep bl hb2
        have hp2 := Stp.mk hb2
        have hs2 := hb2.size
        try simp only [World.size_alloc, World.size_setCell, World.size_drew, World.heap_drewN] at hs2
        try simp only [World.size_drew, World.heap_drewN, World.cell?_drew, World.frozen?_drew, World.cell?_drewN, World.frozen?_drewN] at hc2 hf2
        go_wp2_with fail
        refine (equalInts _ _ _ _ _ _ _ _ _ (OwI.keep ho1 bl) ho2 (Nat.le_trans (ascL_len _) (by simp [cat, tgt_len]; omega)) (by rw [src_len]; omega)).mono ?_
        rintro e w3 ⟨rfl, hb3⟩
        obtain ⟨hc3, hf3⟩ := bcell hb3
        have hB3 : Below w.heap.size w w3 := bStep bl hb3
        have hp3 := Stp.mk hb3
        have hs3 := hb3.size
        try simp only [World.size_alloc, World.size_setCell, World.size_drew, World.heap_drewN] at hs3
        try simp only [World.size_drew, World.heap_drewN, World.cell?_drew, World.frozen?_drew, World.cell?_drewN, World.frozen?_drewN] at hc3 hf3
        go_wp2
        go_ret
        exact ⟨ret_bool (by rw [HF.out, hq.out]; simp [cat]), bl⟩
  · have l0 : decide ((40 : Int) < (xs.length : Int)) = true := by simp; omega
    have hfin : permT xs = false := by simp [permT, hlen]
    have HF := Lib.hid hfin
    go_enter Try.func18, Try.ntmps18
    go_wp2
    go_ret
    exact ⟨ret_bool HF.out.symm, bl⟩
end Go.Proofs.Ytmeaghkpojiniaa.Cx
