/- FnExactSameTerms: the law, for every two terms. -/
import Derived.Test.YtlkhiddimplnjaaTerm
import Derived.Test.YtlkhiddimplnjaaSame
import Derived.Test.YtlkhiddimplnjaaSame2
namespace Go.Proofs.Ytlkhiddimplnjaa.Cx
open Go.RowKit Base
set_option linter.unusedVariables false
set_option linter.unusedSimpArgs false
set_option maxHeartbeats 3200000 in
theorem lawSameTerms (s t : Tm) (vs vt : Value) (w : World) (hs : VT w vs s) (ht : VT w vt t) :
    Calls Try.prog 8 #[vs, vt] w fun e w' => e = .returned (.bool true) ∧ Below w.heap.size w w' := by
  obtain ⟨vp, vk, rfl, hp, hk⟩ := hs
  obtain ⟨vp', vk', rfl, hp', hk'⟩ := ht
  by_cases h1 : (s.bulk : Int) ≤ 1048576
  · have z1 : szr 1048576 s.bulk = 1048576 - s.bulk := by unfold szr; rw [if_pos h1]
    by_cases h2 : (t.bulk : Int) ≤ 1048576 - s.bulk
    · have z2 : szr (1048576 - s.bulk) t.bulk = 1048576 - s.bulk - t.bulk := by unfold szr; rw [if_pos h2]
      have z3 : (0 : Int) ≤ 1048576 - s.bulk - t.bulk := by omega
      have sb : s.bulk ≤ 1048576 := by omega
      have tb : t.bulk ≤ 1048576 := by omega
      have ss := (Tm.same_iff s s).2 rfl
      have tt := (Tm.same_iff t t).2 rfl
      go_enter Try.func8, Try.ntmps8
      go_wp2_with fail
      refine (szTerm s.sz s _ _ _ (Nat.le_refl _) ⟨_, _, rfl, hp.below KP.mono bl, hk.below KT.mono bl⟩ (by omega) (by omega)).mono ?_
      rintro e w1 ⟨rfl, hb1⟩
      obtain ⟨hc1, hf1⟩ := bcell hb1
      have hB1 : Below w.heap.size w w1 := bStep bl hb1
      have hp1 := Stp.mk hb1
      have hs1 := hb1.size
      try simp only [World.size_alloc, World.size_setCell, World.size_drew, World.heap_drewN] at hs1
      try simp only [World.size_drew, World.heap_drewN, World.cell?_drew, World.frozen?_drew, World.cell?_drewN, World.frozen?_drewN] at hc1 hf1
      have hz1_0 : w.heap.size < w1.heap.size := by omega
      have hz1_1 : w.heap.size + 1 < w1.heap.size := by omega
      go_wp2_with fail
      refine (szTerm t.sz t _ _ _ (Nat.le_refl _) ⟨_, _, rfl, hp'.below KP.mono bl, hk'.below KT.mono bl⟩ (by omega) (by omega)).mono ?_
      rintro e w2 ⟨rfl, hb2⟩
      obtain ⟨hc2, hf2⟩ := bcell hb2
      have hB2 : Below w.heap.size w w2 := bStep bl hb2
      have hp2 := Stp.mk hb2
      have hs2 := hb2.size
      try simp only [World.size_alloc, World.size_setCell, World.size_drew, World.heap_drewN] at hs2
      try simp only [World.size_drew, World.heap_drewN, World.cell?_drew, World.frozen?_drew, World.cell?_drewN, World.frozen?_drewN] at hc2 hf2
      have hz2_0 : w.heap.size < w2.heap.size := by omega
      have hz2_1 : w.heap.size + 1 < w2.heap.size := by omega
      go_wp2_with fail
      refine wp_region_plan ([([0, 2], 1), ([], 3), ([], 4)], [5], []) (by kernel_rfl) (by kernel_rfl) ?_
      simp only [wpSegs, opsAt, consAt_some, List.getElem?_cons_succ, List.getElem?_cons_zero]
      repeat (go_big_quiet_step (fail))
      refine wpQuiet_nil ?_
      go_wp2_with fail
      refine (toTerm s.sz s _ _ (Nat.le_refl _) ⟨_, _, rfl, hp.below KP.mono bl, hk.below KT.mono bl⟩ sb).mono ?_
      rintro e w3 ⟨r3, rfl, ho3, hb3⟩
      go_wp2_with fail
      refine nrm_mk ⟨hb3, ?_⟩
      obtain ⟨hc3, hf3⟩ := bcell hb3
      have hB3 : Below w.heap.size w w3 := bStep bl hb3
      have hp3 := Stp.mk hb3
      have hs3 := hb3.size
      try simp only [World.size_alloc, World.size_setCell, World.size_drew, World.heap_drewN] at hs3
      try simp only [World.size_drew, World.heap_drewN, World.cell?_drew, World.frozen?_drew, World.cell?_drewN, World.frozen?_drewN] at hc3 hf3
      have hz3_0 : w.heap.size < w3.heap.size := by omega
      have hz3_1 : w.heap.size + 1 < w3.heap.size := by omega
      repeat (go_big_quiet_step (fail))
      refine wpQuiet_nil ?_
      go_wp2_with fail
      refine (toTerm t.sz t _ _ (Nat.le_refl _) ⟨_, _, rfl, hp'.below KP.mono bl, hk'.below KT.mono bl⟩ tb).mono ?_
      rintro e w4 ⟨r4, rfl, ho4, hb4⟩
      go_wp2_with fail
      refine nrm_mk ⟨hb4, ?_⟩
      obtain ⟨hc4, hf4⟩ := bcell hb4
      have hB4 : Below w.heap.size w w4 := bStep bl hb4
      have hp4 := Stp.mk hb4
      have hs4 := hb4.size
      try simp only [World.size_alloc, World.size_setCell, World.size_drew, World.heap_drewN] at hs4
      try simp only [World.size_drew, World.heap_drewN, World.cell?_drew, World.frozen?_drew, World.cell?_drewN, World.frozen?_drewN] at hc4 hf4
      have hz4_0 : w.heap.size < w4.heap.size := by omega
      have hz4_1 : w.heap.size + 1 < w4.heap.size := by omega
      repeat (go_big_quiet_step (fail))
      refine wpQuiet_nil ?_
      have V3 := (ho3.below hb4).vt (by omega)
      have V4 := ho4.vt (by omega)
      go_wp2_with fail
      refine (specSame s t _ _ _ (V3.below bl) (V4.below bl)).mono ?_
      rintro e w5 ⟨rfl, hb5⟩
      go_wp2_with fail
      refine nrm_mk ⟨hb5, ?_⟩
      obtain ⟨hc5, hf5⟩ := bcell hb5
      have hB5 : Below w.heap.size w w5 := bStep bl hb5
      have hp5 := Stp.mk hb5
      have hs5 := hb5.size
      try simp only [World.size_alloc, World.size_setCell, World.size_drew, World.heap_drewN] at hs5
      try simp only [World.size_drew, World.heap_drewN, World.cell?_drew, World.frozen?_drew, World.cell?_drewN, World.frozen?_drewN] at hc5 hf5
      have hz5_0 : w.heap.size < w5.heap.size := by omega
      have hz5_1 : w.heap.size + 1 < w5.heap.size := by omega
      repeat (go_big_quiet_step (fail))
      refine wpQuiet_nil ?_
      refine wpList_nil (nrm_mk ?_)
      go_wp2_with fail
      refine (toTerm s.sz s _ _ (Nat.le_refl _) ⟨_, _, rfl, hp.below KP.mono bl, hk.below KT.mono bl⟩ sb).mono ?_
      rintro e w6 ⟨r6, rfl, ho6, hb6⟩
      obtain ⟨hc6, hf6⟩ := bcell hb6
      have hB6 : Below w.heap.size w w6 := bStep bl hb6
      have hp6 := Stp.mk hb6
      have hs6 := hb6.size
      try simp only [World.size_alloc, World.size_setCell, World.size_drew, World.heap_drewN] at hs6
      try simp only [World.size_drew, World.heap_drewN, World.cell?_drew, World.frozen?_drew, World.cell?_drewN, World.frozen?_drewN] at hc6 hf6
      have hz6_0 : w.heap.size < w6.heap.size := by omega
      have hz6_1 : w.heap.size + 1 < w6.heap.size := by omega
      obtain ⟨q0, q1, rfl, hq0, hq1⟩ := ho6.vt (by omega)
      obtain ⟨A6, c6, rfl⟩ := hq0.slice
      obtain ⟨A7, c7, rfl⟩ := hq1.slice
      go_wp2_with fail
      refine (toTerm t.sz t _ _ (Nat.le_refl _) ⟨_, _, rfl, hp'.below KP.mono bl, hk'.below KT.mono bl⟩ tb).mono ?_
      rintro e w7 ⟨r7, rfl, ho7, hb7⟩
      obtain ⟨hc7, hf7⟩ := bcell hb7
      have hB7 : Below w.heap.size w w7 := bStep bl hb7
      have hp7 := Stp.mk hb7
      have hs7 := hb7.size
      try simp only [World.size_alloc, World.size_setCell, World.size_drew, World.heap_drewN] at hs7
      try simp only [World.size_drew, World.heap_drewN, World.cell?_drew, World.frozen?_drew, World.cell?_drewN, World.frozen?_drewN] at hc7 hf7
      have hz7_0 : w.heap.size < w7.heap.size := by omega
      have hz7_1 : w.heap.size + 1 < w7.heap.size := by omega
      have hz7_2 : w6.heap.size < w7.heap.size := by omega
      obtain ⟨q2, q3, rfl, hq2, hq3⟩ := ho7.vt (by omega)
      obtain ⟨A8, c8, rfl⟩ := hq2.slice
      obtain ⟨A9, c9, rfl⟩ := hq3.slice
      go_wp2_with fail
      refine (implSame s.sz s t _ _ _ (Nat.le_refl _) ⟨_, _, rfl, hq0.below KP.mono bl, hq1.below KT.mono bl⟩ ⟨_, _, rfl, hq2.below KP.mono bl, hq3.below KT.mono bl⟩).mono ?_
      rintro e w8 ⟨rfl, hb8⟩
      obtain ⟨hc8, hf8⟩ := bcell hb8
      have hB8 : Below w.heap.size w w8 := bStep bl hb8
      have hp8 := Stp.mk hb8
      have hs8 := hb8.size
      try simp only [World.size_alloc, World.size_setCell, World.size_drew, World.heap_drewN] at hs8
      try simp only [World.size_drew, World.heap_drewN, World.cell?_drew, World.frozen?_drew, World.cell?_drewN, World.frozen?_drewN] at hc8 hf8
      have hz8_0 : w.heap.size < w8.heap.size := by omega
      have hz8_1 : w.heap.size + 1 < w8.heap.size := by omega
      have hz8_2 : w6.heap.size < w8.heap.size := by omega
      have hz8_3 : w7.heap.size < w8.heap.size := by omega
      have bb : (s.same t != s.same t) = false := by simp
      go_wp2_with fail
      refine wp_region_plan ([([0, 1], 2), ([], 3)], [4], []) (by kernel_rfl) (by kernel_rfl) ?_
      simp only [wpSegs, opsAt, consAt_some, List.getElem?_cons_succ, List.getElem?_cons_zero]
      repeat (go_big_quiet_step (fail))
      refine wpQuiet_nil ?_
      go_wp2_with fail
      refine (toTerm s.sz s _ _ (Nat.le_refl _) ⟨_, _, rfl, hp.below KP.mono bl, hk.below KT.mono bl⟩ sb).mono ?_
      rintro e w9 ⟨r9, rfl, ho9, hb9⟩
      go_wp2_with fail
      refine nrm_mk ⟨hb9, ?_⟩
      obtain ⟨hc9, hf9⟩ := bcell hb9
      have hB9 : Below w.heap.size w w9 := bStep bl hb9
      have hp9 := Stp.mk hb9
      have hs9 := hb9.size
      try simp only [World.size_alloc, World.size_setCell, World.size_drew, World.heap_drewN] at hs9
      try simp only [World.size_drew, World.heap_drewN, World.cell?_drew, World.frozen?_drew, World.cell?_drewN, World.frozen?_drewN] at hc9 hf9
      have hz9_0 : w.heap.size < w9.heap.size := by omega
      have hz9_1 : w.heap.size + 1 < w9.heap.size := by omega
      have hz9_2 : w6.heap.size < w9.heap.size := by omega
      have hz9_3 : w7.heap.size < w9.heap.size := by omega
      repeat (go_big_quiet_step (fail))
      refine wpQuiet_nil ?_
      go_wp2_with fail
      refine (eqTerm s.sz s s _ _ _ (Nat.le_refl _) ⟨_, _, rfl, hq0.below KP.mono bl, hq1.below KT.mono bl⟩ (ho9.vt (by omega))).mono ?_
      rintro e w10 ⟨rfl, hb10⟩
      go_wp2_with fail
      refine nrm_mk ⟨hb10, ?_⟩
      obtain ⟨hc10, hf10⟩ := bcell hb10
      have hB10 : Below w.heap.size w w10 := bStep bl hb10
      have hp10 := Stp.mk hb10
      have hs10 := hb10.size
      try simp only [World.size_alloc, World.size_setCell, World.size_drew, World.heap_drewN] at hs10
      try simp only [World.size_drew, World.heap_drewN, World.cell?_drew, World.frozen?_drew, World.cell?_drewN, World.frozen?_drewN] at hc10 hf10
      have hz10_0 : w.heap.size < w10.heap.size := by omega
      have hz10_1 : w.heap.size + 1 < w10.heap.size := by omega
      have hz10_2 : w6.heap.size < w10.heap.size := by omega
      have hz10_3 : w7.heap.size < w10.heap.size := by omega
      repeat (go_big_quiet_step (fail))
      refine wpQuiet_nil ?_
      refine wpList_nil (nrm_mk ?_)
      go_wp2_with fail
      refine wp_region_plan ([([0, 1], 2), ([], 3)], [4], []) (by kernel_rfl) (by kernel_rfl) ?_
      simp only [wpSegs, opsAt, consAt_some, List.getElem?_cons_succ, List.getElem?_cons_zero]
      repeat (go_big_quiet_step (fail))
      refine wpQuiet_nil ?_
      go_wp2_with fail
      refine (toTerm t.sz t _ _ (Nat.le_refl _) ⟨_, _, rfl, hp'.below KP.mono bl, hk'.below KT.mono bl⟩ tb).mono ?_
      rintro e w11 ⟨r11, rfl, ho11, hb11⟩
      go_wp2_with fail
      refine nrm_mk ⟨hb11, ?_⟩
      obtain ⟨hc11, hf11⟩ := bcell hb11
      have hB11 : Below w.heap.size w w11 := bStep bl hb11
      have hp11 := Stp.mk hb11
      have hs11 := hb11.size
      try simp only [World.size_alloc, World.size_setCell, World.size_drew, World.heap_drewN] at hs11
      try simp only [World.size_drew, World.heap_drewN, World.cell?_drew, World.frozen?_drew, World.cell?_drewN, World.frozen?_drewN] at hc11 hf11
      have hz11_0 : w.heap.size < w11.heap.size := by omega
      have hz11_1 : w.heap.size + 1 < w11.heap.size := by omega
      have hz11_2 : w6.heap.size < w11.heap.size := by omega
      have hz11_3 : w7.heap.size < w11.heap.size := by omega
      repeat (go_big_quiet_step (fail))
      refine wpQuiet_nil ?_
      go_wp2_with fail
      refine (eqTerm t.sz t t _ _ _ (Nat.le_refl _) ⟨_, _, rfl, hq2.below KP.mono bl, hq3.below KT.mono bl⟩ (ho11.vt (by omega))).mono ?_
      rintro e w12 ⟨rfl, hb12⟩
      go_wp2_with fail
      refine nrm_mk ⟨hb12, ?_⟩
      obtain ⟨hc12, hf12⟩ := bcell hb12
      have hB12 : Below w.heap.size w w12 := bStep bl hb12
      have hp12 := Stp.mk hb12
      have hs12 := hb12.size
      try simp only [World.size_alloc, World.size_setCell, World.size_drew, World.heap_drewN] at hs12
      try simp only [World.size_drew, World.heap_drewN, World.cell?_drew, World.frozen?_drew, World.cell?_drewN, World.frozen?_drewN] at hc12 hf12
      have hz12_0 : w.heap.size < w12.heap.size := by omega
      have hz12_1 : w.heap.size + 1 < w12.heap.size := by omega
      have hz12_2 : w6.heap.size < w12.heap.size := by omega
      have hz12_3 : w7.heap.size < w12.heap.size := by omega
      repeat (go_big_quiet_step (fail))
      refine wpQuiet_nil ?_
      refine wpList_nil (nrm_mk ?_)
      go_wp2
      go_ret
      exact ⟨rfl, bl⟩
    · have z2 : szr (1048576 - s.bulk) t.bulk = -1 := by unfold szr; rw [if_neg h2]
      have z3 : ¬ (1048576 : Int) - s.bulk < 0 := by omega
      go_enter Try.func8, Try.ntmps8
      go_wp2_with fail
      refine (szTerm s.sz s _ _ _ (Nat.le_refl _) ⟨_, _, rfl, hp.below KP.mono bl, hk.below KT.mono bl⟩ (by omega) (by omega)).mono ?_
      rintro e w1 ⟨rfl, hb1⟩
      obtain ⟨hc1, hf1⟩ := bcell hb1
      have hB1 : Below w.heap.size w w1 := bStep bl hb1
      have hp1 := Stp.mk hb1
      have hs1 := hb1.size
      try simp only [World.size_alloc, World.size_setCell, World.size_drew, World.heap_drewN] at hs1
      try simp only [World.size_drew, World.heap_drewN, World.cell?_drew, World.frozen?_drew, World.cell?_drewN, World.frozen?_drewN] at hc1 hf1
      have hz1_0 : w.heap.size < w1.heap.size := by omega
      have hz1_1 : w.heap.size + 1 < w1.heap.size := by omega
      go_wp2_with fail
      refine (szTerm t.sz t _ _ _ (Nat.le_refl _) ⟨_, _, rfl, hp'.below KP.mono bl, hk'.below KT.mono bl⟩ (by omega) (by omega)).mono ?_
      rintro e w2 ⟨rfl, hb2⟩
      obtain ⟨hc2, hf2⟩ := bcell hb2
      have hB2 : Below w.heap.size w w2 := bStep bl hb2
      have hp2 := Stp.mk hb2
      have hs2 := hb2.size
      try simp only [World.size_alloc, World.size_setCell, World.size_drew, World.heap_drewN] at hs2
      try simp only [World.size_drew, World.heap_drewN, World.cell?_drew, World.frozen?_drew, World.cell?_drewN, World.frozen?_drewN] at hc2 hf2
      have hz2_0 : w.heap.size < w2.heap.size := by omega
      have hz2_1 : w.heap.size + 1 < w2.heap.size := by omega
      go_wp2
      go_ret
      exact ⟨rfl, bl⟩
  · have z1 : szr 1048576 s.bulk = -1 := by unfold szr; rw [if_neg h1]
    go_enter Try.func8, Try.ntmps8
    go_wp2_with fail
    refine (szTerm s.sz s _ _ _ (Nat.le_refl _) ⟨_, _, rfl, hp.below KP.mono bl, hk.below KT.mono bl⟩ (by omega) (by omega)).mono ?_
    rintro e w1 ⟨rfl, hb1⟩
    obtain ⟨hc1, hf1⟩ := bcell hb1
    have hB1 : Below w.heap.size w w1 := bStep bl hb1
    have hp1 := Stp.mk hb1
    have hs1 := hb1.size
    try simp only [World.size_alloc, World.size_setCell, World.size_drew, World.heap_drewN] at hs1
    try simp only [World.size_drew, World.heap_drewN, World.cell?_drew, World.frozen?_drew, World.cell?_drewN, World.frozen?_drewN] at hc1 hf1
    have hz1_0 : w.heap.size < w1.heap.size := by omega
    have hz1_1 : w.heap.size + 1 < w1.heap.size := by omega
    go_wp2
    go_ret
    exact ⟨rfl, bl⟩
end Go.Proofs.Ytlkhiddimplnjaa.Cx
