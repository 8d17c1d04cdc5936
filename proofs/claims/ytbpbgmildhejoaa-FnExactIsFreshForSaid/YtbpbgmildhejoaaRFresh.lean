/- FnExactIsFreshFor: the law, for every term, and the row's statement. -/
import Derived.Test.YtbpbgmildhejoaaFreeI
import Derived.Test.YtbpbgmildhejoaaTerm
import Derived.Test.YtbpbgmildhejoaaArgs
import Derived.SizedLaws
namespace Go.Proofs.Ytbpbgmildhejoaa.Cx
open Go.RowKit Base
set_option linter.unusedVariables false
set_option linter.unusedSimpArgs false
set_option maxRecDepth 100000

set_option maxHeartbeats 12800000 in
theorem lawIsFreshFor (x0 : Int) (x1 : Tm) (v1 : Value) (w : World) (h1 : VT w v1 x1) : Calls Try.prog 8 #[.int .i64 x0, v1] w fun e w' => e = .returned (.bool true) ∧ Below w.heap.size w w' := by
  generalize hX : freshFor x0 x1 = X
  have HX := Lib.hid hX
  clear hX
  have bb := bne_rfl_ X
  obtain ⟨vp1, vk1, rfl, hpa1, hka1⟩ := h1
  have ss1 := (Tm.same_iff x1 x1).2 rfl
  by_cases q1 : (x1.bulk : Int) ≤ (1048576 : Int)
  · have z1 : szr ((1048576 : Int)) x1.bulk = (1048576 : Int) - x1.bulk := by unfold szr; rw [if_pos q1]
    have y1 : decide ((1048576 : Int) - x1.bulk < 0) = false := by simp; omega
    have t1 : x1.bulk ≤ 1048576 := by omega
    go_enter Try.func8, Try.ntmps8
    go_wp2_with fail
    refine (szTerm x1.sz x1 _ _ _ (Nat.le_refl _) ⟨_, _, rfl, hpa1.below KP.mono bl, hka1.below KT.mono bl⟩ (by omega) (by omega)).mono ?_
    rintro e w1 ⟨rfl, hb1⟩
    obtain ⟨hc1, hf1⟩ := bcell hb1
    have hB1 : Below w.heap.size w w1 := bStep bl hb1
    have hp1 := Stp.mk hb1
    have hs1 := hb1.size
    try simp only [World.size_alloc, World.size_setCell, World.size_drew, World.heap_drewN] at hs1
    try simp only [World.size_drew, World.heap_drewN, World.cell?_drew, World.frozen?_drew, World.cell?_drewN, World.frozen?_drewN] at hc1 hf1
    have hz1_0 : w.heap.size < w1.heap.size := by omega
    go_wp2_with fail
    refine (toTerm x1.sz x1 _ _ (Nat.le_refl _) ⟨_, _, rfl, hpa1.below KP.mono bl, hka1.below KT.mono bl⟩ t1).mono ?_
    rintro e w2 ⟨r2, rfl, ho2, hb2⟩
    obtain ⟨hc2, hf2⟩ := bcell hb2
    have hB2 : Below w.heap.size w w2 := bStep bl hb2
    have hp2 := Stp.mk hb2
    have hs2 := hb2.size
    try simp only [World.size_alloc, World.size_setCell, World.size_drew, World.heap_drewN] at hs2
    try simp only [World.size_drew, World.heap_drewN, World.cell?_drew, World.frozen?_drew, World.cell?_drewN, World.frozen?_drewN] at hc2 hf2
    have hz2_0 : w.heap.size < w2.heap.size := by omega
    go_wp2_with fail
    refine (specFreshFor _ _ x0 x1 ((ho2.vt (by omega)).below bl) t1).mono ?_
    rintro e w3 ⟨rfl, hb3⟩
    obtain ⟨hc3, hf3⟩ := bcell hb3
    have hB3 : Below w.heap.size w w3 := bStep bl hb3
    have hp3 := Stp.mk hb3
    have hs3 := hb3.size
    try simp only [World.size_alloc, World.size_setCell, World.size_drew, World.heap_drewN] at hs3
    try simp only [World.size_drew, World.heap_drewN, World.cell?_drew, World.frozen?_drew, World.cell?_drewN, World.frozen?_drewN] at hc3 hf3
    have hz3_0 : w.heap.size < w3.heap.size := by omega
    rw [HX.out]
    go_wp2_with fail
    refine (toTerm x1.sz x1 _ _ (Nat.le_refl _) ⟨_, _, rfl, hpa1.below KP.mono bl, hka1.below KT.mono bl⟩ t1).mono ?_
    rintro e w4 ⟨r4, rfl, ho4, hb4⟩
    obtain ⟨hc4, hf4⟩ := bcell hb4
    have hB4 : Below w.heap.size w w4 := bStep bl hb4
    have hp4 := Stp.mk hb4
    have hs4 := hb4.size
    try simp only [World.size_alloc, World.size_setCell, World.size_drew, World.heap_drewN] at hs4
    try simp only [World.size_drew, World.heap_drewN, World.cell?_drew, World.frozen?_drew, World.cell?_drewN, World.frozen?_drewN] at hc4 hf4
    have hz4_0 : w.heap.size < w4.heap.size := by omega
    obtain ⟨q0_1, q1_1, rfl, hq0_1, hq1_1⟩ := ho4.vt (by omega)
    obtain ⟨A0_1, c0_1, rfl⟩ := hq0_1.slice
    obtain ⟨A1_1, c1_1, rfl⟩ := hq1_1.slice
    go_wp2_with fail
    refine (implFreshFor _ _ x0 x1 ⟨_, _, rfl, hq0_1.below KP.mono bl, hq1_1.below KT.mono bl⟩ t1).mono ?_
    rintro e w5 ⟨rfl, hb5⟩
    obtain ⟨hc5, hf5⟩ := bcell hb5
    have hB5 : Below w.heap.size w w5 := bStep bl hb5
    have hp5 := Stp.mk hb5
    have hs5 := hb5.size
    try simp only [World.size_alloc, World.size_setCell, World.size_drew, World.heap_drewN] at hs5
    try simp only [World.size_drew, World.heap_drewN, World.cell?_drew, World.frozen?_drew, World.cell?_drewN, World.frozen?_drewN] at hc5 hf5
    have hz5_0 : w.heap.size < w5.heap.size := by omega
    have hz5_1 : w4.heap.size < w5.heap.size := by omega
    rw [HX.out]
    go_wp2_with fail
    refine wp_region_plan ([([0, 1], 2), ([], 3)], [4], []) (by kernel_rfl) (by kernel_rfl) ?_
    simp only [wpSegs, opsAt, consAt_some, List.getElem?_cons_succ, List.getElem?_cons_zero]
    repeat (go_big_quiet_step (fail))
    refine wpQuiet_nil ?_
    go_wp2_with fail
    refine (toTerm x1.sz x1 _ _ (Nat.le_refl _) ⟨_, _, rfl, hpa1.below KP.mono bl, hka1.below KT.mono bl⟩ t1).mono ?_
    rintro e w6 ⟨r6, rfl, ho6, hb6⟩
    go_wp2_with fail
    refine nrm_mk ⟨hb6, ?_⟩
    obtain ⟨hc6, hf6⟩ := bcell hb6
    have hB6 : Below w.heap.size w w6 := bStep bl hb6
    have hp6 := Stp.mk hb6
    have hs6 := hb6.size
    try simp only [World.size_alloc, World.size_setCell, World.size_drew, World.heap_drewN] at hs6
    try simp only [World.size_drew, World.heap_drewN, World.cell?_drew, World.frozen?_drew, World.cell?_drewN, World.frozen?_drewN] at hc6 hf6
    have hz6_0 : w.heap.size < w6.heap.size := by omega
    have hz6_1 : w4.heap.size < w6.heap.size := by omega
    repeat (go_big_quiet_step (fail))
    refine wpQuiet_nil ?_
    go_wp2_with fail
    refine (eqTerm x1.sz x1 x1 _ _ _ (Nat.le_refl _) ⟨_, _, rfl, hq0_1.below KP.mono bl, hq1_1.below KT.mono bl⟩ ((ho6.vt (by omega)).below bl)).mono ?_
    rintro e w7 ⟨rfl, hb7⟩
    go_wp2_with fail
    refine nrm_mk ⟨hb7, ?_⟩
    obtain ⟨hc7, hf7⟩ := bcell hb7
    have hB7 : Below w.heap.size w w7 := bStep bl hb7
    have hp7 := Stp.mk hb7
    have hs7 := hb7.size
    try simp only [World.size_alloc, World.size_setCell, World.size_drew, World.heap_drewN] at hs7
    try simp only [World.size_drew, World.heap_drewN, World.cell?_drew, World.frozen?_drew, World.cell?_drewN, World.frozen?_drewN] at hc7 hf7
    have hz7_0 : w.heap.size < w7.heap.size := by omega
    have hz7_1 : w4.heap.size < w7.heap.size := by omega
    repeat (go_big_quiet_step (fail))
    refine wpQuiet_nil ?_
    refine wpList_nil (nrm_mk ?_)
    go_wp2
    go_ret
    exact ⟨rfl, bl⟩
  · have z1 : szr ((1048576 : Int)) x1.bulk = -1 := by unfold szr; rw [if_neg q1]
    go_enter Try.func8, Try.ntmps8
    go_wp2_with fail
    refine (szTerm x1.sz x1 _ _ _ (Nat.le_refl _) ⟨_, _, rfl, hpa1.below KP.mono bl, hka1.below KT.mono bl⟩ (by omega) (by omega)).mono ?_
    rintro e w1 ⟨rfl, hb1⟩
    obtain ⟨hc1, hf1⟩ := bcell hb1
    have hB1 : Below w.heap.size w w1 := bStep bl hb1
    have hp1 := Stp.mk hb1
    have hs1 := hb1.size
    try simp only [World.size_alloc, World.size_setCell, World.size_drew, World.heap_drewN] at hs1
    try simp only [World.size_drew, World.heap_drewN, World.cell?_drew, World.frozen?_drew, World.cell?_drewN, World.frozen?_drewN] at hc1 hf1
    have hz1_0 : w.heap.size < w1.heap.size := by omega
    go_wp2
    go_ret
    exact ⟨rfl, bl⟩
end Go.Proofs.Ytbpbgmildhejoaa.Cx
namespace Go.Proofs.Ytbpbgmildhejoaa.fnExactIsFreshFor
open Go.ChangeShapes Go.WideShapes Go.ChangeAt Go.RowKit
open Base Cx
set_option linter.unusedVariables false
set_option maxRecDepth 100000 in
theorem lifted (os : Os) (started : os.Started) (H : Type) (enc : TypeId × Value → H) :
    ReturnsInHanded {} Try.checked os 8 .any (Rows.fnExactIsFreshForSpec.pre6 enc Try.prog Try.f8 Rows.fnExactIsFreshForRow.domain false) (Rows.fnExactIsFreshForSpec.post enc Try.prog Try.f8 false true false false) := by
  refine returnsInHanded_of_change_sized (C := Try.checked) Base.own started (by kernel_rfl) Try.func8
    (ChangeSpec.witness6 (enc := enc) (C := Try.checked) false ⟨#[], #[.int .i64 0, .agg #[.int .i64 0, .int .i64 0, .slice none 0 0, .slice none 0 0]], []⟩ 8 (by kernel_rfl) (by kernel_rfl) (by kernel_rfl) (by kernel_rfl)) ?_
  intro W base args ds gs before hval0 hW hcnd hsz0 _
  have hsz : (DataW.weightsEach Try.prog (Try.f8.params.toList ++ Rows.fnExactIsFreshForSpec.plain.varTypes Try.prog) (ds ++ gs)).all (· ≤ reachBytes) = true := hsz0
  have hval : ∀ (j : Nat) t v, Try.f8.params[j]? = some t → args[j]? = some v → Value.okWide Try.prog W .any base t v := hval0
  have hW' := hW
  obtain ⟨p, q, hA0, hV, rfl, hfz, hnd⟩ := hW
  have hA : DataW.TrodAll enc Try.prog W 0 (fun _ => true) true Try.f8.params.toList args.toList ds p := hA0
  rw [Try.params8] at hA hval hsz
  obtain ⟨v0, vs0, d0, ds0, p0, q0, hargs, rfl, rfl, h0, r0⟩ := trodAll_cons hA
  obtain ⟨v1, vs1, d1, ds1, p1, q1, rfl, rfl, rfl, h1, r1⟩ := trodAll_cons r0
  obtain ⟨rfl, rfl, rfl⟩ := trodAll_nil r1
  obtain rfl : args = #[v0, v1] := by cases args; simp_all
  obtain ⟨rfl, rfl⟩ := trodVars_none hV
  obtain ⟨x0, rfl, rfl, rfl, k0⟩ := open_int Try.underlying3 (hval 0 3 v0 rfl rfl) h0
  obtain ⟨x1, k1⟩ := rd_Term (hval 1 25 v1 rfl rfl) h1 (fits_of hsz (j := 1) rfl rfl)
  have l1 : ∀ x ∈ p1, x.block < W.heap.size := fun x hx => hW'.lt x (by simp [hx])
  clear hA0 hval0 hsz0 hsz hval hV
  refine (lawIsFreshFor x0 x1 v1 W k1).mono fun e W' ⟨he, bel⟩ => ?_
  subst he
  exact ⟨_, rfl, _, _, _, [], _, [], hW', trodAll_mk1 (shut_bool Try.underlying4 _), (trodAll_cons_mk (shut_int Try.underlying3 k0) (trodAll_cons_mk (Below.trod laidOut (by kernel_rfl) (of_decide_eq_true (by kernel_rfl)) h1 bel l1) trodAll_mk0)), rfl, bel.frame _, fun h => by cases h⟩
theorem over : Rows.fnExactIsFreshForRow.holds Try.pinned (OpenSpec.ofChange Rows.fnExactIsFreshForSpec) :=
  OpenClaim.holds_of_wide 8 Try.f8 rfl rfl rfl rfl rfl rfl rfl ⟨rfl, rfl, rfl, rfl, rfl⟩ rfl rfl rfl rfl rfl (by kernel_rfl) Try.func8 (by kernel_rfl)
    (of_decide_eq_true (by kernel_rfl)) (by unfold Func.isWrapper; first | (rw [if_pos (by decide +kernel)]; kernel_rfl) | (rw [if_neg (by decide +kernel)]; exact ⟨rfl, rfl⟩))
    (fun os started H enc _ => lifted os started H enc)
theorem proved : Rows.FnExactIsFreshForSaid := over
end Go.Proofs.Ytbpbgmildhejoaa.fnExactIsFreshFor
namespace Go.Proofs.Ytbpbgmildhejoaa
theorem fnExactIsFreshFor_holds : Rows.FnExactIsFreshForSaid := fnExactIsFreshFor.proved
#print axioms fnExactIsFreshFor_holds
end Go.Proofs.Ytbpbgmildhejoaa
