/- FnExactFreeAtoms: the law, for every term, and the row's statement. -/
import Derived.Test.YtbpbgmildhejoaaFreeI
import Derived.Test.YtbpbgmildhejoaaMarkT
import Derived.Test.YtbpbgmildhejoaaArgs
import Derived.SizedLaws
namespace Go.Proofs.Ytbpbgmildhejoaa.Cx
open Go.RowKit Base
set_option linter.unusedVariables false
set_option linter.unusedSimpArgs false
set_option maxRecDepth 100000

set_option maxHeartbeats 12800000 in
theorem lawFreeAtoms (x0 : Tm) (v0 : Value) (w : World) (h0 : VT w v0 x0) : Calls Try.prog 10 #[v0] w fun e w' => e = .returned (.bool true) ∧ Below w.heap.size w w' := by
  have hR : (freeO x0).length ≤ 1000000 := freeO_len x0
  generalize hX : freeO x0 = X at hR
  have HX := Lib.hid hX
  clear hX
  have bb := beq_rfl_ X
  obtain ⟨vp0, vk0, rfl, hp0, hk0⟩ := h0
  have ss0 := (Tm.same_iff x0 x0).2 rfl
  by_cases q0 : (x0.bulk : Int) ≤ (1048576 : Int)
  · have z0 : szr ((1048576 : Int)) x0.bulk = (1048576 : Int) - x0.bulk := by unfold szr; rw [if_pos q0]
    have y0 : decide ((1048576 : Int) - x0.bulk < 0) = false := by simp; omega
    have t0 : x0.bulk ≤ 1048576 := by omega
    go_enter Try.func10, Try.ntmps10
    go_wp2_with fail
    refine (szTerm x0.sz x0 _ _ _ (Nat.le_refl _) ⟨_, _, rfl, hp0.below KP.mono bl, hk0.below KT.mono bl⟩ (by omega) (by omega)).mono ?_
    rintro e w1 ⟨rfl, hb1⟩
    obtain ⟨hc1, hf1⟩ := bcell hb1
    have hB1 : Below w.heap.size w w1 := bStep bl hb1
    have hp1 := Stp.mk hb1
    have hs1 := hb1.size
    try simp only [World.size_alloc, World.size_setCell, World.size_drew, World.heap_drewN] at hs1
    try simp only [World.size_drew, World.heap_drewN, World.cell?_drew, World.frozen?_drew, World.cell?_drewN, World.frozen?_drewN] at hc1 hf1
    have hz1_0 : w.heap.size < w1.heap.size := by omega
    go_wp2_with fail
    refine (toTerm x0.sz x0 _ _ (Nat.le_refl _) ⟨_, _, rfl, hp0.below KP.mono bl, hk0.below KT.mono bl⟩ t0).mono ?_
    rintro e w2 ⟨r2, rfl, ho2, hb2⟩
    obtain ⟨hc2, hf2⟩ := bcell hb2
    have hB2 : Below w.heap.size w w2 := bStep bl hb2
    have hp2 := Stp.mk hb2
    have hs2 := hb2.size
    try simp only [World.size_alloc, World.size_setCell, World.size_drew, World.heap_drewN] at hs2
    try simp only [World.size_drew, World.heap_drewN, World.cell?_drew, World.frozen?_drew, World.cell?_drewN, World.frozen?_drewN] at hc2 hf2
    have hz2_0 : w.heap.size < w2.heap.size := by omega
    go_wp2_with fail
    refine (specFreeAtoms _ _ x0 ((ho2.vt (by omega)).below bl) t0).mono ?_
    rintro e w3 ⟨r3, rfl, ho3, hb3⟩
    obtain ⟨hc3, hf3⟩ := bcell hb3
    have hB3 : Below w.heap.size w w3 := bStep bl hb3
    have hp3 := Stp.mk hb3
    have hs3 := hb3.size
    try simp only [World.size_alloc, World.size_setCell, World.size_drew, World.heap_drewN] at hs3
    try simp only [World.size_drew, World.heap_drewN, World.cell?_drew, World.frozen?_drew, World.cell?_drewN, World.frozen?_drewN] at hc3 hf3
    have hz3_0 : w.heap.size < w3.heap.size := by omega
    rw [HX.out] at ho3
    go_wp2_with fail
    refine (toTerm x0.sz x0 _ _ (Nat.le_refl _) ⟨_, _, rfl, hp0.below KP.mono bl, hk0.below KT.mono bl⟩ t0).mono ?_
    rintro e w4 ⟨r4, rfl, ho4, hb4⟩
    obtain ⟨hc4, hf4⟩ := bcell hb4
    have hB4 : Below w.heap.size w w4 := bStep bl hb4
    have hp4 := Stp.mk hb4
    have hs4 := hb4.size
    try simp only [World.size_alloc, World.size_setCell, World.size_drew, World.heap_drewN] at hs4
    try simp only [World.size_drew, World.heap_drewN, World.cell?_drew, World.frozen?_drew, World.cell?_drewN, World.frozen?_drewN] at hc4 hf4
    have hz4_0 : w.heap.size < w4.heap.size := by omega
    obtain ⟨F4, of4, ge4⟩ := ho4.foot
    have up4 := of4.lt
    obtain ⟨q0_0, q1_0, rfl, hq0_0, hq1_0⟩ := ho4.vt (by omega)
    obtain ⟨A0_0, c0_0, rfl⟩ := hq0_0.slice
    obtain ⟨A1_0, c1_0, rfl⟩ := hq1_0.slice
    go_wp2_with fail
    refine (implFreeAtoms _ _ x0 ⟨_, _, rfl, hq0_0.below KP.mono bl, hq1_0.below KT.mono bl⟩ t0).mono ?_
    rintro e w5 ⟨r5, rfl, ho5, hb5⟩
    obtain ⟨hc5, hf5⟩ := bcell hb5
    have hB5 : Below w.heap.size w w5 := bStep bl hb5
    have hp5 := Stp.mk hb5
    have hs5 := hb5.size
    try simp only [World.size_alloc, World.size_setCell, World.size_drew, World.heap_drewN] at hs5
    try simp only [World.size_drew, World.heap_drewN, World.cell?_drew, World.frozen?_drew, World.cell?_drewN, World.frozen?_drewN] at hc5 hf5
    have hz5_0 : w.heap.size < w5.heap.size := by omega
    have hz5_1 : w4.heap.size < w5.heap.size := by omega
    rw [HX.out] at ho5
    go_wp2_with fail
    refine (eqIntS _ _ _ X X ((OwI.keep ho5 bl).sl (by omega)) ((OwI.keep ho3 bl).sl (by omega))).mono ?_
    rintro e w6 ⟨rfl, hb6⟩
    obtain ⟨hc6, hf6⟩ := bcell hb6
    have hB6 : Below w.heap.size w w6 := bStep bl hb6
    have hp6 := Stp.mk hb6
    have hs6 := hb6.size
    try simp only [World.size_alloc, World.size_setCell, World.size_drew, World.heap_drewN] at hs6
    try simp only [World.size_drew, World.heap_drewN, World.cell?_drew, World.frozen?_drew, World.cell?_drewN, World.frozen?_drewN] at hc6 hf6
    have hz6_0 : w.heap.size < w6.heap.size := by omega
    have hz6_1 : w4.heap.size < w6.heap.size := by omega
    go_wp2_with fail
    refine wp_region_plan ([([0, 1], 2), ([], 3)], [4], []) (by kernel_rfl) (by kernel_rfl) ?_
    simp only [wpSegs, opsAt, consAt_some, List.getElem?_cons_succ, List.getElem?_cons_zero]
    repeat (go_big_quiet_step (fail))
    refine wpQuiet_nil ?_
    go_wp2_with fail
    refine (toTerm x0.sz x0 _ _ (Nat.le_refl _) ⟨_, _, rfl, hp0.below KP.mono bl, hk0.below KT.mono bl⟩ t0).mono ?_
    rintro e w7 ⟨r7, rfl, ho7, hb7⟩
    go_wp2_with fail
    refine nrm_mk ⟨hb7, ?_⟩
    obtain ⟨hc7, hf7⟩ := bcell hb7
    have hB7 : Below w.heap.size w w7 := bStep bl hb7
    have hp7 := Stp.mk hb7
    have hs7 := hb7.size
    try simp only [World.size_alloc, World.size_setCell, World.size_drew, World.heap_drewN] at hs7
    try simp only [World.size_drew, World.heap_drewN, World.cell?_drew, World.frozen?_drew, World.cell?_drewN, World.frozen?_drewN] at hc7 hf7
    have hz7_0 : w.heap.size < w7.heap.size := by omega
    have hz7_1 : w4.heap.size < w7.heap.size := by omega
    repeat (go_big_quiet_step (fail))
    refine wpQuiet_nil ?_
    go_wp2_with fail
    refine (eqTerm x0.sz x0 x0 _ _ _ (Nat.le_refl _) ⟨_, _, rfl, hq0_0.below KP.mono bl, hq1_0.below KT.mono bl⟩ ((ho7.vt (by omega)).below bl)).mono ?_
    rintro e w8 ⟨rfl, hb8⟩
    go_wp2_with fail
    refine nrm_mk ⟨hb8, ?_⟩
    obtain ⟨hc8, hf8⟩ := bcell hb8
    have hB8 : Below w.heap.size w w8 := bStep bl hb8
    have hp8 := Stp.mk hb8
    have hs8 := hb8.size
    try simp only [World.size_alloc, World.size_setCell, World.size_drew, World.heap_drewN] at hs8
    try simp only [World.size_drew, World.heap_drewN, World.cell?_drew, World.frozen?_drew, World.cell?_drewN, World.frozen?_drewN] at hc8 hf8
    have hz8_0 : w.heap.size < w8.heap.size := by omega
    have hz8_1 : w4.heap.size < w8.heap.size := by omega
    repeat (go_big_quiet_step (fail))
    refine wpQuiet_nil ?_
    refine wpList_nil (nrm_mk ?_)
    have aS_0 : ∀ g ∈ blk r3, g ∉ F4 := fun g h1 h2 => Nat.lt_irrefl g (Nat.lt_of_lt_of_le ((fun g hg => (owns_blk_lt ho3 g hg).2) g h1) (Nat.le_trans (show Below w3.heap.size w3 _ from bl).size (ge4 g h2)))
    have a0_S : ∀ g ∈ F4, g ∉ blk r3 := fun g h1 h2 => aS_0 g h2 h1
    have aS_G : ∀ g ∈ blk r3, g ∉ blk r5 := fun g h1 h2 => Nat.lt_irrefl g (Nat.lt_of_lt_of_le ((fun g hg => (owns_blk_lt ho3 g hg).2) g h1) (Nat.le_trans (show Below w3.heap.size w3 _ from bl).size ((fun g hg => (owns_blk_lt ho5 g hg).1) g h2)))
    have aG_S : ∀ g ∈ blk r5, g ∉ blk r3 := fun g h1 h2 => aS_G g h2 h1
    have a0_G : ∀ g ∈ F4, g ∉ blk r5 := fun g h1 h2 => Nat.lt_irrefl g (Nat.lt_of_lt_of_le (up4 g h1) (Nat.le_trans (show Below w4.heap.size w4 _ from bl).size ((fun g hg => (owns_blk_lt ho5 g hg).1) g h2)))
    have aG_0 : ∀ g ∈ blk r5, g ∉ F4 := fun g h1 h2 => a0_G g h2 h1
    go_wp2_with fail
    refine (markTermG x0 _ F4 _ _ w.heap.size (OwTF.keep of4 bl) (fun g hg => Nat.le_trans (show Below w.heap.size w _ from bl).size (ge4 g hg)) (show Below w.heap.size w _ from bl).size (by omega) (by omega) (by omega)).mono ?_
    rintro e w9 ⟨rfl, ho9, hb9, hx9⟩
    obtain ⟨hc9, hf9⟩ := bcellB hb9
    have hp9 : Stp w w9 := Below.trans bl hb9
    have hs9 := hb9.size
    try simp only [World.size_alloc, World.size_setCell, World.size_drew, World.heap_drewN] at hs9
    try simp only [World.size_drew, World.heap_drewN, World.cell?_drew, World.frozen?_drew, World.cell?_drewN, World.frozen?_drewN] at hc9 hf9
    have hz9_0 : w.heap.size < w9.heap.size := by omega
    have hz9_1 : w4.heap.size < w9.heap.size := by omega
    have hc9_0 : ∀ o, w9.cell? ⟨w.heap.size, o, none⟩ = _ := fun o => offCell hx9 (p := ⟨w.heap.size, o, none⟩) (by first | omega | (simp; omega)) (fun h => by have h1 := up4 (w.heap.size) h; have h2 := ge4 (w.heap.size) h; (try simp at h2); omega)
    have hc9_1 : ∀ o, w9.cell? ⟨w4.heap.size, o, none⟩ = _ := fun o => offCell hx9 (p := ⟨w4.heap.size, o, none⟩) (by first | omega | (simp; omega)) (fun h => by have h1 := up4 (w4.heap.size) h; have h2 := ge4 (w4.heap.size) h; (try simp at h2); omega)
    have hS_9 := owns_off (OwI.keep ho3 bl) hx9 aS_0
    have hG_9 := owns_off (OwI.keep ho5 bl) hx9 aG_0
    have kk : ¬ (1 : Int) + 2 * (x0.bulk : Int) < 0 := by omega
    go_wp2_with fail
    refine (eqIntS _ _ _ X X ((OwI.keep hG_9 bl).sl (by omega)) ((OwI.keep hS_9 bl).sl (by omega))).mono ?_
    rintro e w10 ⟨rfl, hb10⟩
    obtain ⟨hc10, hf10⟩ := bcell hb10
    have hB10 : Below w.heap.size w w10 := bStep bl hb10
    have hp10 := Stp.mk hb10
    have hs10 := hb10.size
    try simp only [World.size_alloc, World.size_setCell, World.size_drew, World.heap_drewN] at hs10
    try simp only [World.size_drew, World.heap_drewN, World.cell?_drew, World.frozen?_drew, World.cell?_drewN, World.frozen?_drewN] at hc10 hf10
    have hz10_0 : w.heap.size < w10.heap.size := by omega
    have hz10_1 : w4.heap.size < w10.heap.size := by omega
    go_wp2_with fail
    refine (markIntG 3 w.heap.size _ _ X 1 (owns_lower (OwI.keep hG_9 bl) (show Below w.heap.size w _ from bl).size) (show Below w.heap.size w _ from bl).size (by omega) (by omega) (by omega)).mono ?_
    rintro e w11 ⟨rfl, ho11, hb11, hx11⟩
    obtain ⟨hc11, hf11⟩ := bcellB hb11
    have hp11 : Stp w w11 := Below.trans bl hb11
    have hs11 := hb11.size
    try simp only [World.size_alloc, World.size_setCell, World.size_drew, World.heap_drewN] at hs11
    try simp only [World.size_drew, World.heap_drewN, World.cell?_drew, World.frozen?_drew, World.cell?_drewN, World.frozen?_drewN] at hc11 hf11
    have hz11_0 : w.heap.size < w11.heap.size := by omega
    have hz11_1 : w4.heap.size < w11.heap.size := by omega
    have hc11_0 : ∀ o, w11.cell? ⟨w.heap.size, o, none⟩ = _ := fun o => offCell hx11 (p := ⟨w.heap.size, o, none⟩) (by first | omega | (simp; omega)) (fun h => by have h1 := (owns_blk_lt ho5 (w.heap.size) h).1; (try simp at h1); omega)
    have hc11_1 : ∀ o, w11.cell? ⟨w4.heap.size, o, none⟩ = _ := fun o => offCell hx11 (p := ⟨w4.heap.size, o, none⟩) (by first | omega | (simp; omega)) (fun h => by have h1 := (owns_blk_lt ho5 (w4.heap.size) h).1; (try simp at h1); omega)
    have hS_11 := owns_off (OwI.keep hS_9 bl) hx11 aS_G
    go_wp2_with fail
    refine (heldIntS _ _ X.length 1 ((OwI.keep ho11 bl).sl (by simp; omega)) (by omega) (by omega)).mono ?_
    rintro e w12 ⟨rfl, hb12⟩
    obtain ⟨hc12, hf12⟩ := bcell hb12
    have hB12 : Below w.heap.size w w12 := bStep bl hb12
    have hp12 := Stp.mk hb12
    have hs12 := hb12.size
    try simp only [World.size_alloc, World.size_setCell, World.size_drew, World.heap_drewN] at hs12
    try simp only [World.size_drew, World.heap_drewN, World.cell?_drew, World.frozen?_drew, World.cell?_drewN, World.frozen?_drewN] at hc12 hf12
    have hz12_0 : w.heap.size < w12.heap.size := by omega
    have hz12_1 : w4.heap.size < w12.heap.size := by omega
    have n1 : ¬ (1 + (X.length : Int)) < 0 := by omega
    have n2 := bne_rfl_ (1 + (X.length : Int))
    go_wp2_with fail
    refine (toTerm x0.sz x0 _ _ (Nat.le_refl _) ⟨_, _, rfl, hp0.below KP.mono bl, hk0.below KT.mono bl⟩ t0).mono ?_
    rintro e w13 ⟨r13, rfl, ho13, hb13⟩
    obtain ⟨hc13, hf13⟩ := bcell hb13
    have hB13 : Below w.heap.size w w13 := bStep bl hb13
    have hp13 := Stp.mk hb13
    have hs13 := hb13.size
    try simp only [World.size_alloc, World.size_setCell, World.size_drew, World.heap_drewN] at hs13
    try simp only [World.size_drew, World.heap_drewN, World.cell?_drew, World.frozen?_drew, World.cell?_drewN, World.frozen?_drewN] at hc13 hf13
    have hz13_0 : w.heap.size < w13.heap.size := by omega
    have hz13_1 : w4.heap.size < w13.heap.size := by omega
    go_wp2_with fail
    refine (implFreeAtoms _ _ x0 ((ho13.vt (by omega)).below bl) t0).mono ?_
    rintro e w14 ⟨r14, rfl, ho14, hb14⟩
    obtain ⟨hc14, hf14⟩ := bcell hb14
    have hB14 : Below w.heap.size w w14 := bStep bl hb14
    have hp14 := Stp.mk hb14
    have hs14 := hb14.size
    try simp only [World.size_alloc, World.size_setCell, World.size_drew, World.heap_drewN] at hs14
    try simp only [World.size_drew, World.heap_drewN, World.cell?_drew, World.frozen?_drew, World.cell?_drewN, World.frozen?_drewN] at hc14 hf14
    have hz14_0 : w.heap.size < w14.heap.size := by omega
    have hz14_1 : w4.heap.size < w14.heap.size := by omega
    rw [HX.out] at ho14
    go_wp2_with fail
    refine (eqIntS _ _ _ X X ((OwI.keep ho14 bl).sl (by omega)) ((OwI.keep hS_11 bl).sl (by omega))).mono ?_
    rintro e w15 ⟨rfl, hb15⟩
    obtain ⟨hc15, hf15⟩ := bcell hb15
    have hB15 : Below w.heap.size w w15 := bStep bl hb15
    have hp15 := Stp.mk hb15
    have hs15 := hb15.size
    try simp only [World.size_alloc, World.size_setCell, World.size_drew, World.heap_drewN] at hs15
    try simp only [World.size_drew, World.heap_drewN, World.cell?_drew, World.frozen?_drew, World.cell?_drewN, World.frozen?_drewN] at hc15 hf15
    have hz15_0 : w.heap.size < w15.heap.size := by omega
    have hz15_1 : w4.heap.size < w15.heap.size := by omega
    go_wp2_with fail
    refine (heldIntS _ _ X.length 1 ((OwI.keep ho11 bl).sl (by simp; omega)) (by omega) (by omega)).mono ?_
    rintro e w16 ⟨rfl, hb16⟩
    obtain ⟨hc16, hf16⟩ := bcell hb16
    have hB16 : Below w.heap.size w w16 := bStep bl hb16
    have hp16 := Stp.mk hb16
    have hs16 := hb16.size
    try simp only [World.size_alloc, World.size_setCell, World.size_drew, World.heap_drewN] at hs16
    try simp only [World.size_drew, World.heap_drewN, World.cell?_drew, World.frozen?_drew, World.cell?_drewN, World.frozen?_drewN] at hc16 hf16
    have hz16_0 : w.heap.size < w16.heap.size := by omega
    have hz16_1 : w4.heap.size < w16.heap.size := by omega
    go_wp2
    go_ret
    exact ⟨rfl, bl⟩
  · have z0 : szr ((1048576 : Int)) x0.bulk = -1 := by unfold szr; rw [if_neg q0]
    go_enter Try.func10, Try.ntmps10
    go_wp2_with fail
    refine (szTerm x0.sz x0 _ _ _ (Nat.le_refl _) ⟨_, _, rfl, hp0.below KP.mono bl, hk0.below KT.mono bl⟩ (by omega) (by omega)).mono ?_
    rintro e w1 ⟨rfl, hb1⟩
    obtain ⟨hc1, hf1⟩ := bcell hb1
    have hB1 : Below w.heap.size w w1 := bStep bl hb1
    have hp1 := Stp.mk hb1
    have hs1 := hb1.size
    try simp only [World.size_alloc, World.size_setCell, World.size_drew, World.heap_drewN] at hs1
    try simp only [World.size_drew, World.heap_drewN, World.cell?_drew, World.frozen?_drew, World.cell?_drewN, World.frozen?_drewN] at hc1 hf1
    have hz1_0 : w.heap.size < w1.heap.size := by omega
    go_wp2
    go_ret
    exact ⟨rfl, bl⟩
end Go.Proofs.Ytbpbgmildhejoaa.Cx
namespace Go.Proofs.Ytbpbgmildhejoaa.fnExactFreeAtoms
open Go.ChangeShapes Go.WideShapes Go.ChangeAt Go.RowKit
open Base Cx
set_option linter.unusedVariables false
set_option maxRecDepth 100000 in
theorem lifted (os : Os) (started : os.Started) (H : Type) (enc : TypeId × Value → H) :
    ReturnsInHanded {} Try.checked os 10 .any (Rows.fnExactFreeAtomsSpec.pre6 enc Try.prog Try.f10 Rows.fnExactFreeAtomsRow.domain false) (Rows.fnExactFreeAtomsSpec.post enc Try.prog Try.f10 false true false false) := by
  refine returnsInHanded_of_change_sized (C := Try.checked) Base.own started (by kernel_rfl) Try.func10
    (ChangeSpec.witness6 (enc := enc) (C := Try.checked) false ⟨#[], #[.agg #[.int .i64 0, .int .i64 0, .slice none 0 0, .slice none 0 0]], []⟩ 8 (by kernel_rfl) (by kernel_rfl) (by kernel_rfl) (by kernel_rfl)) ?_
  intro W base args ds gs before hval0 hW hcnd hsz0 _
  have hsz : (DataW.weightsEach Try.prog (Try.f10.params.toList ++ Rows.fnExactFreeAtomsSpec.plain.varTypes Try.prog) (ds ++ gs)).all (· ≤ reachBytes) = true := hsz0
  have hval : ∀ (j : Nat) t v, Try.f10.params[j]? = some t → args[j]? = some v → Value.okWide Try.prog W .any base t v := hval0
  have hW' := hW
  obtain ⟨p, q, hA0, hV, rfl, hfz, hnd⟩ := hW
  have hA : DataW.TrodAll enc Try.prog W 0 (fun _ => true) true Try.f10.params.toList args.toList ds p := hA0
  rw [Try.params10] at hA hval hsz
  obtain ⟨v0, vs0, d0, ds0, p0, q0, hargs, rfl, rfl, h0, r0⟩ := trodAll_cons hA
  obtain ⟨rfl, rfl, rfl⟩ := trodAll_nil r0
  obtain rfl : args = #[v0] := by cases args; simp_all
  obtain ⟨rfl, rfl⟩ := trodVars_none hV
  obtain ⟨x0, k0⟩ := rd_Term (hval 0 25 v0 rfl rfl) h0 (fits_of hsz (j := 0) rfl rfl)
  have l0 : ∀ x ∈ p0, x.block < W.heap.size := fun x hx => hW'.lt x (by simp [hx])
  clear hA0 hval0 hsz0 hsz hval hV
  refine (lawFreeAtoms x0 v0 W k0).mono fun e W' ⟨he, bel⟩ => ?_
  subst he
  exact ⟨_, rfl, _, _, _, [], _, [], hW', trodAll_mk1 (shut_bool Try.underlying4 _), (trodAll_cons_mk (Below.trod laidOut (by kernel_rfl) (of_decide_eq_true (by kernel_rfl)) h0 bel l0) trodAll_mk0), rfl, bel.frame _, fun h => by cases h⟩
theorem over : Rows.fnExactFreeAtomsRow.holds Try.pinned (OpenSpec.ofChange Rows.fnExactFreeAtomsSpec) :=
  OpenClaim.holds_of_wide 10 Try.f10 rfl rfl rfl rfl rfl rfl rfl ⟨rfl, rfl, rfl, rfl, rfl⟩ rfl rfl rfl rfl rfl (by kernel_rfl) Try.func10 (by kernel_rfl)
    (of_decide_eq_true (by kernel_rfl)) (by unfold Func.isWrapper; first | (rw [if_pos (by decide +kernel)]; kernel_rfl) | (rw [if_neg (by decide +kernel)]; exact ⟨rfl, rfl⟩))
    (fun os started H enc _ => lifted os started H enc)
theorem proved : Rows.FnExactFreeAtomsSaid := over
end Go.Proofs.Ytbpbgmildhejoaa.fnExactFreeAtoms
namespace Go.Proofs.Ytbpbgmildhejoaa
theorem fnExactFreeAtoms_holds : Rows.FnExactFreeAtomsSaid := fnExactFreeAtoms.proved
#print axioms fnExactFreeAtoms_holds
end Go.Proofs.Ytbpbgmildhejoaa
