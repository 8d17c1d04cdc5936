/- FnExactComposePermutations: the law, for every two lists of pairs, and the row's statement. -/
import Derived.Test.YtmeaghkpojiniaaTop
import Derived.Test.YtmeaghkpojiniaaMark
import Derived.Test.YtmeaghkpojiniaaArgs
import Derived.SizedLaws
namespace Go.Proofs.Ytmeaghkpojiniaa.Base
theorem compO_len (p q : List (Int × Int)) : (compO p q).length ≤ 1000000 := by
  unfold compO
  split
  · rename_i h; simp only [compOk, Bool.and_eq_true, decide_eq_true_eq] at h; omega
  · simp
end Go.Proofs.Ytmeaghkpojiniaa.Base
namespace Go.Proofs.Ytmeaghkpojiniaa.Cx
open Go.RowKit Base
set_option linter.unusedVariables false
set_option linter.unusedSimpArgs false
set_option maxRecDepth 100000
set_option maxHeartbeats 6400000 in
theorem lawComposePermutations (x0 : List (Int × Int)) (x1 : List (Int × Int)) (v0 : Value) (v1 : Value) (w : World) (h0 : SlP w v0 x0) (h1 : SlP w v1 x1) : Calls Try.prog 8 #[v0, v1] w fun e w' => e = .returned (.bool true) ∧ Below w.heap.size w w' := by
  have hR : (compO x0 x1).length ≤ 1000000 := compO_len x0 x1
  generalize hX : compO x0 x1 = X at hR
  have HX := Lib.hid hX
  clear hX
  have bb := beq_rfl_ X
  generalize hK : compOk x0 x1 = OK
  have HK := Lib.hid hK
  clear hK
  have ob := bne_rfl_ OK
  have b0 := beq_rfl_ x0
  have l0 := h0.len
  have b1 := beq_rfl_ x1
  have l1 := h1.len
  by_cases q0 : (x0.length : Int) ≤ (1048576 : Int)
  · have z0 : szr ((1048576 : Int)) x0.length = (1048576 : Int) - x0.length := by unfold szr; rw [if_pos q0]
    have y0 : decide ((1048576 : Int) - x0.length < 0) = false := by simp; omega
    have t0 : x0.length ≤ 1048576 := by omega
    by_cases q1 : (x1.length : Int) ≤ (1048576 : Int) - x0.length
    · have z1 : szr ((1048576 : Int) - x0.length) x1.length = (1048576 : Int) - x0.length - x1.length := by unfold szr; rw [if_pos q1]
      have y1 : decide ((1048576 : Int) - x0.length - x1.length < 0) = false := by simp; omega
      have t1 : x1.length ≤ 1048576 := by omega
      go_enter Try.func8, Try.ntmps8
      go_wp2_with fail
      refine (szPairS _ v0 x0 _ (h0.below KP.mono bl) (by omega) (by omega)).mono ?_
      rintro e w1 ⟨rfl, hb1⟩
      obtain ⟨hc1, hf1⟩ := bcell hb1
      have hB1 : Below w.heap.size w w1 := bStep bl hb1
      have hp1 := Stp.mk hb1
      have hs1 := hb1.size
      try simp only [World.size_alloc, World.size_setCell, World.size_drew, World.heap_drewN] at hs1
      try simp only [World.size_drew, World.heap_drewN, World.cell?_drew, World.frozen?_drew, World.cell?_drewN, World.frozen?_drewN] at hc1 hf1
      go_wp2_with fail
      refine (szPairS _ v1 x1 _ (h1.below KP.mono bl) (by omega) (by omega)).mono ?_
      rintro e w2 ⟨rfl, hb2⟩
      obtain ⟨hc2, hf2⟩ := bcell hb2
      have hB2 : Below w.heap.size w w2 := bStep bl hb2
      have hp2 := Stp.mk hb2
      have hs2 := hb2.size
      try simp only [World.size_alloc, World.size_setCell, World.size_drew, World.heap_drewN] at hs2
      try simp only [World.size_drew, World.heap_drewN, World.cell?_drew, World.frozen?_drew, World.cell?_drewN, World.frozen?_drewN] at hc2 hf2
      go_wp2_with fail
      refine (toPairS _ v0 x0 (h0.below KP.mono bl)).mono ?_
      rintro e w3 ⟨r3, rfl, ho3, hb3⟩
      obtain ⟨hc3, hf3⟩ := bcell hb3
      have hB3 : Below w.heap.size w w3 := bStep bl hb3
      have hp3 := Stp.mk hb3
      have hs3 := hb3.size
      try simp only [World.size_alloc, World.size_setCell, World.size_drew, World.heap_drewN] at hs3
      try simp only [World.size_drew, World.heap_drewN, World.cell?_drew, World.frozen?_drew, World.cell?_drewN, World.frozen?_drewN] at hc3 hf3
      go_wp2_with fail
      refine (toPairS _ v1 x1 (h1.below KP.mono bl)).mono ?_
      rintro e w4 ⟨r4, rfl, ho4, hb4⟩
      obtain ⟨hc4, hf4⟩ := bcell hb4
      have hB4 : Below w.heap.size w w4 := bStep bl hb4
      have hp4 := Stp.mk hb4
      have hs4 := hb4.size
      try simp only [World.size_alloc, World.size_setCell, World.size_drew, World.heap_drewN] at hs4
      try simp only [World.size_drew, World.heap_drewN, World.cell?_drew, World.frozen?_drew, World.cell?_drewN, World.frozen?_drewN] at hc4 hf4
      go_wp2_with fail
      refine (specCompose _ r3 r4 x0 x1 ((OwP.keep ho3 bl).sl (by omega)) ((OwP.keep ho4 bl).sl (by omega))).mono ?_
      rintro e w5 ⟨r5, rfl, ho5, hb5⟩
      obtain ⟨hc5, hf5⟩ := bcell hb5
      have hB5 : Below w.heap.size w w5 := bStep bl hb5
      have hp5 := Stp.mk hb5
      have hs5 := hb5.size
      try simp only [World.size_alloc, World.size_setCell, World.size_drew, World.heap_drewN] at hs5
      try simp only [World.size_drew, World.heap_drewN, World.cell?_drew, World.frozen?_drew, World.cell?_drewN, World.frozen?_drewN] at hc5 hf5
      rw [HX.out] at ho5
      rw [HK.out]
      go_wp2_with fail
      refine (toPairS _ v0 x0 (h0.below KP.mono bl)).mono ?_
      rintro e w6 ⟨r6, rfl, ho6, hb6⟩
      obtain ⟨hc6, hf6⟩ := bcell hb6
      have hB6 : Below w.heap.size w w6 := bStep bl hb6
      have hp6 := Stp.mk hb6
      have hs6 := hb6.size
      try simp only [World.size_alloc, World.size_setCell, World.size_drew, World.heap_drewN] at hs6
      try simp only [World.size_drew, World.heap_drewN, World.cell?_drew, World.frozen?_drew, World.cell?_drewN, World.frozen?_drewN] at hc6 hf6
      go_wp2_with fail
      refine (toPairS _ v1 x1 (h1.below KP.mono bl)).mono ?_
      rintro e w7 ⟨r7, rfl, ho7, hb7⟩
      obtain ⟨hc7, hf7⟩ := bcell hb7
      have hB7 : Below w.heap.size w w7 := bStep bl hb7
      have hp7 := Stp.mk hb7
      have hs7 := hb7.size
      try simp only [World.size_alloc, World.size_setCell, World.size_drew, World.heap_drewN] at hs7
      try simp only [World.size_drew, World.heap_drewN, World.cell?_drew, World.frozen?_drew, World.cell?_drewN, World.frozen?_drewN] at hc7 hf7
      go_wp2_with fail
      refine (implCompose _ r6 r7 x0 x1 ((OwP.keep ho6 bl).sl (by omega)) ((OwP.keep ho7 bl).sl (by omega))).mono ?_
      rintro e w8 ⟨r8, rfl, ho8, hb8⟩
      obtain ⟨hc8, hf8⟩ := bcell hb8
      have hB8 : Below w.heap.size w w8 := bStep bl hb8
      have hp8 := Stp.mk hb8
      have hs8 := hb8.size
      try simp only [World.size_alloc, World.size_setCell, World.size_drew, World.heap_drewN] at hs8
      try simp only [World.size_drew, World.heap_drewN, World.cell?_drew, World.frozen?_drew, World.cell?_drewN, World.frozen?_drewN] at hc8 hf8
      rw [HX.out] at ho8
      rw [HK.out]
      go_wp2_with fail
      refine (eqPairS _ _ _ X X ((OwP.keep ho8 bl).sl (by omega)) ((OwP.keep ho5 bl).sl (by omega))).mono ?_
      rintro e w9 ⟨rfl, hb9⟩
      obtain ⟨hc9, hf9⟩ := bcell hb9
      have hB9 : Below w.heap.size w w9 := bStep bl hb9
      have hp9 := Stp.mk hb9
      have hs9 := hb9.size
      try simp only [World.size_alloc, World.size_setCell, World.size_drew, World.heap_drewN] at hs9
      try simp only [World.size_drew, World.heap_drewN, World.cell?_drew, World.frozen?_drew, World.cell?_drewN, World.frozen?_drewN] at hc9 hf9
      go_wp2_with fail
      refine (toPairS _ v0 x0 (h0.below KP.mono bl)).mono ?_
      rintro e w10 ⟨r10, rfl, ho10, hb10⟩
      obtain ⟨hc10, hf10⟩ := bcell hb10
      have hB10 : Below w.heap.size w w10 := bStep bl hb10
      have hp10 := Stp.mk hb10
      have hs10 := hb10.size
      try simp only [World.size_alloc, World.size_setCell, World.size_drew, World.heap_drewN] at hs10
      try simp only [World.size_drew, World.heap_drewN, World.cell?_drew, World.frozen?_drew, World.cell?_drewN, World.frozen?_drewN] at hc10 hf10
      go_wp2_with fail
      refine (eqPairS _ _ _ x0 x0 ((OwP.keep ho6 bl).sl (by omega)) ((OwP.keep ho10 bl).sl (by omega))).mono ?_
      rintro e w11 ⟨rfl, hb11⟩
      obtain ⟨hc11, hf11⟩ := bcell hb11
      have hB11 : Below w.heap.size w w11 := bStep bl hb11
      have hp11 := Stp.mk hb11
      have hs11 := hb11.size
      try simp only [World.size_alloc, World.size_setCell, World.size_drew, World.heap_drewN] at hs11
      try simp only [World.size_drew, World.heap_drewN, World.cell?_drew, World.frozen?_drew, World.cell?_drewN, World.frozen?_drewN] at hc11 hf11
      go_wp2_with fail
      refine (toPairS _ v1 x1 (h1.below KP.mono bl)).mono ?_
      rintro e w12 ⟨r12, rfl, ho12, hb12⟩
      obtain ⟨hc12, hf12⟩ := bcell hb12
      have hB12 : Below w.heap.size w w12 := bStep bl hb12
      have hp12 := Stp.mk hb12
      have hs12 := hb12.size
      try simp only [World.size_alloc, World.size_setCell, World.size_drew, World.heap_drewN] at hs12
      try simp only [World.size_drew, World.heap_drewN, World.cell?_drew, World.frozen?_drew, World.cell?_drewN, World.frozen?_drewN] at hc12 hf12
      go_wp2_with fail
      refine (eqPairS _ _ _ x1 x1 ((OwP.keep ho7 bl).sl (by omega)) ((OwP.keep ho12 bl).sl (by omega))).mono ?_
      rintro e w13 ⟨rfl, hb13⟩
      obtain ⟨hc13, hf13⟩ := bcell hb13
      have hB13 : Below w.heap.size w w13 := bStep bl hb13
      have hp13 := Stp.mk hb13
      have hs13 := hb13.size
      try simp only [World.size_alloc, World.size_setCell, World.size_drew, World.heap_drewN] at hs13
      try simp only [World.size_drew, World.heap_drewN, World.cell?_drew, World.frozen?_drew, World.cell?_drewN, World.frozen?_drewN] at hc13 hf13
      have aS0 := owns_apart ho5 ho6 (show Below w5.heap.size w5 _ from bl).size
      have aG0 := owns_apart' ho6 ho8 (show Below w6.heap.size w6 _ from bl).size
      have aA0_1 := owns_apart' ho6 ho7 (show Below w6.heap.size w6 _ from bl).size
      have aS1 := owns_apart ho5 ho7 (show Below w5.heap.size w5 _ from bl).size
      have aG1 := owns_apart' ho7 ho8 (show Below w7.heap.size w7 _ from bl).size
      have aSG := owns_apart ho5 ho8 (show Below w5.heap.size w5 _ from bl).size
      go_wp2_with fail
      refine (markPairG 51 w.heap.size _ _ x0 _ (owns_lower (OwP.keep ho6 bl) (show Below w.heap.size w _ from bl).size) (show Below w.heap.size w _ from bl).size (by omega) (by omega) (by omega)).mono ?_
      rintro e w14 ⟨rfl, ho14, hb14, hx14⟩
      obtain ⟨hc14, hf14⟩ := bcellB hb14
      have hp14 : Stp w w14 := Below.trans bl hb14
      have hs14 := hb14.size
      try simp only [World.size_alloc, World.size_setCell, World.size_drew, World.heap_drewN] at hs14
      try simp only [World.size_drew, World.heap_drewN, World.cell?_drew, World.frozen?_drew, World.cell?_drewN, World.frozen?_drewN] at hc14 hf14
      have hS14 := owns_off (OwP.keep ho5 bl) hx14 aS0
      have hG14 := owns_off (OwP.keep ho8 bl) hx14 aG0
      have hA1_14 := owns_off (OwP.keep ho7 bl) hx14 aA0_1
      go_wp2_with fail
      refine (markPairG 51 w.heap.size _ _ x1 _ (owns_lower (OwP.keep hA1_14 bl) (show Below w.heap.size w _ from bl).size) (show Below w.heap.size w _ from bl).size (by omega) (by omega) (by omega)).mono ?_
      rintro e w15 ⟨rfl, ho15, hb15, hx15⟩
      obtain ⟨hc15, hf15⟩ := bcellB hb15
      have hp15 : Stp w w15 := Below.trans bl hb15
      have hs15 := hb15.size
      try simp only [World.size_alloc, World.size_setCell, World.size_drew, World.heap_drewN] at hs15
      try simp only [World.size_drew, World.heap_drewN, World.cell?_drew, World.frozen?_drew, World.cell?_drewN, World.frozen?_drewN] at hc15 hf15
      have hS15 := owns_off (OwP.keep hS14 bl) hx15 aS1
      have hG15 := owns_off (OwP.keep hG14 bl) hx15 aG1
      have kk : ¬ (1 : Int) + 2 * (x0.length : Int) + 2 * (x1.length : Int) < 0 := by omega
      go_wp2_with fail
      refine (eqPairS _ _ _ X X ((OwP.keep hG15 bl).sl (by omega)) ((OwP.keep hS15 bl).sl (by omega))).mono ?_
      rintro e w16 ⟨rfl, hb16⟩
      obtain ⟨hc16, hf16⟩ := bcell hb16
      have hB16 : Below w.heap.size w w16 := bStep bl hb16
      have hp16 := Stp.mk hb16
      have hs16 := hb16.size
      try simp only [World.size_alloc, World.size_setCell, World.size_drew, World.heap_drewN] at hs16
      try simp only [World.size_drew, World.heap_drewN, World.cell?_drew, World.frozen?_drew, World.cell?_drewN, World.frozen?_drewN] at hc16 hf16
      go_wp2_with fail
      refine (markPairG 51 w.heap.size _ _ X 1 (owns_lower (OwP.keep hG15 bl) (show Below w.heap.size w _ from bl).size) (show Below w.heap.size w _ from bl).size (by omega) (by omega) (by omega)).mono ?_
      rintro e w17 ⟨rfl, ho17, hb17, hx17⟩
      obtain ⟨hc17, hf17⟩ := bcellB hb17
      have hp17 : Stp w w17 := Below.trans bl hb17
      have hs17 := hb17.size
      try simp only [World.size_alloc, World.size_setCell, World.size_drew, World.heap_drewN] at hs17
      try simp only [World.size_drew, World.heap_drewN, World.cell?_drew, World.frozen?_drew, World.cell?_drewN, World.frozen?_drewN] at hc17 hf17
      have hS17 := owns_off (OwP.keep hS15 bl) hx17 aSG
      go_wp2_with fail
      refine (heldPairS _ _ X.length 1 ((OwP.keep ho17 bl).sl (by simp; omega)) (by omega) (by omega)).mono ?_
      rintro e w18 ⟨rfl, hb18⟩
      obtain ⟨hc18, hf18⟩ := bcell hb18
      have hB18 : Below w.heap.size w w18 := bStep bl hb18
      have hp18 := Stp.mk hb18
      have hs18 := hb18.size
      try simp only [World.size_alloc, World.size_setCell, World.size_drew, World.heap_drewN] at hs18
      try simp only [World.size_drew, World.heap_drewN, World.cell?_drew, World.frozen?_drew, World.cell?_drewN, World.frozen?_drewN] at hc18 hf18
      have n1 : ¬ (1 + 2 * (X.length : Int)) < 0 := by omega
      have n2 := bne_rfl_ (1 + 2 * (X.length : Int))
      go_wp2_with fail
      refine (toPairS _ v0 x0 (h0.below KP.mono bl)).mono ?_
      rintro e w19 ⟨r19, rfl, ho19, hb19⟩
      obtain ⟨hc19, hf19⟩ := bcell hb19
      have hB19 : Below w.heap.size w w19 := bStep bl hb19
      have hp19 := Stp.mk hb19
      have hs19 := hb19.size
      try simp only [World.size_alloc, World.size_setCell, World.size_drew, World.heap_drewN] at hs19
      try simp only [World.size_drew, World.heap_drewN, World.cell?_drew, World.frozen?_drew, World.cell?_drewN, World.frozen?_drewN] at hc19 hf19
      go_wp2_with fail
      refine (toPairS _ v1 x1 (h1.below KP.mono bl)).mono ?_
      rintro e w20 ⟨r20, rfl, ho20, hb20⟩
      obtain ⟨hc20, hf20⟩ := bcell hb20
      have hB20 : Below w.heap.size w w20 := bStep bl hb20
      have hp20 := Stp.mk hb20
      have hs20 := hb20.size
      try simp only [World.size_alloc, World.size_setCell, World.size_drew, World.heap_drewN] at hs20
      try simp only [World.size_drew, World.heap_drewN, World.cell?_drew, World.frozen?_drew, World.cell?_drewN, World.frozen?_drewN] at hc20 hf20
      go_wp2_with fail
      refine (implCompose _ r19 r20 x0 x1 ((OwP.keep ho19 bl).sl (by omega)) ((OwP.keep ho20 bl).sl (by omega))).mono ?_
      rintro e w21 ⟨r21, rfl, ho21, hb21⟩
      obtain ⟨hc21, hf21⟩ := bcell hb21
      have hB21 : Below w.heap.size w w21 := bStep bl hb21
      have hp21 := Stp.mk hb21
      have hs21 := hb21.size
      try simp only [World.size_alloc, World.size_setCell, World.size_drew, World.heap_drewN] at hs21
      try simp only [World.size_drew, World.heap_drewN, World.cell?_drew, World.frozen?_drew, World.cell?_drewN, World.frozen?_drewN] at hc21 hf21
      rw [HX.out] at ho21
      rw [HK.out]
      go_wp2_with fail
      refine (eqPairS _ _ _ X X ((OwP.keep ho21 bl).sl (by omega)) ((OwP.keep hS17 bl).sl (by omega))).mono ?_
      rintro e w22 ⟨rfl, hb22⟩
      obtain ⟨hc22, hf22⟩ := bcell hb22
      have hB22 : Below w.heap.size w w22 := bStep bl hb22
      have hp22 := Stp.mk hb22
      have hs22 := hb22.size
      try simp only [World.size_alloc, World.size_setCell, World.size_drew, World.heap_drewN] at hs22
      try simp only [World.size_drew, World.heap_drewN, World.cell?_drew, World.frozen?_drew, World.cell?_drewN, World.frozen?_drewN] at hc22 hf22
      go_wp2_with fail
      refine (heldPairS _ _ X.length 1 ((OwP.keep ho17 bl).sl (by simp; omega)) (by omega) (by omega)).mono ?_
      rintro e w23 ⟨rfl, hb23⟩
      obtain ⟨hc23, hf23⟩ := bcell hb23
      have hB23 : Below w.heap.size w w23 := bStep bl hb23
      have hp23 := Stp.mk hb23
      have hs23 := hb23.size
      try simp only [World.size_alloc, World.size_setCell, World.size_drew, World.heap_drewN] at hs23
      try simp only [World.size_drew, World.heap_drewN, World.cell?_drew, World.frozen?_drew, World.cell?_drewN, World.frozen?_drewN] at hc23 hf23
      go_wp2
      go_ret
      exact ⟨rfl, bl⟩
    · have z1 : szr ((1048576 : Int) - x0.length) x1.length = -1 := by unfold szr; rw [if_neg q1]
      go_enter Try.func8, Try.ntmps8
      go_wp2_with fail
      refine (szPairS _ v0 x0 _ (h0.below KP.mono bl) (by omega) (by omega)).mono ?_
      rintro e w1 ⟨rfl, hb1⟩
      obtain ⟨hc1, hf1⟩ := bcell hb1
      have hB1 : Below w.heap.size w w1 := bStep bl hb1
      have hp1 := Stp.mk hb1
      have hs1 := hb1.size
      try simp only [World.size_alloc, World.size_setCell, World.size_drew, World.heap_drewN] at hs1
      try simp only [World.size_drew, World.heap_drewN, World.cell?_drew, World.frozen?_drew, World.cell?_drewN, World.frozen?_drewN] at hc1 hf1
      go_wp2_with fail
      refine (szPairS _ v1 x1 _ (h1.below KP.mono bl) (by omega) (by omega)).mono ?_
      rintro e w2 ⟨rfl, hb2⟩
      obtain ⟨hc2, hf2⟩ := bcell hb2
      have hB2 : Below w.heap.size w w2 := bStep bl hb2
      have hp2 := Stp.mk hb2
      have hs2 := hb2.size
      try simp only [World.size_alloc, World.size_setCell, World.size_drew, World.heap_drewN] at hs2
      try simp only [World.size_drew, World.heap_drewN, World.cell?_drew, World.frozen?_drew, World.cell?_drewN, World.frozen?_drewN] at hc2 hf2
      go_wp2
      go_ret
      exact ⟨rfl, bl⟩
  · have z0 : szr ((1048576 : Int)) x0.length = -1 := by unfold szr; rw [if_neg q0]
    go_enter Try.func8, Try.ntmps8
    go_wp2_with fail
    refine (szPairS _ v0 x0 _ (h0.below KP.mono bl) (by omega) (by omega)).mono ?_
    rintro e w1 ⟨rfl, hb1⟩
    obtain ⟨hc1, hf1⟩ := bcell hb1
    have hB1 : Below w.heap.size w w1 := bStep bl hb1
    have hp1 := Stp.mk hb1
    have hs1 := hb1.size
    try simp only [World.size_alloc, World.size_setCell, World.size_drew, World.heap_drewN] at hs1
    try simp only [World.size_drew, World.heap_drewN, World.cell?_drew, World.frozen?_drew, World.cell?_drewN, World.frozen?_drewN] at hc1 hf1
    go_wp2
    go_ret
    exact ⟨rfl, bl⟩
end Go.Proofs.Ytmeaghkpojiniaa.Cx
namespace Go.Proofs.Ytmeaghkpojiniaa.fnExactComposePermutations
open Go.ChangeShapes Go.WideShapes Go.ChangeAt Go.RowKit
open Base Cx
set_option linter.unusedVariables false
set_option maxRecDepth 100000 in
theorem lifted (os : Os) (started : os.Started) (H : Type) (enc : TypeId × Value → H) :
    ReturnsInHanded {} Try.checked os 8 .any (Rows.fnExactComposePermutationsSpec.pre6 enc Try.prog Try.f8 Rows.fnExactComposePermutationsRow.domain false) (Rows.fnExactComposePermutationsSpec.post enc Try.prog Try.f8 false true false false) := by
  refine returnsInHanded_of_change_sized (C := Try.checked) Base.own started (by kernel_rfl) Try.func8
    (ChangeSpec.witness6 (enc := enc) (C := Try.checked) false ⟨#[], #[.slice none 0 0, .slice none 0 0], []⟩ 8 (by kernel_rfl) (by kernel_rfl) (by kernel_rfl) (by kernel_rfl)) ?_
  intro W base args ds gs before hval0 hW hcnd hsz0 _
  have hsz : (DataW.weightsEach Try.prog (Try.f8.params.toList ++ Rows.fnExactComposePermutationsSpec.plain.varTypes Try.prog) (ds ++ gs)).all (· ≤ reachBytes) = true := hsz0
  have hval : ∀ (j : Nat) t v, Try.f8.params[j]? = some t → args[j]? = some v → Value.okWide Try.prog W .any base t v := hval0
  have hW' := hW
  obtain ⟨p, q, hA0, hV, rfl, hfz, hnd⟩ := hW
  have hA : DataW.TrodAll enc Try.prog W 0 (fun _ => true) true Try.f8.params.toList args.toList ds p := hA0
  rw [Try.params8] at hA hval hsz
  obtain ⟨v0, vs0, d0, ds0, p0, q0, hargs, rfl, rfl, h0, r0⟩ := trodAll_cons hA
  obtain ⟨v1, vs1, d1, ds1, p1, q1, rfl, rfl, rfl, h1, r1⟩ := trodAll_cons r0
  obtain ⟨rfl, rfl, rfl⟩ := trodAll_nil r1
  obtain rfl : args = #[v0, v1] := by cases args; simp_all
  obtain ⟨rfl, rfl⟩ := trodVars_none hV
  obtain ⟨x0, k0⟩ := rd_Pairs (hval 0 22 v0 rfl rfl) h0 (fits_of hsz (j := 0) rfl rfl)
  have l0 : ∀ x ∈ p0, x.block < W.heap.size := fun x hx => hW'.lt x (by simp [hx])
  obtain ⟨x1, k1⟩ := rd_Pairs (hval 1 22 v1 rfl rfl) h1 (fits_of hsz (j := 1) rfl rfl)
  have l1 : ∀ x ∈ p1, x.block < W.heap.size := fun x hx => hW'.lt x (by simp [hx])
  clear hA0 hval0 hsz0 hsz hval hV
  refine (lawComposePermutations x0 x1 v0 v1 W k0 k1).mono fun e W' ⟨he, bel⟩ => ?_
  subst he
  exact ⟨_, rfl, _, _, _, [], _, [], hW', trodAll_mk1 (shut_bool Try.underlying4 _), (trodAll_cons_mk (Below.trod laidOut (by kernel_rfl) (of_decide_eq_true (by kernel_rfl)) h0 bel l0) (trodAll_cons_mk (Below.trod laidOut (by kernel_rfl) (of_decide_eq_true (by kernel_rfl)) h1 bel l1) trodAll_mk0)), rfl, bel.frame _, fun h => by cases h⟩
theorem over : Rows.fnExactComposePermutationsRow.holds Try.pinned (OpenSpec.ofChange Rows.fnExactComposePermutationsSpec) :=
  OpenClaim.holds_of_wide 8 Try.f8 rfl rfl rfl rfl rfl rfl rfl ⟨rfl, rfl, rfl, rfl, rfl⟩ rfl rfl rfl rfl rfl (by kernel_rfl) Try.func8 (by kernel_rfl)
    (of_decide_eq_true (by kernel_rfl)) (by unfold Func.isWrapper; first | (rw [if_pos (by decide +kernel)]; kernel_rfl) | (rw [if_neg (by decide +kernel)]; exact ⟨rfl, rfl⟩))
    (fun os started H enc _ => lifted os started H enc)
theorem proved : Rows.FnExactComposePermutationsSaid := over
end Go.Proofs.Ytmeaghkpojiniaa.fnExactComposePermutations
namespace Go.Proofs.Ytmeaghkpojiniaa
theorem fnExactComposePermutations_holds : Rows.FnExactComposePermutationsSaid := fnExactComposePermutations.proved
#print axioms fnExactComposePermutations_holds
end Go.Proofs.Ytmeaghkpojiniaa
