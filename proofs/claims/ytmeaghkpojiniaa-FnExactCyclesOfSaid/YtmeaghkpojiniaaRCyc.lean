/- FnExactCyclesOf: the law, for every list of pairs, and the row's statement. -/
import Derived.Test.YtmeaghkpojiniaaMarkII
import Derived.Test.YtmeaghkpojiniaaCycI
import Derived.Test.YtmeaghkpojiniaaArgs
import Derived.SizedLaws
namespace Go.Proofs.Ytmeaghkpojiniaa.Base
theorem cyclesO_len (p : List (Int × Int)) : (cyclesO p).length ≤ 1000000 := by
  unfold cyclesO
  split
  · rename_i h; have := cycS_len p p []; have := permS_len h; unfold cycL; omega
  · simp
theorem cyclesO_sum (p : List (Int × Int)) : lenSum (cyclesO p) ≤ 1000000 := by
  unfold cyclesO
  split
  · rename_i h; have := cyc_sum h; omega
  · simp [lenSum]
end Go.Proofs.Ytmeaghkpojiniaa.Base
namespace Go.Proofs.Ytmeaghkpojiniaa.Cx
open Go.RowKit Base
set_option linter.unusedVariables false
set_option linter.unusedSimpArgs false
set_option maxRecDepth 100000
set_option maxHeartbeats 12800000 in
theorem lawCyclesOf (x0 : List (Int × Int)) (v0 : Value) (w : World) (h0 : SlP w v0 x0) : Calls Try.prog 11 #[v0] w fun e w' => e = .returned (.bool true) ∧ Below w.heap.size w w' := by
  have hR : (cyclesO x0).length ≤ 1000000 := cyclesO_len x0
  generalize hX : cyclesO x0 = X at hR
  have HX := Lib.hid hX
  clear hX
  have hS0 : lenSum X ≤ 1000000 := by rw [← HX.out]; exact cyclesO_sum x0
  have b0 := beq_rfl_ x0
  have l0 := h0.len
  by_cases q0 : (x0.length : Int) ≤ (1048576 : Int)
  · have z0 : szr ((1048576 : Int)) x0.length = (1048576 : Int) - x0.length := by unfold szr; rw [if_pos q0]
    have y0 : decide ((1048576 : Int) - x0.length < 0) = false := by simp; omega
    have t0 : x0.length ≤ 1048576 := by omega
    go_enter Try.func11, Try.ntmps11
    go_wp2_with fail
    refine (szPairS _ v0 x0 _ (h0.below KP.mono bl) (by omega) (by omega)).mono ?_
    rintro e w1 ⟨rfl, hb1⟩
    obtain ⟨hc1, hf1⟩ := bcell hb1
    have hB1 : Below w.heap.size w w1 := bStep bl hb1
    have hp1 := Stp.mk hb1
    have hs1 := hb1.size
    try simp only [World.size_alloc, World.size_setCell, World.size_drew, World.heap_drewN] at hs1
    try simp only [World.size_drew, World.heap_drewN, World.cell?_drew, World.frozen?_drew, World.cell?_drewN, World.frozen?_drewN] at hc1 hf1
    go_wp2_with fail
    refine (toPairS _ v0 x0 (h0.below KP.mono bl)).mono ?_
    rintro e w2 ⟨r2, rfl, ho2, hb2⟩
    obtain ⟨hc2, hf2⟩ := bcell hb2
    have hB2 : Below w.heap.size w w2 := bStep bl hb2
    have hp2 := Stp.mk hb2
    have hs2 := hb2.size
    try simp only [World.size_alloc, World.size_setCell, World.size_drew, World.heap_drewN] at hs2
    try simp only [World.size_drew, World.heap_drewN, World.cell?_drew, World.frozen?_drew, World.cell?_drewN, World.frozen?_drewN] at hc2 hf2
    go_wp2_with fail
    refine (specCycles _ _ x0 ((OwP.keep ho2 bl).sl (by omega))).mono ?_
    rintro e w3 ⟨r3, F3, rfl, ho3, nd3, ge3, hb3⟩
    obtain ⟨hc3, hf3⟩ := bcell hb3
    have hB3 : Below w.heap.size w w3 := bStep bl hb3
    have hp3 := Stp.mk hb3
    have hs3 := hb3.size
    try simp only [World.size_alloc, World.size_setCell, World.size_drew, World.heap_drewN] at hs3
    try simp only [World.size_drew, World.heap_drewN, World.cell?_drew, World.frozen?_drew, World.cell?_drewN, World.frozen?_drewN] at hc3 hf3
    rw [HX.out] at ho3
    have up3 := ho3.lt
    go_wp2_with fail
    refine (toPairS _ v0 x0 (h0.below KP.mono bl)).mono ?_
    rintro e w4 ⟨r4, rfl, ho4, hb4⟩
    obtain ⟨hc4, hf4⟩ := bcell hb4
    have hB4 : Below w.heap.size w w4 := bStep bl hb4
    have hp4 := Stp.mk hb4
    have hs4 := hb4.size
    try simp only [World.size_alloc, World.size_setCell, World.size_drew, World.heap_drewN] at hs4
    try simp only [World.size_drew, World.heap_drewN, World.cell?_drew, World.frozen?_drew, World.cell?_drewN, World.frozen?_drewN] at hc4 hf4
    go_wp2_with fail
    refine (implCycles _ r4 x0 ((OwP.keep ho4 bl).sl (by omega))).mono ?_
    rintro e w5 ⟨r5, F5, rfl, ho5, nd5, ge5, hb5⟩
    obtain ⟨hc5, hf5⟩ := bcell hb5
    have hB5 : Below w.heap.size w w5 := bStep bl hb5
    have hp5 := Stp.mk hb5
    have hs5 := hb5.size
    try simp only [World.size_alloc, World.size_setCell, World.size_drew, World.heap_drewN] at hs5
    try simp only [World.size_drew, World.heap_drewN, World.cell?_drew, World.frozen?_drew, World.cell?_drewN, World.frozen?_drewN] at hc5 hf5
    rw [HX.out] at ho5
    have up5 := ho5.lt
    go_wp2_with fail
    refine (eqIntSS _ _ _ X F5 F3 (OIs.keep ho5 bl) (OIs.keep ho3 bl) hS0 (by omega)).mono ?_
    rintro e w6 ⟨rfl, hb6⟩
    obtain ⟨hc6, hf6⟩ := bcell hb6
    have hB6 : Below w.heap.size w w6 := bStep bl hb6
    have hp6 := Stp.mk hb6
    have hs6 := hb6.size
    try simp only [World.size_alloc, World.size_setCell, World.size_drew, World.heap_drewN] at hs6
    try simp only [World.size_drew, World.heap_drewN, World.cell?_drew, World.frozen?_drew, World.cell?_drewN, World.frozen?_drewN] at hc6 hf6
    go_wp2_with fail
    refine (toPairS _ v0 x0 (h0.below KP.mono bl)).mono ?_
    rintro e w7 ⟨r7, rfl, ho7, hb7⟩
    obtain ⟨hc7, hf7⟩ := bcell hb7
    have hB7 : Below w.heap.size w w7 := bStep bl hb7
    have hp7 := Stp.mk hb7
    have hs7 := hb7.size
    try simp only [World.size_alloc, World.size_setCell, World.size_drew, World.heap_drewN] at hs7
    try simp only [World.size_drew, World.heap_drewN, World.cell?_drew, World.frozen?_drew, World.cell?_drewN, World.frozen?_drewN] at hc7 hf7
    go_wp2_with fail
    refine (eqPairS _ _ _ x0 x0 ((OwP.keep ho4 bl).sl (by omega)) ((OwP.keep ho7 bl).sl (by omega))).mono ?_
    rintro e w8 ⟨rfl, hb8⟩
    obtain ⟨hc8, hf8⟩ := bcell hb8
    have hB8 : Below w.heap.size w w8 := bStep bl hb8
    have hp8 := Stp.mk hb8
    have hs8 := hb8.size
    try simp only [World.size_alloc, World.size_setCell, World.size_drew, World.heap_drewN] at hs8
    try simp only [World.size_drew, World.heap_drewN, World.cell?_drew, World.frozen?_drew, World.cell?_drewN, World.frozen?_drewN] at hc8 hf8
    have aS_0 : ∀ g ∈ F3, g ∉ blk r4 := fun g h1 h2 => Nat.lt_irrefl g (Nat.lt_of_lt_of_le (up3 g h1) (Nat.le_trans (show Below w3.heap.size w3 _ from bl).size ((fun g hg => (owns_blk_lt ho4 g hg).1) g h2)))
    have a0_S : ∀ g ∈ blk r4, g ∉ F3 := fun g h1 h2 => aS_0 g h2 h1
    have aS_G : ∀ g ∈ F3, g ∉ F5 := fun g h1 h2 => Nat.lt_irrefl g (Nat.lt_of_lt_of_le (up3 g h1) (Nat.le_trans (show Below w3.heap.size w3 _ from bl).size (ge5 g h2)))
    have aG_S : ∀ g ∈ F5, g ∉ F3 := fun g h1 h2 => aS_G g h2 h1
    have a0_G : ∀ g ∈ blk r4, g ∉ F5 := fun g h1 h2 => Nat.lt_irrefl g (Nat.lt_of_lt_of_le ((fun g hg => (owns_blk_lt ho4 g hg).2) g h1) (Nat.le_trans (show Below w4.heap.size w4 _ from bl).size (ge5 g h2)))
    have aG_0 : ∀ g ∈ F5, g ∉ blk r4 := fun g h1 h2 => a0_G g h2 h1
    go_wp2_with fail
    refine (markPairG 51 w.heap.size _ _ x0 _ (owns_lower (OwP.keep ho4 bl) (show Below w.heap.size w _ from bl).size) (show Below w.heap.size w _ from bl).size (by omega) (by omega) (by omega)).mono ?_
    rintro e w9 ⟨rfl, ho9, hb9, hx9⟩
    obtain ⟨hc9, hf9⟩ := bcellB hb9
    have hp9 : Stp w w9 := Below.trans bl hb9
    have hs9 := hb9.size
    try simp only [World.size_alloc, World.size_setCell, World.size_drew, World.heap_drewN] at hs9
    try simp only [World.size_drew, World.heap_drewN, World.cell?_drew, World.frozen?_drew, World.cell?_drewN, World.frozen?_drewN] at hc9 hf9
    have hS_9 := OIs.off (OIs.keep ho3 bl) hx9 aS_0
    have hG_9 := OIs.off (OIs.keep ho5 bl) hx9 aG_0
    have kk : ¬ (1 : Int) + 2 * (x0.length : Int) < 0 := by omega
    go_wp2_with fail
    refine (eqIntSS _ _ _ X F5 F3 (OIs.keep hG_9 bl) (OIs.keep hS_9 bl) hS0 (by omega)).mono ?_
    rintro e w10 ⟨rfl, hb10⟩
    obtain ⟨hc10, hf10⟩ := bcell hb10
    have hB10 : Below w.heap.size w w10 := bStep bl hb10
    have hp10 := Stp.mk hb10
    have hs10 := hb10.size
    try simp only [World.size_alloc, World.size_setCell, World.size_drew, World.heap_drewN] at hs10
    try simp only [World.size_drew, World.heap_drewN, World.cell?_drew, World.frozen?_drew, World.cell?_drewN, World.frozen?_drewN] at hc10 hf10
    go_wp2_with fail
    refine (markIntSS _ _ X F5 1 w.heap.size (OIs.keep hG_9 bl) nd5 (fun g hg => Nat.le_trans (show Below w.heap.size w _ from bl).size (ge5 g hg)) (show Below w.heap.size w _ from bl).size hS0 (by omega) (by omega) (by omega)).mono ?_
    rintro e w11 ⟨rfl, ho11, hb11, hx11⟩
    obtain ⟨hc11, hf11⟩ := bcellB hb11
    have hp11 : Stp w w11 := Below.trans bl hb11
    have hs11 := hb11.size
    try simp only [World.size_alloc, World.size_setCell, World.size_drew, World.heap_drewN] at hs11
    try simp only [World.size_drew, World.heap_drewN, World.cell?_drew, World.frozen?_drew, World.cell?_drewN, World.frozen?_drewN] at hc11 hf11
    have hS_11 := OIs.off (OIs.keep hS_9 bl) hx11 aS_G
    go_wp2_with fail
    refine (heldIntSS _ _ X F5 1 (OIs.keep ho11 bl) hS0 (by omega) (by omega) (by omega)).mono ?_
    rintro e w12 ⟨rfl, hb12⟩
    obtain ⟨hc12, hf12⟩ := bcell hb12
    have hB12 : Below w.heap.size w w12 := bStep bl hb12
    have hp12 := Stp.mk hb12
    have hs12 := hb12.size
    try simp only [World.size_alloc, World.size_setCell, World.size_drew, World.heap_drewN] at hs12
    try simp only [World.size_drew, World.heap_drewN, World.cell?_drew, World.frozen?_drew, World.cell?_drewN, World.frozen?_drewN] at hc12 hf12
    have n1 : ¬ (1 + (lenSum X : Int)) < 0 := by omega
    have n2 := bne_rfl_ (1 + (lenSum X : Int))
    go_wp2_with fail
    refine (toPairS _ v0 x0 (h0.below KP.mono bl)).mono ?_
    rintro e w13 ⟨r13, rfl, ho13, hb13⟩
    obtain ⟨hc13, hf13⟩ := bcell hb13
    have hB13 : Below w.heap.size w w13 := bStep bl hb13
    have hp13 := Stp.mk hb13
    have hs13 := hb13.size
    try simp only [World.size_alloc, World.size_setCell, World.size_drew, World.heap_drewN] at hs13
    try simp only [World.size_drew, World.heap_drewN, World.cell?_drew, World.frozen?_drew, World.cell?_drewN, World.frozen?_drewN] at hc13 hf13
    go_wp2_with fail
    refine (implCycles _ _ x0 ((OwP.keep ho13 bl).sl (by omega))).mono ?_
    rintro e w14 ⟨r14, F14, rfl, ho14, nd14, ge14, hb14⟩
    obtain ⟨hc14, hf14⟩ := bcell hb14
    have hB14 : Below w.heap.size w w14 := bStep bl hb14
    have hp14 := Stp.mk hb14
    have hs14 := hb14.size
    try simp only [World.size_alloc, World.size_setCell, World.size_drew, World.heap_drewN] at hs14
    try simp only [World.size_drew, World.heap_drewN, World.cell?_drew, World.frozen?_drew, World.cell?_drewN, World.frozen?_drewN] at hc14 hf14
    rw [HX.out] at ho14
    have up14 := ho14.lt
    go_wp2_with fail
    refine (eqIntSS _ _ _ X F14 F3 (OIs.keep ho14 bl) (OIs.keep hS_11 bl) hS0 (by omega)).mono ?_
    rintro e w15 ⟨rfl, hb15⟩
    obtain ⟨hc15, hf15⟩ := bcell hb15
    have hB15 : Below w.heap.size w w15 := bStep bl hb15
    have hp15 := Stp.mk hb15
    have hs15 := hb15.size
    try simp only [World.size_alloc, World.size_setCell, World.size_drew, World.heap_drewN] at hs15
    try simp only [World.size_drew, World.heap_drewN, World.cell?_drew, World.frozen?_drew, World.cell?_drewN, World.frozen?_drewN] at hc15 hf15
    go_wp2_with fail
    refine (heldIntSS _ _ X F5 1 (OIs.keep ho11 bl) hS0 (by omega) (by omega) (by omega)).mono ?_
    rintro e w16 ⟨rfl, hb16⟩
    obtain ⟨hc16, hf16⟩ := bcell hb16
    have hB16 : Below w.heap.size w w16 := bStep bl hb16
    have hp16 := Stp.mk hb16
    have hs16 := hb16.size
    try simp only [World.size_alloc, World.size_setCell, World.size_drew, World.heap_drewN] at hs16
    try simp only [World.size_drew, World.heap_drewN, World.cell?_drew, World.frozen?_drew, World.cell?_drewN, World.frozen?_drewN] at hc16 hf16
    go_wp2
    go_ret
    exact ⟨rfl, bl⟩
  · have z0 : szr ((1048576 : Int)) x0.length = -1 := by unfold szr; rw [if_neg q0]
    go_enter Try.func11, Try.ntmps11
    go_wp2_with fail
    refine (szPairS _ v0 x0 _ (h0.below KP.mono bl) (by omega) (by omega)).mono ?_
    rintro e w1 ⟨rfl, hb1⟩
    obtain ⟨hc1, hf1⟩ := bcell hb1
    have hB1 : Below w.heap.size w w1 := bStep bl hb1
    have hp1 := Stp.mk hb1
    have hs1 := hb1.size
    try simp only [World.size_alloc, World.size_setCell, World.size_drew, World.heap_drewN] at hs1
    try simp only [World.size_drew, World.heap_drewN, World.cell?_drew, World.frozen?_drew, World.cell?_drewN, World.frozen?_drewN] at hc1 hf1
    go_wp2
    go_ret
    exact ⟨rfl, bl⟩
end Go.Proofs.Ytmeaghkpojiniaa.Cx
namespace Go.Proofs.Ytmeaghkpojiniaa.fnExactCyclesOf
open Go.ChangeShapes Go.WideShapes Go.ChangeAt Go.RowKit
open Base Cx
set_option linter.unusedVariables false
set_option maxRecDepth 100000 in
theorem lifted (os : Os) (started : os.Started) (H : Type) (enc : TypeId × Value → H) :
    ReturnsInHanded {} Try.checked os 11 .any (Rows.fnExactCyclesOfSpec.pre6 enc Try.prog Try.f11 Rows.fnExactCyclesOfRow.domain false) (Rows.fnExactCyclesOfSpec.post enc Try.prog Try.f11 false true false false) := by
  refine returnsInHanded_of_change_sized (C := Try.checked) Base.own started (by kernel_rfl) Try.func11
    (ChangeSpec.witness6 (enc := enc) (C := Try.checked) false ⟨#[], #[.slice none 0 0], []⟩ 8 (by kernel_rfl) (by kernel_rfl) (by kernel_rfl) (by kernel_rfl)) ?_
  intro W base args ds gs before hval0 hW hcnd hsz0 _
  have hsz : (DataW.weightsEach Try.prog (Try.f11.params.toList ++ Rows.fnExactCyclesOfSpec.plain.varTypes Try.prog) (ds ++ gs)).all (· ≤ reachBytes) = true := hsz0
  have hval : ∀ (j : Nat) t v, Try.f11.params[j]? = some t → args[j]? = some v → Value.okWide Try.prog W .any base t v := hval0
  have hW' := hW
  obtain ⟨p, q, hA0, hV, rfl, hfz, hnd⟩ := hW
  have hA : DataW.TrodAll enc Try.prog W 0 (fun _ => true) true Try.f11.params.toList args.toList ds p := hA0
  rw [Try.params11] at hA hval hsz
  obtain ⟨v0, vs0, d0, ds0, p0, q0, hargs, rfl, rfl, h0, r0⟩ := trodAll_cons hA
  obtain ⟨rfl, rfl, rfl⟩ := trodAll_nil r0
  obtain rfl : args = #[v0] := by cases args; simp_all
  obtain ⟨rfl, rfl⟩ := trodVars_none hV
  obtain ⟨x0, k0⟩ := rd_Pairs (hval 0 22 v0 rfl rfl) h0 (fits_of hsz (j := 0) rfl rfl)
  have l0 : ∀ x ∈ p0, x.block < W.heap.size := fun x hx => hW'.lt x (by simp [hx])
  clear hA0 hval0 hsz0 hsz hval hV
  refine (lawCyclesOf x0 v0 W k0).mono fun e W' ⟨he, bel⟩ => ?_
  subst he
  exact ⟨_, rfl, _, _, _, [], _, [], hW', trodAll_mk1 (shut_bool Try.underlying4 _), (trodAll_cons_mk (Below.trod laidOut (by kernel_rfl) (of_decide_eq_true (by kernel_rfl)) h0 bel l0) trodAll_mk0), rfl, bel.frame _, fun h => by cases h⟩
theorem over : Rows.fnExactCyclesOfRow.holds Try.pinned (OpenSpec.ofChange Rows.fnExactCyclesOfSpec) :=
  OpenClaim.holds_of_wide 11 Try.f11 rfl rfl rfl rfl rfl rfl rfl ⟨rfl, rfl, rfl, rfl, rfl⟩ rfl rfl rfl rfl rfl (by kernel_rfl) Try.func11 (by kernel_rfl)
    (of_decide_eq_true (by kernel_rfl)) (by unfold Func.isWrapper; first | (rw [if_pos (by decide +kernel)]; kernel_rfl) | (rw [if_neg (by decide +kernel)]; exact ⟨rfl, rfl⟩))
    (fun os started H enc _ => lifted os started H enc)
theorem proved : Rows.FnExactCyclesOfSaid := over
end Go.Proofs.Ytmeaghkpojiniaa.fnExactCyclesOf
namespace Go.Proofs.Ytmeaghkpojiniaa
theorem fnExactCyclesOf_holds : Rows.FnExactCyclesOfSaid := fnExactCyclesOf.proved
#print axioms fnExactCyclesOf_holds
end Go.Proofs.Ytmeaghkpojiniaa
