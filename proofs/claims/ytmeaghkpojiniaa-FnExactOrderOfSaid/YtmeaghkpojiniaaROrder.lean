/- FnExactOrderOf: the law, for every list of pairs, and the row's statement. -/
import Derived.Test.YtmeaghkpojiniaaOrd2
import Derived.Test.YtmeaghkpojiniaaConv
import Derived.Test.YtmeaghkpojiniaaArgs
import Derived.SizedLaws
namespace Go.Proofs.Ytmeaghkpojiniaa.Cx
open Go.RowKit Base
set_option linter.unusedVariables false
set_option linter.unusedSimpArgs false
set_option maxRecDepth 100000

set_option maxHeartbeats 12800000 in
theorem lawOrderOf (x0 : List (Int × Int)) (v0 : Value) (w : World) (h0 : SlP w v0 x0) : Calls Try.prog 6 #[v0] w fun e w' => e = .returned (.bool true) ∧ Below w.heap.size w w' := by
  generalize hX : orderO x0 = X
  have HX := Lib.hid hX
  clear hX
  have bb := bne_rfl_ X
  have b0 := beq_rfl_ x0
  have l0 := h0.len
  by_cases q0 : (x0.length : Int) ≤ (1048576 : Int)
  · have z0 : szr ((1048576 : Int)) x0.length = (1048576 : Int) - x0.length := by unfold szr; rw [if_pos q0]
    have y0 : decide ((1048576 : Int) - x0.length < 0) = false := by simp; omega
    have t0 : x0.length ≤ 1048576 := by omega
    go_enter Try.func6, Try.ntmps6
    go_wp2_with fail
    refine (szPairS _ v0 x0 _ (h0.below KP.mono bl) (by omega) (by omega)).mono ?_
    rintro e w1 ⟨rfl, hb1⟩
    obtain ⟨hc1, hf1⟩ := bcell hb1
    have hB1 : Below w.heap.size w w1 := bStep bl hb1
    have hp1 := Stp.mk hb1
    have hs1 := hb1.size
    try simp only [World.size_alloc, World.size_setCell, World.size_drew, World.heap_drewN] at hs1
    try simp only [World.size_drew, World.heap_drewN, World.cell?_drew, World.frozen?_drew, World.cell?_drewN, World.frozen?_drewN] at hc1 hf1
    go_wp2_with fail
    refine (toPairS _ v0 x0 (h0.below KP.mono bl)).mono ?_
    rintro e w2 ⟨r2, rfl, ho2, hb2⟩
    obtain ⟨hc2, hf2⟩ := bcell hb2
    have hB2 : Below w.heap.size w w2 := bStep bl hb2
    have hp2 := Stp.mk hb2
    have hs2 := hb2.size
    try simp only [World.size_alloc, World.size_setCell, World.size_drew, World.heap_drewN] at hs2
    try simp only [World.size_drew, World.heap_drewN, World.cell?_drew, World.frozen?_drew, World.cell?_drewN, World.frozen?_drewN] at hc2 hf2
    go_wp2_with fail
    refine (specOrder _ _ x0 ((OwP.keep ho2 bl).sl (by omega))).mono ?_
    rintro e w3 ⟨rfl, hb3⟩
    obtain ⟨hc3, hf3⟩ := bcell hb3
    have hB3 : Below w.heap.size w w3 := bStep bl hb3
    have hp3 := Stp.mk hb3
    have hs3 := hb3.size
    try simp only [World.size_alloc, World.size_setCell, World.size_drew, World.heap_drewN] at hs3
    try simp only [World.size_drew, World.heap_drewN, World.cell?_drew, World.frozen?_drew, World.cell?_drewN, World.frozen?_drewN] at hc3 hf3
    rw [HX.out]
    go_wp2_with fail
    refine (toPairS _ v0 x0 (h0.below KP.mono bl)).mono ?_
    rintro e w4 ⟨r4, rfl, ho4, hb4⟩
    obtain ⟨hc4, hf4⟩ := bcell hb4
    have hB4 : Below w.heap.size w w4 := bStep bl hb4
    have hp4 := Stp.mk hb4
    have hs4 := hb4.size
    try simp only [World.size_alloc, World.size_setCell, World.size_drew, World.heap_drewN] at hs4
    try simp only [World.size_drew, World.heap_drewN, World.cell?_drew, World.frozen?_drew, World.cell?_drewN, World.frozen?_drewN] at hc4 hf4
    go_wp2_with fail
    refine (implOrder _ r4 x0 ((OwP.keep ho4 bl).sl (by omega))).mono ?_
    rintro e w5 ⟨rfl, hb5⟩
    obtain ⟨hc5, hf5⟩ := bcell hb5
    have hB5 : Below w.heap.size w w5 := bStep bl hb5
    have hp5 := Stp.mk hb5
    have hs5 := hb5.size
    try simp only [World.size_alloc, World.size_setCell, World.size_drew, World.heap_drewN] at hs5
    try simp only [World.size_drew, World.heap_drewN, World.cell?_drew, World.frozen?_drew, World.cell?_drewN, World.frozen?_drewN] at hc5 hf5
    rw [HX.out]
    go_wp2_with fail
    refine (toPairS _ v0 x0 (h0.below KP.mono bl)).mono ?_
    rintro e w6 ⟨r6, rfl, ho6, hb6⟩
    obtain ⟨hc6, hf6⟩ := bcell hb6
    have hB6 : Below w.heap.size w w6 := bStep bl hb6
    have hp6 := Stp.mk hb6
    have hs6 := hb6.size
    try simp only [World.size_alloc, World.size_setCell, World.size_drew, World.heap_drewN] at hs6
    try simp only [World.size_drew, World.heap_drewN, World.cell?_drew, World.frozen?_drew, World.cell?_drewN, World.frozen?_drewN] at hc6 hf6
    go_wp2_with fail
    refine (eqPairS _ _ _ x0 x0 ((OwP.keep ho4 bl).sl (by omega)) ((OwP.keep ho6 bl).sl (by omega))).mono ?_
    rintro e w7 ⟨rfl, hb7⟩
    obtain ⟨hc7, hf7⟩ := bcell hb7
    have hB7 : Below w.heap.size w w7 := bStep bl hb7
    have hp7 := Stp.mk hb7
    have hs7 := hb7.size
    try simp only [World.size_alloc, World.size_setCell, World.size_drew, World.heap_drewN] at hs7
    try simp only [World.size_drew, World.heap_drewN, World.cell?_drew, World.frozen?_drew, World.cell?_drewN, World.frozen?_drewN] at hc7 hf7
    go_wp2
    go_ret
    exact ⟨rfl, bl⟩
  · have z0 : szr ((1048576 : Int)) x0.length = -1 := by unfold szr; rw [if_neg q0]
    go_enter Try.func6, Try.ntmps6
    go_wp2_with fail
    refine (szPairS _ v0 x0 _ (h0.below KP.mono bl) (by omega) (by omega)).mono ?_
    rintro e w1 ⟨rfl, hb1⟩
    obtain ⟨hc1, hf1⟩ := bcell hb1
    have hB1 : Below w.heap.size w w1 := bStep bl hb1
    have hp1 := Stp.mk hb1
    have hs1 := hb1.size
    try simp only [World.size_alloc, World.size_setCell, World.size_drew, World.heap_drewN] at hs1
    try simp only [World.size_drew, World.heap_drewN, World.cell?_drew, World.frozen?_drew, World.cell?_drewN, World.frozen?_drewN] at hc1 hf1
    go_wp2
    go_ret
    exact ⟨rfl, bl⟩
end Go.Proofs.Ytmeaghkpojiniaa.Cx
namespace Go.Proofs.Ytmeaghkpojiniaa.fnExactOrderOf
open Go.ChangeShapes Go.WideShapes Go.ChangeAt Go.RowKit
open Base Cx
set_option linter.unusedVariables false
set_option maxRecDepth 100000 in
theorem lifted (os : Os) (started : os.Started) (H : Type) (enc : TypeId × Value → H) :
    ReturnsInHanded {} Try.checked os 6 .any (Rows.fnExactOrderOfSpec.pre6 enc Try.prog Try.f6 Rows.fnExactOrderOfRow.domain false) (Rows.fnExactOrderOfSpec.post enc Try.prog Try.f6 false true false false) := by
  refine returnsInHanded_of_change_sized (C := Try.checked) Base.own started (by kernel_rfl) Try.func6
    (ChangeSpec.witness6 (enc := enc) (C := Try.checked) false ⟨#[], #[.slice none 0 0], []⟩ 8 (by kernel_rfl) (by kernel_rfl) (by kernel_rfl) (by kernel_rfl)) ?_
  intro W base args ds gs before hval0 hW hcnd hsz0 _
  have hsz : (DataW.weightsEach Try.prog (Try.f6.params.toList ++ Rows.fnExactOrderOfSpec.plain.varTypes Try.prog) (ds ++ gs)).all (· ≤ reachBytes) = true := hsz0
  have hval : ∀ (j : Nat) t v, Try.f6.params[j]? = some t → args[j]? = some v → Value.okWide Try.prog W .any base t v := hval0
  have hW' := hW
  obtain ⟨p, q, hA0, hV, rfl, hfz, hnd⟩ := hW
  have hA : DataW.TrodAll enc Try.prog W 0 (fun _ => true) true Try.f6.params.toList args.toList ds p := hA0
  rw [Try.params6] at hA hval hsz
  obtain ⟨v0, vs0, d0, ds0, p0, q0, hargs, rfl, rfl, h0, r0⟩ := trodAll_cons hA
  obtain ⟨rfl, rfl, rfl⟩ := trodAll_nil r0
  obtain rfl : args = #[v0] := by cases args; simp_all
  obtain ⟨rfl, rfl⟩ := trodVars_none hV
  obtain ⟨x0, k0⟩ := rd_Pairs (hval 0 22 v0 rfl rfl) h0 (fits_of hsz (j := 0) rfl rfl)
  have l0 : ∀ x ∈ p0, x.block < W.heap.size := fun x hx => hW'.lt x (by simp [hx])
  clear hA0 hval0 hsz0 hsz hval hV
  refine (lawOrderOf x0 v0 W k0).mono fun e W' ⟨he, bel⟩ => ?_
  subst he
  exact ⟨_, rfl, _, _, _, [], _, [], hW', trodAll_mk1 (shut_bool Try.underlying4 _), (trodAll_cons_mk (Below.trod laidOut (by kernel_rfl) (of_decide_eq_true (by kernel_rfl)) h0 bel l0) trodAll_mk0), rfl, bel.frame _, fun h => by cases h⟩
theorem over : Rows.fnExactOrderOfRow.holds Try.pinned (OpenSpec.ofChange Rows.fnExactOrderOfSpec) :=
  OpenClaim.holds_of_wide 6 Try.f6 rfl rfl rfl rfl rfl rfl rfl ⟨rfl, rfl, rfl, rfl, rfl⟩ rfl rfl rfl rfl rfl (by kernel_rfl) Try.func6 (by kernel_rfl)
    (of_decide_eq_true (by kernel_rfl)) (by unfold Func.isWrapper; first | (rw [if_pos (by decide +kernel)]; kernel_rfl) | (rw [if_neg (by decide +kernel)]; exact ⟨rfl, rfl⟩))
    (fun os started H enc _ => lifted os started H enc)
theorem proved : Rows.FnExactOrderOfSaid := over
end Go.Proofs.Ytmeaghkpojiniaa.fnExactOrderOf
namespace Go.Proofs.Ytmeaghkpojiniaa
theorem fnExactOrderOf_holds : Rows.FnExactOrderOfSaid := fnExactOrderOf.proved
#print axioms fnExactOrderOf_holds
end Go.Proofs.Ytmeaghkpojiniaa
