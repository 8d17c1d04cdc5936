/- FnExactSwapOf: the law, for every two numbers, and the row's statement. -/
import Derived.Test.YtlkhiddimplnjaaAtom
import Derived.Test.YtlkhiddimplnjaaMark
import Derived.Test.YtlkhiddimplnjaaArgs
import Derived.SizedLaws
namespace Go.Proofs.Ytlkhiddimplnjaa.Cx
open Go.RowKit Base
set_option linter.unusedVariables false
set_option linter.unusedSimpArgs false
set_option maxHeartbeats 3200000 in
theorem lawSwap (a b : Int) (w : World) : Calls Try.prog 5 #[.int .i64 a, .int .i64 b] w fun e w' => e = .returned (.bool true) ∧ Below w.heap.size w w' := by
  have hlen := swapL_len a b
  generalize hX : swapL a b = X at hlen
  go_enter Try.func5, Try.ntmps5
  go_wp2_with fail
  refine (specSwap _ a b).mono ?_
  rintro e w1 ⟨r1, rfl, ho1, hb1⟩
  obtain ⟨hc1, hf1⟩ := bcell hb1
  have hB1 : Below w.heap.size w w1 := bStep bl hb1
  have hp1 := Stp.mk hb1
  have hs1 := hb1.size
  try simp only [World.size_alloc, World.size_setCell, World.size_drew, World.heap_drewN] at hs1
  try simp only [World.size_drew, World.heap_drewN, World.cell?_drew, World.frozen?_drew, World.cell?_drewN, World.frozen?_drewN] at hc1 hf1
  rw [hX] at ho1
  go_wp2_with fail
  refine (implSwap _ a b).mono ?_
  rintro e w2 ⟨r2, rfl, ho2, hb2⟩
  obtain ⟨hc2, hf2⟩ := bcell hb2
  have hB2 : Below w.heap.size w w2 := bStep bl hb2
  have hp2 := Stp.mk hb2
  have hs2 := hb2.size
  try simp only [World.size_alloc, World.size_setCell, World.size_drew, World.heap_drewN] at hs2
  try simp only [World.size_drew, World.heap_drewN, World.cell?_drew, World.frozen?_drew, World.cell?_drewN, World.frozen?_drewN] at hc2 hf2
  rw [hX] at ho2
  go_wp2_with fail
  refine (eqPairS _ _ _ X X (ho2.sl (by omega)) ((ho1.keep bl).sl (by omega))).mono ?_
  rintro e w3 ⟨rfl, hb3⟩
  obtain ⟨hc3, hf3⟩ := bcell hb3
  have hB3 : Below w.heap.size w w3 := bStep bl hb3
  have hp3 := Stp.mk hb3
  have hs3 := hb3.size
  try simp only [World.size_alloc, World.size_setCell, World.size_drew, World.heap_drewN] at hs3
  try simp only [World.size_drew, World.heap_drewN, World.cell?_drew, World.frozen?_drew, World.cell?_drewN, World.frozen?_drewN] at hc3 hf3
  have bb := beq_rfl_ X
  go_wp2_with fail
  refine (markPairS _ w1.heap.size _ _ X 1 (ho2.keep bl) (show Below w1.heap.size w1 _ from bl).size (by omega) (by omega) (by omega)).mono ?_
  rintro e w4 ⟨rfl, ho4, hb4⟩
  obtain ⟨hc4, hf4⟩ := bcellB hb4
  have hp4 : Stp w1 w4 := Below.trans bl hb4
  have hs4 := hb4.size
  try simp only [World.size_alloc, World.size_setCell, World.size_drew, World.heap_drewN] at hs4
  try simp only [World.size_drew, World.heap_drewN, World.cell?_drew, World.frozen?_drew, World.cell?_drewN, World.frozen?_drewN] at hc4 hf4
  go_wp2_with fail
  refine (heldPairS _ _ X.length 1 (ho4.sl (by simp; omega)) (by omega) (by omega)).mono ?_
  rintro e w5 ⟨rfl, hb5⟩
  obtain ⟨hc5, hf5⟩ := bcell hb5
  have hB5 : Below w.heap.size w w5 := bStep bl hb5
  have hp5 := Stp.mk hb5
  have hs5 := hb5.size
  try simp only [World.size_alloc, World.size_setCell, World.size_drew, World.heap_drewN] at hs5
  try simp only [World.size_drew, World.heap_drewN, World.cell?_drew, World.frozen?_drew, World.cell?_drewN, World.frozen?_drewN] at hc5 hf5
  have n1 : ¬ (1 + 2 * (X.length : Int)) < 0 := by omega
  have n2 := bne_rfl_ (1 + 2 * (X.length : Int))
  go_wp2_with fail
  refine (implSwap _ a b).mono ?_
  rintro e w6 ⟨r6, rfl, ho6, hb6⟩
  obtain ⟨hc6, hf6⟩ := bcell hb6
  have hB6 : Below w.heap.size w w6 := bStep bl hb6
  have hp6 := Stp.mk hb6
  have hs6 := hb6.size
  try simp only [World.size_alloc, World.size_setCell, World.size_drew, World.heap_drewN] at hs6
  try simp only [World.size_drew, World.heap_drewN, World.cell?_drew, World.frozen?_drew, World.cell?_drewN, World.frozen?_drewN] at hc6 hf6
  rw [hX] at ho6
  go_wp2_with fail
  refine (eqPairS _ _ _ X X (ho6.sl (by omega)) ((ho1.keep bl).sl (by omega))).mono ?_
  rintro e w7 ⟨rfl, hb7⟩
  obtain ⟨hc7, hf7⟩ := bcell hb7
  have hB7 : Below w.heap.size w w7 := bStep bl hb7
  have hp7 := Stp.mk hb7
  have hs7 := hb7.size
  try simp only [World.size_alloc, World.size_setCell, World.size_drew, World.heap_drewN] at hs7
  try simp only [World.size_drew, World.heap_drewN, World.cell?_drew, World.frozen?_drew, World.cell?_drewN, World.frozen?_drewN] at hc7 hf7
  go_wp2_with fail
  refine (heldPairS _ _ X.length 1 ((OwP.keep ho4 bl).sl (by simp; omega)) (by omega) (by omega)).mono ?_
  rintro e w8 ⟨rfl, hb8⟩
  obtain ⟨hc8, hf8⟩ := bcell hb8
  have hB8 : Below w.heap.size w w8 := bStep bl hb8
  have hp8 := Stp.mk hb8
  have hs8 := hb8.size
  try simp only [World.size_alloc, World.size_setCell, World.size_drew, World.heap_drewN] at hs8
  try simp only [World.size_drew, World.heap_drewN, World.cell?_drew, World.frozen?_drew, World.cell?_drewN, World.frozen?_drewN] at hc8 hf8
  go_wp2
  go_ret
  exact ⟨rfl, bl⟩
end Go.Proofs.Ytlkhiddimplnjaa.Cx
namespace Go.Proofs.Ytlkhiddimplnjaa.fnExactSwapOf
open Go.ChangeShapes Go.WideShapes Go.ChangeAt Go.RowKit
open Base Cx
set_option linter.unusedVariables false
set_option maxRecDepth 100000 in
theorem lifted (os : Os) (started : os.Started) (H : Type) (enc : TypeId × Value → H) :
    ReturnsInHanded {} Try.checked os 5 .any (Rows.fnExactSwapOfSpec.pre6 enc Try.prog Try.f5 Rows.fnExactSwapOfRow.domain false) (Rows.fnExactSwapOfSpec.post enc Try.prog Try.f5 false true false false) := by
  refine returnsInHanded_of_change_sized (C := Try.checked) Base.own started (by kernel_rfl) Try.func5
    (ChangeSpec.witness6 (enc := enc) (C := Try.checked) false ⟨#[], #[.int .i64 0, .int .i64 0], []⟩ 8 (by kernel_rfl) (by kernel_rfl) (by kernel_rfl) (by kernel_rfl)) ?_
  intro W base args ds gs before hval0 hW hcnd hsz0 _
  have hsz : (DataW.weightsEach Try.prog (Try.f5.params.toList ++ Rows.fnExactSwapOfSpec.plain.varTypes Try.prog) (ds ++ gs)).all (· ≤ reachBytes) = true := hsz0
  have hval : ∀ (j : Nat) t v, Try.f5.params[j]? = some t → args[j]? = some v → Value.okWide Try.prog W .any base t v := hval0
  have hW' := hW
  obtain ⟨p, q, hA0, hV, rfl, hfz, hnd⟩ := hW
  have hA : DataW.TrodAll enc Try.prog W 0 (fun _ => true) true Try.f5.params.toList args.toList ds p := hA0
  rw [Try.params5] at hA hval hsz
  obtain ⟨v0, vs0, d0, ds0, p0, q0, hargs, rfl, rfl, h0, r0⟩ := trodAll_cons hA
  obtain ⟨v1, vs1, d1, ds1, p1, q1, rfl, rfl, rfl, h1, r1⟩ := trodAll_cons r0
  obtain ⟨rfl, rfl, rfl⟩ := trodAll_nil r1
  obtain rfl : args = #[v0, v1] := by cases args; simp_all
  obtain ⟨rfl, rfl⟩ := trodVars_none hV
  obtain ⟨x0, rfl, rfl, rfl, k0⟩ := open_int Try.underlying3 (hval 0 3 v0 rfl rfl) h0
  obtain ⟨x1, rfl, rfl, rfl, k1⟩ := open_int Try.underlying3 (hval 1 3 v1 rfl rfl) h1
  clear hA0 hval0 hsz0 hsz hval hV
  refine (lawSwap x0 x1 W).mono fun e W' ⟨he, bel⟩ => ?_
  subst he
  exact ⟨_, rfl, _, _, _, [], _, [], hW', trodAll_mk1 (shut_bool Try.underlying4 _), (trodAll_cons_mk (shut_int Try.underlying3 k0) (trodAll_cons_mk (shut_int Try.underlying3 k1) trodAll_mk0)), rfl, bel.frame _, fun h => by cases h⟩
theorem over : Rows.fnExactSwapOfRow.holds Try.pinned (OpenSpec.ofChange Rows.fnExactSwapOfSpec) :=
  OpenClaim.holds_of_wide 5 Try.f5 rfl rfl rfl rfl rfl rfl rfl ⟨rfl, rfl, rfl, rfl, rfl⟩ rfl rfl rfl rfl rfl (by kernel_rfl) Try.func5 (by kernel_rfl)
    (of_decide_eq_true (by kernel_rfl)) (by unfold Func.isWrapper; first | (rw [if_pos (by decide +kernel)]; kernel_rfl) | (rw [if_neg (by decide +kernel)]; exact ⟨rfl, rfl⟩))
    (fun os started H enc _ => lifted os started H enc)
theorem proved : Rows.FnExactSwapOfSaid := over
end Go.Proofs.Ytlkhiddimplnjaa.fnExactSwapOf
namespace Go.Proofs.Ytlkhiddimplnjaa
theorem fnExactSwapOf_holds : Rows.FnExactSwapOfSaid := fnExactSwapOf.proved
#print axioms fnExactSwapOf_holds
end Go.Proofs.Ytlkhiddimplnjaa
