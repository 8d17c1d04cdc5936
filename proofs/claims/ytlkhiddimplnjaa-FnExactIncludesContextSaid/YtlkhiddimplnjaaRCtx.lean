/- FnExactIsContext, FnExactIncludesContext: the laws, for every list of elements, and the rows' statements. -/
import Derived.Test.YtlkhiddimplnjaaCtx2
import Derived.Test.YtlkhiddimplnjaaMark
import Derived.Test.YtlkhiddimplnjaaArgs
import Derived.SizedLaws
namespace Go.Proofs.Ytlkhiddimplnjaa.Cx
open Go.RowKit Base
set_option linter.unusedVariables false
set_option linter.unusedSimpArgs false
set_option maxHeartbeats 3200000
theorem lawIsContext (xs : List (Int × Int)) (v : Value) (w : World) (h : SlP w v xs) : Calls Try.prog 6 #[v] w fun e w' => e = .returned (.bool true) ∧ Below w.heap.size w w' := by
  have hl := h.len
  have bb := beq_rfl_ xs
  have nb := bne_rfl_ (isCtx xs)
  by_cases h1 : (xs.length : Int) ≤ 1048576
  · have z1 : szr 1048576 xs.length = 1048576 - xs.length := by unfold szr; rw [if_pos h1]
    have z2 : ¬ (1048576 : Int) - xs.length < 0 := by omega
    have z3 : decide ((1048576 : Int) - xs.length < 0) = false := by simp; omega
    go_enter Try.func6, Try.ntmps6
    go_wp2_with fail
    refine (szFreshS _ v xs _ (h.below KP.mono bl) (by omega) (by omega)).mono ?_
    rintro e w1 ⟨rfl, hb1⟩
    obtain ⟨hc1, hf1⟩ := bcell hb1
    have hB1 : Below w.heap.size w w1 := bStep bl hb1
    have hp1 := Stp.mk hb1
    have hs1 := hb1.size
    try simp only [World.size_alloc, World.size_setCell, World.size_drew, World.heap_drewN] at hs1
    try simp only [World.size_drew, World.heap_drewN, World.cell?_drew, World.frozen?_drew, World.cell?_drewN, World.frozen?_drewN] at hc1 hf1
    go_wp2_with fail
    refine (toFreshS _ v xs (h.below KP.mono bl)).mono ?_
    rintro e w2 ⟨r2, rfl, ho2, hb2⟩
    obtain ⟨hc2, hf2⟩ := bcell hb2
    have hB2 : Below w.heap.size w w2 := bStep bl hb2
    have hp2 := Stp.mk hb2
    have hs2 := hb2.size
    try simp only [World.size_alloc, World.size_setCell, World.size_drew, World.heap_drewN] at hs2
    try simp only [World.size_drew, World.heap_drewN, World.cell?_drew, World.frozen?_drew, World.cell?_drewN, World.frozen?_drewN] at hc2 hf2
    go_wp2_with fail
    refine (specIsContext _ _ xs (ho2.sl hl)).mono ?_
    rintro e w3 ⟨rfl, hb3⟩
    obtain ⟨hc3, hf3⟩ := bcell hb3
    have hB3 : Below w.heap.size w w3 := bStep bl hb3
    have hp3 := Stp.mk hb3
    have hs3 := hb3.size
    try simp only [World.size_alloc, World.size_setCell, World.size_drew, World.heap_drewN] at hs3
    try simp only [World.size_drew, World.heap_drewN, World.cell?_drew, World.frozen?_drew, World.cell?_drewN, World.frozen?_drewN] at hc3 hf3
    go_wp2_with fail
    refine (toFreshS _ v xs (h.below KP.mono bl)).mono ?_
    rintro e w4 ⟨r4, rfl, ho4, hb4⟩
    obtain ⟨hc4, hf4⟩ := bcell hb4
    have hB4 : Below w.heap.size w w4 := bStep bl hb4
    have hp4 := Stp.mk hb4
    have hs4 := hb4.size
    try simp only [World.size_alloc, World.size_setCell, World.size_drew, World.heap_drewN] at hs4
    try simp only [World.size_drew, World.heap_drewN, World.cell?_drew, World.frozen?_drew, World.cell?_drewN, World.frozen?_drewN] at hc4 hf4
    go_wp2_with fail
    refine (implIsContext _ _ xs (ho4.sl hl)).mono ?_
    rintro e w5 ⟨rfl, hb5⟩
    obtain ⟨hc5, hf5⟩ := bcell hb5
    have hB5 : Below w.heap.size w w5 := bStep bl hb5
    have hp5 := Stp.mk hb5
    have hs5 := hb5.size
    try simp only [World.size_alloc, World.size_setCell, World.size_drew, World.heap_drewN] at hs5
    try simp only [World.size_drew, World.heap_drewN, World.cell?_drew, World.frozen?_drew, World.cell?_drewN, World.frozen?_drewN] at hc5 hf5
    go_wp2_with fail
    refine (toFreshS _ v xs (h.below KP.mono bl)).mono ?_
    rintro e w6 ⟨r6, rfl, ho6, hb6⟩
    obtain ⟨hc6, hf6⟩ := bcell hb6
    have hB6 : Below w.heap.size w w6 := bStep bl hb6
    have hp6 := Stp.mk hb6
    have hs6 := hb6.size
    try simp only [World.size_alloc, World.size_setCell, World.size_drew, World.heap_drewN] at hs6
    try simp only [World.size_drew, World.heap_drewN, World.cell?_drew, World.frozen?_drew, World.cell?_drewN, World.frozen?_drewN] at hc6 hf6
    go_wp2_with fail
    refine (eqFreshS _ _ _ xs xs ((ho4.keep bl).sl hl) (ho6.sl hl)).mono ?_
    rintro e w7 ⟨rfl, hb7⟩
    obtain ⟨hc7, hf7⟩ := bcell hb7
    have hB7 : Below w.heap.size w w7 := bStep bl hb7
    have hp7 := Stp.mk hb7
    have hs7 := hb7.size
    try simp only [World.size_alloc, World.size_setCell, World.size_drew, World.heap_drewN] at hs7
    try simp only [World.size_drew, World.heap_drewN, World.cell?_drew, World.frozen?_drew, World.cell?_drewN, World.frozen?_drewN] at hc7 hf7
    go_wp2
    go_ret
    exact ⟨rfl, bl⟩
  · have z1 : szr 1048576 xs.length = -1 := by unfold szr; rw [if_neg h1]
    go_enter Try.func6, Try.ntmps6
    go_wp2_with fail
    refine (szFreshS _ v xs _ (h.below KP.mono bl) (by omega) (by omega)).mono ?_
    rintro e w1 ⟨rfl, hb1⟩
    obtain ⟨hc1, hf1⟩ := bcell hb1
    have hB1 : Below w.heap.size w w1 := bStep bl hb1
    have hp1 := Stp.mk hb1
    have hs1 := hb1.size
    try simp only [World.size_alloc, World.size_setCell, World.size_drew, World.heap_drewN] at hs1
    try simp only [World.size_drew, World.heap_drewN, World.cell?_drew, World.frozen?_drew, World.cell?_drewN, World.frozen?_drewN] at hc1 hf1
    go_wp2
    go_ret
    exact ⟨rfl, bl⟩
theorem lawIncludes (xs ys : List (Int × Int)) (v u : Value) (w : World) (h : SlP w v xs) (k : SlP w u ys) : Calls Try.prog 7 #[v, u] w fun e w' => e = .returned (.bool true) ∧ Below w.heap.size w w' := by
  have hl := h.len
  have kl := k.len
  have bb := beq_rfl_ xs
  have bc := beq_rfl_ ys
  have nb := bne_rfl_ (incl xs ys)
  by_cases h1 : (xs.length : Int) ≤ 1048576
  · have z1 : szr 1048576 xs.length = 1048576 - xs.length := by unfold szr; rw [if_pos h1]
    have z3 : decide ((1048576 : Int) - xs.length < 0) = false := by simp; omega
    by_cases k1 : (ys.length : Int) ≤ 1048576 - xs.length
    · have y1 : szr (1048576 - xs.length) ys.length = 1048576 - xs.length - ys.length := by unfold szr; rw [if_pos k1]
      have y3 : decide ((1048576 : Int) - xs.length - ys.length < 0) = false := by simp; omega
      go_enter Try.func7, Try.ntmps7
      go_wp2_with fail
      refine (szFreshS _ v xs _ (h.below KP.mono bl) (by omega) (by omega)).mono ?_
      rintro e w1 ⟨rfl, hb1⟩
      obtain ⟨hc1, hf1⟩ := bcell hb1
      have hB1 : Below w.heap.size w w1 := bStep bl hb1
      have hp1 := Stp.mk hb1
      have hs1 := hb1.size
      try simp only [World.size_alloc, World.size_setCell, World.size_drew, World.heap_drewN] at hs1
      try simp only [World.size_drew, World.heap_drewN, World.cell?_drew, World.frozen?_drew, World.cell?_drewN, World.frozen?_drewN] at hc1 hf1
      go_wp2_with fail
      refine (szFreshS _ u ys _ (k.below KP.mono bl) (by omega) (by omega)).mono ?_
      rintro e w2 ⟨rfl, hb2⟩
      obtain ⟨hc2, hf2⟩ := bcell hb2
      have hB2 : Below w.heap.size w w2 := bStep bl hb2
      have hp2 := Stp.mk hb2
      have hs2 := hb2.size
      try simp only [World.size_alloc, World.size_setCell, World.size_drew, World.heap_drewN] at hs2
      try simp only [World.size_drew, World.heap_drewN, World.cell?_drew, World.frozen?_drew, World.cell?_drewN, World.frozen?_drewN] at hc2 hf2
      go_wp2_with fail
      refine (toFreshS _ v xs (h.below KP.mono bl)).mono ?_
      rintro e w3 ⟨r3, rfl, ho3, hb3⟩
      obtain ⟨hc3, hf3⟩ := bcell hb3
      have hB3 : Below w.heap.size w w3 := bStep bl hb3
      have hp3 := Stp.mk hb3
      have hs3 := hb3.size
      try simp only [World.size_alloc, World.size_setCell, World.size_drew, World.heap_drewN] at hs3
      try simp only [World.size_drew, World.heap_drewN, World.cell?_drew, World.frozen?_drew, World.cell?_drewN, World.frozen?_drewN] at hc3 hf3
      go_wp2_with fail
      refine (toFreshS _ u ys (k.below KP.mono bl)).mono ?_
      rintro e w4 ⟨r4, rfl, ho4, hb4⟩
      obtain ⟨hc4, hf4⟩ := bcell hb4
      have hB4 : Below w.heap.size w w4 := bStep bl hb4
      have hp4 := Stp.mk hb4
      have hs4 := hb4.size
      try simp only [World.size_alloc, World.size_setCell, World.size_drew, World.heap_drewN] at hs4
      try simp only [World.size_drew, World.heap_drewN, World.cell?_drew, World.frozen?_drew, World.cell?_drewN, World.frozen?_drewN] at hc4 hf4
      go_wp2_with fail
      refine (specIncludes _ _ _ xs ys ((ho3.keep bl).sl hl) (ho4.sl kl)).mono ?_
      rintro e w5 ⟨rfl, hb5⟩
      obtain ⟨hc5, hf5⟩ := bcell hb5
      have hB5 : Below w.heap.size w w5 := bStep bl hb5
      have hp5 := Stp.mk hb5
      have hs5 := hb5.size
      try simp only [World.size_alloc, World.size_setCell, World.size_drew, World.heap_drewN] at hs5
      try simp only [World.size_drew, World.heap_drewN, World.cell?_drew, World.frozen?_drew, World.cell?_drewN, World.frozen?_drewN] at hc5 hf5
      go_wp2_with fail
      refine (toFreshS _ v xs (h.below KP.mono bl)).mono ?_
      rintro e w6 ⟨r6, rfl, ho6, hb6⟩
      obtain ⟨hc6, hf6⟩ := bcell hb6
      have hB6 : Below w.heap.size w w6 := bStep bl hb6
      have hp6 := Stp.mk hb6
      have hs6 := hb6.size
      try simp only [World.size_alloc, World.size_setCell, World.size_drew, World.heap_drewN] at hs6
      try simp only [World.size_drew, World.heap_drewN, World.cell?_drew, World.frozen?_drew, World.cell?_drewN, World.frozen?_drewN] at hc6 hf6
      go_wp2_with fail
      refine (toFreshS _ u ys (k.below KP.mono bl)).mono ?_
      rintro e w7 ⟨r7, rfl, ho7, hb7⟩
      obtain ⟨hc7, hf7⟩ := bcell hb7
      have hB7 : Below w.heap.size w w7 := bStep bl hb7
      have hp7 := Stp.mk hb7
      have hs7 := hb7.size
      try simp only [World.size_alloc, World.size_setCell, World.size_drew, World.heap_drewN] at hs7
      try simp only [World.size_drew, World.heap_drewN, World.cell?_drew, World.frozen?_drew, World.cell?_drewN, World.frozen?_drewN] at hc7 hf7
      go_wp2_with fail
      refine (implIncludes _ _ _ xs ys ((ho6.keep bl).sl hl) (ho7.sl kl)).mono ?_
      rintro e w8 ⟨rfl, hb8⟩
      obtain ⟨hc8, hf8⟩ := bcell hb8
      have hB8 : Below w.heap.size w w8 := bStep bl hb8
      have hp8 := Stp.mk hb8
      have hs8 := hb8.size
      try simp only [World.size_alloc, World.size_setCell, World.size_drew, World.heap_drewN] at hs8
      try simp only [World.size_drew, World.heap_drewN, World.cell?_drew, World.frozen?_drew, World.cell?_drewN, World.frozen?_drewN] at hc8 hf8
      go_wp2_with fail
      refine (toFreshS _ v xs (h.below KP.mono bl)).mono ?_
      rintro e w9 ⟨r9, rfl, ho9, hb9⟩
      obtain ⟨hc9, hf9⟩ := bcell hb9
      have hB9 : Below w.heap.size w w9 := bStep bl hb9
      have hp9 := Stp.mk hb9
      have hs9 := hb9.size
      try simp only [World.size_alloc, World.size_setCell, World.size_drew, World.heap_drewN] at hs9
      try simp only [World.size_drew, World.heap_drewN, World.cell?_drew, World.frozen?_drew, World.cell?_drewN, World.frozen?_drewN] at hc9 hf9
      go_wp2_with fail
      refine (eqFreshS _ _ _ xs xs ((ho6.keep bl).sl hl) (ho9.sl hl)).mono ?_
      rintro e w10 ⟨rfl, hb10⟩
      obtain ⟨hc10, hf10⟩ := bcell hb10
      have hB10 : Below w.heap.size w w10 := bStep bl hb10
      have hp10 := Stp.mk hb10
      have hs10 := hb10.size
      try simp only [World.size_alloc, World.size_setCell, World.size_drew, World.heap_drewN] at hs10
      try simp only [World.size_drew, World.heap_drewN, World.cell?_drew, World.frozen?_drew, World.cell?_drewN, World.frozen?_drewN] at hc10 hf10
      go_wp2_with fail
      refine (toFreshS _ u ys (k.below KP.mono bl)).mono ?_
      rintro e w11 ⟨r11, rfl, ho11, hb11⟩
      obtain ⟨hc11, hf11⟩ := bcell hb11
      have hB11 : Below w.heap.size w w11 := bStep bl hb11
      have hp11 := Stp.mk hb11
      have hs11 := hb11.size
      try simp only [World.size_alloc, World.size_setCell, World.size_drew, World.heap_drewN] at hs11
      try simp only [World.size_drew, World.heap_drewN, World.cell?_drew, World.frozen?_drew, World.cell?_drewN, World.frozen?_drewN] at hc11 hf11
      go_wp2_with fail
      refine (eqFreshS _ _ _ ys ys ((ho7.keep bl).sl kl) (ho11.sl kl)).mono ?_
      rintro e w12 ⟨rfl, hb12⟩
      obtain ⟨hc12, hf12⟩ := bcell hb12
      have hB12 : Below w.heap.size w w12 := bStep bl hb12
      have hp12 := Stp.mk hb12
      have hs12 := hb12.size
      try simp only [World.size_alloc, World.size_setCell, World.size_drew, World.heap_drewN] at hs12
      try simp only [World.size_drew, World.heap_drewN, World.cell?_drew, World.frozen?_drew, World.cell?_drewN, World.frozen?_drewN] at hc12 hf12
      go_wp2
      go_ret
      exact ⟨rfl, bl⟩
    · have y1 : szr (1048576 - xs.length) ys.length = -1 := by unfold szr; rw [if_neg k1]
      go_enter Try.func7, Try.ntmps7
      go_wp2_with fail
      refine (szFreshS _ v xs _ (h.below KP.mono bl) (by omega) (by omega)).mono ?_
      rintro e w1 ⟨rfl, hb1⟩
      obtain ⟨hc1, hf1⟩ := bcell hb1
      have hB1 : Below w.heap.size w w1 := bStep bl hb1
      have hp1 := Stp.mk hb1
      have hs1 := hb1.size
      try simp only [World.size_alloc, World.size_setCell, World.size_drew, World.heap_drewN] at hs1
      try simp only [World.size_drew, World.heap_drewN, World.cell?_drew, World.frozen?_drew, World.cell?_drewN, World.frozen?_drewN] at hc1 hf1
      go_wp2_with fail
      refine (szFreshS _ u ys _ (k.below KP.mono bl) (by omega) (by omega)).mono ?_
      rintro e w2 ⟨rfl, hb2⟩
      obtain ⟨hc2, hf2⟩ := bcell hb2
      have hB2 : Below w.heap.size w w2 := bStep bl hb2
      have hp2 := Stp.mk hb2
      have hs2 := hb2.size
      try simp only [World.size_alloc, World.size_setCell, World.size_drew, World.heap_drewN] at hs2
      try simp only [World.size_drew, World.heap_drewN, World.cell?_drew, World.frozen?_drew, World.cell?_drewN, World.frozen?_drewN] at hc2 hf2
      go_wp2
      go_ret
      exact ⟨rfl, bl⟩
  · have z1 : szr 1048576 xs.length = -1 := by unfold szr; rw [if_neg h1]
    go_enter Try.func7, Try.ntmps7
    go_wp2_with fail
    refine (szFreshS _ v xs _ (h.below KP.mono bl) (by omega) (by omega)).mono ?_
    rintro e w1 ⟨rfl, hb1⟩
    obtain ⟨hc1, hf1⟩ := bcell hb1
    have hB1 : Below w.heap.size w w1 := bStep bl hb1
    have hp1 := Stp.mk hb1
    have hs1 := hb1.size
    try simp only [World.size_alloc, World.size_setCell, World.size_drew, World.heap_drewN] at hs1
    try simp only [World.size_drew, World.heap_drewN, World.cell?_drew, World.frozen?_drew, World.cell?_drewN, World.frozen?_drewN] at hc1 hf1
    go_wp2
    go_ret
    exact ⟨rfl, bl⟩
end Go.Proofs.Ytlkhiddimplnjaa.Cx
namespace Go.Proofs.Ytlkhiddimplnjaa.fnExactIsContext
open Go.ChangeShapes Go.WideShapes Go.ChangeAt Go.RowKit
open Base Cx
set_option linter.unusedVariables false
set_option maxRecDepth 100000 in
theorem lifted (os : Os) (started : os.Started) (H : Type) (enc : TypeId × Value → H) :
    ReturnsInHanded {} Try.checked os 6 .any (Rows.fnExactIsContextSpec.pre6 enc Try.prog Try.f6 Rows.fnExactIsContextRow.domain false) (Rows.fnExactIsContextSpec.post enc Try.prog Try.f6 false true false false) := by
  refine returnsInHanded_of_change_sized (C := Try.checked) Base.own started (by kernel_rfl) Try.func6
    (ChangeSpec.witness6 (enc := enc) (C := Try.checked) false ⟨#[], #[.slice none 0 0], []⟩ 8 (by kernel_rfl) (by kernel_rfl) (by kernel_rfl) (by kernel_rfl)) ?_
  intro W base args ds gs before hval0 hW hcnd hsz0 _
  have hsz : (DataW.weightsEach Try.prog (Try.f6.params.toList ++ Rows.fnExactIsContextSpec.plain.varTypes Try.prog) (ds ++ gs)).all (· ≤ reachBytes) = true := hsz0
  have hval : ∀ (j : Nat) t v, Try.f6.params[j]? = some t → args[j]? = some v → Value.okWide Try.prog W .any base t v := hval0
  have hW' := hW
  obtain ⟨p, q, hA0, hV, rfl, hfz, hnd⟩ := hW
  have hA : DataW.TrodAll enc Try.prog W 0 (fun _ => true) true Try.f6.params.toList args.toList ds p := hA0
  rw [Try.params6] at hA hval hsz
  obtain ⟨v0, vs0, d0, ds0, p0, q0, hargs, rfl, rfl, h0, r0⟩ := trodAll_cons hA
  obtain ⟨rfl, rfl, rfl⟩ := trodAll_nil r0
  obtain rfl : args = #[v0] := by cases args; simp_all
  obtain ⟨rfl, rfl⟩ := trodVars_none hV
  obtain ⟨x0, k0⟩ := rd_Freshs (hval 0 33 v0 rfl rfl) h0 (fits_of hsz (j := 0) rfl rfl)
  have l0 : ∀ x ∈ p0, x.block < W.heap.size := fun x hx => hW'.lt x (by simp [hx])
  clear hA0 hval0 hsz0 hsz hval hV
  refine (lawIsContext x0 v0 W k0).mono fun e W' ⟨he, bel⟩ => ?_
  subst he
  exact ⟨_, rfl, _, _, _, [], _, [], hW', trodAll_mk1 (shut_bool Try.underlying4 _), (trodAll_cons_mk (Below.trod laidOut (by kernel_rfl) (of_decide_eq_true (by kernel_rfl)) h0 bel l0) trodAll_mk0), rfl, bel.frame _, fun h => by cases h⟩
theorem over : Rows.fnExactIsContextRow.holds Try.pinned (OpenSpec.ofChange Rows.fnExactIsContextSpec) :=
  OpenClaim.holds_of_wide 6 Try.f6 rfl rfl rfl rfl rfl rfl rfl ⟨rfl, rfl, rfl, rfl, rfl⟩ rfl rfl rfl rfl rfl (by kernel_rfl) Try.func6 (by kernel_rfl)
    (of_decide_eq_true (by kernel_rfl)) (by unfold Func.isWrapper; first | (rw [if_pos (by decide +kernel)]; kernel_rfl) | (rw [if_neg (by decide +kernel)]; exact ⟨rfl, rfl⟩))
    (fun os started H enc _ => lifted os started H enc)
theorem proved : Rows.FnExactIsContextSaid := over
end Go.Proofs.Ytlkhiddimplnjaa.fnExactIsContext
namespace Go.Proofs.Ytlkhiddimplnjaa
theorem fnExactIsContext_holds : Rows.FnExactIsContextSaid := fnExactIsContext.proved
#print axioms fnExactIsContext_holds
end Go.Proofs.Ytlkhiddimplnjaa
namespace Go.Proofs.Ytlkhiddimplnjaa.fnExactIncludesContext
open Go.ChangeShapes Go.WideShapes Go.ChangeAt Go.RowKit
open Base Cx
set_option linter.unusedVariables false
set_option maxRecDepth 100000 in
theorem lifted (os : Os) (started : os.Started) (H : Type) (enc : TypeId × Value → H) :
    ReturnsInHanded {} Try.checked os 7 .any (Rows.fnExactIncludesContextSpec.pre6 enc Try.prog Try.f7 Rows.fnExactIncludesContextRow.domain false) (Rows.fnExactIncludesContextSpec.post enc Try.prog Try.f7 false true false false) := by
  refine returnsInHanded_of_change_sized (C := Try.checked) Base.own started (by kernel_rfl) Try.func7
    (ChangeSpec.witness6 (enc := enc) (C := Try.checked) false ⟨#[], #[.slice none 0 0, .slice none 0 0], []⟩ 8 (by kernel_rfl) (by kernel_rfl) (by kernel_rfl) (by kernel_rfl)) ?_
  intro W base args ds gs before hval0 hW hcnd hsz0 _
  have hsz : (DataW.weightsEach Try.prog (Try.f7.params.toList ++ Rows.fnExactIncludesContextSpec.plain.varTypes Try.prog) (ds ++ gs)).all (· ≤ reachBytes) = true := hsz0
  have hval : ∀ (j : Nat) t v, Try.f7.params[j]? = some t → args[j]? = some v → Value.okWide Try.prog W .any base t v := hval0
  have hW' := hW
  obtain ⟨p, q, hA0, hV, rfl, hfz, hnd⟩ := hW
  have hA : DataW.TrodAll enc Try.prog W 0 (fun _ => true) true Try.f7.params.toList args.toList ds p := hA0
  rw [Try.params7] at hA hval hsz
  obtain ⟨v0, vs0, d0, ds0, p0, q0, hargs, rfl, rfl, h0, r0⟩ := trodAll_cons hA
  obtain ⟨v1, vs1, d1, ds1, p1, q1, rfl, rfl, rfl, h1, r1⟩ := trodAll_cons r0
  obtain ⟨rfl, rfl, rfl⟩ := trodAll_nil r1
  obtain rfl : args = #[v0, v1] := by cases args; simp_all
  obtain ⟨rfl, rfl⟩ := trodVars_none hV
  obtain ⟨x0, k0⟩ := rd_Freshs (hval 0 33 v0 rfl rfl) h0 (fits_of hsz (j := 0) rfl rfl)
  have l0 : ∀ x ∈ p0, x.block < W.heap.size := fun x hx => hW'.lt x (by simp [hx])
  obtain ⟨x1, k1⟩ := rd_Freshs (hval 1 33 v1 rfl rfl) h1 (fits_of hsz (j := 1) rfl rfl)
  have l1 : ∀ x ∈ p1, x.block < W.heap.size := fun x hx => hW'.lt x (by simp [hx])
  clear hA0 hval0 hsz0 hsz hval hV
  refine (lawIncludes x0 x1 v0 v1 W k0 k1).mono fun e W' ⟨he, bel⟩ => ?_
  subst he
  exact ⟨_, rfl, _, _, _, [], _, [], hW', trodAll_mk1 (shut_bool Try.underlying4 _), (trodAll_cons_mk (Below.trod laidOut (by kernel_rfl) (of_decide_eq_true (by kernel_rfl)) h0 bel l0) (trodAll_cons_mk (Below.trod laidOut (by kernel_rfl) (of_decide_eq_true (by kernel_rfl)) h1 bel l1) trodAll_mk0)), rfl, bel.frame _, fun h => by cases h⟩
theorem over : Rows.fnExactIncludesContextRow.holds Try.pinned (OpenSpec.ofChange Rows.fnExactIncludesContextSpec) :=
  OpenClaim.holds_of_wide 7 Try.f7 rfl rfl rfl rfl rfl rfl rfl ⟨rfl, rfl, rfl, rfl, rfl⟩ rfl rfl rfl rfl rfl (by kernel_rfl) Try.func7 (by kernel_rfl)
    (of_decide_eq_true (by kernel_rfl)) (by unfold Func.isWrapper; first | (rw [if_pos (by decide +kernel)]; kernel_rfl) | (rw [if_neg (by decide +kernel)]; exact ⟨rfl, rfl⟩))
    (fun os started H enc _ => lifted os started H enc)
theorem proved : Rows.FnExactIncludesContextSaid := over
end Go.Proofs.Ytlkhiddimplnjaa.fnExactIncludesContext
namespace Go.Proofs.Ytlkhiddimplnjaa
theorem fnExactIncludesContext_holds : Rows.FnExactIncludesContextSaid := fnExactIncludesContext.proved
#print axioms fnExactIncludesContext_holds
end Go.Proofs.Ytlkhiddimplnjaa
