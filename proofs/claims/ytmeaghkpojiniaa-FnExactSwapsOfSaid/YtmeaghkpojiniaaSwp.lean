/- Contracts: the swaps of a permutation, both ways. -/
import Derived.Test.YtmeaghkpojiniaaSwpL
import Derived.Test.YtmeaghkpojiniaaCycI
import Derived.Test.YtmeaghkpojiniaaRegion
namespace Go.Proofs.Ytmeaghkpojiniaa.Base
theorem own_castP' {E : TypeId} {w : World} {B : Nat} {v : Value} {xs ys : List (Int × Int)} (h : OwP E w B v xs) (e : xs = ys) : OwP E w B v ys := e ▸ h
end Go.Proofs.Ytmeaghkpojiniaa.Base
namespace Go.Proofs.Ytmeaghkpojiniaa.Cx
open Go.RowKit Base
set_option linter.unusedVariables false
set_option linter.unusedSimpArgs false
set_option maxRecDepth 100000
set_option maxHeartbeats 6400000
theorem specSwaps (w : World) (v : Value) (xs : List (Int × Int)) (h : SlP w v xs) : Calls Try.prog 30 #[v] w fun e w' => ∃ r, e = .returned r ∧ OwP 51 w' w.heap.size r (swapsO xs) ∧ Below w.heap.size w w' := by
  have hcl : ∀ l ∈ cyclesO xs, 0 < l.length ∧ l.length ≤ 40 := fun l hl => by
    unfold cyclesO at hl
    split at hl
    · rename_i hP; exact cyc_mem_len hP hl
    · simp at hl
  have hcn : (cyclesO xs).length ≤ 40 := by
    unfold cyclesO
    split
    · rename_i hP; exact Nat.le_trans (cycS_len xs xs []) (permS_len hP)
    · simp
  have hsm : lenSum (cyclesO xs) ≤ 40 := by
    unfold cyclesO
    split
    · rename_i hP; exact cyc_sum hP
    · simp [lenSum]
  have hO : swapsO xs = swapsL (cyclesO xs) := by
    unfold swapsO cyclesO
    split
    · rfl
    · rfl
  generalize hX : cyclesO xs = X at hcl hcn hsm hO
  have HX := Lib.hid hX
  have HCL := Lib.hid hcl
  have HSM := Lib.hid hsm
  have HO := Lib.hid hO
  clear hX hcl hsm hO
  go_enter Try.func30, Try.ntmps30
  go_wp2_with fail
  refine (specCycles _ v xs (h.below KP.mono bl)).mono ?_
  rintro e w2 ⟨r2, F, rfl, ho2, hn2, hF2, hb2⟩
  have hB2 : Below w.heap.size w w2 := bStep bl hb2
  have hs2 := hb2.size
  try simp only [World.size_alloc] at hs2
  rw [HX.out] at ho2
  obtain ⟨A2, c2, rfl⟩ := ho2.slice
  have HO2 := Lib.hid ho2
  have HF2 := Lib.hid hF2
  clear ho2 hn2 hF2
  go_wp2
  go_loopg [3, 5, 6] (X.length + 1) (fun n v3 v5 v6 wr => ∃ k : Nat, n + k = X.length + 1 ∧ k ≤ X.length ∧ v5 = .int .i64 k ∧ Hid (OwP 51 wr w.heap.size v3 (swapsL (X.take k))) ∧ Hid (OIs 3 31 wr X (.slice A2 X.length c2) F) ∧ Hid (∀ g ∈ blk v3, g ∉ F) ∧ Hid (Below w.heap.size w wr))
  case atStart => exact ⟨0, by omega, by omega, rfl, OwP.keep (ownsP_empty (w.alloc (.cells #[] 51)) _ _ _ (Nat.le_refl _) (heap_alloc_new w _)) hb2, HO2.out, fun g h1 h2 => by have := HF2.out g h2; simp [blk, Value.ownBlock] at h1; simp at this; omega, hB2⟩
  case round =>
    obtain ⟨k, hn0, hk, rfl, hown, hoi, hap, hB⟩ := hrel
    obtain ⟨gi, hgi⟩ : ∃ g, g = gk := ⟨gk, rfl⟩
    have hBw := hB.out
    by_cases hlt : k < X.length
    · obtain ⟨ad, A3, c3, rfl, k0, hsl, _, hFs⟩ := hoi.out.at_ (fun l hl => by have := HCL.out l hl; omega) hlt
      have hl0 := (HCL.out X[k] (List.getElem_mem hlt)).1
      have hl1 := (HCL.out X[k] (List.getElem_mem hlt)).2
      have g0 : (0 : Int) ≤ (k : Int) := by omega
      have g1 : (k : Int) < (X.length : Int) := by omega
      have SN := Lib.hid (swapsL_snoc X k hlt)
      have LT := Lib.hid (Nat.le_trans (swapsL_take X k) HSM.out)
      go_wp2
      go_loopg [3, 6] (X[k].length + 1) (fun n v3 v6 wq => ∃ j : Nat, n + j = X[k].length + 1 ∧ j < X[k].length ∧ v6 = .int .i64 j ∧ Hid (OwP 51 wq w.heap.size v3 (swapsL (X.take k) ++ swk X[k] j)) ∧ Hid (OIs 3 31 wq X (.slice (some ad) X.length c2) F) ∧ Hid (∀ g ∈ blk v3, g ∉ F) ∧ Hid (Below w.heap.size w wq))
      case atStart => exact ⟨0, by omega, hl0, rfl, own_castP' hown.out (by simp [swk]), hoi.out, hap.out, hBw⟩
      case round =>
        obtain ⟨j, hn3, hj, rfl, hown2, hoi2, hap2, hBq⟩ := hrel
        obtain ⟨ad', A4, c4, ea, k4, hsl4, ho4, hF4⟩ := hoi2.out.at_ (fun l hl => by have := HCL.out l hl; omega) hlt
        obtain rfl := Option.some.inj ea
        have hBz := hBq.out
        by_cases hlast : j + 1 < X[k].length
        · obtain ⟨A5, c5, e5, _, _, hr5⟩ := hsl4
          simp at e5
          obtain ⟨rfl, rfl⟩ := e5
          obtain ⟨ad5, rfl, d0⟩ := hr5.atI (j := j) (by omega)
          obtain ⟨ad6, ea6, d1⟩ := hr5.atI (j := j + 1) hlast
          obtain rfl := Option.some.inj ea6
          have gj0 : (0 : Int) ≤ (j : Int) := by omega
          have gj1 : (j : Int) < (X[k].length : Int) := by omega
          have gj2 : (j : Int) + 1 < (X[k].length : Int) := by omega
          have gj3 : (0 : Int) ≤ (j : Int) + 1 := by omega
          rw [add_succ] at d1
          have SK := Lib.hid (swk_succ X[k] j hlast)
          have LK : Hid ((swapsL (X.take k) ++ swk X[k] j).length ≤ 80) := by unfold Hid; rw [List.length_append, swk_len]; have := LT.out; omega
          have cls_k4 := clsCell k4
          have cls_d0 := clsCell d0
          have cls_d1 := clsCell d1
          go_wp2
          refine wp_region_plan ([([0, 1, 2, 3, 4, 5, 6, 7, 8, 9, 10, 11, 12, 13, 14, 15, 16], 17)], [], [18, 19]) (by kernel_rfl) (by kernel_rfl) ?_
          simp only [wpSegs, opsAt, consAt_some, List.getElem?_cons_succ, List.getElem?_cons_zero]
          repeat (go_big_quiet_step (fail))
          refine wpQuiet_nil ?_
          go_wp2_with (at_builtin; refine Hid.out ?_)
          refine nrm_mk ⟨bAlloc (Below.refl _ _) _, ?_⟩
          repeat (go_big_quiet_step (fail))
          refine wpQuiet_nil ?_
          have hz3 : w.heap.size ≤ (wr.alloc (.cells #[.int .i64 X[k][j], .int .i64 X[k][j + 1]] 51)).drew.heap.size := (show Below w.heap.size w _ from bl).size
          have hown3 := OwP.keep hown2.out (show Below wr.heap.size wr (wr.alloc (.cells #[.int .i64 X[k][j], .int .i64 X[k][j + 1]] 51)).drew from bl)
          refine wpList_app ty_Pair w.heap.size u3 _ _ hown3 wr.heap.size 1 [.int .i64 X[k][j], .int .i64 X[k][j + 1]] (heap_alloc_new wr _) rfl (by simp [Value.oneCell']) (by have := LK.out; omega) (by have := LK.out; omega) hz3 (.tmp 26) (.tmp 43) rfl rfl rfl rfl ?_
          intro v6 w6 ho6 hg6 hat6
          have hO6 : Hid (OwP 51 w6 w.heap.size v6 (swapsL (X.take k) ++ swk X[k] (j + 1))) := by
            unfold Hid
            rw [SK.out, ← List.append_assoc]
            generalize swapsL (X.take k) ++ swk X[k] j = Z at ho6 ⊢
            simpa [cP, OwP] using ho6
          have hoi6 : Hid (OIs 3 31 w6 X (.slice (some ad) X.length c2) F) := (hoi2.out.keep (show Below wr.heap.size wr (wr.alloc (.cells #[.int .i64 X[k][j], .int .i64 X[k][j + 1]] 51)).drew from bl)).off (off_of_grown hg6) (fun g h1 h2 => hap2.out g h2 h1)
          have hap6 : Hid (∀ g ∈ blk v6, g ∉ F) := fun g h1 h2 => by
            have h3 := hoi2.out.lt g h2
            rcases hat6 with h | h
            · exact hap2.out g (by rw [blk, h] at h1; exact h1) h2
            · have h4 : g = (wr.alloc (.cells #[.int .i64 X[k][j], .int .i64 X[k][j + 1]] 51)).drew.heap.size := by rw [blk, h] at h1; simpa using h1
              simp at h4; omega
          have hB6 : Hid (Below w.heap.size w w6) := bOwn (bl) hown3 hg6 hz3
          clear ho6 hg6 hat6 hown3 hz3
          go_wp2
          refine nrm_mk ?_
          go_wp2
          go_roundg (gk - 1)
          case measure => omega
          case rel => exact ⟨j + 1, by omega, by omega, by go_num, hO6, hoi6, hap6, hB6⟩
        · have hjl : j + 1 = X[k].length := by omega
          have hd : decide ((j : Int) + 1 < (X[k].length : Int)) = false := by simp; omega
          have HJ := Lib.hid (show swk X[k] j = swk1 X[k] by rw [swk1]; congr 1; omega)
          go_wp2
          go_roundg (gi - 1)
          case measure => omega
          case rel => exact ⟨k + 1, by omega, by omega, by go_num, by unfold Hid; rw [SN.out, ← HJ.out]; exact hown2.out, hoi2.out, hap2.out, hBz⟩
    · obtain rfl : k = X.length := by omega
      rw [List.take_length] at hown
      go_wp2
      go_ret
      exact ⟨_, rfl, own_castP' hown.out HO.out.symm, hBw⟩
theorem implSwaps (w : World) (v : Value) (xs : List (Int × Int)) (h : SlP w v xs) : Calls Try.prog 31 #[v] w fun e w' => ∃ r, e = .returned r ∧ OwP 51 w' w.heap.size r (swapsO xs) ∧ Below w.heap.size w w' := by
  have hcl : ∀ l ∈ cyclesO xs, 0 < l.length ∧ l.length ≤ 40 := fun l hl => by
    unfold cyclesO at hl
    split at hl
    · rename_i hP; exact cyc_mem_len hP hl
    · simp at hl
  have hcn : (cyclesO xs).length ≤ 40 := by
    unfold cyclesO
    split
    · rename_i hP; exact Nat.le_trans (cycS_len xs xs []) (permS_len hP)
    · simp
  have hsm : lenSum (cyclesO xs) ≤ 40 := by
    unfold cyclesO
    split
    · rename_i hP; exact cyc_sum hP
    · simp [lenSum]
  have hO : swapsO xs = swapsL (cyclesO xs) := by
    unfold swapsO cyclesO
    split
    · rfl
    · rfl
  generalize hX : cyclesO xs = X at hcl hcn hsm hO
  have HX := Lib.hid hX
  have HCL := Lib.hid hcl
  have HSM := Lib.hid hsm
  have HO := Lib.hid hO
  clear hX hcl hsm hO
  go_enter Try.func31, Try.ntmps31
  go_wp2_with fail
  refine (implCycles _ v xs (h.below KP.mono bl)).mono ?_
  rintro e w2 ⟨r2, F, rfl, ho2, hn2, hF2, hb2⟩
  have hB2 : Below w.heap.size w w2 := bStep bl hb2
  have hs2 := hb2.size
  try simp only [World.size_alloc] at hs2
  rw [HX.out] at ho2
  obtain ⟨A2, c2, rfl⟩ := ho2.slice
  have HO2 := Lib.hid ho2
  have HF2 := Lib.hid hF2
  clear ho2 hn2 hF2
  go_wp2
  go_loopg [3, 5, 6, 10] (X.length + 1) (fun n v3 v5 v6 v10 wr => ∃ k : Nat, n + k = X.length + 1 ∧ k ≤ X.length ∧ v10 = .int .i64 k ∧ Hid (OwP 51 wr w.heap.size v3 (swapsL (X.take k))) ∧ Hid (OIs 3 31 wr X (.slice A2 X.length c2) F) ∧ Hid (∀ g ∈ blk v3, g ∉ F) ∧ Hid (Below w.heap.size w wr))
  case atStart => exact ⟨0, by omega, by omega, rfl, World.ownsRow_nil _ _ _ _, HO2.out, fun g h1 h2 => by simp [blk, Value.ownBlock] at h1, hB2⟩
  case round =>
    obtain ⟨k, hn0, hk, rfl, hown, hoi, hap, hB⟩ := hrel
    obtain ⟨gi, hgi⟩ : ∃ g, g = gk := ⟨gk, rfl⟩
    have hBw := hB.out
    by_cases hlt : k < X.length
    · obtain ⟨ad, A3, c3, rfl, k0, hsl, hra0, hFs⟩ := hoi.out.at_ (fun l hl => by have := HCL.out l hl; omega) hlt
      have hl0 := (HCL.out X[k] (List.getElem_mem hlt)).1
      have hl1 := (HCL.out X[k] (List.getElem_mem hlt)).2
      have g0 : (0 : Int) ≤ (k : Int) := by omega
      have g1 : (k : Int) < (X.length : Int) := by omega
      have SN := Lib.hid (swapsL_snoc X k hlt)
      have LT := Lib.hid (Nat.le_trans (swapsL_take X k) HSM.out)
      go_wp2
      go_loopg [3, 6] (X[k].length + 1) (fun n v3 v6 wq => ∃ j : Nat, n + j = X[k].length + 1 ∧ j < X[k].length ∧ v6 = .int .i64 j ∧ Hid (OwP 51 wq w.heap.size v3 (swapsL (X.take k) ++ swk X[k] j)) ∧ Hid (OIs 3 31 wq X (.slice (some ad) X.length c2) F) ∧ Hid (∀ g ∈ blk v3, g ∉ F) ∧ Hid (OwI 3 wq 0 (.slice A3 X[k].length c3) X[k]) ∧ Hid (Below w.heap.size w wq))
      case atStart => exact ⟨0, by omega, hl0, rfl, own_castP' hown.out (by simp [swk]), hoi.out, hap.out, hra0, hBw⟩
      case round =>
        obtain ⟨j, hn3, hj, rfl, hown2, hoi2, hap2, hra, hBq⟩ := hrel
        have hsl4 := OwI.sl hra.out (by omega)
        have hBz := hBq.out
        by_cases hlast : j + 1 < X[k].length
        · obtain ⟨A5, c5, e5, _, _, hr5⟩ := hsl4
          simp at e5
          obtain ⟨rfl, rfl⟩ := e5
          obtain ⟨ad5, rfl, d0⟩ := hr5.atI (j := j) (by omega)
          obtain ⟨ad6, ea6, d1⟩ := hr5.atI (j := j + 1) hlast
          obtain rfl := Option.some.inj ea6
          have gj0 : (0 : Int) ≤ (j : Int) := by omega
          have gj1 : (j : Int) < (X[k].length : Int) := by omega
          have gj2 : (j : Int) + 1 < (X[k].length : Int) := by omega
          have gj3 : (0 : Int) ≤ (j : Int) + 1 := by omega
          rw [add_succ] at d1
          have SK := Lib.hid (swk_succ X[k] j hlast)
          have LK : Hid ((swapsL (X.take k) ++ swk X[k] j).length ≤ 80) := by unfold Hid; rw [List.length_append, swk_len]; have := LT.out; omega
          have cls_d0 := clsCell d0
          have cls_d1 := clsCell d1
          go_wp2
          refine wp_region_plan ([([0, 1, 2, 3, 4, 5, 6, 7, 8, 9, 10], 11)], [], [12, 13]) (by kernel_rfl) (by kernel_rfl) ?_
          simp only [wpSegs, opsAt, consAt_some, List.getElem?_cons_succ, List.getElem?_cons_zero]
          repeat (go_big_quiet_step (fail))
          refine wpQuiet_nil ?_
          go_wp2_with (at_builtin; refine Hid.out ?_)
          refine nrm_mk ⟨bAlloc (Below.refl _ _) _, ?_⟩
          repeat (go_big_quiet_step (fail))
          refine wpQuiet_nil ?_
          have hz3 : w.heap.size ≤ (wr.alloc (.cells #[.int .i64 X[k][j], .int .i64 X[k][j + 1]] 51)).drew.heap.size := (show Below w.heap.size w _ from bl).size
          have hown3 := OwP.keep hown2.out (show Below wr.heap.size wr (wr.alloc (.cells #[.int .i64 X[k][j], .int .i64 X[k][j + 1]] 51)).drew from bl)
          refine wpList_app ty_Pair w.heap.size u3 _ _ hown3 wr.heap.size 1 [.int .i64 X[k][j], .int .i64 X[k][j + 1]] (heap_alloc_new wr _) rfl (by simp [Value.oneCell']) (by have := LK.out; omega) (by have := LK.out; omega) hz3 (.tmp 21) (.tmp 32) rfl rfl rfl rfl ?_
          intro v6 w6 ho6 hg6 hat6
          have hO6 : Hid (OwP 51 w6 w.heap.size v6 (swapsL (X.take k) ++ swk X[k] (j + 1))) := by
            unfold Hid
            rw [SK.out, ← List.append_assoc]
            generalize swapsL (X.take k) ++ swk X[k] j = Z at ho6 ⊢
            simpa [cP, OwP] using ho6
          have hoi6 : Hid (OIs 3 31 w6 X (.slice (some ad) X.length c2) F) := (hoi2.out.keep (show Below wr.heap.size wr (wr.alloc (.cells #[.int .i64 X[k][j], .int .i64 X[k][j + 1]] 51)).drew from bl)).off (off_of_grown hg6) (fun g h1 h2 => hap2.out g h2 h1)
          have hap6 : Hid (∀ g ∈ blk v6, g ∉ F) := fun g h1 h2 => by
            have h3 := hoi2.out.lt g h2
            rcases hat6 with h | h
            · exact hap2.out g (by rw [blk, h] at h1; exact h1) h2
            · have h4 : g = (wr.alloc (.cells #[.int .i64 X[k][j], .int .i64 X[k][j + 1]] 51)).drew.heap.size := by rw [blk, h] at h1; simpa using h1
              simp at h4; omega
          have hra6 : Hid (OwI 3 w6 0 (.slice (some ad5) X[k].length c3) X[k]) := owns_beside (OwI.keep hra.out (show Below wr.heap.size wr (wr.alloc (.cells #[.int .i64 X[k][j], .int .i64 X[k][j + 1]] 51)).drew from bl)) hg6 (fun g h1 h2 => hap2.out g h1 (hFs g h2))
          have hB6 : Hid (Below w.heap.size w w6) := bOwn (bl) hown3 hg6 hz3
          clear ho6 hg6 hat6 hown3 hz3
          go_wp2
          refine nrm_mk ?_
          go_wp2
          go_roundg (gk - 1)
          case measure => omega
          case rel => exact ⟨j + 1, by omega, by omega, by go_num, hO6, hoi6, hap6, hra6, hB6⟩
        · have hjl : j + 1 = X[k].length := by omega
          have hd : decide ((j : Int) + 1 < (X[k].length : Int)) = false := by simp; omega
          have HJ := Lib.hid (show swk X[k] j = swk1 X[k] by rw [swk1]; congr 1; omega)
          go_wp2
          go_roundg (gi - 1)
          case measure => omega
          case rel => exact ⟨k + 1, by omega, by omega, by go_num, by unfold Hid; rw [SN.out, ← HJ.out]; exact hown2.out, hoi2.out, hap2.out, hBz⟩
    · obtain rfl : k = X.length := by omega
      rw [List.take_length] at hown
      go_wp2
      go_ret
      exact ⟨_, rfl, own_castP' hown.out HO.out.symm, hBw⟩
end Go.Proofs.Ytmeaghkpojiniaa.Cx
