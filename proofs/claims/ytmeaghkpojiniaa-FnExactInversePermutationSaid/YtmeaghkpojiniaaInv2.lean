/- Contracts: the inverse of a permutation, both ways. -/
import Derived.Test.YtmeaghkpojiniaaInv
namespace Go.Proofs.Ytmeaghkpojiniaa.Base
theorem swL_snoc (p : List (Int × Int)) (k : Nat) (h : k < p.length) : swL (p.take (k + 1)) = swL (p.take k) ++ [(p[k].2, p[k].1)] := by rw [take_snoc p k h, swL, List.map_append]; rfl
theorem swL_len (p : List (Int × Int)) : (swL p).length = p.length := by simp [swL]
theorem mapS_snoc (f : Int × Int → Int × Int) (p : List (Int × Int)) (k : Nat) (h : k < p.length) : (p.take (k + 1)).map f = (p.take k).map f ++ [f p[k]] := by rw [take_snoc p k h, List.map_append]; rfl
end Go.Proofs.Ytmeaghkpojiniaa.Base
namespace Go.Proofs.Ytmeaghkpojiniaa.Cx
open Go.RowKit Base
set_option linter.unusedVariables false
set_option linter.unusedSimpArgs false
set_option maxRecDepth 100000
set_option maxHeartbeats 3200000
attribute [local go_sem] cell_alloc_some in
theorem implInverse (w : World) (v : Value) (xs : List (Int × Int)) (h : SlP w v xs) (hP : permS xs = true) : Calls Try.prog 68 #[v] w fun e w' => ∃ r, e = .returned r ∧ OwP 51 w' w.heap.size r (invL xs) ∧ Below w.heap.size w w' := by
  have hn := permS_len hP
  have HP := Lib.hid hP
  obtain ⟨A, c, rfl, hc, hl, hr⟩ := h
  clear hP
  go_enter Try.func68, Try.ntmps68
  go_wp2
  go_loopg [3, 5, 8] (xs.length + 1) (fun n v3 v5 v8 wr => ∃ k : Nat, n + k = xs.length + 1 ∧ k ≤ xs.length ∧ v8 = .int .i64 k ∧ Hid (OwP 51 wr w.heap.size v3 (swL (xs.take k))) ∧ Hid (Below w.heap.size w wr))
  case atStart => exact ⟨0, by omega, by omega, rfl, World.ownsRow_nil _ _ _ _, Below.refl _ _⟩
  case round =>
    obtain ⟨k, hk0, hk, rfl, hown, hB⟩ := hrel
    have hBw := hB.out
    clear hB
    by_cases hlt : k < xs.length
    · obtain ⟨ad, rfl, c0, c1⟩ := (hr.below KP.mono hBw).atP hlt
      have g0 : (0 : Int) ≤ (k : Int) := by omega
      have g1 : (k : Int) < (xs.length : Int) := by omega
      have fl : (swL (xs.take k)).length = k := by rw [swL_len]; simp; omega
      have FL := Lib.hid fl
      have SN := Lib.hid (swL_snoc xs k hlt)
      clear fl
      obtain ⟨W, hW⟩ : ∃ W, W = (wr.alloc (.cells #[.int .i64 xs[k].1, .int .i64 xs[k].2] 51)).alloc (.cells #[.int .i64 xs[k].2, .int .i64 xs[k].1] 51) := ⟨_, rfl⟩
      have HW := Lib.hid hW
      have hnew : W.heap[wr.heap.size + 1]? = some (.cells #[.int .i64 xs[k].2, .int .i64 xs[k].1] 51 (0, 0)) := by
        rw [hW]
        have := heap_alloc_new (wr.alloc (.cells #[.int .i64 xs[k].1, .int .i64 xs[k].2] 51)) (.cells #[.int .i64 xs[k].2, .int .i64 xs[k].1] 51)
        simpa using this
      have HNEW := Lib.hid hnew
      have hpW : Stp wr W := by rw [hW]; exact Stp.mk bl
      have hsW : w.heap.size ≤ W.heap.size := (show Below w.heap.size w W from bl).size
      clear hW hnew
      go_wp2_with (at_builtin; refine Hid.out ?_)
      refine Lib.hid ?_
      rw [← HW.out]
      have ho6 := OwP.keep hown.out hpW
      refine wpList_app ty_Pair w.heap.size u3 _ _ ho6 (wr.heap.size + 1) 1 [.int .i64 xs[k].2, .int .i64 xs[k].1] HNEW.out rfl (by simp [Value.oneCell']) (by rw [FL.out]; omega) (by rw [FL.out]; omega) hsW (.tmp 12) (.tmp 18) rfl rfl rfl rfl ?_
      intro v' w2 ho7 hg7 _
      have hO : Hid (OwP 51 w2 w.heap.size v' (swL (xs.take (k + 1)))) := by
        unfold Hid
        rw [SN.out]
        simpa [cP, OwP] using ho7
      have hB2 : Hid (Below w.heap.size w w2) := bOwn (bl) ho6 hg7 hsW
      clear ho7 hg7 ho6 hpW hsW
      go_wp2
      go_roundg (gk - 1)
      case measure => omega
      case rel => exact ⟨k + 1, by omega, by omega, by go_num, hO, hB2⟩
    · obtain rfl : k = xs.length := by omega
      rw [List.take_length] at hown
      go_wp2_with fail
      refine (sortByFrom 51 w.heap.size _ _ (swL xs) (OwP.keep hown.out bl) (show Below w.heap.size w _ from bl).size (by rw [swL_len]; omega)).mono ?_
      rintro e w3 ⟨rfl, ys, hp, hs, ho3, hb3⟩
      have hy := inv_of_sorted HP.out hp hs
      have hB3 : Below w.heap.size w w3 := Below.trans bl hb3
      go_wp2
      go_ret
      exact ⟨_, rfl, hy ▸ ho3, hB3⟩
theorem l1Inverse (w : World) (v : Value) (xs : List (Int × Int)) (h : SlP w v xs) (hn : xs.length ≤ 40) : Calls Try.prog 67 #[v] w fun e w' => ∃ r, e = .returned r ∧ OwP 51 w' w.heap.size r (invL xs) ∧ Below w.heap.size w w' := by
  have h0 := h
  obtain ⟨A, c, rfl, hc, hl, hr⟩ := h
  go_enter Try.func67, Try.ntmps67
  go_wp2
  go_loopg [3, 4] (xs.length + 1) (fun n v3 v4 wr => ∃ k : Nat, n + k = xs.length + 1 ∧ k ≤ xs.length ∧ v4 = .int .i64 k ∧ Hid (OwP 51 wr w.heap.size v3 ((xs.take k).map fun x => (x.1, backL xs x.1))) ∧ Hid (Below w.heap.size w wr))
  case atStart => exact ⟨0, by omega, by omega, rfl, ownsP_empty _ _ _ _ (Nat.le_refl _) (heap_alloc_new w _), bl⟩
  case round =>
    obtain ⟨k, hk0, hk, rfl, hown, hB⟩ := hrel
    have hBw := hB.out
    clear hB
    by_cases hlt : k < xs.length
    · obtain ⟨ad, rfl, c0, c1⟩ := (hr.below KP.mono hBw).atP hlt
      have g0 : (0 : Int) ≤ (k : Int) := by omega
      have g1 : (k : Int) < (xs.length : Int) := by omega
      have SN := Lib.hid (mapS_snoc (fun x => (x.1, backL xs x.1)) xs k hlt)
      have cls_c0 := clsCell c0
      go_wp2
      refine wp_region_plan ([([0, 1, 2, 3, 4, 5, 6, 7, 8, 9, 10, 11], 12), ([13], 14)], [], [15, 16]) (by kernel_rfl) (by kernel_rfl) ?_
      simp only [wpSegs, opsAt, consAt_some, List.getElem?_cons_succ, List.getElem?_cons_zero]
      repeat (go_big_quiet_step (fail))
      refine wpQuiet_nil ?_
      go_wp2_with fail
      refine (l1Back _ _ xs xs[k].1 (h0.below KP.mono bl)).mono ?_
      rintro e w2 ⟨rfl, hb2⟩
      go_wp2_with fail
      refine nrm_mk ⟨hb2, ?_⟩
      obtain ⟨hc2, hf2⟩ := bcell hb2
      have hB2 : Below w.heap.size w w2 := bStep bl hb2
      have hp2 := Stp.mk hb2
      have hs2 := hb2.size
      try simp only [World.size_alloc, World.size_setCell, World.size_drew, World.heap_drewN] at hs2
      try simp only [World.size_drew, World.heap_drewN, World.cell?_drew, World.frozen?_drew, World.cell?_drewN, World.frozen?_drewN] at hc2 hf2
      repeat (go_big_quiet_step (fail))
      refine wpQuiet_nil ?_
      go_wp2_with (at_builtin; refine Hid.out ?_)
      refine nrm_mk ⟨bAlloc (Below.refl _ _) _, ?_⟩
      repeat (go_big_quiet_step (fail))
      refine wpQuiet_nil ?_
      have hs5 : w.heap.size ≤ (w2.alloc (.cells #[.int .i64 xs[k].1, .int .i64 (backL xs xs[k].1)] 51)).heap.size := (show Below w.heap.size w _ from bl).size
      have ho5 : OwP 51 (w2.alloc (.cells #[.int .i64 xs[k].1, .int .i64 (backL xs xs[k].1)] 51)) w.heap.size u3 ((xs.take k).map fun x => (x.1, backL xs x.1)) := OwP.keep hown.out bl
      refine wpList_app ty_Pair w.heap.size u3 _ _ ho5 w2.heap.size 1 [.int .i64 xs[k].1, .int .i64 (backL xs xs[k].1)] (heap_alloc_new w2 _) rfl (by simp [Value.oneCell']) (by simp; omega) (by simp; omega) hs5 (.tmp 12) (.tmp 26) rfl rfl rfl rfl ?_
      intro v6 w6 ho6 hg6 _
      have hO : Hid (OwP 51 w6 w.heap.size v6 ((xs.take (k + 1)).map fun x => (x.1, backL xs x.1))) := by
        unfold Hid
        rw [SN.out]
        simpa [cP, OwP] using ho6
      have hB6 : Hid (Below w.heap.size w w6) := bOwn (bl) ho5 hg6 hs5
      clear ho6 hg6 ho5 hs5
      go_wp2
      refine nrm_mk ?_
      go_wp2
      go_roundg (gk - 1)
      case measure => omega
      case rel => exact ⟨k + 1, by omega, by omega, by go_num, hO, hB6⟩
    · obtain rfl : k = xs.length := by omega
      go_wp2
      go_ret
      exact ⟨_, rfl, by have := hown.out; rwa [List.take_length] at this, hBw⟩
theorem specInverseP (w : World) (v : Value) (xs : List (Int × Int)) (h : SlP w v xs) : Calls Try.prog 46 #[v] w fun e w' => ∃ r, e = .returned (.tuple #[r, .bool (permS xs)]) ∧ OwP 51 w' w.heap.size r (invO xs) ∧ Below w.heap.size w w' := by
  cases hP : permS xs
  · go_enter Try.func46, Try.ntmps46
    go_wp2_with fail
    refine (specIsPerm _ v xs (h.below KP.mono bl)).mono ?_
    rintro e w1 ⟨rfl, hb1⟩
    obtain ⟨hc1, hf1⟩ := bcell hb1
    have hB1 : Below w.heap.size w w1 := bStep bl hb1
    have hp1 := Stp.mk hb1
    have hs1 := hb1.size
    try simp only [World.size_alloc, World.size_setCell, World.size_drew, World.heap_drewN] at hs1
    try simp only [World.size_drew, World.heap_drewN, World.cell?_drew, World.frozen?_drew, World.cell?_drewN, World.frozen?_drewN] at hc1 hf1
    go_wp2
    go_ret2
    exact ⟨_, rfl, own_castP (xs := []) (World.ownsRow_nil _ _ _ _) (by simp [invO, hP]), bl⟩
  · have hn := permS_len hP
    go_enter Try.func46, Try.ntmps46
    go_wp2_with fail
    refine (specIsPerm _ v xs (h.below KP.mono bl)).mono ?_
    rintro e w1 ⟨rfl, hb1⟩
    obtain ⟨hc1, hf1⟩ := bcell hb1
    have hB1 : Below w.heap.size w w1 := bStep bl hb1
    have hp1 := Stp.mk hb1
    have hs1 := hb1.size
    try simp only [World.size_alloc, World.size_setCell, World.size_drew, World.heap_drewN] at hs1
    try simp only [World.size_drew, World.heap_drewN, World.cell?_drew, World.frozen?_drew, World.cell?_drewN, World.frozen?_drewN] at hc1 hf1
    go_wp2_with fail
    refine (l1Inverse _ v xs (h.below KP.mono bl) hn).mono ?_
    rintro e w2 ⟨r2, rfl, ho2, hb2⟩
    obtain ⟨hc2, hf2⟩ := bcell hb2
    have hB2 : Below w.heap.size w w2 := bStep bl hb2
    have hp2 := Stp.mk hb2
    have hs2 := hb2.size
    try simp only [World.size_alloc, World.size_setCell, World.size_drew, World.heap_drewN] at hs2
    try simp only [World.size_drew, World.heap_drewN, World.cell?_drew, World.frozen?_drew, World.cell?_drewN, World.frozen?_drewN] at hc2 hf2
    go_wp2
    go_ret2
    exact ⟨_, rfl, owns_lower (own_castP ho2 (by simp [invO, hP])) (show Below w.heap.size w _ from bl).size, bl⟩
theorem implInverseP (w : World) (v : Value) (xs : List (Int × Int)) (h : SlP w v xs) : Calls Try.prog 47 #[v] w fun e w' => ∃ r, e = .returned (.tuple #[r, .bool (permS xs)]) ∧ OwP 51 w' w.heap.size r (invO xs) ∧ Below w.heap.size w w' := by
  cases hP : permS xs
  · go_enter Try.func47, Try.ntmps47
    go_wp2_with fail
    refine (implIsPerm _ v xs (h.below KP.mono bl)).mono ?_
    rintro e w1 ⟨rfl, hb1⟩
    obtain ⟨hc1, hf1⟩ := bcell hb1
    have hB1 : Below w.heap.size w w1 := bStep bl hb1
    have hp1 := Stp.mk hb1
    have hs1 := hb1.size
    try simp only [World.size_alloc, World.size_setCell, World.size_drew, World.heap_drewN] at hs1
    try simp only [World.size_drew, World.heap_drewN, World.cell?_drew, World.frozen?_drew, World.cell?_drewN, World.frozen?_drewN] at hc1 hf1
    go_wp2
    go_ret2
    exact ⟨_, rfl, own_castP (xs := []) (World.ownsRow_nil _ _ _ _) (by simp [invO, hP]), bl⟩
  · have hn := permS_len hP
    go_enter Try.func47, Try.ntmps47
    go_wp2_with fail
    refine (implIsPerm _ v xs (h.below KP.mono bl)).mono ?_
    rintro e w1 ⟨rfl, hb1⟩
    obtain ⟨hc1, hf1⟩ := bcell hb1
    have hB1 : Below w.heap.size w w1 := bStep bl hb1
    have hp1 := Stp.mk hb1
    have hs1 := hb1.size
    try simp only [World.size_alloc, World.size_setCell, World.size_drew, World.heap_drewN] at hs1
    try simp only [World.size_drew, World.heap_drewN, World.cell?_drew, World.frozen?_drew, World.cell?_drewN, World.frozen?_drewN] at hc1 hf1
    go_wp2_with fail
    refine (implInverse _ v xs (h.below KP.mono bl) hP).mono ?_
    rintro e w2 ⟨r2, rfl, ho2, hb2⟩
    obtain ⟨hc2, hf2⟩ := bcell hb2
    have hB2 : Below w.heap.size w w2 := bStep bl hb2
    have hp2 := Stp.mk hb2
    have hs2 := hb2.size
    try simp only [World.size_alloc, World.size_setCell, World.size_drew, World.heap_drewN] at hs2
    try simp only [World.size_drew, World.heap_drewN, World.cell?_drew, World.frozen?_drew, World.cell?_drewN, World.frozen?_drewN] at hc2 hf2
    go_wp2
    go_ret2
    exact ⟨_, rfl, owns_lower (own_castP ho2 (by simp [invO, hP])) (show Below w.heap.size w _ from bl).size, bl⟩
end Go.Proofs.Ytmeaghkpojiniaa.Cx
