/- Contracts: where two lists of pairs differ, one done after the other; the model's way. -/
import Derived.Test.YtmeaghkpojiniaaBoth
import Derived.Test.YtmeaghkpojiniaaCmpL
import Derived.Test.YtmeaghkpojiniaaRegion
namespace Go.Proofs.Ytmeaghkpojiniaa.Base
open Go.RowKit
/-- A row beside the one that is written stays. -/
theorem owns_beside {w w1 : World} {base : Nat} {e : TypeId} {size n : Nat} {v u : Value} {xs : List Value} (h : w.ownsRow base e size v n xs) (hg : w.grownBy w1 u.ownBlock) (hd : ∀ g ∈ blk u, g ∉ blk v) : w1.ownsRow base e size v n xs :=
  owns_same h fun g hgm => hg.block g (owns_blk_lt h g hgm).2 fun e => hd g (by simp [blk, ← e]) hgm
theorem app_apart {w : World} {base : Nat} {e : TypeId} {size n : Nat} {v u u' : Value} {xs : List Value} (h : w.ownsRow base e size v n xs) (hb : u'.ownBlock = u.ownBlock ∨ u'.ownBlock = some w.heap.size) (hd : ∀ g ∈ blk u, g ∉ blk v) : ∀ g ∈ blk u', g ∉ blk v := by
  intro g hg
  rcases hb with hb | hb
  · exact hd g (by simpa [blk, hb] using hg)
  · obtain rfl : g = w.heap.size := by simpa [blk, hb] using hg
    intro h2
    have := (owns_blk_lt h _ h2).2
    omega
theorem OwI.atI {E : TypeId} {w : World} {B n c : Nat} {A : Option Addr} {xs : List Int} (h : OwI E w B (.slice A n c) xs) {j : Nat} (hj : j < xs.length) : ∃ ad, A = some ad ∧ w.cell? (ad.add j) = some (.int .i64 xs[j]) := by
  obtain ⟨A', c', e, _, _, h3⟩ := owns_shape h
  simp at e
  obtain ⟨rfl, _, _⟩ := e
  exact h3 j _ (by simp [cI, hj])
theorem ownsP_empty (w : World) (E : TypeId) (g B : Nat) (hB : B ≤ g) (h : w.heap[g]? = some (.cells #[] E (0, 0))) : OwP E w B (.slice (some ⟨g, 0, none⟩) 0 0) [] :=
  ⟨rfl, .inr ⟨g, 0, #[], rfl, hB, h, Nat.le_refl _, by unfold maxLen; omega, rfl, by simp [cP]⟩⟩
end Go.Proofs.Ytmeaghkpojiniaa.Base
namespace Go.Proofs.Ytmeaghkpojiniaa.Cx
open Go.RowKit Base
set_option linter.unusedVariables false
set_option linter.unusedSimpArgs false
set_option maxRecDepth 100000
set_option maxHeartbeats 3200000
theorem l1Differ (w : World) (vp vq : Value) (p q : List (Int × Int)) (hp : SlP w vp p) (hq : SlP w vq q) (hlp : p.length ≤ 274877906944) (hlq : q.length ≤ 274877906944) :
    Calls Try.prog 62 #[vp, vq] w fun e w' => ∃ r, e = .returned r ∧ OwI 3 w' w.heap.size r (diffL p q) ∧ Below w.heap.size w w' := by
  have hbl := both_len p q
  generalize hX : bothL p q = X at hbl
  have HX := Lib.hid hX
  clear hX
  go_enter Try.func62, Try.ntmps62
  go_wp2_with fail
  refine (l1Atoms _ vp vq p q (hp.below KP.mono bl) (hq.below KP.mono bl) hlp hlq).mono ?_
  rintro e w1 ⟨r1, rfl, ho1, hb1⟩
  obtain ⟨hc1, hf1⟩ := bcell hb1
  have hB1 : Below w.heap.size w w1 := bStep bl hb1
  have hp1 := Stp.mk hb1
  have hs1 := hb1.size
  try simp only [World.size_alloc, World.size_setCell, World.size_drew, World.heap_drewN] at hs1
  try simp only [World.size_drew, World.heap_drewN, World.cell?_drew, World.frozen?_drew, World.cell?_drewN, World.frozen?_drewN] at hc1 hf1
  have hx1 : OwI 3 w1 (w.alloc (.cells #[] 3)).heap.size r1 X := by rw [← HX.out]; exact ho1
  obtain ⟨A, c, rfl⟩ := owns_slice hx1
  have HX1 := Lib.hid hx1
  clear hx1 ho1
  go_wp2
  go_loopg [5, 7] (X.length + 1) (fun n v5 v7 wr => ∃ k : Nat, n + k = X.length + 1 ∧ k ≤ X.length ∧ v7 = .int .i64 k ∧ Hid (OwI 3 wr w.heap.size v5 ((X.take k).filter (diffF p q))) ∧ Hid (OwI 3 wr w.heap.size (.slice A X.length c) X) ∧ Hid (∀ g ∈ blk v5, g ∉ blk (.slice A X.length c)) ∧ Hid (Below w.heap.size w wr))
  case atStart => exact ⟨0, by omega, by omega, rfl, OwI.keep (ownsI_empty (w.alloc (.cells #[] 3)) _ _ _ (Nat.le_refl _) (heap_alloc_new w _)) hb1, owns_lower HX1.out (by simp), owns_apart (ownsI_empty (w.alloc (.cells #[] 3)) _ _ _ (Nat.le_refl _) (heap_alloc_new w _)) HX1.out (Nat.le_refl _), bl⟩
  case round =>
    obtain ⟨k, hn, hk, rfl, hown, hX2, hap, hB⟩ := hrel
    have hBw := hB.out
    clear hB
    by_cases hlt : k < X.length
    · obtain ⟨ad, rfl, c0⟩ := OwI.atI hX2.out hlt
      have g0 : (0 : Int) ≤ (k : Int) := by omega
      have g1 : (k : Int) < (X.length : Int) := by omega
      have sn := take_filter_snoc (diffF p q) X k hlt
      have SN := Lib.hid sn
      clear sn
      have fl : ((X.take k).filter (diffF p q)).length ≤ X.length := Nat.le_trans (List.length_filter_le _ _) (by rw [List.length_take]; omega)
      have FL := Lib.hid fl
      clear fl
      cases hE : (imgL p X[k] == imgL q X[k])
      all_goals
        have hD : diffF p q X[k] = _ := congrArg (!·) hE
        have HD := Lib.hid hD
        clear hD
        first | have hN : (imgL p X[k] != imgL q X[k]) = true := by rw [bne, hE]; rfl
              | have hN : (imgL p X[k] != imgL q X[k]) = false := by rw [bne, hE]; rfl
        have cls_c0 := clsCell c0
        go_wp2
        refine wp_region_plan ([([0, 1, 2, 3, 4, 6, 7, 8, 9, 10], 5), ([], 11)], [12], []) (by kernel_rfl) (by kernel_rfl) ?_
        simp only [wpSegs, opsAt, consAt_some, List.getElem?_cons_succ, List.getElem?_cons_zero]
        repeat (go_big_quiet_step (fail))
        refine wpQuiet_nil ?_
        go_wp2_with fail
        refine (l1Image _ vp p X[k] (hp.below KP.mono bl)).mono ?_
        rintro e w2 ⟨rfl, hb2⟩
        go_wp2_with fail
        refine nrm_mk ⟨hb2, ?_⟩
        obtain ⟨hc2, hf2⟩ := bcell hb2
        have hB2 : Below w.heap.size w w2 := bStep bl hb2
        have hp2 := Stp.mk hb2
        have hs2 := hb2.size
        try simp only [World.size_alloc, World.size_setCell, World.size_drew, World.heap_drewN] at hs2
        try simp only [World.size_drew, World.heap_drewN, World.cell?_drew, World.frozen?_drew, World.cell?_drewN, World.frozen?_drewN] at hc2 hf2
        repeat (go_big_quiet_step (fail))
        refine wpQuiet_nil ?_
        go_wp2_with fail
        refine (l1Image _ vq q X[k] (hq.below KP.mono bl)).mono ?_
        rintro e w3 ⟨rfl, hb3⟩
        go_wp2_with fail
        refine nrm_mk ⟨hb3, ?_⟩
        obtain ⟨hc3, hf3⟩ := bcell hb3
        have hB3 : Below w.heap.size w w3 := bStep bl hb3
        have hp3 := Stp.mk hb3
        have hs3 := hb3.size
        try simp only [World.size_alloc, World.size_setCell, World.size_drew, World.heap_drewN] at hs3
        try simp only [World.size_drew, World.heap_drewN, World.cell?_drew, World.frozen?_drew, World.cell?_drewN, World.frozen?_drewN] at hc3 hf3
        have c0_3 := clsCell (bCell (w := wr) (bStep bl hb3) c0)
        repeat (go_big_quiet_step (fail))
        refine wpQuiet_nil ?_
        refine wpList_nil (nrm_mk ?_)
        have c03 := bCell (w := wr) (w1 := w3) bl c0
        go_wp2_with (at_builtin; refine Hid.out ?_)
        first
        | (go_roundg (gk - 1)
           case measure => omega
           case rel => exact ⟨k + 1, by omega, by omega, by go_num, by unfold Hid; rw [SN.out, HD.out]; simp only [Bool.not_true, Bool.false_eq_true, if_false, List.append_nil]; exact OwI.keep hown.out bl, OwI.keep hX2.out bl, hap.out, bl⟩)
        | (refine Lib.hid ?_
           have hs4 : w.heap.size ≤ (w3.alloc (.cells #[.int .i64 X[k]] 3)).heap.size := (show Below w.heap.size w _ from bl).size
           have ho4 : OwI 3 (w3.alloc (.cells #[.int .i64 X[k]] 3)) w.heap.size u5 ((X.take k).filter (diffF p q)) := OwI.keep hown.out bl
           have hx4 : OwI 3 (w3.alloc (.cells #[.int .i64 X[k]] 3)) w.heap.size (.slice (some ad) X.length c) X := OwI.keep hX2.out bl
           refine wpList_app ty_ints w.heap.size u5 _ _ ho4 w3.heap.size 1 [.int .i64 X[k]] (heap_alloc_new w3 _) rfl (by simp [Value.oneCell']) (by have := FL.out; omega) (by have := FL.out; omega) hs4 (.tmp 31) (.tmp 36) rfl rfl rfl rfl ?_
           intro v5 w5 ho5 hg5 hat
           have hO5 : Hid (OwI 3 w5 w.heap.size v5 ((X.take (k + 1)).filter (diffF p q))) := by
             unfold Hid
             rw [SN.out, HD.out]
             simpa [cI, OwI] using ho5
           have hX5 : Hid (OwI 3 w5 w.heap.size (.slice (some ad) X.length c) X) := owns_beside hx4 hg5 hap.out
           have hA5 : Hid (∀ g ∈ blk v5, g ∉ blk (.slice (some ad) X.length c)) := app_apart hx4 hat hap.out
           have hB5 : Hid (Below w.heap.size w w5) := bOwn (bl) ho4 hg5 hs4
           clear ho5 hg5 hat ho4 hx4 hs4
           go_wp2
           go_roundg (gk - 1)
           case measure => omega
           case rel => exact ⟨k + 1, by omega, by omega, by go_num, hO5, hX5, hA5, hB5⟩)
    · obtain rfl : k = X.length := by omega
      go_wp2
      go_ret
      exact ⟨_, rfl, by have := hown.out; rw [List.take_length] at this; rw [diffL, HX.out]; exact this, bl⟩
theorem l1Then (w : World) (vp vq : Value) (p q : List (Int × Int)) (hp : SlP w vp p) (hq : SlP w vq q) (hlp : p.length ≤ 274877906944) (hlq : q.length ≤ 274877906944) :
    Calls Try.prog 60 #[vp, vq] w fun e w' => ∃ r, e = .returned r ∧ OwP 51 w' w.heap.size r (compL p q) ∧ Below w.heap.size w w' := by
  have hbl := both_len p q
  generalize hX : bothL p q = X at hbl
  have HX := Lib.hid hX
  clear hX
  go_enter Try.func60, Try.ntmps60
  go_wp2_with fail
  refine (l1Atoms _ vp vq p q (hp.below KP.mono bl) (hq.below KP.mono bl) hlp hlq).mono ?_
  rintro e w1 ⟨r1, rfl, ho1, hb1⟩
  obtain ⟨hc1, hf1⟩ := bcell hb1
  have hB1 : Below w.heap.size w w1 := bStep bl hb1
  have hp1 := Stp.mk hb1
  have hs1 := hb1.size
  try simp only [World.size_alloc, World.size_setCell, World.size_drew, World.heap_drewN] at hs1
  try simp only [World.size_drew, World.heap_drewN, World.cell?_drew, World.frozen?_drew, World.cell?_drewN, World.frozen?_drewN] at hc1 hf1
  have hx1 : OwI 3 w1 (w.alloc (.cells #[] 51)).heap.size r1 X := by rw [← HX.out]; exact ho1
  obtain ⟨A, c, rfl⟩ := owns_slice hx1
  have HX1 := Lib.hid hx1
  clear hx1 ho1
  go_wp2
  go_loopg [5, 7, 8] (X.length + 1) (fun n v5 v7 v8 wr => ∃ k : Nat, n + k = X.length + 1 ∧ k ≤ X.length ∧ v7 = .int .i64 k ∧ Hid (OwP 51 wr w.heap.size v5 ((X.take k).filterMap (compF p q))) ∧ Hid (OwI 3 wr w.heap.size (.slice A X.length c) X) ∧ Hid (∀ g ∈ blk v5, g ∉ blk (.slice A X.length c)) ∧ Hid (Below w.heap.size w wr))
  case atStart => exact ⟨0, by omega, by omega, rfl, OwP.keep (ownsP_empty (w.alloc (.cells #[] 51)) _ _ _ (Nat.le_refl _) (heap_alloc_new w _)) hb1, owns_lower HX1.out (by simp), owns_apart (ownsP_empty (w.alloc (.cells #[] 51)) _ _ _ (Nat.le_refl _) (heap_alloc_new w _)) HX1.out (Nat.le_refl _), bl⟩
  case round =>
    obtain ⟨k, hn, hk, rfl, hown, hX2, hap, hB⟩ := hrel
    have hBw := hB.out
    clear hB
    by_cases hlt : k < X.length
    · obtain ⟨ad, rfl, c0⟩ := OwI.atI hX2.out hlt
      have g0 : (0 : Int) ≤ (k : Int) := by omega
      have g1 : (k : Int) < (X.length : Int) := by omega
      have sn := take_filterMap_snoc (compF p q) X k hlt
      have SN := Lib.hid sn
      clear sn
      have fl : ((X.take k).filterMap (compF p q)).length ≤ X.length := Nat.le_trans (List.length_filterMap_le _ _) (by rw [List.length_take]; omega)
      have FL := Lib.hid fl
      clear fl
      cases hE : (imgL p (imgL q X[k]) == X[k])
      all_goals
        first | have hD : compF p q X[k] = none := by rw [compF, hE]; rfl
              | have hD : compF p q X[k] = some (X[k], imgL p (imgL q X[k])) := by rw [compF, hE]; rfl
        have HD := Lib.hid hD
        clear hD
        first | have hN : (imgL p (imgL q X[k]) != X[k]) = true := by rw [bne, hE]; rfl
              | have hN : (imgL p (imgL q X[k]) != X[k]) = false := by rw [bne, hE]; rfl
        go_wp2_with fail
        refine (l1Image _ vq q X[k] (hq.below KP.mono bl)).mono ?_
        rintro e w2 ⟨rfl, hb2⟩
        obtain ⟨hc2, hf2⟩ := bcell hb2
        have hB2 : Below w.heap.size w w2 := bStep bl hb2
        have hp2 := Stp.mk hb2
        have hs2 := hb2.size
        try simp only [World.size_alloc, World.size_setCell, World.size_drew, World.heap_drewN] at hs2
        try simp only [World.size_drew, World.heap_drewN, World.cell?_drew, World.frozen?_drew, World.cell?_drewN, World.frozen?_drewN] at hc2 hf2
        go_wp2_with fail
        refine (l1Image _ vp p (imgL q X[k]) (hp.below KP.mono bl)).mono ?_
        rintro e w3 ⟨rfl, hb3⟩
        obtain ⟨hc3, hf3⟩ := bcell hb3
        have hB3 : Below w.heap.size w w3 := bStep bl hb3
        have hp3 := Stp.mk hb3
        have hs3 := hb3.size
        try simp only [World.size_alloc, World.size_setCell, World.size_drew, World.heap_drewN] at hs3
        try simp only [World.size_drew, World.heap_drewN, World.cell?_drew, World.frozen?_drew, World.cell?_drewN, World.frozen?_drewN] at hc3 hf3
        have c03 := bCell (w := wr) (w1 := w3) bl c0
        go_wp2_with (at_builtin; refine Hid.out ?_)
        first
        | (go_roundg (gk - 1)
           case measure => omega
           case rel => exact ⟨k + 1, by omega, by omega, by go_num, by unfold Hid; rw [SN.out, HD.out]; simp only [Option.toList_none, List.append_nil]; exact OwP.keep hown.out bl, OwI.keep hX2.out bl, hap.out, bl⟩)
        | (refine Lib.hid ?_
           have hs4 : w.heap.size ≤ (w3.alloc (.cells #[.int .i64 X[k], .int .i64 (imgL p (imgL q X[k]))] 51)).heap.size := (show Below w.heap.size w _ from bl).size
           have ho4 : OwP 51 (w3.alloc (.cells #[.int .i64 X[k], .int .i64 (imgL p (imgL q X[k]))] 51)) w.heap.size u5 ((X.take k).filterMap (compF p q)) := OwP.keep hown.out bl
           have hx4 : OwI 3 (w3.alloc (.cells #[.int .i64 X[k], .int .i64 (imgL p (imgL q X[k]))] 51)) w.heap.size (.slice (some ad) X.length c) X := OwI.keep hX2.out bl
           refine wpList_app ty_Pair w.heap.size u5 _ _ ho4 w3.heap.size 1 [.int .i64 X[k], .int .i64 (imgL p (imgL q X[k]))] (heap_alloc_new w3 _) rfl (by simp [Value.oneCell']) (by have := FL.out; omega) (by have := FL.out; omega) hs4 (.tmp 33) (.tmp 40) rfl rfl rfl rfl ?_
           intro v5 w5 ho5 hg5 hat
           have hO5 : Hid (OwP 51 w5 w.heap.size v5 ((X.take (k + 1)).filterMap (compF p q))) := by
             unfold Hid
             rw [SN.out, HD.out]
             simpa [cP, OwP] using ho5
           have hX5 : Hid (OwI 3 w5 w.heap.size (.slice (some ad) X.length c) X) := owns_beside hx4 hg5 hap.out
           have hA5 : Hid (∀ g ∈ blk v5, g ∉ blk (.slice (some ad) X.length c)) := app_apart hx4 hat hap.out
           have hB5 : Hid (Below w.heap.size w w5) := bOwn (bl) ho4 hg5 hs4
           clear ho5 hg5 hat ho4 hx4 hs4
           go_wp2
           go_roundg (gk - 1)
           case measure => omega
           case rel => exact ⟨k + 1, by omega, by omega, by go_num, hO5, hX5, hA5, hB5⟩)
    · obtain rfl : k = X.length := by omega
      go_wp2
      go_ret
      exact ⟨_, rfl, by have := hown.out; rw [List.take_length] at this; rw [compL, HX.out]; exact this, bl⟩
end Go.Proofs.Ytmeaghkpojiniaa.Cx
