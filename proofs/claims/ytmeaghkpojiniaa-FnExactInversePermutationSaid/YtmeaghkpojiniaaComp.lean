/- Contracts: one list of pairs done after another one, where two differ, the program's way; and the functions that stand open, both ways. -/
import Derived.Test.YtmeaghkpojiniaaDiff
import Derived.Test.YtmeaghkpojiniaaAscend
namespace Go.Proofs.Ytmeaghkpojiniaa.Base
open Go.RowKit
theorem KL_two (W : World) (E : TypeId) (r1 r2 : Value) (xs ys : List Int) (h1 : SlI W r1 xs) (h2 : SlI W r2 ys) (n1 : Nz r1) (n2 : Nz r2) :
    Sl KL 1 (W.alloc (.cells #[r1, r2] E)) (.slice (some ⟨W.heap.size, 0, none⟩) 2 2) [(r1, xs), (r2, ys)] := by
  have hb : Below W.heap.size W (W.alloc (.cells #[r1, r2] E)) := bAlloc (Below.refl _ _) _
  refine ⟨some ⟨W.heap.size, 0, none⟩, 2, rfl, Nat.le_refl _, by simp, fun j hj => ?_⟩
  have hc : ∀ (i : Nat) (u : Value), #[r1, r2].toList[i]? = some u → (W.alloc (.cells #[r1, r2] E)).cell? ⟨W.heap.size, i, none⟩ = some u := fun i u hu => by
    rw [cell_of_row _ _ _ _ _ _ (heap_alloc_new W _)]; simpa using hu
  match j, hj with
  | 0, _ => exact ⟨⟨W.heap.size, 0, none⟩, [r1], rfl, ⟨rfl, h1.below KI.mono hb, n1⟩, fun i u hu => by
      match i, hu with
      | 0, hu => simp at hu; subst hu; have := hc 0 r1 rfl; simp [Addr.add]⟩
  | 1, _ => exact ⟨⟨W.heap.size, 0, none⟩, [r2], rfl, ⟨rfl, h2.below KI.mono hb, n2⟩, fun i u hu => by
      match i, hu with
      | 0, hu => simp at hu; subst hu; have := hc 1 r2 rfl; simp [Addr.add]⟩
end Go.Proofs.Ytmeaghkpojiniaa.Base
namespace Go.Proofs.Ytmeaghkpojiniaa.Cx
open Go.RowKit Base
set_option linter.unusedVariables false
set_option linter.unusedSimpArgs false
set_option maxRecDepth 100000
set_option maxHeartbeats 3200000
theorem differences (w : World) (vp vq : Value) (p q : List (Int × Int)) (hp : SlP w vp p) (hq : SlP w vq q) (hlp : p.length ≤ 274877906944) (hlq : q.length ≤ 274877906944) :
    Calls Try.prog 63 #[vp, vq] w fun e w' => ∃ r, e = .returned r ∧ OwI 3 w' w.heap.size r (diffL p q) ∧ Below w.heap.size w w' := by
  have hbl := both_len p q
  generalize hX : bothL p q = X at hbl
  have HX := Lib.hid hX
  clear hX
  go_enter Try.func63, Try.ntmps63
  go_wp2_with fail
  refine (sources _ vp p (hp.below KP.mono bl)).mono ?_
  rintro e w1 ⟨r1, rfl, ho1, hb1⟩
  obtain ⟨hc1, hf1⟩ := bcell hb1
  have hB1 : Below w.heap.size w w1 := bStep bl hb1
  have hp1 := Stp.mk hb1
  have hs1 := hb1.size
  try simp only [World.size_alloc, World.size_setCell, World.size_drew, World.heap_drewN] at hs1
  try simp only [World.size_drew, World.heap_drewN, World.cell?_drew, World.frozen?_drew, World.cell?_drewN, World.frozen?_drewN] at hc1 hf1
  obtain ⟨A1, c1, rfl⟩ := owns_slice ho1
  go_wp2_with fail
  refine (sources _ vq q (hq.below KP.mono bl)).mono ?_
  rintro e w2 ⟨r2, rfl, ho2, hb2⟩
  obtain ⟨hc2, hf2⟩ := bcell hb2
  have hB2 : Below w.heap.size w w2 := bStep bl hb2
  have hp2 := Stp.mk hb2
  have hs2 := hb2.size
  try simp only [World.size_alloc, World.size_setCell, World.size_drew, World.heap_drewN] at hs2
  try simp only [World.size_drew, World.heap_drewN, World.cell?_drew, World.frozen?_drew, World.cell?_drewN, World.frozen?_drewN] at hc2 hf2
  obtain ⟨A2, c2, rfl⟩ := owns_slice ho2
  have hk := KL_two w2 31 _ _ _ _ (OwI.sl (OwI.keep ho1 bl) (by rw [src_len]; omega)) (OwI.sl ho2 (by rw [src_len]; omega)) (owns_nz ho1) (owns_nz ho2)
  have HK := Lib.hid hk
  clear hk ho1 ho2
  go_wp2_with fail
  refine (ascending _ _ _ HK.out (by simp [cat, src_len]; omega)).mono ?_
  rintro e w3 ⟨r3, rfl, ho3, hb3⟩
  obtain ⟨hc3, hf3⟩ := bcell hb3
  have hB3 : Below w.heap.size w w3 := bStep bl hb3
  have hp3 := Stp.mk hb3
  have hs3 := hb3.size
  try simp only [World.size_alloc, World.size_setCell, World.size_drew, World.heap_drewN] at hs3
  try simp only [World.size_drew, World.heap_drewN, World.cell?_drew, World.frozen?_drew, World.cell?_drewN, World.frozen?_drewN] at hc3 hf3
  have hx3 : OwI 3 w3 (w2.alloc (.cells #[.slice A1 (srcL p).length c1, .slice A2 (srcL q).length c2] 31)).heap.size r3 X := by rw [← HX.out]; simpa [cat, bothL] using ho3
  obtain ⟨A, c, rfl⟩ := owns_slice hx3
  have HX3 := Lib.hid hx3
  clear hx3 ho3
  go_wp2
  go_loopg [5, 7, 15] (X.length + 1) (fun n v5 v7 v15 wr => ∃ k : Nat, n + k = X.length + 1 ∧ k ≤ X.length ∧ v15 = .int .i64 k ∧ Hid (OwI 3 wr w3.heap.size v5 ((X.take k).filter (diffF p q))) ∧ Hid (Below w3.heap.size w3 wr))
  case atStart => exact ⟨0, by omega, by omega, rfl, World.ownsRow_nil _ _ _ _, Below.refl _ _⟩
  case round =>
    obtain ⟨k, hn, hk, rfl, hown, hB⟩ := hrel
    have hpr := Stp.mk hB.out
    clear hB
    by_cases hlt : k < X.length
    · obtain ⟨ad, rfl, c0⟩ := OwI.atI (OwI.keep HX3.out hpr) hlt
      have g0 : (0 : Int) ≤ (k : Int) := by omega
      have g1 : (k : Int) < (X.length : Int) := by omega
      have sn := take_filter_snoc (diffF p q) X k hlt
      have SN := Lib.hid sn
      clear sn
      have fl : ((X.take k).filter (diffF p q)).length ≤ X.length := Nat.le_trans (List.length_filter_le _ _) (by rw [List.length_take]; omega)
      have FL := Lib.hid fl
      clear fl
      cases hE : (imgL p X[k] == imgL q X[k])
      all_goals
        have hD : diffF p q X[k] = _ := congrArg (!·) hE
        have HD := Lib.hid hD
        clear hD
        first | have hN : (imgL p X[k] != imgL q X[k]) = true := by rw [bne, hE]; rfl
              | have hN : (imgL p X[k] != imgL q X[k]) = false := by rw [bne, hE]; rfl
        go_wp2_with fail
        refine (image _ vp p X[k] (hp.below KP.mono bl)).mono ?_
        rintro e w4 ⟨rfl, hb4⟩
        obtain ⟨hc4, hf4⟩ := bcell hb4
        have hB4 : Below w.heap.size w w4 := bStep bl hb4
        have hp4 := Stp.mk hb4
        have hs4 := hb4.size
        try simp only [World.size_alloc, World.size_setCell, World.size_drew, World.heap_drewN] at hs4
        try simp only [World.size_drew, World.heap_drewN, World.cell?_drew, World.frozen?_drew, World.cell?_drewN, World.frozen?_drewN] at hc4 hf4
        go_wp2_with fail
        refine (image _ vq q X[k] (hq.below KP.mono bl)).mono ?_
        rintro e w5 ⟨rfl, hb5⟩
        obtain ⟨hc5, hf5⟩ := bcell hb5
        have hB5 : Below w.heap.size w w5 := bStep bl hb5
        have hp5 := Stp.mk hb5
        have hs5 := hb5.size
        try simp only [World.size_alloc, World.size_setCell, World.size_drew, World.heap_drewN] at hs5
        try simp only [World.size_drew, World.heap_drewN, World.cell?_drew, World.frozen?_drew, World.cell?_drewN, World.frozen?_drewN] at hc5 hf5
        go_wp2_with (at_builtin; refine Hid.out ?_)
        first
        | (go_roundg (gk - 1)
           case measure => omega
           case rel => exact ⟨k + 1, by omega, by omega, by go_num, by unfold Hid; rw [SN.out, HD.out]; simp only [Bool.not_true, Bool.false_eq_true, if_false, List.append_nil]; exact OwI.keep hown.out bl, bl⟩)
        | (refine Lib.hid ?_
           have hs6 : w3.heap.size ≤ (w5.alloc (.cells #[.int .i64 X[k]] 3)).heap.size := (show Below w3.heap.size w3 _ from bl).size
           have ho6 : OwI 3 (w5.alloc (.cells #[.int .i64 X[k]] 3)) w3.heap.size u5 ((X.take k).filter (diffF p q)) := OwI.keep hown.out bl
           refine wpList_app ty_ints w3.heap.size u5 _ _ ho6 w5.heap.size 1 [.int .i64 X[k]] (heap_alloc_new w5 _) rfl (by simp [Value.oneCell']) (by have := FL.out; omega) (by have := FL.out; omega) hs6 (.tmp 26) (.tmp 28) rfl rfl rfl rfl ?_
           intro v6 w6 ho7 hg7 hat
           have hO7 : Hid (OwI 3 w6 w3.heap.size v6 ((X.take (k + 1)).filter (diffF p q))) := by
             unfold Hid
             rw [SN.out, HD.out]
             simpa [cI, OwI] using ho7
           have hB7 : Hid (Below w3.heap.size w3 w6) := bOwn (bl) ho6 hg7 hs6
           clear ho7 hg7 hat ho6 hs6
           go_wp2
           go_roundg (gk - 1)
           case measure => omega
           case rel => exact ⟨k + 1, by omega, by omega, by go_num, hO7, hB7⟩)
    · obtain rfl : k = X.length := by omega
      go_wp2
      go_ret
      exact ⟨_, rfl, by have := hown.out; rw [List.take_length] at this; rw [diffL, HX.out]; exact owns_lower this (show Below w.heap.size w w3 from bl).size, bl⟩
theorem compose (w : World) (vp vq : Value) (p q : List (Int × Int)) (hp : SlP w vp p) (hq : SlP w vq q) (hlp : p.length ≤ 274877906944) (hlq : q.length ≤ 274877906944) :
    Calls Try.prog 61 #[vp, vq] w fun e w' => ∃ r, e = .returned r ∧ OwP 51 w' w.heap.size r (compL p q) ∧ Below w.heap.size w w' := by
  have hbl := both_len p q
  generalize hX : bothL p q = X at hbl
  have HX := Lib.hid hX
  clear hX
  go_enter Try.func61, Try.ntmps61
  go_wp2_with fail
  refine (sources _ vp p (hp.below KP.mono bl)).mono ?_
  rintro e w1 ⟨r1, rfl, ho1, hb1⟩
  obtain ⟨hc1, hf1⟩ := bcell hb1
  have hB1 : Below w.heap.size w w1 := bStep bl hb1
  have hp1 := Stp.mk hb1
  have hs1 := hb1.size
  try simp only [World.size_alloc, World.size_setCell, World.size_drew, World.heap_drewN] at hs1
  try simp only [World.size_drew, World.heap_drewN, World.cell?_drew, World.frozen?_drew, World.cell?_drewN, World.frozen?_drewN] at hc1 hf1
  obtain ⟨A1, c1, rfl⟩ := owns_slice ho1
  go_wp2_with fail
  refine (sources _ vq q (hq.below KP.mono bl)).mono ?_
  rintro e w2 ⟨r2, rfl, ho2, hb2⟩
  obtain ⟨hc2, hf2⟩ := bcell hb2
  have hB2 : Below w.heap.size w w2 := bStep bl hb2
  have hp2 := Stp.mk hb2
  have hs2 := hb2.size
  try simp only [World.size_alloc, World.size_setCell, World.size_drew, World.heap_drewN] at hs2
  try simp only [World.size_drew, World.heap_drewN, World.cell?_drew, World.frozen?_drew, World.cell?_drewN, World.frozen?_drewN] at hc2 hf2
  obtain ⟨A2, c2, rfl⟩ := owns_slice ho2
  have hk := KL_two w2 31 _ _ _ _ (OwI.sl (OwI.keep ho1 bl) (by rw [src_len]; omega)) (OwI.sl ho2 (by rw [src_len]; omega)) (owns_nz ho1) (owns_nz ho2)
  have HK := Lib.hid hk
  clear hk ho1 ho2
  go_wp2_with fail
  refine (ascending _ _ _ HK.out (by simp [cat, src_len]; omega)).mono ?_
  rintro e w3 ⟨r3, rfl, ho3, hb3⟩
  obtain ⟨hc3, hf3⟩ := bcell hb3
  have hB3 : Below w.heap.size w w3 := bStep bl hb3
  have hp3 := Stp.mk hb3
  have hs3 := hb3.size
  try simp only [World.size_alloc, World.size_setCell, World.size_drew, World.heap_drewN] at hs3
  try simp only [World.size_drew, World.heap_drewN, World.cell?_drew, World.frozen?_drew, World.cell?_drewN, World.frozen?_drewN] at hc3 hf3
  have hx3 : OwI 3 w3 (w2.alloc (.cells #[.slice A1 (srcL p).length c1, .slice A2 (srcL q).length c2] 31)).heap.size r3 X := by rw [← HX.out]; simpa [cat, bothL] using ho3
  obtain ⟨A, c, rfl⟩ := owns_slice hx3
  have HX3 := Lib.hid hx3
  clear hx3 ho3
  go_wp2
  go_loopg [5, 7, 8, 16] (X.length + 1) (fun n v5 v7 v8 v16 wr => ∃ k : Nat, n + k = X.length + 1 ∧ k ≤ X.length ∧ v16 = .int .i64 k ∧ Hid (OwP 51 wr w3.heap.size v5 ((X.take k).filterMap (compF p q))) ∧ Hid (Below w3.heap.size w3 wr))
  case atStart => exact ⟨0, by omega, by omega, rfl, World.ownsRow_nil _ _ _ _, Below.refl _ _⟩
  case round =>
    obtain ⟨k, hn, hk, rfl, hown, hB⟩ := hrel
    have hpr := Stp.mk hB.out
    clear hB
    by_cases hlt : k < X.length
    · obtain ⟨ad, rfl, c0⟩ := OwI.atI (OwI.keep HX3.out hpr) hlt
      have g0 : (0 : Int) ≤ (k : Int) := by omega
      have g1 : (k : Int) < (X.length : Int) := by omega
      have sn := take_filterMap_snoc (compF p q) X k hlt
      have SN := Lib.hid sn
      clear sn
      have fl : ((X.take k).filterMap (compF p q)).length ≤ X.length := Nat.le_trans (List.length_filterMap_le _ _) (by rw [List.length_take]; omega)
      have FL := Lib.hid fl
      clear fl
      cases hE : (imgL p (imgL q X[k]) == X[k])
      all_goals
        first | have hD : compF p q X[k] = none := by rw [compF, hE]; rfl
              | have hD : compF p q X[k] = some (X[k], imgL p (imgL q X[k])) := by rw [compF, hE]; rfl
        have HD := Lib.hid hD
        clear hD
        first | have hN : (imgL p (imgL q X[k]) != X[k]) = true := by rw [bne, hE]; rfl
              | have hN : (imgL p (imgL q X[k]) != X[k]) = false := by rw [bne, hE]; rfl
        go_wp2_with fail
        refine (image _ vq q X[k] (hq.below KP.mono bl)).mono ?_
        rintro e w4 ⟨rfl, hb4⟩
        obtain ⟨hc4, hf4⟩ := bcell hb4
        have hB4 : Below w.heap.size w w4 := bStep bl hb4
        have hp4 := Stp.mk hb4
        have hs4 := hb4.size
        try simp only [World.size_alloc, World.size_setCell, World.size_drew, World.heap_drewN] at hs4
        try simp only [World.size_drew, World.heap_drewN, World.cell?_drew, World.frozen?_drew, World.cell?_drewN, World.frozen?_drewN] at hc4 hf4
        go_wp2_with fail
        refine (image _ vp p (imgL q X[k]) (hp.below KP.mono bl)).mono ?_
        rintro e w5 ⟨rfl, hb5⟩
        obtain ⟨hc5, hf5⟩ := bcell hb5
        have hB5 : Below w.heap.size w w5 := bStep bl hb5
        have hp5 := Stp.mk hb5
        have hs5 := hb5.size
        try simp only [World.size_alloc, World.size_setCell, World.size_drew, World.heap_drewN] at hs5
        try simp only [World.size_drew, World.heap_drewN, World.cell?_drew, World.frozen?_drew, World.cell?_drewN, World.frozen?_drewN] at hc5 hf5
        go_wp2_with (at_builtin; refine Hid.out ?_)
        first
        | (go_roundg (gk - 1)
           case measure => omega
           case rel => exact ⟨k + 1, by omega, by omega, by go_num, by unfold Hid; rw [SN.out, HD.out]; simp only [Option.toList_none, List.append_nil]; exact OwP.keep hown.out bl, bl⟩)
        | (refine Lib.hid ?_
           have hs6 : w3.heap.size ≤ (w5.alloc (.cells #[.int .i64 X[k], .int .i64 (imgL p (imgL q X[k]))] 51)).heap.size := (show Below w3.heap.size w3 _ from bl).size
           have ho6 : OwP 51 (w5.alloc (.cells #[.int .i64 X[k], .int .i64 (imgL p (imgL q X[k]))] 51)) w3.heap.size u5 ((X.take k).filterMap (compF p q)) := OwP.keep hown.out bl
           refine wpList_app ty_Pair w3.heap.size u5 _ _ ho6 w5.heap.size 1 [.int .i64 X[k], .int .i64 (imgL p (imgL q X[k]))] (heap_alloc_new w5 _) rfl (by simp [Value.oneCell']) (by have := FL.out; omega) (by have := FL.out; omega) hs6 (.tmp 28) (.tmp 32) rfl rfl rfl rfl ?_
           intro v6 w6 ho7 hg7 hat
           have hO7 : Hid (OwP 51 w6 w3.heap.size v6 ((X.take (k + 1)).filterMap (compF p q))) := by
             unfold Hid
             rw [SN.out, HD.out]
             simpa [cP, OwP] using ho7
           have hB7 : Hid (Below w3.heap.size w3 w6) := bOwn (bl) ho6 hg7 hs6
           clear ho7 hg7 hat ho6 hs6
           go_wp2
           go_roundg (gk - 1)
           case measure => omega
           case rel => exact ⟨k + 1, by omega, by omega, by go_num, hO7, hB7⟩)
    · obtain rfl : k = X.length := by omega
      go_wp2
      go_ret
      exact ⟨_, rfl, by have := hown.out; rw [List.take_length] at this; rw [compL, HX.out]; exact owns_lower this (show Below w.heap.size w w3 from bl).size, bl⟩
end Go.Proofs.Ytmeaghkpojiniaa.Cx
