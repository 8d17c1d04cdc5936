/- Contracts: the moved atoms, the difference, the composition: the functions that stand open, both ways. -/
import Derived.Test.YtmeaghkpojiniaaComp
namespace Go.Proofs.Ytmeaghkpojiniaa.Cx
open Go.RowKit Base
set_option linter.unusedVariables false
set_option linter.unusedSimpArgs false
set_option maxRecDepth 100000
set_option maxHeartbeats 3200000
theorem own_cast {E : TypeId} {w : World} {B : Nat} {v : Value} {xs ys : List Int} (h : OwI E w B v xs) (e : xs = ys) : OwI E w B v ys := e ▸ h
theorem own_castP {E : TypeId} {w : World} {B : Nat} {v : Value} {xs ys : List (Int × Int)} (h : OwP E w B v xs) (e : xs = ys) : OwP E w B v ys := e ▸ h
theorem specMovedBy (w : World) (v : Value) (xs : List (Int × Int)) (h : SlP w v xs) : Calls Try.prog 22 #[v] w fun e w' => ∃ r, e = .returned r ∧ OwI 3 w' w.heap.size r (movedO xs) ∧ Below w.heap.size w w' := by
  cases hP : permS xs
  · go_enter Try.func22, Try.ntmps22
    go_wp2_with fail
    refine (specIsPerm _ v xs (h.below KP.mono bl)).mono ?_
    rintro e w1 ⟨rfl, hb1⟩
    obtain ⟨hc1, hf1⟩ := bcell hb1
    have hB1 : Below w.heap.size w w1 := bStep bl hb1
    have hp1 := Stp.mk hb1
    have hs1 := hb1.size
    try simp only [World.size_alloc, World.size_setCell, World.size_drew, World.heap_drewN] at hs1
    try simp only [World.size_drew, World.heap_drewN, World.cell?_drew, World.frozen?_drew, World.cell?_drewN, World.frozen?_drewN] at hc1 hf1
    go_wp2
    go_ret
    exact ⟨_, rfl, own_cast (xs := []) (World.ownsRow_nil _ _ _ _) (by simp [movedO, hP]), bl⟩
  · have hn := permS_len hP
    have HP := Lib.hid hP
    go_enter Try.func22, Try.ntmps22
    go_wp2_with fail
    refine (specIsPerm _ v xs (h.below KP.mono bl)).mono ?_
    rintro e w1 ⟨rfl, hb1⟩
    obtain ⟨hc1, hf1⟩ := bcell hb1
    have hB1 : Below w.heap.size w w1 := bStep bl hb1
    have hp1 := Stp.mk hb1
    have hs1 := hb1.size
    try simp only [World.size_alloc, World.size_setCell, World.size_drew, World.heap_drewN] at hs1
    try simp only [World.size_drew, World.heap_drewN, World.cell?_drew, World.frozen?_drew, World.cell?_drewN, World.frozen?_drewN] at hc1 hf1
    go_wp2_with fail
    refine (l1Atoms _ v (.slice none 0 0) xs [] (h.below KP.mono bl) Sl.nil (by omega) (by simp)).mono ?_
    rintro e w2 ⟨r2, rfl, ho2, hb2⟩
    obtain ⟨hc2, hf2⟩ := bcell hb2
    have hB2 : Below w.heap.size w w2 := bStep bl hb2
    have hp2 := Stp.mk hb2
    have hs2 := hb2.size
    try simp only [World.size_alloc, World.size_setCell, World.size_drew, World.heap_drewN] at hs2
    try simp only [World.size_drew, World.heap_drewN, World.cell?_drew, World.frozen?_drew, World.cell?_drewN, World.frozen?_drewN] at hc2 hf2
    go_wp2
    go_ret
    exact ⟨_, rfl, owns_lower (own_cast ho2 (by rw [both_nil HP.out]; simp [movedO, HP.out])) (show Below w.heap.size w _ from bl).size, bl⟩
theorem implMovedBy (w : World) (v : Value) (xs : List (Int × Int)) (h : SlP w v xs) : Calls Try.prog 23 #[v] w fun e w' => ∃ r, e = .returned r ∧ OwI 3 w' w.heap.size r (movedO xs) ∧ Below w.heap.size w w' := by
  cases hP : permS xs
  · go_enter Try.func23, Try.ntmps23
    go_wp2_with fail
    refine (implIsPerm _ v xs (h.below KP.mono bl)).mono ?_
    rintro e w1 ⟨rfl, hb1⟩
    obtain ⟨hc1, hf1⟩ := bcell hb1
    have hB1 : Below w.heap.size w w1 := bStep bl hb1
    have hp1 := Stp.mk hb1
    have hs1 := hb1.size
    try simp only [World.size_alloc, World.size_setCell, World.size_drew, World.heap_drewN] at hs1
    try simp only [World.size_drew, World.heap_drewN, World.cell?_drew, World.frozen?_drew, World.cell?_drewN, World.frozen?_drewN] at hc1 hf1
    go_wp2
    go_ret
    exact ⟨_, rfl, own_cast (xs := []) (World.ownsRow_nil _ _ _ _) (by simp [movedO, hP]), bl⟩
  · go_enter Try.func23, Try.ntmps23
    go_wp2_with fail
    refine (implIsPerm _ v xs (h.below KP.mono bl)).mono ?_
    rintro e w1 ⟨rfl, hb1⟩
    obtain ⟨hc1, hf1⟩ := bcell hb1
    have hB1 : Below w.heap.size w w1 := bStep bl hb1
    have hp1 := Stp.mk hb1
    have hs1 := hb1.size
    try simp only [World.size_alloc, World.size_setCell, World.size_drew, World.heap_drewN] at hs1
    try simp only [World.size_drew, World.heap_drewN, World.cell?_drew, World.frozen?_drew, World.cell?_drewN, World.frozen?_drewN] at hc1 hf1
    go_wp2_with fail
    refine (sources _ v xs (h.below KP.mono bl)).mono ?_
    rintro e w2 ⟨r2, rfl, ho2, hb2⟩
    obtain ⟨hc2, hf2⟩ := bcell hb2
    have hB2 : Below w.heap.size w w2 := bStep bl hb2
    have hp2 := Stp.mk hb2
    have hs2 := hb2.size
    try simp only [World.size_alloc, World.size_setCell, World.size_drew, World.heap_drewN] at hs2
    try simp only [World.size_drew, World.heap_drewN, World.cell?_drew, World.frozen?_drew, World.cell?_drewN, World.frozen?_drewN] at hc2 hf2
    go_wp2
    go_ret
    exact ⟨_, rfl, owns_lower (own_cast ho2 (by simp [movedO, hP])) (show Below w.heap.size w _ from bl).size, bl⟩
theorem specDifferenceOf (w : World) (vp vq : Value) (p q : List (Int × Int)) (hp : SlP w vp p) (hq : SlP w vq q) : Calls Try.prog 35 #[vp, vq] w fun e w' => ∃ r, e = .returned r ∧ OwI 3 w' w.heap.size r (diffO p q) ∧ Below w.heap.size w w' := by
  cases hP : permS p
  · go_enter Try.func35, Try.ntmps35
    go_wp2_with fail
    refine (specIsPerm _ vp p (hp.below KP.mono bl)).mono ?_
    rintro e w1 ⟨rfl, hb1⟩
    obtain ⟨hc1, hf1⟩ := bcell hb1
    have hB1 : Below w.heap.size w w1 := bStep bl hb1
    have hp1 := Stp.mk hb1
    have hs1 := hb1.size
    try simp only [World.size_alloc, World.size_setCell, World.size_drew, World.heap_drewN] at hs1
    try simp only [World.size_drew, World.heap_drewN, World.cell?_drew, World.frozen?_drew, World.cell?_drewN, World.frozen?_drewN] at hc1 hf1
    go_wp2
    go_ret
    exact ⟨_, rfl, own_cast (xs := []) (World.ownsRow_nil _ _ _ _) (by simp [diffO, hP]), bl⟩
  · have hn := permS_len hP
    cases hQ : permS q
    · go_enter Try.func35, Try.ntmps35
      go_wp2_with fail
      refine (specIsPerm _ vp p (hp.below KP.mono bl)).mono ?_
      rintro e w1 ⟨rfl, hb1⟩
      obtain ⟨hc1, hf1⟩ := bcell hb1
      have hB1 : Below w.heap.size w w1 := bStep bl hb1
      have hp1 := Stp.mk hb1
      have hs1 := hb1.size
      try simp only [World.size_alloc, World.size_setCell, World.size_drew, World.heap_drewN] at hs1
      try simp only [World.size_drew, World.heap_drewN, World.cell?_drew, World.frozen?_drew, World.cell?_drewN, World.frozen?_drewN] at hc1 hf1
      go_wp2_with fail
      refine (specIsPerm _ vq q (hq.below KP.mono bl)).mono ?_
      rintro e w2 ⟨rfl, hb2⟩
      obtain ⟨hc2, hf2⟩ := bcell hb2
      have hB2 : Below w.heap.size w w2 := bStep bl hb2
      have hp2 := Stp.mk hb2
      have hs2 := hb2.size
      try simp only [World.size_alloc, World.size_setCell, World.size_drew, World.heap_drewN] at hs2
      try simp only [World.size_drew, World.heap_drewN, World.cell?_drew, World.frozen?_drew, World.cell?_drewN, World.frozen?_drewN] at hc2 hf2
      go_wp2
      go_ret
      exact ⟨_, rfl, own_cast (xs := []) (World.ownsRow_nil _ _ _ _) (by simp [diffO, hQ]), bl⟩
    · have hm := permS_len hQ
      go_enter Try.func35, Try.ntmps35
      go_wp2_with fail
      refine (specIsPerm _ vp p (hp.below KP.mono bl)).mono ?_
      rintro e w1 ⟨rfl, hb1⟩
      obtain ⟨hc1, hf1⟩ := bcell hb1
      have hB1 : Below w.heap.size w w1 := bStep bl hb1
      have hp1 := Stp.mk hb1
      have hs1 := hb1.size
      try simp only [World.size_alloc, World.size_setCell, World.size_drew, World.heap_drewN] at hs1
      try simp only [World.size_drew, World.heap_drewN, World.cell?_drew, World.frozen?_drew, World.cell?_drewN, World.frozen?_drewN] at hc1 hf1
      go_wp2_with fail
      refine (specIsPerm _ vq q (hq.below KP.mono bl)).mono ?_
      rintro e w2 ⟨rfl, hb2⟩
      obtain ⟨hc2, hf2⟩ := bcell hb2
      have hB2 : Below w.heap.size w w2 := bStep bl hb2
      have hp2 := Stp.mk hb2
      have hs2 := hb2.size
      try simp only [World.size_alloc, World.size_setCell, World.size_drew, World.heap_drewN] at hs2
      try simp only [World.size_drew, World.heap_drewN, World.cell?_drew, World.frozen?_drew, World.cell?_drewN, World.frozen?_drewN] at hc2 hf2
      go_wp2_with fail
      refine (l1Differ _ vp vq p q (hp.below KP.mono bl) (hq.below KP.mono bl) (by omega) (by omega)).mono ?_
      rintro e w3 ⟨r3, rfl, ho3, hb3⟩
      obtain ⟨hc3, hf3⟩ := bcell hb3
      have hB3 : Below w.heap.size w w3 := bStep bl hb3
      have hp3 := Stp.mk hb3
      have hs3 := hb3.size
      try simp only [World.size_alloc, World.size_setCell, World.size_drew, World.heap_drewN] at hs3
      try simp only [World.size_drew, World.heap_drewN, World.cell?_drew, World.frozen?_drew, World.cell?_drewN, World.frozen?_drewN] at hc3 hf3
      go_wp2
      go_ret
      exact ⟨_, rfl, owns_lower (own_cast ho3 (by simp [diffO, hP, hQ])) (show Below w.heap.size w _ from bl).size, bl⟩
theorem implDifferenceOf (w : World) (vp vq : Value) (p q : List (Int × Int)) (hp : SlP w vp p) (hq : SlP w vq q) : Calls Try.prog 36 #[vp, vq] w fun e w' => ∃ r, e = .returned r ∧ OwI 3 w' w.heap.size r (diffO p q) ∧ Below w.heap.size w w' := by
  cases hP : permS p
  · go_enter Try.func36, Try.ntmps36
    go_wp2_with fail
    refine (implIsPerm _ vp p (hp.below KP.mono bl)).mono ?_
    rintro e w1 ⟨rfl, hb1⟩
    obtain ⟨hc1, hf1⟩ := bcell hb1
    have hB1 : Below w.heap.size w w1 := bStep bl hb1
    have hp1 := Stp.mk hb1
    have hs1 := hb1.size
    try simp only [World.size_alloc, World.size_setCell, World.size_drew, World.heap_drewN] at hs1
    try simp only [World.size_drew, World.heap_drewN, World.cell?_drew, World.frozen?_drew, World.cell?_drewN, World.frozen?_drewN] at hc1 hf1
    go_wp2
    go_ret
    exact ⟨_, rfl, own_cast (xs := []) (World.ownsRow_nil _ _ _ _) (by simp [diffO, hP]), bl⟩
  · have hn := permS_len hP
    cases hQ : permS q
    · go_enter Try.func36, Try.ntmps36
      go_wp2_with fail
      refine (implIsPerm _ vp p (hp.below KP.mono bl)).mono ?_
      rintro e w1 ⟨rfl, hb1⟩
      obtain ⟨hc1, hf1⟩ := bcell hb1
      have hB1 : Below w.heap.size w w1 := bStep bl hb1
      have hp1 := Stp.mk hb1
      have hs1 := hb1.size
      try simp only [World.size_alloc, World.size_setCell, World.size_drew, World.heap_drewN] at hs1
      try simp only [World.size_drew, World.heap_drewN, World.cell?_drew, World.frozen?_drew, World.cell?_drewN, World.frozen?_drewN] at hc1 hf1
      go_wp2_with fail
      refine (implIsPerm _ vq q (hq.below KP.mono bl)).mono ?_
      rintro e w2 ⟨rfl, hb2⟩
      obtain ⟨hc2, hf2⟩ := bcell hb2
      have hB2 : Below w.heap.size w w2 := bStep bl hb2
      have hp2 := Stp.mk hb2
      have hs2 := hb2.size
      try simp only [World.size_alloc, World.size_setCell, World.size_drew, World.heap_drewN] at hs2
      try simp only [World.size_drew, World.heap_drewN, World.cell?_drew, World.frozen?_drew, World.cell?_drewN, World.frozen?_drewN] at hc2 hf2
      go_wp2
      go_ret
      exact ⟨_, rfl, own_cast (xs := []) (World.ownsRow_nil _ _ _ _) (by simp [diffO, hQ]), bl⟩
    · have hm := permS_len hQ
      go_enter Try.func36, Try.ntmps36
      go_wp2_with fail
      refine (implIsPerm _ vp p (hp.below KP.mono bl)).mono ?_
      rintro e w1 ⟨rfl, hb1⟩
      obtain ⟨hc1, hf1⟩ := bcell hb1
      have hB1 : Below w.heap.size w w1 := bStep bl hb1
      have hp1 := Stp.mk hb1
      have hs1 := hb1.size
      try simp only [World.size_alloc, World.size_setCell, World.size_drew, World.heap_drewN] at hs1
      try simp only [World.size_drew, World.heap_drewN, World.cell?_drew, World.frozen?_drew, World.cell?_drewN, World.frozen?_drewN] at hc1 hf1
      go_wp2_with fail
      refine (implIsPerm _ vq q (hq.below KP.mono bl)).mono ?_
      rintro e w2 ⟨rfl, hb2⟩
      obtain ⟨hc2, hf2⟩ := bcell hb2
      have hB2 : Below w.heap.size w w2 := bStep bl hb2
      have hp2 := Stp.mk hb2
      have hs2 := hb2.size
      try simp only [World.size_alloc, World.size_setCell, World.size_drew, World.heap_drewN] at hs2
      try simp only [World.size_drew, World.heap_drewN, World.cell?_drew, World.frozen?_drew, World.cell?_drewN, World.frozen?_drewN] at hc2 hf2
      go_wp2_with fail
      refine (differences _ vp vq p q (hp.below KP.mono bl) (hq.below KP.mono bl) (by omega) (by omega)).mono ?_
      rintro e w3 ⟨r3, rfl, ho3, hb3⟩
      obtain ⟨hc3, hf3⟩ := bcell hb3
      have hB3 : Below w.heap.size w w3 := bStep bl hb3
      have hp3 := Stp.mk hb3
      have hs3 := hb3.size
      try simp only [World.size_alloc, World.size_setCell, World.size_drew, World.heap_drewN] at hs3
      try simp only [World.size_drew, World.heap_drewN, World.cell?_drew, World.frozen?_drew, World.cell?_drewN, World.frozen?_drewN] at hc3 hf3
      go_wp2
      go_ret
      exact ⟨_, rfl, owns_lower (own_cast ho3 (by simp [diffO, hP, hQ])) (show Below w.heap.size w _ from bl).size, bl⟩
theorem specCompose (w : World) (vp vq : Value) (p q : List (Int × Int)) (hp : SlP w vp p) (hq : SlP w vq q) : Calls Try.prog 33 #[vp, vq] w fun e w' => ∃ r, e = .returned (.tuple #[r, .bool (compOk p q)]) ∧ OwP 51 w' w.heap.size r (compO p q) ∧ Below w.heap.size w w' := by
  cases hP : permS p
  · have hK : compOk p q = false := by simp [compOk, hP]
    have HK := Lib.hid hK
    clear hK
    go_enter Try.func33, Try.ntmps33
    go_wp2_with fail
    refine (specIsPerm _ vp p (hp.below KP.mono bl)).mono ?_
    rintro e w1 ⟨rfl, hb1⟩
    obtain ⟨hc1, hf1⟩ := bcell hb1
    have hB1 : Below w.heap.size w w1 := bStep bl hb1
    have hp1 := Stp.mk hb1
    have hs1 := hb1.size
    try simp only [World.size_alloc, World.size_setCell, World.size_drew, World.heap_drewN] at hs1
    try simp only [World.size_drew, World.heap_drewN, World.cell?_drew, World.frozen?_drew, World.cell?_drewN, World.frozen?_drewN] at hc1 hf1
    go_wp2
    go_ret2
    exact ⟨_, by rw [HK.out]; rfl, own_castP (xs := []) (World.ownsRow_nil _ _ _ _) (by simp [compO, HK.out]), bl⟩
  · have hn := permS_len hP
    cases hQ : permS q
    · have hK : compOk p q = false := by simp [compOk, hQ]
      have HK := Lib.hid hK
      clear hK
      go_enter Try.func33, Try.ntmps33
      go_wp2_with fail
      refine (specIsPerm _ vp p (hp.below KP.mono bl)).mono ?_
      rintro e w1 ⟨rfl, hb1⟩
      obtain ⟨hc1, hf1⟩ := bcell hb1
      have hB1 : Below w.heap.size w w1 := bStep bl hb1
      have hp1 := Stp.mk hb1
      have hs1 := hb1.size
      try simp only [World.size_alloc, World.size_setCell, World.size_drew, World.heap_drewN] at hs1
      try simp only [World.size_drew, World.heap_drewN, World.cell?_drew, World.frozen?_drew, World.cell?_drewN, World.frozen?_drewN] at hc1 hf1
      go_wp2_with fail
      refine (specIsPerm _ vq q (hq.below KP.mono bl)).mono ?_
      rintro e w2 ⟨rfl, hb2⟩
      obtain ⟨hc2, hf2⟩ := bcell hb2
      have hB2 : Below w.heap.size w w2 := bStep bl hb2
      have hp2 := Stp.mk hb2
      have hs2 := hb2.size
      try simp only [World.size_alloc, World.size_setCell, World.size_drew, World.heap_drewN] at hs2
      try simp only [World.size_drew, World.heap_drewN, World.cell?_drew, World.frozen?_drew, World.cell?_drewN, World.frozen?_drewN] at hc2 hf2
      go_wp2
      go_ret2
      exact ⟨_, by rw [HK.out]; rfl, own_castP (xs := []) (World.ownsRow_nil _ _ _ _) (by simp [compO, HK.out]), bl⟩
    · have hm := permS_len hQ
      have hK : compOk p q = decide ((compL p q).length ≤ 40) := by simp [compOk, hP, hQ]
      generalize hX : compL p q = X at hK
      have HX := Lib.hid hX
      clear hX
      by_cases hL : X.length ≤ 40
      all_goals
        first | have lt : decide ((40 : Int) < (X.length : Int)) = false := by simp; omega
              | have lt : decide ((40 : Int) < (X.length : Int)) = true := by simp; omega
        first | have hK2 : compOk p q = true := by rw [hK]; simpa using hL
              | have hK2 : compOk p q = false := by rw [hK]; simpa using hL
        have HK := Lib.hid hK2
        clear hK2
        go_enter Try.func33, Try.ntmps33
        go_wp2_with fail
        refine (specIsPerm _ vp p (hp.below KP.mono bl)).mono ?_
        rintro e w1 ⟨rfl, hb1⟩
        obtain ⟨hc1, hf1⟩ := bcell hb1
        have hB1 : Below w.heap.size w w1 := bStep bl hb1
        have hp1 := Stp.mk hb1
        have hs1 := hb1.size
        try simp only [World.size_alloc, World.size_setCell, World.size_drew, World.heap_drewN] at hs1
        try simp only [World.size_drew, World.heap_drewN, World.cell?_drew, World.frozen?_drew, World.cell?_drewN, World.frozen?_drewN] at hc1 hf1
        go_wp2_with fail
        refine (specIsPerm _ vq q (hq.below KP.mono bl)).mono ?_
        rintro e w2 ⟨rfl, hb2⟩
        obtain ⟨hc2, hf2⟩ := bcell hb2
        have hB2 : Below w.heap.size w w2 := bStep bl hb2
        have hp2 := Stp.mk hb2
        have hs2 := hb2.size
        try simp only [World.size_alloc, World.size_setCell, World.size_drew, World.heap_drewN] at hs2
        try simp only [World.size_drew, World.heap_drewN, World.cell?_drew, World.frozen?_drew, World.cell?_drewN, World.frozen?_drewN] at hc2 hf2
        go_wp2_with fail
        refine (l1Then _ vp vq p q (hp.below KP.mono bl) (hq.below KP.mono bl) (by omega) (by omega)).mono ?_
        rintro e w3 ⟨r3, rfl, ho3, hb3⟩
        obtain ⟨hc3, hf3⟩ := bcell hb3
        have hB3 : Below w.heap.size w w3 := bStep bl hb3
        have hp3 := Stp.mk hb3
        have hs3 := hb3.size
        try simp only [World.size_alloc, World.size_setCell, World.size_drew, World.heap_drewN] at hs3
        try simp only [World.size_drew, World.heap_drewN, World.cell?_drew, World.frozen?_drew, World.cell?_drewN, World.frozen?_drewN] at hc3 hf3
        rw [HX.out] at ho3
        obtain ⟨A3, c3, rfl⟩ := owns_slice ho3
        go_wp2
        go_ret2
      · exact ⟨_, by rw [HK.out]; rfl, owns_lower (own_castP ho3 (by simp [compO, HK.out, HX.out])) (show Below w.heap.size w _ from bl).size, bl⟩
      · exact ⟨_, by rw [HK.out]; rfl, own_castP (xs := []) (World.ownsRow_nil _ _ _ _) (by simp [compO, HK.out]), bl⟩
theorem implCompose (w : World) (vp vq : Value) (p q : List (Int × Int)) (hp : SlP w vp p) (hq : SlP w vq q) : Calls Try.prog 34 #[vp, vq] w fun e w' => ∃ r, e = .returned (.tuple #[r, .bool (compOk p q)]) ∧ OwP 51 w' w.heap.size r (compO p q) ∧ Below w.heap.size w w' := by
  cases hP : permS p
  · have hK : compOk p q = false := by simp [compOk, hP]
    have HK := Lib.hid hK
    clear hK
    go_enter Try.func34, Try.ntmps34
    go_wp2_with fail
    refine (implIsPerm _ vp p (hp.below KP.mono bl)).mono ?_
    rintro e w1 ⟨rfl, hb1⟩
    obtain ⟨hc1, hf1⟩ := bcell hb1
    have hB1 : Below w.heap.size w w1 := bStep bl hb1
    have hp1 := Stp.mk hb1
    have hs1 := hb1.size
    try simp only [World.size_alloc, World.size_setCell, World.size_drew, World.heap_drewN] at hs1
    try simp only [World.size_drew, World.heap_drewN, World.cell?_drew, World.frozen?_drew, World.cell?_drewN, World.frozen?_drewN] at hc1 hf1
    go_wp2
    go_ret2
    exact ⟨_, by rw [HK.out]; rfl, own_castP (xs := []) (World.ownsRow_nil _ _ _ _) (by simp [compO, HK.out]), bl⟩
  · have hn := permS_len hP
    cases hQ : permS q
    · have hK : compOk p q = false := by simp [compOk, hQ]
      have HK := Lib.hid hK
      clear hK
      go_enter Try.func34, Try.ntmps34
      go_wp2_with fail
      refine (implIsPerm _ vp p (hp.below KP.mono bl)).mono ?_
      rintro e w1 ⟨rfl, hb1⟩
      obtain ⟨hc1, hf1⟩ := bcell hb1
      have hB1 : Below w.heap.size w w1 := bStep bl hb1
      have hp1 := Stp.mk hb1
      have hs1 := hb1.size
      try simp only [World.size_alloc, World.size_setCell, World.size_drew, World.heap_drewN] at hs1
      try simp only [World.size_drew, World.heap_drewN, World.cell?_drew, World.frozen?_drew, World.cell?_drewN, World.frozen?_drewN] at hc1 hf1
      go_wp2_with fail
      refine (implIsPerm _ vq q (hq.below KP.mono bl)).mono ?_
      rintro e w2 ⟨rfl, hb2⟩
      obtain ⟨hc2, hf2⟩ := bcell hb2
      have hB2 : Below w.heap.size w w2 := bStep bl hb2
      have hp2 := Stp.mk hb2
      have hs2 := hb2.size
      try simp only [World.size_alloc, World.size_setCell, World.size_drew, World.heap_drewN] at hs2
      try simp only [World.size_drew, World.heap_drewN, World.cell?_drew, World.frozen?_drew, World.cell?_drewN, World.frozen?_drewN] at hc2 hf2
      go_wp2
      go_ret2
      exact ⟨_, by rw [HK.out]; rfl, own_castP (xs := []) (World.ownsRow_nil _ _ _ _) (by simp [compO, HK.out]), bl⟩
    · have hm := permS_len hQ
      have hK : compOk p q = decide ((compL p q).length ≤ 40) := by simp [compOk, hP, hQ]
      generalize hX : compL p q = X at hK
      have HX := Lib.hid hX
      clear hX
      by_cases hL : X.length ≤ 40
      all_goals
        first | have lt : decide ((40 : Int) < (X.length : Int)) = false := by simp; omega
              | have lt : decide ((40 : Int) < (X.length : Int)) = true := by simp; omega
        first | have hK2 : compOk p q = true := by rw [hK]; simpa using hL
              | have hK2 : compOk p q = false := by rw [hK]; simpa using hL
        have HK := Lib.hid hK2
        clear hK2
        go_enter Try.func34, Try.ntmps34
        go_wp2_with fail
        refine (implIsPerm _ vp p (hp.below KP.mono bl)).mono ?_
        rintro e w1 ⟨rfl, hb1⟩
        obtain ⟨hc1, hf1⟩ := bcell hb1
        have hB1 : Below w.heap.size w w1 := bStep bl hb1
        have hp1 := Stp.mk hb1
        have hs1 := hb1.size
        try simp only [World.size_alloc, World.size_setCell, World.size_drew, World.heap_drewN] at hs1
        try simp only [World.size_drew, World.heap_drewN, World.cell?_drew, World.frozen?_drew, World.cell?_drewN, World.frozen?_drewN] at hc1 hf1
        go_wp2_with fail
        refine (implIsPerm _ vq q (hq.below KP.mono bl)).mono ?_
        rintro e w2 ⟨rfl, hb2⟩
        obtain ⟨hc2, hf2⟩ := bcell hb2
        have hB2 : Below w.heap.size w w2 := bStep bl hb2
        have hp2 := Stp.mk hb2
        have hs2 := hb2.size
        try simp only [World.size_alloc, World.size_setCell, World.size_drew, World.heap_drewN] at hs2
        try simp only [World.size_drew, World.heap_drewN, World.cell?_drew, World.frozen?_drew, World.cell?_drewN, World.frozen?_drewN] at hc2 hf2
        go_wp2_with fail
        refine (compose _ vp vq p q (hp.below KP.mono bl) (hq.below KP.mono bl) (by omega) (by omega)).mono ?_
        rintro e w3 ⟨r3, rfl, ho3, hb3⟩
        obtain ⟨hc3, hf3⟩ := bcell hb3
        have hB3 : Below w.heap.size w w3 := bStep bl hb3
        have hp3 := Stp.mk hb3
        have hs3 := hb3.size
        try simp only [World.size_alloc, World.size_setCell, World.size_drew, World.heap_drewN] at hs3
        try simp only [World.size_drew, World.heap_drewN, World.cell?_drew, World.frozen?_drew, World.cell?_drewN, World.frozen?_drewN] at hc3 hf3
        rw [HX.out] at ho3
        obtain ⟨A3, c3, rfl⟩ := owns_slice ho3
        go_wp2
        go_ret2
      · exact ⟨_, by rw [HK.out]; rfl, owns_lower (own_castP ho3 (by simp [compO, HK.out, HX.out])) (show Below w.heap.size w _ from bl).size, bl⟩
      · exact ⟨_, by rw [HK.out]; rfl, own_castP (xs := []) (World.ownsRow_nil _ _ _ _) (by simp [compO, HK.out]), bl⟩
end Go.Proofs.Ytmeaghkpojiniaa.Cx
