/- Contracts: has a list an element, all elements of another: the model's and the program's. -/
import Derived.Test.YtlkhiddimplnjaaCtx
namespace Go.Proofs.Ytlkhiddimplnjaa.Base
def hasF (l : List (Int × Int)) (x : Int × Int) : Bool := l.contains x
theorem hasF_yes {l : List (Int × Int)} {x : Int × Int} (h : x ∈ l) : hasF l x = true := by unfold hasF; rw [List.contains_iff_mem]; exact h
theorem hasF_no {l : List (Int × Int)} {x : Int × Int} (h : x ∉ l) : hasF l x = false := by unfold hasF; simpa using h
theorem hasF_iff {l : List (Int × Int)} {x : Int × Int} : hasF l x = true ↔ x ∈ l := by unfold hasF; rw [List.contains_iff_mem]
def insL (l part : List (Int × Int)) : Bool := part.all fun x => hasF l x
def incl (l part : List (Int × Int)) : Bool := isCtx l && isCtx part && insL l part
theorem pair_eq {x : Int × Int} {a b : Int} (h : (x.1 == a && x.2 == b) = true) : x = (a, b) := by simp at h; exact Prod.ext h.1 h.2
theorem pair_eq' {x : Int × Int} {a b : Int} (h : (a == x.1 && b == x.2) = true) : x = (a, b) := by simp at h; exact Prod.ext h.1.symm h.2.symm
theorem pair_ne {x : Int × Int} {a b : Int} (h : (x.1 == a && x.2 == b) = false) : x ≠ (a, b) := by rintro rfl; simp at h
theorem pair_ne' {x : Int × Int} {a b : Int} (h : (a == x.1 && b == x.2) = false) : x ≠ (a, b) := by rintro rfl; simp at h
theorem take_nomem {α : Type} {xs : List α} {k : Nat} {y : α} (h : k < xs.length) (h1 : y ∉ xs.take k) (h2 : xs[k] ≠ y) : y ∉ xs.take (k + 1) := by
  rw [take_snoc xs k h]
  simp only [List.mem_append, List.mem_singleton]
  rintro (h3 | h3)
  · exact h1 h3
  · exact h2 h3.symm
theorem all_take {α : Type} {xs : List α} {k : Nat} {p : α → Bool} (h : k < xs.length) : (xs.take (k + 1)).all p = ((xs.take k).all p && p xs[k]) := by
  rw [take_snoc xs k h, List.all_append]; simp only [List.all_cons, List.all_nil, Bool.and_true]
theorem all_no {α : Type} {xs : List α} {k : Nat} {p : α → Bool} (h : k < xs.length) (h1 : p xs[k] = false) : xs.all p = false := by
  rw [List.all_eq_false]; exact ⟨xs[k], List.getElem_mem h, by simp [h1]⟩
end Go.Proofs.Ytlkhiddimplnjaa.Base
namespace Go.Proofs.Ytlkhiddimplnjaa.Cx
open Go.RowKit Base
set_option linter.unusedVariables false
set_option linter.unusedSimpArgs false
set_option maxHeartbeats 3200000
attribute [local go_sem] cell_alloc_some
attribute [local go_sem high] eqOpFresh
theorem l3Has (w : World) (v : Value) (xs : List (Int × Int)) (x : Int × Int) (h : SlP w v xs) : Calls Try.prog 54 #[v, .agg #[.int .i64 x.1, .int .i64 x.2]] w fun e w' => e = .returned (.bool (hasF xs x)) ∧ Below w.heap.size w w' := by
  obtain ⟨A, c, rfl, hc, hl, hr⟩ := h
  obtain ⟨a, b⟩ := x
  go_enter Try.func54, Try.ntmps54
  go_wp2
  go_loopg [6, 9] (xs.length + 1) (fun n v6 v9 wr => ∃ k : Nat, n + k = xs.length + 1 ∧ k ≤ xs.length ∧ v9 = .int .i64 k ∧ Hid ((a, b) ∉ xs.take k) ∧ Hid (Stp (w.alloc (.cells #[.int .i64 a, .int .i64 b] 60)) wr))
  case atStart => exact ⟨0, by omega, by omega, rfl, by simp [Hid], Below.refl _ _⟩
  case round =>
    obtain ⟨k, hn, hk, rfl, hq, hB⟩ := hrel
    have hB1 := hB.out
    have hB2 : Below _ _ wr := hB.out
    clear hB
    have hBw : Below w.heap.size w wr := bl
    obtain ⟨hcB, hfB⟩ := bcell hB2
    have hsB := hB2.size
    simp only [World.size_alloc] at hsB
    have hzB : w.heap.size < wr.heap.size := by omega
    by_cases hlt : k < xs.length
    · obtain ⟨ad, rfl, c0, c1⟩ := (hr.below KP.mono hBw).atP hlt
      have g0 : (0 : Int) ≤ (k : Int) := by omega
      have g1 : (k : Int) < (xs.length : Int) := by omega
      cases h5 : (xs[k].1 == a && xs[k].2 == b)
      all_goals
        go_wp2
      · go_roundg (gk - 1)
        case measure => omega
        case rel => exact ⟨k + 1, by omega, by omega, by go_num, take_nomem hlt hq.out (pair_ne h5), by unfold Stp; exact bl⟩
      · go_ret
        exact ⟨ret_bool (hasF_yes (pair_eq h5 ▸ List.getElem_mem hlt)).symm, bl⟩
    · obtain rfl : k = xs.length := by omega
      go_wp2
      go_ret
      exact ⟨ret_bool (hasF_no (by have := hq.out; rwa [List.take_length] at this)).symm, bl⟩
theorem indexFresh (w : World) (v : Value) (xs : List (Int × Int)) (x : Int × Int) (h : SlP w v xs) : Calls Try.prog 60 #[v, .agg #[.int .i64 x.1, .int .i64 x.2]] w fun e w' => ∃ r : Int, e = .returned (.int .i64 r) ∧ decide (0 ≤ r) = hasF xs x ∧ Below w.heap.size w w' := by
  obtain ⟨A, c, rfl, hc, hl, hr⟩ := h
  obtain ⟨a, b⟩ := x
  go_enter Try.func60, Try.ntmps60
  go_wp2
  go_loopg [5, 8] (xs.length + 1) (fun n v5 v8 wr => ∃ k : Nat, n + k = xs.length + 1 ∧ k ≤ xs.length ∧ v8 = .int .i64 k ∧ Hid ((a, b) ∉ xs.take k) ∧ Hid (Stp (w.alloc (.cells #[.int .i64 a, .int .i64 b] 60)) wr))
  case atStart => exact ⟨0, by omega, by omega, rfl, by simp [Hid], Below.refl _ _⟩
  case round =>
    obtain ⟨k, hn, hk, rfl, hq, hB⟩ := hrel
    have hB1 := hB.out
    have hB2 : Below _ _ wr := hB.out
    clear hB
    have hBw : Below w.heap.size w wr := bl
    obtain ⟨hcB, hfB⟩ := bcell hB2
    have hsB := hB2.size
    simp only [World.size_alloc] at hsB
    have hzB : w.heap.size < wr.heap.size := by omega
    by_cases hlt : k < xs.length
    · obtain ⟨ad, rfl, c0, c1⟩ := (hr.below KP.mono hBw).atP hlt
      have g0 : (0 : Int) ≤ (k : Int) := by omega
      have g1 : (k : Int) < (xs.length : Int) := by omega
      have cls_c0 := clsCell c0
      have cls_c1 := clsCell c1
      cases h5 : (a == xs[k].1 && b == xs[k].2)
      all_goals
        go_wp2
        refine wp_region_plan ([], [0, 1, 2, 3, 4, 5], []) (by kernel_rfl) (by kernel_rfl) ?_
        simp only [wpSegs, opsAt, consAt_some, List.getElem?_cons_succ, List.getElem?_cons_zero]
        repeat (go_big_quiet_step (fail))
        refine wpQuiet_nil (wpList_nil (nrm_mk ?_))
        go_wp2
      · go_roundg (gk - 1)
        case measure => omega
        case rel => exact ⟨k + 1, by omega, by omega, by go_num, take_nomem hlt hq.out (pair_ne' h5), by unfold Stp; exact bl⟩
      · go_ret
        exact ⟨_, rfl, by rw [hasF_yes (pair_eq' h5 ▸ List.getElem_mem hlt)]; simp, bl⟩
    · obtain rfl : k = xs.length := by omega
      go_wp2
      go_ret
      exact ⟨_, rfl, by rw [hasF_no (by have := hq.out; rwa [List.take_length] at this)]; simp, bl⟩
theorem containsFresh (w : World) (v : Value) (xs : List (Int × Int)) (x : Int × Int) (h : SlP w v xs) : Calls Try.prog 55 #[v, .agg #[.int .i64 x.1, .int .i64 x.2]] w fun e w' => e = .returned (.bool (hasF xs x)) ∧ Below w.heap.size w w' := by
  obtain ⟨a, b⟩ := x
  go_enter Try.func55, Try.ntmps55
  go_wp2_with fail
  refine (indexFresh _ v xs (a, b) (h.below KP.mono bl)).mono ?_
  rintro e w1 ⟨r, rfl, hr, hb1⟩
  obtain ⟨hc1, hf1⟩ := bcell hb1
  have hB1 : Below w.heap.size w w1 := bStep bl hb1
  have hp1 := Stp.mk hb1
  have hs1 := hb1.size
  try simp only [World.size_alloc, World.size_setCell, World.size_drew, World.heap_drewN] at hs1
  try simp only [World.size_drew, World.heap_drewN, World.cell?_drew, World.frozen?_drew, World.cell?_drewN, World.frozen?_drewN] at hc1 hf1
  go_wp2
  go_ret
  exact ⟨by first | rfl | exact ret_bool hr, bl⟩
theorem l3In (w : World) (v vp : Value) (xs part : List (Int × Int)) (h0 : SlP w v xs) (h : SlP w vp part) : Calls Try.prog 40 #[v, vp] w fun e w' => e = .returned (.bool (insL xs part)) ∧ Below w.heap.size w w' := by
  obtain ⟨A, c, rfl, hc, hl, hr⟩ := h
  go_enter Try.func40, Try.ntmps40
  go_wp2
  go_loopg [6, 9] (part.length + 1) (fun n v6 v9 wr => ∃ k : Nat, n + k = part.length + 1 ∧ k ≤ part.length ∧ v9 = .int .i64 k ∧ Hid ((part.take k).all (fun x => hasF xs x) = true) ∧ Hid (Below w.heap.size w wr))
  case atStart => exact ⟨0, by omega, by omega, rfl, by simp [Hid], Below.refl _ _⟩
  case round =>
    obtain ⟨k, hn, hk, rfl, hq, hB⟩ := hrel
    have hBw := hB.out
    clear hB
    by_cases hlt : k < part.length
    · obtain ⟨ad, rfl, c0, c1⟩ := (hr.below KP.mono hBw).atP hlt
      have g0 : (0 : Int) ≤ (k : Int) := by omega
      have g1 : (k : Int) < (part.length : Int) := by omega
      cases h5 : hasF xs part[k]
      all_goals
        go_wp2_with fail
        refine (l3Has _ v xs part[k] (h0.below KP.mono bl)).mono ?_
        rintro e w1 ⟨rfl, hb1⟩
        obtain ⟨hc1, hf1⟩ := bcell hb1
        have hB1 : Below w.heap.size w w1 := bStep bl hb1
        have hp1 := Stp.mk hb1
        have hs1 := hb1.size
        try simp only [World.size_alloc, World.size_setCell, World.size_drew, World.heap_drewN] at hs1
        try simp only [World.size_drew, World.heap_drewN, World.cell?_drew, World.frozen?_drew, World.cell?_drewN, World.frozen?_drewN] at hc1 hf1
        have hz1_0 : wr.heap.size < w1.heap.size := by omega
        go_wp2
      · go_ret
        exact ⟨ret_bool (all_no hlt h5).symm, bl⟩
      · go_roundg (gk - 1)
        case measure => omega
        case rel => exact ⟨k + 1, by omega, by omega, by go_num, by unfold Hid; rw [all_take hlt, hq.out, h5]; rfl, bl⟩
    · obtain rfl : k = part.length := by omega
      go_wp2
      go_ret
      exact ⟨ret_bool (by symm; have := hq.out; rw [List.take_length] at this; exact this), bl⟩
theorem includes (w : World) (v vp : Value) (xs part : List (Int × Int)) (h0 : SlP w v xs) (h : SlP w vp part) : Calls Try.prog 41 #[v, vp] w fun e w' => e = .returned (.bool (insL xs part)) ∧ Below w.heap.size w w' := by
  obtain ⟨A, c, rfl, hc, hl, hr⟩ := h
  go_enter Try.func41, Try.ntmps41
  go_wp2
  go_loopg [6, 9] (part.length + 1) (fun n v6 v9 wr => ∃ k : Nat, n + k = part.length + 1 ∧ k ≤ part.length ∧ v9 = .int .i64 k ∧ Hid ((part.take k).all (fun x => hasF xs x) = true) ∧ Hid (Below w.heap.size w wr))
  case atStart => exact ⟨0, by omega, by omega, rfl, by simp [Hid], Below.refl _ _⟩
  case round =>
    obtain ⟨k, hn, hk, rfl, hq, hB⟩ := hrel
    have hBw := hB.out
    clear hB
    by_cases hlt : k < part.length
    · obtain ⟨ad, rfl, c0, c1⟩ := (hr.below KP.mono hBw).atP hlt
      have g0 : (0 : Int) ≤ (k : Int) := by omega
      have g1 : (k : Int) < (part.length : Int) := by omega
      cases h5 : hasF xs part[k]
      all_goals
        go_wp2_with fail
        refine (containsFresh _ v xs part[k] (h0.below KP.mono bl)).mono ?_
        rintro e w1 ⟨rfl, hb1⟩
        obtain ⟨hc1, hf1⟩ := bcell hb1
        have hB1 : Below w.heap.size w w1 := bStep bl hb1
        have hp1 := Stp.mk hb1
        have hs1 := hb1.size
        try simp only [World.size_alloc, World.size_setCell, World.size_drew, World.heap_drewN] at hs1
        try simp only [World.size_drew, World.heap_drewN, World.cell?_drew, World.frozen?_drew, World.cell?_drewN, World.frozen?_drewN] at hc1 hf1
        have hz1_0 : wr.heap.size < w1.heap.size := by omega
        go_wp2
      · go_ret
        exact ⟨ret_bool (all_no hlt h5).symm, bl⟩
      · go_roundg (gk - 1)
        case measure => omega
        case rel => exact ⟨k + 1, by omega, by omega, by go_num, by unfold Hid; rw [all_take hlt, hq.out, h5]; rfl, bl⟩
    · obtain rfl : k = part.length := by omega
      go_wp2
      go_ret
      exact ⟨ret_bool (by symm; have := hq.out; rw [List.take_length] at this; exact this), bl⟩
theorem specIncludes (w : World) (v vp : Value) (xs part : List (Int × Int)) (h0 : SlP w v xs) (h : SlP w vp part) : Calls Try.prog 23 #[v, vp] w fun e w' => e = .returned (.bool (incl xs part)) ∧ Below w.heap.size w w' := by
  cases h1 : isCtx xs
  · go_enter Try.func23, Try.ntmps23
    go_wp2_with fail
    refine (specIsContext _ v xs (h0.below KP.mono bl)).mono ?_
    rintro e w1 ⟨rfl, hb1⟩
    obtain ⟨hc1, hf1⟩ := bcell hb1
    have hB1 : Below w.heap.size w w1 := bStep bl hb1
    have hp1 := Stp.mk hb1
    have hs1 := hb1.size
    try simp only [World.size_alloc, World.size_setCell, World.size_drew, World.heap_drewN] at hs1
    try simp only [World.size_drew, World.heap_drewN, World.cell?_drew, World.frozen?_drew, World.cell?_drewN, World.frozen?_drewN] at hc1 hf1
    go_wp2
    go_ret
    exact ⟨ret_bool (by simp [incl, h1]), bl⟩
  · cases h2 : isCtx part
    · go_enter Try.func23, Try.ntmps23
      go_wp2_with fail
      refine (specIsContext _ v xs (h0.below KP.mono bl)).mono ?_
      rintro e w1 ⟨rfl, hb1⟩
      obtain ⟨hc1, hf1⟩ := bcell hb1
      have hB1 : Below w.heap.size w w1 := bStep bl hb1
      have hp1 := Stp.mk hb1
      have hs1 := hb1.size
      try simp only [World.size_alloc, World.size_setCell, World.size_drew, World.heap_drewN] at hs1
      try simp only [World.size_drew, World.heap_drewN, World.cell?_drew, World.frozen?_drew, World.cell?_drewN, World.frozen?_drewN] at hc1 hf1
      go_wp2_with fail
      refine (specIsContext _ vp part (h.below KP.mono bl)).mono ?_
      rintro e w2 ⟨rfl, hb2⟩
      obtain ⟨hc2, hf2⟩ := bcell hb2
      have hB2 : Below w.heap.size w w2 := bStep bl hb2
      have hp2 := Stp.mk hb2
      have hs2 := hb2.size
      try simp only [World.size_alloc, World.size_setCell, World.size_drew, World.heap_drewN] at hs2
      try simp only [World.size_drew, World.heap_drewN, World.cell?_drew, World.frozen?_drew, World.cell?_drewN, World.frozen?_drewN] at hc2 hf2
      go_wp2
      go_ret
      exact ⟨ret_bool (by simp [incl, h1, h2]), bl⟩
    · go_enter Try.func23, Try.ntmps23
      go_wp2_with fail
      refine (specIsContext _ v xs (h0.below KP.mono bl)).mono ?_
      rintro e w1 ⟨rfl, hb1⟩
      obtain ⟨hc1, hf1⟩ := bcell hb1
      have hB1 : Below w.heap.size w w1 := bStep bl hb1
      have hp1 := Stp.mk hb1
      have hs1 := hb1.size
      try simp only [World.size_alloc, World.size_setCell, World.size_drew, World.heap_drewN] at hs1
      try simp only [World.size_drew, World.heap_drewN, World.cell?_drew, World.frozen?_drew, World.cell?_drewN, World.frozen?_drewN] at hc1 hf1
      go_wp2_with fail
      refine (specIsContext _ vp part (h.below KP.mono bl)).mono ?_
      rintro e w2 ⟨rfl, hb2⟩
      obtain ⟨hc2, hf2⟩ := bcell hb2
      have hB2 : Below w.heap.size w w2 := bStep bl hb2
      have hp2 := Stp.mk hb2
      have hs2 := hb2.size
      try simp only [World.size_alloc, World.size_setCell, World.size_drew, World.heap_drewN] at hs2
      try simp only [World.size_drew, World.heap_drewN, World.cell?_drew, World.frozen?_drew, World.cell?_drewN, World.frozen?_drewN] at hc2 hf2
      go_wp2_with fail
      refine (l3In _ v vp xs part (h0.below KP.mono bl) (h.below KP.mono bl)).mono ?_
      rintro e w3 ⟨rfl, hb3⟩
      obtain ⟨hc3, hf3⟩ := bcell hb3
      have hB3 : Below w.heap.size w w3 := bStep bl hb3
      have hp3 := Stp.mk hb3
      have hs3 := hb3.size
      try simp only [World.size_alloc, World.size_setCell, World.size_drew, World.heap_drewN] at hs3
      try simp only [World.size_drew, World.heap_drewN, World.cell?_drew, World.frozen?_drew, World.cell?_drewN, World.frozen?_drewN] at hc3 hf3
      go_wp2
      go_ret
      exact ⟨ret_bool (by simp [incl, h1, h2]), bl⟩
theorem implIncludes (w : World) (v vp : Value) (xs part : List (Int × Int)) (h0 : SlP w v xs) (h : SlP w vp part) : Calls Try.prog 24 #[v, vp] w fun e w' => e = .returned (.bool (incl xs part)) ∧ Below w.heap.size w w' := by
  cases h1 : isCtx xs
  · go_enter Try.func24, Try.ntmps24
    go_wp2_with fail
    refine (implIsContext _ v xs (h0.below KP.mono bl)).mono ?_
    rintro e w1 ⟨rfl, hb1⟩
    obtain ⟨hc1, hf1⟩ := bcell hb1
    have hB1 : Below w.heap.size w w1 := bStep bl hb1
    have hp1 := Stp.mk hb1
    have hs1 := hb1.size
    try simp only [World.size_alloc, World.size_setCell, World.size_drew, World.heap_drewN] at hs1
    try simp only [World.size_drew, World.heap_drewN, World.cell?_drew, World.frozen?_drew, World.cell?_drewN, World.frozen?_drewN] at hc1 hf1
    go_wp2
    go_ret
    exact ⟨ret_bool (by simp [incl, h1]), bl⟩
  · cases h2 : isCtx part
    · go_enter Try.func24, Try.ntmps24
      go_wp2_with fail
      refine (implIsContext _ v xs (h0.below KP.mono bl)).mono ?_
      rintro e w1 ⟨rfl, hb1⟩
      obtain ⟨hc1, hf1⟩ := bcell hb1
      have hB1 : Below w.heap.size w w1 := bStep bl hb1
      have hp1 := Stp.mk hb1
      have hs1 := hb1.size
      try simp only [World.size_alloc, World.size_setCell, World.size_drew, World.heap_drewN] at hs1
      try simp only [World.size_drew, World.heap_drewN, World.cell?_drew, World.frozen?_drew, World.cell?_drewN, World.frozen?_drewN] at hc1 hf1
      go_wp2_with fail
      refine (implIsContext _ vp part (h.below KP.mono bl)).mono ?_
      rintro e w2 ⟨rfl, hb2⟩
      obtain ⟨hc2, hf2⟩ := bcell hb2
      have hB2 : Below w.heap.size w w2 := bStep bl hb2
      have hp2 := Stp.mk hb2
      have hs2 := hb2.size
      try simp only [World.size_alloc, World.size_setCell, World.size_drew, World.heap_drewN] at hs2
      try simp only [World.size_drew, World.heap_drewN, World.cell?_drew, World.frozen?_drew, World.cell?_drewN, World.frozen?_drewN] at hc2 hf2
      go_wp2
      go_ret
      exact ⟨ret_bool (by simp [incl, h1, h2]), bl⟩
    · go_enter Try.func24, Try.ntmps24
      go_wp2_with fail
      refine (implIsContext _ v xs (h0.below KP.mono bl)).mono ?_
      rintro e w1 ⟨rfl, hb1⟩
      obtain ⟨hc1, hf1⟩ := bcell hb1
      have hB1 : Below w.heap.size w w1 := bStep bl hb1
      have hp1 := Stp.mk hb1
      have hs1 := hb1.size
      try simp only [World.size_alloc, World.size_setCell, World.size_drew, World.heap_drewN] at hs1
      try simp only [World.size_drew, World.heap_drewN, World.cell?_drew, World.frozen?_drew, World.cell?_drewN, World.frozen?_drewN] at hc1 hf1
      go_wp2_with fail
      refine (implIsContext _ vp part (h.below KP.mono bl)).mono ?_
      rintro e w2 ⟨rfl, hb2⟩
      obtain ⟨hc2, hf2⟩ := bcell hb2
      have hB2 : Below w.heap.size w w2 := bStep bl hb2
      have hp2 := Stp.mk hb2
      have hs2 := hb2.size
      try simp only [World.size_alloc, World.size_setCell, World.size_drew, World.heap_drewN] at hs2
      try simp only [World.size_drew, World.heap_drewN, World.cell?_drew, World.frozen?_drew, World.cell?_drewN, World.frozen?_drewN] at hc2 hf2
      go_wp2_with fail
      refine (includes _ v vp xs part (h0.below KP.mono bl) (h.below KP.mono bl)).mono ?_
      rintro e w3 ⟨rfl, hb3⟩
      obtain ⟨hc3, hf3⟩ := bcell hb3
      have hB3 : Below w.heap.size w w3 := bStep bl hb3
      have hp3 := Stp.mk hb3
      have hs3 := hb3.size
      try simp only [World.size_alloc, World.size_setCell, World.size_drew, World.heap_drewN] at hs3
      try simp only [World.size_drew, World.heap_drewN, World.cell?_drew, World.frozen?_drew, World.cell?_drewN, World.frozen?_drewN] at hc3 hf3
      go_wp2
      go_ret
      exact ⟨ret_bool (by simp [incl, h1, h2]), bl⟩
end Go.Proofs.Ytlkhiddimplnjaa.Cx
