/- Contracts: the holes of a term, whether it has any, both ways. -/
import Derived.Test.YtbpbgmildhejoaaHoles
import Derived.Test.YtbpbgmildhejoaaIns
namespace Go.Proofs.Ytbpbgmildhejoaa.Base
theorem own_castI {E : TypeId} {w : World} {B : Nat} {v : Value} {xs ys : List Int} (h : OwI E w B v xs) (e : xs = ys) : OwI E w B v ys := e ▸ h
theorem holesL_len {t : Tm} (h : good t = true) (hz : t.sz ≤ 60) : (holesL t).length ≤ 2460 := by
  rw [← holes_eq h]
  have := ascL_len (preH t)
  have := (preH_len t).1
  omega
theorem hasHole_snoc : ∀ (ts : List Tm) (j : Nat) (h : j < ts.length), hasHoleL (ts.take (j + 1)) = (hasHoleL (ts.take j) || hasHole ts[j])
  | [], j, h => by simp at h
  | t :: ts, 0, _ => by simp [hasHoleL]
  | t :: ts, j + 1, h => by simp [hasHoleL, hasHole_snoc ts j (by simpa using h), Bool.or_assoc]
theorem hasHole_hit : ∀ (ts : List Tm) (j : Nat) (h : j < ts.length), hasHole ts[j] = true → hasHoleL ts = true
  | [], j, h, _ => by simp at h
  | t :: ts, 0, _, h => by simp at h; simp [hasHoleL, h]
  | t :: ts, j + 1, h, h' => by simp [hasHoleL, hasHole_hit ts j (by simpa using h) (by simpa using h')]
end Go.Proofs.Ytbpbgmildhejoaa.Base
namespace Go.Proofs.Ytbpbgmildhejoaa.Cx
open Go.RowKit Base
set_option linter.unusedVariables false
set_option linter.unusedSimpArgs false
set_option maxRecDepth 100000
set_option maxHeartbeats 3200000
theorem holes (w : World) (v : Value) (t : Tm) (h : VT w v t) (hg : good t = true) (hz : t.sz ≤ 60) : Calls Try.prog 62 #[v] w fun e w' => ∃ r, e = .returned r ∧ OwI 3 w' w.heap.size r (holesL t) ∧ Below w.heap.size w w' := by
  obtain ⟨vp, vk, rfl, hp, hk⟩ := h
  obtain ⟨A1, c1, rfl⟩ := hp.slice
  obtain ⟨A2, c2, rfl⟩ := hk.slice
  have hlen := (preH_len t).1
  have HLE := Lib.hid (show (preH t).length ≤ 2460 by omega)
  clear hlen
  go_enter Try.func62, Try.ntmps62
  go_wp2_with fail
  refine (eachHoles (MemL 3 (w.heap.size + 1)) Prod.fst stepH (w.heap.size + 1) (fun _ _ => rfl) (fun x v w0 w s F a b c d e f => holesStep _ x v w0 w s F a b c d e f) t.sz t _ w _ (0, []) [w.heap.size + 1] (Nat.le_refl _) hg ⟨_, _, rfl, hp, hk⟩ bl ⟨none, 0, by simp [blk, Value.ownBlock], by simp [go_sem], by simp [go_sem], by simp, World.ownsRow_nil _ _ _ _, by simp⟩ (by simp) (by simp only; omega)).mono ?_
  rintro e w2 ⟨rfl, ho2, F2, hst2, hn2⟩
  have hB2 : Below w.heap.size w w2 := Below.trans bl (ho2.below (by simp) (by simp; omega))
  rw [fold_holes] at hst2
  obtain ⟨A, c, rfl, hcell, hfz, hlt, hown, _⟩ := hst2
  simp only [List.nil_append] at hcell hown
  have hs2 := hB2.size
  have hkl := KL_one w2 43 _ _ (hown.sl (by have := HLE.out; omega)) (owns_nz hown)
  have HKL := Lib.hid hkl
  clear hkl hn2 ho2 hown
  go_wp2_with fail
  refine (ascending _ _ _ HKL.out (by simp [cat]; have := HLE.out; omega)).mono ?_
  rintro e w3 ⟨r3, rfl, ho3, hb3⟩
  obtain ⟨hc3, hf3⟩ := bcell hb3
  have hB3 : Below w.heap.size w w3 := bStep bl hb3
  have hp3 := Stp.mk hb3
  have hs3 := hb3.size
  try simp only [World.size_alloc, World.size_setCell, World.size_drew, World.heap_drewN] at hs3
  try simp only [World.size_drew, World.heap_drewN, World.cell?_drew, World.frozen?_drew, World.cell?_drewN, World.frozen?_drewN] at hc3 hf3
  go_wp2
  go_ret
  exact ⟨_, rfl, owns_lower (own_castI ho3 (by simp [cat]; exact holes_eq hg)) (show Below w.heap.size w _ from bl).size, bl⟩
theorem implHoles (w : World) (v : Value) (t : Tm) (h : VT w v t) (hb : t.bulk ≤ 1048576) : Calls Try.prog 28 #[v] w fun e w' => ∃ r, e = .returned r ∧ OwI 3 w' w.heap.size r (holesO t) ∧ Below w.heap.size w w' := by
  obtain ⟨vp, vk, rfl, hp, hk⟩ := h
  obtain ⟨A1, c1, rfl⟩ := hp.slice
  obtain ⟨A2, c2, rfl⟩ := hk.slice
  cases hT : termT t
  · go_enter Try.func28, Try.ntmps28
    go_wp2_with fail
    refine (implIsTerm t _ _ ⟨_, _, rfl, hp.below KP.mono bl, hk.below KT.mono bl⟩).mono ?_
    rintro e w1 ⟨rfl, hb1⟩
    obtain ⟨hc1, hf1⟩ := bcell hb1
    have hB1 : Below w.heap.size w w1 := bStep bl hb1
    have hp1 := Stp.mk hb1
    have hs1 := hb1.size
    try simp only [World.size_alloc, World.size_setCell, World.size_drew, World.heap_drewN] at hs1
    try simp only [World.size_drew, World.heap_drewN, World.cell?_drew, World.frozen?_drew, World.cell?_drewN, World.frozen?_drewN] at hc1 hf1
    have hz1_0 : w.heap.size < w1.heap.size := by omega
    go_wp2
    go_ret
    exact ⟨_, rfl, own_castI (xs := []) (World.ownsRow_nil _ _ _ _) (by simp [holesO, hT]), bl⟩
  · have hz : good t = true ∧ t.sz ≤ 60 := by simpa [termT] using hT
    have HT := Lib.hid hT
    go_enter Try.func28, Try.ntmps28
    go_wp2_with fail
    refine (implIsTerm t _ _ ⟨_, _, rfl, hp.below KP.mono bl, hk.below KT.mono bl⟩).mono ?_
    rintro e w1 ⟨rfl, hb1⟩
    obtain ⟨hc1, hf1⟩ := bcell hb1
    have hB1 : Below w.heap.size w w1 := bStep bl hb1
    have hp1 := Stp.mk hb1
    have hs1 := hb1.size
    try simp only [World.size_alloc, World.size_setCell, World.size_drew, World.heap_drewN] at hs1
    try simp only [World.size_drew, World.heap_drewN, World.cell?_drew, World.frozen?_drew, World.cell?_drewN, World.frozen?_drewN] at hc1 hf1
    have hz1_0 : w.heap.size < w1.heap.size := by omega
    go_wp2_with fail
    refine (holes _ _ t ⟨_, _, rfl, hp.below KP.mono bl, hk.below KT.mono bl⟩ hz.1 hz.2).mono ?_
    rintro e w2 ⟨r2, rfl, ho2, hb2⟩
    obtain ⟨hc2, hf2⟩ := bcell hb2
    have hB2 : Below w.heap.size w w2 := bStep bl hb2
    have hp2 := Stp.mk hb2
    have hs2 := hb2.size
    try simp only [World.size_alloc, World.size_setCell, World.size_drew, World.heap_drewN] at hs2
    try simp only [World.size_drew, World.heap_drewN, World.cell?_drew, World.frozen?_drew, World.cell?_drewN, World.frozen?_drewN] at hc2 hf2
    have hz2_0 : w.heap.size < w2.heap.size := by omega
    go_wp2
    go_ret
    exact ⟨_, rfl, owns_lower (own_castI ho2 (by simp [holesO, HT.out])) (show Below w.heap.size w _ from bl).size, bl⟩
theorem implGround (w : World) (v : Value) (t : Tm) (h : VT w v t) (hb : t.bulk ≤ 1048576) : Calls Try.prog 21 #[v] w fun e w' => e = .returned (.bool (groundT t)) ∧ Below w.heap.size w w' := by
  obtain ⟨vp, vk, rfl, hp, hk⟩ := h
  obtain ⟨A1, c1, rfl⟩ := hp.slice
  obtain ⟨A2, c2, rfl⟩ := hk.slice
  cases hT : termT t
  · go_enter Try.func21, Try.ntmps21
    go_wp2_with fail
    refine (implIsTerm t _ _ ⟨_, _, rfl, hp.below KP.mono bl, hk.below KT.mono bl⟩).mono ?_
    rintro e w1 ⟨rfl, hb1⟩
    obtain ⟨hc1, hf1⟩ := bcell hb1
    have hB1 : Below w.heap.size w w1 := bStep bl hb1
    have hp1 := Stp.mk hb1
    have hs1 := hb1.size
    try simp only [World.size_alloc, World.size_setCell, World.size_drew, World.heap_drewN] at hs1
    try simp only [World.size_drew, World.heap_drewN, World.cell?_drew, World.frozen?_drew, World.cell?_drewN, World.frozen?_drewN] at hc1 hf1
    have hz1_0 : w.heap.size < w1.heap.size := by omega
    go_wp2
    go_ret
    exact ⟨ret_bool (by simp [groundT, hT]), bl⟩
  · have hz : good t = true ∧ t.sz ≤ 60 := by simpa [termT] using hT
    have HT := Lib.hid hT
    have HG := Lib.hid (ground_eq hz.1)
    have HE := Lib.hid (holes_eq hz.1)
    by_cases hl : (holesL t).length = 0
    all_goals
      first | have hl2 : ((holesL t).length : Int) = 0 := by omega
            | have hl2 : ¬ ((holesL t).length : Int) = 0 := by omega
      go_enter Try.func21, Try.ntmps21
      go_wp2_with fail
      refine (implIsTerm t _ _ ⟨_, _, rfl, hp.below KP.mono bl, hk.below KT.mono bl⟩).mono ?_
      rintro e w1 ⟨rfl, hb1⟩
      obtain ⟨hc1, hf1⟩ := bcell hb1
      have hB1 : Below w.heap.size w w1 := bStep bl hb1
      have hp1 := Stp.mk hb1
      have hs1 := hb1.size
      try simp only [World.size_alloc, World.size_setCell, World.size_drew, World.heap_drewN] at hs1
      try simp only [World.size_drew, World.heap_drewN, World.cell?_drew, World.frozen?_drew, World.cell?_drewN, World.frozen?_drewN] at hc1 hf1
      have hz1_0 : w.heap.size < w1.heap.size := by omega
      go_wp2_with fail
      refine (holes _ _ t ⟨_, _, rfl, hp.below KP.mono bl, hk.below KT.mono bl⟩ hz.1 hz.2).mono ?_
      rintro e w2 ⟨r2, rfl, ho2, hb2⟩
      obtain ⟨hc2, hf2⟩ := bcell hb2
      have hB2 : Below w.heap.size w w2 := bStep bl hb2
      have hp2 := Stp.mk hb2
      have hs2 := hb2.size
      try simp only [World.size_alloc, World.size_setCell, World.size_drew, World.heap_drewN] at hs2
      try simp only [World.size_drew, World.heap_drewN, World.cell?_drew, World.frozen?_drew, World.cell?_drewN, World.frozen?_drewN] at hc2 hf2
      have hz2_0 : w.heap.size < w2.heap.size := by omega
      obtain ⟨A3, c3, rfl⟩ := owns_slice ho2
      go_wp2
      go_ret
      exact ⟨ret_bool (by have := HG.out; rw [HE.out] at this; simp [groundT, HT.out, ← this, hl]), bl⟩
attribute [local go_sem] cell_alloc_some in
theorem l2Holes (N : Nat) : ∀ (t : Tm) (v : Value) (w : World), t.sz ≤ N → VT w v t → Calls Try.prog 61 #[v] w fun e w' => e = .returned (.bool (hasHole t)) ∧ Below w.heap.size w w' := by
  induction N with
  | zero => intro t v w h; have := t.sz_pos; omega
  | succ N ih =>
    intro t v w hN ht
    obtain ⟨vp, vk, rfl, hp, hk⟩ := ht
    obtain ⟨A1, c1, rfl⟩ := hp.slice
    obtain ⟨A2, c2, hv, hc, hl, hr⟩ := hk
    subst hv
    have hkids : ∀ j (h : j < t.kids.length), t.kids[j].sz ≤ N := fun j h => by have := t.kid_sz j h; omega
    have HKS := Lib.hid hkids
    clear hkids
    have IH := Lib.hid ih
    clear ih
    have HG := Lib.hid (hasHole_eq t)
    go_enter Try.func61, Try.ntmps61
    go_wp2
    go_loopg [4, 8] (t.kids.length + 1) (fun n v4 v8 wr => ∃ k : Nat, n + k = t.kids.length + 1 ∧ k ≤ t.kids.length ∧ v8 = .int .i64 k ∧ Hid (hasHoleL (t.kids.take k) = false) ∧ wr.cell? ⟨w.heap.size, 0, none⟩ = some (.int .i64 t.op) ∧ Hid (Below w.heap.size w wr))
    case atStart => exact ⟨0, by omega, by omega, rfl, by simp [Hid, hasHoleL], by simp [go_sem], bl⟩
    case round =>
      obtain ⟨k, hn, hk', rfl, hq, hop, hB⟩ := hrel
      have hBw := hB.out
      clear hB
      by_cases hlt : k < t.kids.length
      · obtain ⟨ad, p1, k1, rfl, hp1, hq1, c0, c1, c2, c3⟩ := (hr.below KT.mono hBw).atT hlt
        have g0 : (0 : Int) ≤ (k : Int) := by omega
        have g1 : (k : Int) < (t.kids.length : Int) := by omega
        obtain ⟨P1, n1, rfl⟩ := hp1.slice
        obtain ⟨Q1, m1, rfl⟩ := hq1.slice
        have sn := hasHole_snoc t.kids k hlt
        have SN := Lib.hid sn
        clear sn
        cases h5 : hasHole t.kids[k]
        all_goals
          go_wp2_with fail
          refine (IH.out t.kids[k] _ _ (HKS.out k hlt) ⟨_, _, rfl, hp1.below KP.mono bl, hq1.below KT.mono bl⟩).mono ?_
          rintro e w2 ⟨rfl, hb2⟩
          obtain ⟨hc2, hf2⟩ := bcell hb2
          have hB2 : Below w.heap.size w w2 := bStep bl hb2
          have hp2 := Stp.mk hb2
          have hs2 := hb2.size
          try simp only [World.size_alloc, World.size_setCell, World.size_drew, World.heap_drewN] at hs2
          try simp only [World.size_drew, World.heap_drewN, World.cell?_drew, World.frozen?_drew, World.cell?_drewN, World.frozen?_drewN] at hc2 hf2
          have hop2 := bCell (w := wr) (w1 := w2) bl hop
          go_wp2
        · go_roundg (gk - 1)
          case measure => omega
          case rel => exact ⟨k + 1, by omega, by omega, by go_num, by unfold Hid; rw [SN.out, hq.out, h5]; rfl, hop2, bl⟩
        · go_ret
          exact ⟨ret_bool (by rw [HG.out, hasHole_hit _ k hlt h5]; rfl), bl⟩
      · obtain rfl : k = t.kids.length := by omega
        go_wp2
        go_ret
        exact ⟨ret_bool (by rw [HG.out]; have := hq.out; rw [List.take_length] at this; rw [this]; simp), bl⟩
theorem specGround (w : World) (v : Value) (t : Tm) (h : VT w v t) (hb : t.bulk ≤ 1048576) : Calls Try.prog 20 #[v] w fun e w' => e = .returned (.bool (groundT t)) ∧ Below w.heap.size w w' := by
  obtain ⟨vp, vk, rfl, hp, hk⟩ := h
  obtain ⟨A1, c1, rfl⟩ := hp.slice
  obtain ⟨A2, c2, rfl⟩ := hk.slice
  cases hT : termT t
  · go_enter Try.func20, Try.ntmps20
    go_wp2_with fail
    refine (specIsTerm t _ _ ⟨_, _, rfl, hp.below KP.mono bl, hk.below KT.mono bl⟩ hb).mono ?_
    rintro e w1 ⟨rfl, hb1⟩
    obtain ⟨hc1, hf1⟩ := bcell hb1
    have hB1 : Below w.heap.size w w1 := bStep bl hb1
    have hp1 := Stp.mk hb1
    have hs1 := hb1.size
    try simp only [World.size_alloc, World.size_setCell, World.size_drew, World.heap_drewN] at hs1
    try simp only [World.size_drew, World.heap_drewN, World.cell?_drew, World.frozen?_drew, World.cell?_drewN, World.frozen?_drewN] at hc1 hf1
    have hz1_0 : w.heap.size < w1.heap.size := by omega
    go_wp2
    go_ret
    exact ⟨ret_bool (by simp [groundT, hT]), bl⟩
  · go_enter Try.func20, Try.ntmps20
    go_wp2_with fail
    refine (specIsTerm t _ _ ⟨_, _, rfl, hp.below KP.mono bl, hk.below KT.mono bl⟩ hb).mono ?_
    rintro e w1 ⟨rfl, hb1⟩
    obtain ⟨hc1, hf1⟩ := bcell hb1
    have hB1 : Below w.heap.size w w1 := bStep bl hb1
    have hp1 := Stp.mk hb1
    have hs1 := hb1.size
    try simp only [World.size_alloc, World.size_setCell, World.size_drew, World.heap_drewN] at hs1
    try simp only [World.size_drew, World.heap_drewN, World.cell?_drew, World.frozen?_drew, World.cell?_drewN, World.frozen?_drewN] at hc1 hf1
    have hz1_0 : w.heap.size < w1.heap.size := by omega
    go_wp2_with fail
    refine (l2Holes t.sz t _ _ (Nat.le_refl _) ⟨_, _, rfl, hp.below KP.mono bl, hk.below KT.mono bl⟩).mono ?_
    rintro e w2 ⟨rfl, hb2⟩
    obtain ⟨hc2, hf2⟩ := bcell hb2
    have hB2 : Below w.heap.size w w2 := bStep bl hb2
    have hp2 := Stp.mk hb2
    have hs2 := hb2.size
    try simp only [World.size_alloc, World.size_setCell, World.size_drew, World.heap_drewN] at hs2
    try simp only [World.size_drew, World.heap_drewN, World.cell?_drew, World.frozen?_drew, World.cell?_drewN, World.frozen?_drewN] at hc2 hf2
    have hz2_0 : w.heap.size < w2.heap.size := by omega
    go_wp2
    go_ret
    exact ⟨ret_bool (by simp [groundT, hT]), bl⟩
end Go.Proofs.Ytbpbgmildhejoaa.Cx
