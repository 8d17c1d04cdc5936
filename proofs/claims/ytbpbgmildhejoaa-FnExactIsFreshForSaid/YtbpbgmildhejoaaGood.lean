/- Contracts: which terms are right, and how great they are, the model's way. -/
import Derived.Test.YtbpbgmildhejoaaTmL
import Derived.Test.YtbpbgmildhejoaaPerm
import Derived.Test.YtbpbgmildhejoaaOpen
namespace Go.Proofs.Ytbpbgmildhejoaa.Base
theorem shape1 {t : Tm} (h : t.op = 1) : shapeT t = (atom t.n && (decide (t.perm.length = 0) && decide (t.kids.length = 0))) := by unfold shapeT; rw [if_pos h]
theorem shape2 {t : Tm} (h : t.op = 2) : shapeT t = (inR t.n 0 11 && (decide (t.perm.length = 0) && decide ((t.kids.length : Int) = Int.tmod t.n 4))) := by unfold shapeT; rw [if_neg (by omega), if_pos h]
theorem shape3 {t : Tm} (h : t.op = 3) : shapeT t = (atom t.n && (decide (t.perm.length = 0) && decide (t.kids.length = 1))) := by unfold shapeT; rw [if_neg (by omega), if_neg (by omega), if_pos h]
theorem shape4 {t : Tm} (h : t.op = 4) : shapeT t = (inR t.n 0 9 && (permS t.perm && decide (t.kids.length = 0))) := by unfold shapeT; rw [if_neg (by omega), if_neg (by omega), if_neg (by omega), if_pos h]
theorem shape0 {t : Tm} (h1 : t.op ≠ 1) (h2 : t.op ≠ 2) (h3 : t.op ≠ 3) (h4 : t.op ≠ 4) : shapeT t = false := by unfold shapeT; rw [if_neg h1, if_neg h2, if_neg h3, if_neg h4]
end Go.Proofs.Ytbpbgmildhejoaa.Base
namespace Go.Proofs.Ytbpbgmildhejoaa.Cx
open Go.RowKit Base
set_option linter.unusedVariables false
set_option linter.unusedSimpArgs false
set_option maxRecDepth 100000
set_option maxHeartbeats 3200000
theorem l2Shape (t : Tm) (v : Value) (w : World) (h : VT w v t) : Calls Try.prog 93 #[v] w fun e w' => e = .returned (.bool (shapeT t)) ∧ Below w.heap.size w w' := by
  obtain ⟨vp, vk, rfl, hp, hk⟩ := h
  obtain ⟨A1, c1, rfl⟩ := hp.slice
  obtain ⟨A2, c2, rfl⟩ := hk.slice
  by_cases o1 : t.op = 1
  · have HS := Lib.hid (shape1 o1)
    cases hA : atom t.n
    all_goals by_cases hP : t.perm.length = 0
    all_goals by_cases hK : t.kids.length = 0
    all_goals
      go_enter Try.func93, Try.ntmps93
      go_wp2_with fail
      refine (l1Atom _ t.n).mono ?_
      rintro e w1 ⟨rfl, hb1⟩
      obtain ⟨hc1, hf1⟩ := bcell hb1
      have hB1 : Below w.heap.size w w1 := bStep bl hb1
      have hp1 := Stp.mk hb1
      have hs1 := hb1.size
      try simp only [World.size_alloc, World.size_setCell, World.size_drew, World.heap_drewN] at hs1
      try simp only [World.size_drew, World.heap_drewN, World.cell?_drew, World.frozen?_drew, World.cell?_drewN, World.frozen?_drewN] at hc1 hf1
      have hz1_0 : w.heap.size < w1.heap.size := by omega
      go_wp2
      go_ret
      exact ⟨ret_bool (by rw [HS.out]; simp [hA, hP, hK] <;> omega), bl⟩
  · by_cases o2 : t.op = 2
    · have HS := Lib.hid (shape2 o2)
      cases hA : inR t.n 0 11
      all_goals by_cases hP : t.perm.length = 0
      all_goals by_cases hK : (t.kids.length : Int) = Int.tmod t.n 4
      all_goals
        have hA' := hA
        unfold inR at hA'
        go_enter Try.func93, Try.ntmps93
        go_wp2_with fail
        refine (l1In _ t.n 0 11).mono ?_
        rintro e w1 ⟨rfl, hb1⟩
        obtain ⟨hc1, hf1⟩ := bcell hb1
        have hB1 : Below w.heap.size w w1 := bStep bl hb1
        have hp1 := Stp.mk hb1
        have hs1 := hb1.size
        try simp only [World.size_alloc, World.size_setCell, World.size_drew, World.heap_drewN] at hs1
        try simp only [World.size_drew, World.heap_drewN, World.cell?_drew, World.frozen?_drew, World.cell?_drewN, World.frozen?_drewN] at hc1 hf1
        have hz1_0 : w.heap.size < w1.heap.size := by omega
        go_wp2
        go_ret
        exact ⟨ret_bool (by rw [HS.out]; simp [hA, hP, hK] <;> omega), bl⟩
    · by_cases o3 : t.op = 3
      · have HS := Lib.hid (shape3 o3)
        cases hA : atom t.n
        all_goals by_cases hP : t.perm.length = 0
        all_goals by_cases hK : t.kids.length = 1
        all_goals
          go_enter Try.func93, Try.ntmps93
          go_wp2_with fail
          refine (l1Atom _ t.n).mono ?_
          rintro e w1 ⟨rfl, hb1⟩
          obtain ⟨hc1, hf1⟩ := bcell hb1
          have hB1 : Below w.heap.size w w1 := bStep bl hb1
          have hp1 := Stp.mk hb1
          have hs1 := hb1.size
          try simp only [World.size_alloc, World.size_setCell, World.size_drew, World.heap_drewN] at hs1
          try simp only [World.size_drew, World.heap_drewN, World.cell?_drew, World.frozen?_drew, World.cell?_drewN, World.frozen?_drewN] at hc1 hf1
          have hz1_0 : w.heap.size < w1.heap.size := by omega
          go_wp2
          go_ret
          exact ⟨ret_bool (by rw [HS.out]; simp [hA, hP, hK] <;> omega), bl⟩
      · by_cases o4 : t.op = 4
        · have HS := Lib.hid (shape4 o4)
          cases hA : inR t.n 0 9
          · have hA' := hA
            unfold inR at hA'
            go_enter Try.func93, Try.ntmps93
            go_wp2_with fail
            refine (l1In _ t.n 0 9).mono ?_
            rintro e w1 ⟨rfl, hb1⟩
            obtain ⟨hc1, hf1⟩ := bcell hb1
            have hB1 : Below w.heap.size w w1 := bStep bl hb1
            have hp1 := Stp.mk hb1
            have hs1 := hb1.size
            try simp only [World.size_alloc, World.size_setCell, World.size_drew, World.heap_drewN] at hs1
            try simp only [World.size_drew, World.heap_drewN, World.cell?_drew, World.frozen?_drew, World.cell?_drewN, World.frozen?_drewN] at hc1 hf1
            have hz1_0 : w.heap.size < w1.heap.size := by omega
            go_wp2
            go_ret
            exact ⟨ret_bool (by rw [HS.out]; simp [hA]), bl⟩
          · cases hP : permS t.perm
            all_goals by_cases hK : t.kids.length = 0
            all_goals
              have hA' := hA
              unfold inR at hA'
              go_enter Try.func93, Try.ntmps93
              go_wp2_with fail
              refine (l1In _ t.n 0 9).mono ?_
              rintro e w1 ⟨rfl, hb1⟩
              obtain ⟨hc1, hf1⟩ := bcell hb1
              have hB1 : Below w.heap.size w w1 := bStep bl hb1
              have hp1 := Stp.mk hb1
              have hs1 := hb1.size
              try simp only [World.size_alloc, World.size_setCell, World.size_drew, World.heap_drewN] at hs1
              try simp only [World.size_drew, World.heap_drewN, World.cell?_drew, World.frozen?_drew, World.cell?_drewN, World.frozen?_drewN] at hc1 hf1
              have hz1_0 : w.heap.size < w1.heap.size := by omega
              go_wp2_with fail
              refine (specIsPerm _ _ t.perm (hp.below KP.mono bl)).mono ?_
              rintro e w2 ⟨rfl, hb2⟩
              obtain ⟨hc2, hf2⟩ := bcell hb2
              have hB2 : Below w.heap.size w w2 := bStep bl hb2
              have hp2 := Stp.mk hb2
              have hs2 := hb2.size
              try simp only [World.size_alloc, World.size_setCell, World.size_drew, World.heap_drewN] at hs2
              try simp only [World.size_drew, World.heap_drewN, World.cell?_drew, World.frozen?_drew, World.cell?_drewN, World.frozen?_drewN] at hc2 hf2
              have hz2_0 : w.heap.size < w2.heap.size := by omega
              go_wp2
              go_ret
              exact ⟨ret_bool (by rw [HS.out]; simp [hA, hP, hK] <;> omega), bl⟩
        · have HS := Lib.hid (shape0 o1 o2 o3 o4)
          go_enter Try.func93, Try.ntmps93
          go_wp2
          go_ret
          exact ⟨ret_bool HS.out.symm, bl⟩
attribute [local go_sem] cell_alloc_some in
theorem l2Good (N : Nat) : ∀ (t : Tm) (v : Value) (w : World), t.sz ≤ N → VT w v t → Calls Try.prog 54 #[v] w fun e w' => e = .returned (.bool (good t)) ∧ Below w.heap.size w w' := by
  induction N with
  | zero => intro t v w h; have := t.sz_pos; omega
  | succ N ih =>
    intro t v w hN ht
    obtain ⟨vp, vk, rfl, hp, hk⟩ := ht
    obtain ⟨A1, c1, rfl⟩ := hp.slice
    obtain ⟨A2, c2, hv, hc, hl, hr⟩ := hk
    subst hv
    have hk : SlT w (.slice A2 t.kids.length c2) t.kids := ⟨A2, c2, rfl, hc, hl, hr⟩
    have hkids : ∀ j (h : j < t.kids.length), t.kids[j].sz ≤ N := fun j h => by have := t.kid_sz j h; omega
    have HKS := Lib.hid hkids
    clear hkids
    have IH := Lib.hid ih
    clear ih
    have HG := Lib.hid (good_eq t)
    cases hS : shapeT t
    · go_enter Try.func54, Try.ntmps54
      go_wp2_with fail
      refine (l2Shape t _ _ ⟨_, _, rfl, hp.below KP.mono bl, hk.below KT.mono bl⟩).mono ?_
      rintro e w1 ⟨rfl, hb1⟩
      obtain ⟨hc1, hf1⟩ := bcell hb1
      have hB1 : Below w.heap.size w w1 := bStep bl hb1
      have hp1 := Stp.mk hb1
      have hs1 := hb1.size
      try simp only [World.size_alloc, World.size_setCell, World.size_drew, World.heap_drewN] at hs1
      try simp only [World.size_drew, World.heap_drewN, World.cell?_drew, World.frozen?_drew, World.cell?_drewN, World.frozen?_drewN] at hc1 hf1
      have hz1_0 : w.heap.size < w1.heap.size := by omega
      go_wp2
      go_ret
      exact ⟨ret_bool (by rw [HG.out, hS]; rfl), bl⟩
    · go_enter Try.func54, Try.ntmps54
      go_wp2_with fail
      refine (l2Shape t _ _ ⟨_, _, rfl, hp.below KP.mono bl, hk.below KT.mono bl⟩).mono ?_
      rintro e w1 ⟨rfl, hb1⟩
      obtain ⟨hc1, hf1⟩ := bcell hb1
      have hB1 : Below w.heap.size w w1 := bStep bl hb1
      have hp1 := Stp.mk hb1
      have hs1 := hb1.size
      try simp only [World.size_alloc, World.size_setCell, World.size_drew, World.heap_drewN] at hs1
      try simp only [World.size_drew, World.heap_drewN, World.cell?_drew, World.frozen?_drew, World.cell?_drewN, World.frozen?_drewN] at hc1 hf1
      have hz1_0 : w.heap.size < w1.heap.size := by omega
      go_wp2
      go_loopg [4, 11] (t.kids.length + 1) (fun n v4 v11 wr => ∃ k : Nat, n + k = t.kids.length + 1 ∧ k ≤ t.kids.length ∧ v11 = .int .i64 k ∧ Hid (goodL (t.kids.take k) = true) ∧ Hid (Below w.heap.size w wr))
      case atStart => exact ⟨0, by omega, by omega, rfl, by simp [Hid, goodL], bl⟩
      case round =>
        obtain ⟨k, hn, hk', rfl, hq, hB⟩ := hrel
        have hBw := hB.out
        clear hB
        by_cases hlt : k < t.kids.length
        · obtain ⟨ad, p1, k1, rfl, hp1, hq1, c0, c1, c2, c3⟩ := (hr.below KT.mono hBw).atT hlt
          have g0 : (0 : Int) ≤ (k : Int) := by omega
          have g1 : (k : Int) < (t.kids.length : Int) := by omega
          obtain ⟨P1, n1, rfl⟩ := hp1.slice
          obtain ⟨Q1, m1, rfl⟩ := hq1.slice
          have sn := goodL_snoc t.kids k hlt
          have SN := Lib.hid sn
          clear sn
          cases h5 : good t.kids[k]
          all_goals
            go_wp2_with fail
            refine (IH.out t.kids[k] _ _ (HKS.out k hlt) ⟨_, _, rfl, hp1.below KP.mono bl, hq1.below KT.mono bl⟩).mono ?_
            rintro e w2 ⟨rfl, hb2⟩
            obtain ⟨hc2, hf2⟩ := bcell hb2
            have hB2 : Below w.heap.size w w2 := bStep bl hb2
            have hp2 := Stp.mk hb2
            have hs2 := hb2.size
            try simp only [World.size_alloc, World.size_setCell, World.size_drew, World.heap_drewN] at hs2
            try simp only [World.size_drew, World.heap_drewN, World.cell?_drew, World.frozen?_drew, World.cell?_drewN, World.frozen?_drewN] at hc2 hf2
            go_wp2
          · go_ret
            exact ⟨ret_bool (by rw [HG.out, hS]; symm; exact goodL_no _ k hlt h5), bl⟩
          · go_roundg (gk - 1)
            case measure => omega
            case rel => exact ⟨k + 1, by omega, by omega, by go_num, by unfold Hid; rw [SN.out, hq.out, h5]; rfl, bl⟩
        · obtain rfl : k = t.kids.length := by omega
          go_wp2
          go_ret
          exact ⟨ret_bool (by rw [HG.out, hS]; have := hq.out; rw [List.take_length] at this; rw [this]; rfl), bl⟩
attribute [local go_sem] cell_alloc_some in
theorem l2Size (N : Nat) : ∀ (t : Tm) (v : Value) (w : World), t.sz ≤ N → VT w v t → t.sz ≤ 1099511627776 → Calls Try.prog 55 #[v] w fun e w' => e = .returned (.int .i64 (t.sz : Nat)) ∧ Below w.heap.size w w' := by
  induction N with
  | zero => intro t v w h; have := t.sz_pos; omega
  | succ N ih =>
    intro t v w hN ht hb
    obtain ⟨vp, vk, rfl, hp, hk⟩ := ht
    obtain ⟨A1, c1, rfl⟩ := hp.slice
    obtain ⟨A2, c2, hv, hc, hl, hr⟩ := hk
    subst hv
    have hkids : ∀ j (h : j < t.kids.length), t.kids[j].sz ≤ N ∧ t.kids[j].sz ≤ 1099511627776 := fun j h => by have := t.kid_sz j h; omega
    have HKS := Lib.hid hkids
    clear hkids
    have IH := Lib.hid ih
    clear ih
    have hz : t.sz = szL t.kids + 1 := by cases t; rfl
    have hzb : szL t.kids ≤ 1099511627776 := by omega
    have HZ := Lib.hid hz
    clear hz hN hb
    go_enter Try.func55, Try.ntmps55
    go_wp2
    go_loopg [3, 5, 9] (t.kids.length + 1) (fun n v3 v5 v9 wr => ∃ k : Nat, ∃ m : Int, n + k = t.kids.length + 1 ∧ k ≤ t.kids.length ∧ v9 = .int .i64 k ∧ v3 = .int .i64 m ∧ 0 ≤ m ∧ m ≤ 1099511627777 ∧ Hid (m = 1 + (szL (t.kids.take k) : Int)) ∧ Hid (Below w.heap.size w wr))
    case atStart => exact ⟨0, 1, by omega, by omega, rfl, rfl, by omega, by omega, by simp [Hid, szL], bl⟩
    case round =>
      obtain ⟨k, m, hn, hk', rfl, rfl, m0, m1, hm, hB⟩ := hrel
      have hBw := hB.out
      clear hB
      by_cases hlt : k < t.kids.length
      · obtain ⟨ad, p1, k1, rfl, hp1, hq1, c0, c1, c2, c3⟩ := (hr.below KT.mono hBw).atT hlt
        have g0 : (0 : Int) ≤ (k : Int) := by omega
        have g1 : (k : Int) < (t.kids.length : Int) := by omega
        obtain ⟨P1, n1, rfl⟩ := hp1.slice
        obtain ⟨Q1, m1', rfl⟩ := hq1.slice
        have tk := szL_take t.kids k hlt
        have rm : szL (t.kids.take (k + 1)) ≤ szL t.kids := szL_take_le t.kids (k + 1)
        have hm' := hm.out
        have z1 : m + (t.kids[k].sz : Int) ≤ 1099511627777 := by omega
        have z2 : m + (t.kids[k].sz : Int) = 1 + (szL (t.kids.take (k + 1)) : Int) := by omega
        have Z2 := Lib.hid z2
        clear tk rm hm' z2
        go_wp2_with fail
        refine (IH.out t.kids[k] _ _ (HKS.out k hlt).1 ⟨_, _, rfl, hp1.below KP.mono bl, hq1.below KT.mono bl⟩ (HKS.out k hlt).2).mono ?_
        rintro e w2 ⟨rfl, hb2⟩
        obtain ⟨hc2, hf2⟩ := bcell hb2
        have hB2 : Below w.heap.size w w2 := bStep bl hb2
        have hp2 := Stp.mk hb2
        have hs2 := hb2.size
        try simp only [World.size_alloc, World.size_setCell, World.size_drew, World.heap_drewN] at hs2
        try simp only [World.size_drew, World.heap_drewN, World.cell?_drew, World.frozen?_drew, World.cell?_drewN, World.frozen?_drewN] at hc2 hf2
        go_wp2
        go_roundg (gk - 1)
        case measure => omega
        case rel => exact ⟨k + 1, _, by omega, by omega, by go_num, rfl, by omega, z1, Z2.out, bl⟩
      · obtain rfl : k = t.kids.length := by omega
        go_wp2
        go_ret
        exact ⟨ret_int (by rw [HZ.out]; have := hm.out; rw [List.take_length] at this; omega), bl⟩
theorem specIsTerm (t : Tm) (v : Value) (w : World) (h : VT w v t) (hb : t.bulk ≤ 1048576) : Calls Try.prog 14 #[v] w fun e w' => e = .returned (.bool (termT t)) ∧ Below w.heap.size w w' := by
  have hz := sz_bulk t
  obtain ⟨vp, vk, rfl, hp, hk⟩ := h
  obtain ⟨A1, c1, rfl⟩ := hp.slice
  obtain ⟨A2, c2, rfl⟩ := hk.slice
  cases hG : good t
  · go_enter Try.func14, Try.ntmps14
    go_wp2_with fail
    refine (l2Good t.sz t _ _ (Nat.le_refl _) ⟨_, _, rfl, hp.below KP.mono bl, hk.below KT.mono bl⟩).mono ?_
    rintro e w1 ⟨rfl, hb1⟩
    obtain ⟨hc1, hf1⟩ := bcell hb1
    have hB1 : Below w.heap.size w w1 := bStep bl hb1
    have hp1 := Stp.mk hb1
    have hs1 := hb1.size
    try simp only [World.size_alloc, World.size_setCell, World.size_drew, World.heap_drewN] at hs1
    try simp only [World.size_drew, World.heap_drewN, World.cell?_drew, World.frozen?_drew, World.cell?_drewN, World.frozen?_drewN] at hc1 hf1
    have hz1_0 : w.heap.size < w1.heap.size := by omega
    go_wp2
    go_ret
    exact ⟨ret_bool (by simp [termT, hG]), bl⟩
  · by_cases hL : t.sz ≤ 60
    all_goals
      first | have hD : decide ((t.sz : Int) ≤ 60) = true := by simp; omega
            | have hD : decide ((t.sz : Int) ≤ 60) = false := by simp; omega
      have HL := Lib.hid hL
      clear hL
      go_enter Try.func14, Try.ntmps14
      go_wp2_with fail
      refine (l2Good t.sz t _ _ (Nat.le_refl _) ⟨_, _, rfl, hp.below KP.mono bl, hk.below KT.mono bl⟩).mono ?_
      rintro e w1 ⟨rfl, hb1⟩
      obtain ⟨hc1, hf1⟩ := bcell hb1
      have hB1 : Below w.heap.size w w1 := bStep bl hb1
      have hp1 := Stp.mk hb1
      have hs1 := hb1.size
      try simp only [World.size_alloc, World.size_setCell, World.size_drew, World.heap_drewN] at hs1
      try simp only [World.size_drew, World.heap_drewN, World.cell?_drew, World.frozen?_drew, World.cell?_drewN, World.frozen?_drewN] at hc1 hf1
      have hz1_0 : w.heap.size < w1.heap.size := by omega
      go_wp2_with fail
      refine (l2Size t.sz t _ _ (Nat.le_refl _) ⟨_, _, rfl, hp.below KP.mono bl, hk.below KT.mono bl⟩ (by omega)).mono ?_
      rintro e w2 ⟨rfl, hb2⟩
      obtain ⟨hc2, hf2⟩ := bcell hb2
      have hB2 : Below w.heap.size w w2 := bStep bl hb2
      have hp2 := Stp.mk hb2
      have hs2 := hb2.size
      try simp only [World.size_alloc, World.size_setCell, World.size_drew, World.heap_drewN] at hs2
      try simp only [World.size_drew, World.heap_drewN, World.cell?_drew, World.frozen?_drew, World.cell?_drewN, World.frozen?_drewN] at hc2 hf2
      have hz2_0 : w.heap.size < w2.heap.size := by omega
      go_wp2
      go_ret
      exact ⟨ret_bool (by simp [termT, hG, HL.out]), bl⟩
end Go.Proofs.Ytbpbgmildhejoaa.Cx
