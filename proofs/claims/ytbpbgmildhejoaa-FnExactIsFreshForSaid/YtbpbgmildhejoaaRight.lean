/- Contracts: which terms are right, the program's way. -/
import Derived.Test.YtbpbgmildhejoaaGood
import Derived.Test.YtbpbgmildhejoaaAscend
namespace Go.Proofs.Ytbpbgmildhejoaa.Base
open Go.RowKit
theorem good_no {t : Tm} {L : Int} (h : good t = false) : (good t && decide ((t.sz : Int) ≤ L)) = false := by rw [h]; rfl
theorem sz_no {t : Tm} {L : Int} (h : ¬ (t.sz : Int) ≤ L) : (good t && decide ((t.sz : Int) ≤ L)) = false := by simp [h]
/-- What is left of the count. -/
def LeftIs (t : Tm) (L : Int) (b : Nat) (w' : World) : Prop := ∃ L', w'.cell? ⟨b, 0, none⟩ = some (.int .i64 L') ∧ w'.frozen? ⟨b, 0, none⟩ = false ∧ (good t = true → (t.sz : Int) ≤ L → L' = L - t.sz)
theorem LeftIs.no {t : Tm} {L M : Int} {b : Nat} {w w' : World} (hb : b < w.heap.size) (hc : w.cell? ⟨b, 0, none⟩ = some (.int .i64 M)) (hf : w.frozen? ⟨b, 0, none⟩ = false) (h : Below w.heap.size w w') (hn : (good t && decide ((t.sz : Int) ≤ L)) = false) : LeftIs t L b w' :=
  ⟨M, (h.cell (p := ⟨b, 0, none⟩) hb).trans hc, (h.frozen (p := ⟨b, 0, none⟩) hb).trans hf, fun h1 h2 => by rw [h1] at hn; simp at hn; omega⟩
theorem cell_kept_alloc {w : World} {o : Obj} {b : Nat} (h : b < w.heap.size) : (w.alloc o).cell? ⟨b, 0, none⟩ = w.cell? ⟨b, 0, none⟩ := World.cell?_alloc_lt w o ⟨b, 0, none⟩ h
theorem frozen_kept_alloc {w : World} {o : Obj} {b : Nat} (h : b < w.heap.size) : (w.alloc o).frozen? ⟨b, 0, none⟩ = w.frozen? ⟨b, 0, none⟩ := (bAlloc (Below.refl _ _) o).frozen (p := ⟨b, 0, none⟩) h
end Go.Proofs.Ytbpbgmildhejoaa.Base
namespace Go.Proofs.Ytbpbgmildhejoaa.Cx
open Go.RowKit Base
set_option linter.unusedVariables false
set_option linter.unusedSimpArgs false
set_option maxRecDepth 100000
set_option maxHeartbeats 12800000
attribute [local go_sem] cell_alloc_some in
theorem rightTerm (N : Nat) : ∀ (t : Tm) (v : Value) (w0 wi : World) (b : Nat) (L : Int), t.sz ≤ N → VT w0 v t → w0.heap.size ≤ b → Below w0.heap.size w0 wi → b < wi.heap.size → wi.cell? ⟨b, 0, none⟩ = some (.int .i64 L) → wi.frozen? ⟨b, 0, none⟩ = false → 0 ≤ L → L ≤ 60 →
    Calls Try.prog 57 #[v, .pointer (some ⟨b, 0, none⟩)] wi fun e w' => e = .returned (.bool (good t && decide ((t.sz : Int) ≤ L))) ∧ Below b wi w' ∧ LeftIs t L b w' := by
  induction N with
  | zero => intro t v w0 w b L h; have := t.sz_pos; omega
  | succ N ih =>
    intro t v w0 wi b L hN ht hwb hbw hb hcell hfz hL0 hL1
    obtain ⟨vp, vk, rfl, hp, hk⟩ := ht
    obtain ⟨A1, c1, rfl⟩ := hp.slice
    obtain ⟨A2, c2, hv, hc, hl, hr⟩ := hk
    subst hv
    have hkids : ∀ j (h : j < t.kids.length), t.kids[j].sz ≤ N := fun j h => by have := t.kid_sz j h; omega
    have HKS := Lib.hid hkids
    clear hkids
    have IH := Lib.hid ih
    clear ih
    have HG := Lib.hid (good_eq t)
    have HSZ := Lib.hid (show t.sz = szL t.kids + 1 by cases t; rfl)
    have hbm : b ≠ wi.heap.size := by omega
    obtain ⟨w, hw⟩ : ∃ w, w = wi.setCell ⟨b, 0, none⟩ (.int .i64 (L - 1)) := ⟨_, rfl⟩
    have hwc : w.cell? ⟨b, 0, none⟩ = some (.int .i64 (L - 1)) := by rw [hw]; simp [go_sem, hcell]
    have hwf : w.frozen? ⟨b, 0, none⟩ = false := by rw [hw]; simp [go_sem, hfz]
    have hws : w.heap.size = wi.heap.size := by rw [hw]; simp
    have hwl : b < w.heap.size := by omega
    have B1 : Below b wi w := by rw [hw]; exact (Below.refl b wi).setCell (Nat.le_refl b) _
    have B0 : Below w0.heap.size w0 w := hbw.trans (B1.mono hwb)
    have HB1 := Lib.hid B1
    have HB0 := Lib.hid B0
    have HW := Lib.hid hw
    have HWS := Lib.hid hws.symm
    have hbm2 : b ≠ w.heap.size := by omega
    have HWC := Lib.hid hwc
    have HWF := Lib.hid hwf
    have HWL := Lib.hid hwl
    have hcl : wi.cell? ⟨b, 0, none⟩ = some (.int .i64 L) := hcell
    have fin : ∀ w', Below w.heap.size w w' → (good t && decide ((t.sz : Int) ≤ L)) = false → Ending.returned (.bool false) = Ending.returned (.bool (good t && decide ((t.sz : Int) ≤ L))) ∧ Below b wi w' ∧ LeftIs t L b w' := fun w' h1 h2 => ⟨ret_bool h2.symm, HB1.out.trans (h1.mono (Nat.le_of_lt HWL.out)), LeftIs.no HWL.out HWC.out HWF.out h1 h2⟩
    have FIN := Lib.hid fin
    clear fin hwc hwf hws hwl B1 B0 hw hbw
    have hpw : SlP w (.slice A1 t.perm.length c1) t.perm := hp.below KP.mono HB0.out
    by_cases hL : L = 0
    · have tp := t.sz_pos
      have TP := Lib.hid tp
      clear tp
      have hLm : L - 1 < 0 := by omega
      have hLd : decide (L - 1 < 0) = true := by simp; omega
      have HL := Lib.hid hL
      clear hL
      go_enter Try.func57, Try.ntmps57
      go_wp2
      rw [← HW.out, HWS.out]
      go_ret
      exact FIN.out _ bl (sz_no (by have := TP.out; have := HL.out; omega))
    · have hLm : ¬ L - 1 < 0 := by omega
      have HLN := Lib.hid hL
      clear hL
      cases hS : shapeT t
      · have HNO : Hid ((good t && decide ((t.sz : Int) ≤ L)) = false) := good_no (by rw [HG.out, hS]; rfl)
        by_cases o1 : t.op = 1
        · by_cases hP : t.perm.length = 0
          · have hP0 := hP
            cases hA : atom t.n
            · go_enter Try.func57, Try.ntmps57
              go_wp2_with fail
              rw [← HW.out, HWS.out]
              go_wp2_with fail
              refine (isAtom _ t.n).mono ?_
              rintro e w1 ⟨rfl, hb1⟩
              obtain ⟨hc1, hf1⟩ := bcell hb1
              have hB1 : Below w.heap.size w w1 := bStep bl hb1
              have hp1 := Stp.mk hb1
              have hs1 := hb1.size
              try simp only [World.size_alloc, World.size_setCell, World.size_drew, World.heap_drewN] at hs1
              try simp only [World.size_drew, World.heap_drewN, World.cell?_drew, World.frozen?_drew, World.cell?_drewN, World.frozen?_drewN] at hc1 hf1
              have hz1_0 : w.heap.size < w1.heap.size := by omega
              go_wp2
              go_ret
              exact FIN.out _ bl HNO.out
            · have hK : ¬ t.kids.length = 0 := by intro hK; rw [shape1 (by assumption)] at hS; simp [hA, hP0, hK] at hS
              have hK1 : ((t.kids.length : Int) != 0) = true := by rw [bne_iff_ne]; omega
              have hK2 : (t.kids.length != 0) = true := by rw [bne_iff_ne]; omega
              go_enter Try.func57, Try.ntmps57
              go_wp2_with fail
              rw [← HW.out, HWS.out]
              go_wp2_with fail
              refine (isAtom _ t.n).mono ?_
              rintro e w1 ⟨rfl, hb1⟩
              obtain ⟨hc1, hf1⟩ := bcell hb1
              have hB1 : Below w.heap.size w w1 := bStep bl hb1
              have hp1 := Stp.mk hb1
              have hs1 := hb1.size
              try simp only [World.size_alloc, World.size_setCell, World.size_drew, World.heap_drewN] at hs1
              try simp only [World.size_drew, World.heap_drewN, World.cell?_drew, World.frozen?_drew, World.cell?_drewN, World.frozen?_drewN] at hc1 hf1
              have hz1_0 : w.heap.size < w1.heap.size := by omega
              go_wp2
              go_ret
              exact FIN.out _ bl HNO.out
          · have hP1 : 0 < t.perm.length := by omega
            have hP2 : decide ((0 : Int) < (t.perm.length : Int)) = true := by simp; omega
            go_enter Try.func57, Try.ntmps57
            go_wp2
            rw [← HW.out, HWS.out]
            go_ret
            exact FIN.out _ bl HNO.out
        · have m1 : (t.op == 1) = false := by simpa using o1
          by_cases o2 : t.op = 2
          · by_cases hP : t.perm.length = 0
            · have hP0 := hP
              by_cases hn0 : t.n < 0
              · go_enter Try.func57, Try.ntmps57
                go_wp2
                rw [← HW.out, HWS.out]
                go_ret
                exact FIN.out _ bl HNO.out
              · by_cases hn1 : t.n > 11
                · have hn2 : decide (t.n < 0) = false := by simp; omega
                  go_enter Try.func57, Try.ntmps57
                  go_wp2
                  rw [← HW.out, HWS.out]
                  go_ret
                  exact FIN.out _ bl HNO.out
                · have hI : inR t.n 0 11 = true := by simp [inR]; omega
                  have hK : ¬ (t.kids.length : Int) = Int.tmod t.n 4 := by intro hK; rw [shape2 (by assumption)] at hS; simp [hI, hP0, hK] at hS
                  have hK1 : ((t.kids.length : Int) != t.n % 4) = true := by rw [bne_iff_ne, ← Int.tmod_eq_emod_of_nonneg (by omega)]; exact hK
                  have hn2 : decide (t.n < 0) = false := by simp; omega
                  have hn3 : decide (11 < t.n) = false := by simp; omega
                  go_enter Try.func57, Try.ntmps57
                  go_wp2
                  rw [← HW.out, HWS.out]
                  go_ret
                  exact FIN.out _ bl HNO.out
            · have hP1 : 0 < t.perm.length := by omega
              have hP2 : decide ((0 : Int) < (t.perm.length : Int)) = true := by simp; omega
              go_enter Try.func57, Try.ntmps57
              go_wp2
              rw [← HW.out, HWS.out]
              go_ret
              exact FIN.out _ bl HNO.out
          · have m2 : (t.op == 2) = false := by simpa using o2
            by_cases o3 : t.op = 3
            · by_cases hP : t.perm.length = 0
              · have hP0 := hP
                cases hA : atom t.n
                · go_enter Try.func57, Try.ntmps57
                  go_wp2_with fail
                  rw [← HW.out, HWS.out]
                  go_wp2_with fail
                  refine (isAtom _ t.n).mono ?_
                  rintro e w1 ⟨rfl, hb1⟩
                  obtain ⟨hc1, hf1⟩ := bcell hb1
                  have hB1 : Below w.heap.size w w1 := bStep bl hb1
                  have hp1 := Stp.mk hb1
                  have hs1 := hb1.size
                  try simp only [World.size_alloc, World.size_setCell, World.size_drew, World.heap_drewN] at hs1
                  try simp only [World.size_drew, World.heap_drewN, World.cell?_drew, World.frozen?_drew, World.cell?_drewN, World.frozen?_drewN] at hc1 hf1
                  have hz1_0 : w.heap.size < w1.heap.size := by omega
                  go_wp2
                  go_ret
                  exact FIN.out _ bl HNO.out
                · have hK : ¬ t.kids.length = 1 := by intro hK; rw [shape3 (by assumption)] at hS; simp [hA, hP0, hK] at hS
                  have hK1 : ((t.kids.length : Int) != 1) = true := by rw [bne_iff_ne]; omega
                  have hK2 : (t.kids.length != 1) = true := by rw [bne_iff_ne]; omega
                  go_enter Try.func57, Try.ntmps57
                  go_wp2_with fail
                  rw [← HW.out, HWS.out]
                  go_wp2_with fail
                  refine (isAtom _ t.n).mono ?_
                  rintro e w1 ⟨rfl, hb1⟩
                  obtain ⟨hc1, hf1⟩ := bcell hb1
                  have hB1 : Below w.heap.size w w1 := bStep bl hb1
                  have hp1 := Stp.mk hb1
                  have hs1 := hb1.size
                  try simp only [World.size_alloc, World.size_setCell, World.size_drew, World.heap_drewN] at hs1
                  try simp only [World.size_drew, World.heap_drewN, World.cell?_drew, World.frozen?_drew, World.cell?_drewN, World.frozen?_drewN] at hc1 hf1
                  have hz1_0 : w.heap.size < w1.heap.size := by omega
                  go_wp2
                  go_ret
                  exact FIN.out _ bl HNO.out
              · have hP1 : 0 < t.perm.length := by omega
                have hP2 : decide ((0 : Int) < (t.perm.length : Int)) = true := by simp; omega
                go_enter Try.func57, Try.ntmps57
                go_wp2
                rw [← HW.out, HWS.out]
                go_ret
                exact FIN.out _ bl HNO.out
            · have m3 : (t.op == 3) = false := by simpa using o3
              by_cases o4 : t.op = 4
              · by_cases hn0 : t.n < 0
                · go_enter Try.func57, Try.ntmps57
                  go_wp2
                  rw [← HW.out, HWS.out]
                  go_ret
                  exact FIN.out _ bl HNO.out
                · by_cases hn1 : t.n > 9
                  · have hn2 : decide (t.n < 0) = false := by simp; omega
                    go_enter Try.func57, Try.ntmps57
                    go_wp2
                    rw [← HW.out, HWS.out]
                    go_ret
                    exact FIN.out _ bl HNO.out
                  · have hI : inR t.n 0 9 = true := by simp [inR]; omega
                    have hn2 : decide (t.n < 0) = false := by simp; omega
                    have hn3 : decide (9 < t.n) = false := by simp; omega
                    cases hP : permS t.perm
                    · go_enter Try.func57, Try.ntmps57
                      go_wp2_with fail
                      rw [← HW.out, HWS.out]
                      go_wp2_with fail
                      refine (implIsPerm _ _ t.perm (hpw.below KP.mono bl)).mono ?_
                      rintro e w1 ⟨rfl, hb1⟩
                      obtain ⟨hc1, hf1⟩ := bcell hb1
                      have hB1 : Below w.heap.size w w1 := bStep bl hb1
                      have hp1 := Stp.mk hb1
                      have hs1 := hb1.size
                      try simp only [World.size_alloc, World.size_setCell, World.size_drew, World.heap_drewN] at hs1
                      try simp only [World.size_drew, World.heap_drewN, World.cell?_drew, World.frozen?_drew, World.cell?_drewN, World.frozen?_drewN] at hc1 hf1
                      have hz1_0 : w.heap.size < w1.heap.size := by omega
                      go_wp2
                      go_ret
                      exact FIN.out _ bl HNO.out
                    · have hK : ¬ t.kids.length = 0 := by intro hK; rw [shape4 (by assumption)] at hS; simp [hI, hP, hK] at hS
                      have hK1 : ((t.kids.length : Int) != 0) = true := by rw [bne_iff_ne]; omega
                      have hK2 : (t.kids.length != 0) = true := by rw [bne_iff_ne]; omega
                      go_enter Try.func57, Try.ntmps57
                      go_wp2_with fail
                      rw [← HW.out, HWS.out]
                      go_wp2_with fail
                      refine (implIsPerm _ _ t.perm (hpw.below KP.mono bl)).mono ?_
                      rintro e w1 ⟨rfl, hb1⟩
                      obtain ⟨hc1, hf1⟩ := bcell hb1
                      have hB1 : Below w.heap.size w w1 := bStep bl hb1
                      have hp1 := Stp.mk hb1
                      have hs1 := hb1.size
                      try simp only [World.size_alloc, World.size_setCell, World.size_drew, World.heap_drewN] at hs1
                      try simp only [World.size_drew, World.heap_drewN, World.cell?_drew, World.frozen?_drew, World.cell?_drewN, World.frozen?_drewN] at hc1 hf1
                      have hz1_0 : w.heap.size < w1.heap.size := by omega
                      go_wp2
                      go_ret
                      exact FIN.out _ bl HNO.out
              · have m4 : (t.op == 4) = false := by simpa using o4
                by_cases hP : t.perm.length = 0
                · have hP0 := hP
                  go_enter Try.func57, Try.ntmps57
                  go_wp2
                  rw [← HW.out, HWS.out]
                  go_ret
                  exact FIN.out _ bl HNO.out
                · have hP1 : 0 < t.perm.length := by omega
                  have hP2 : decide ((0 : Int) < (t.perm.length : Int)) = true := by simp; omega
                  go_enter Try.func57, Try.ntmps57
                  go_wp2
                  rw [← HW.out, HWS.out]
                  go_ret
                  exact FIN.out _ bl HNO.out
      · have HK : Hid (good t = goodL t.kids) := by unfold Hid; rw [HG.out, hS]; rfl
        by_cases o1 : t.op = 1
        · rw [shape1 o1] at hS
          simp only [Bool.and_eq_true, decide_eq_true_eq] at hS
          obtain ⟨hA, hP, hK⟩ := hS
          go_enter Try.func57, Try.ntmps57
          go_wp2_with fail
          rw [← HW.out, HWS.out]
          go_wp2_with fail
          refine (isAtom _ t.n).mono ?_
          rintro e w1 ⟨rfl, hb1⟩
          obtain ⟨hc1, hf1⟩ := bcell hb1
          have hB1 : Below w.heap.size w w1 := bStep bl hb1
          have hp1 := Stp.mk hb1
          have hs1 := hb1.size
          try simp only [World.size_alloc, World.size_setCell, World.size_drew, World.heap_drewN] at hs1
          try simp only [World.size_drew, World.heap_drewN, World.cell?_drew, World.frozen?_drew, World.cell?_drewN, World.frozen?_drewN] at hc1 hf1
          have hz1_0 : w.heap.size < w1.heap.size := by omega
          go_wp2
          go_loopg [7, 79] (t.kids.length + 1) (fun n v7 v79 wr => ∃ k : Nat, ∃ M : Int, n + k = t.kids.length + 1 ∧ k ≤ t.kids.length ∧ v79 = .int .i64 k ∧ 0 ≤ M ∧ M ≤ 60 ∧ Hid (M = L - 1 - (szL (t.kids.take k) : Int)) ∧ Hid (goodL (t.kids.take k) = true) ∧ Hid (wr.cell? ⟨b, 0, none⟩ = some (.int .i64 M)) ∧ Hid (wr.frozen? ⟨b, 0, none⟩ = false) ∧ b < wr.heap.size ∧ Hid (Below b w wr))
          case atStart => exact ⟨0, L - 1, by omega, by omega, rfl, by omega, by omega, by simp [Hid, szL], by simp [Hid, goodL], ((show Below w.heap.size w _ from bl).cell (p := ⟨b, 0, none⟩) HWL.out).trans HWC.out, ((show Below w.heap.size w _ from bl).frozen (p := ⟨b, 0, none⟩) HWL.out).trans HWF.out, Nat.lt_of_lt_of_le HWL.out (show Below w.heap.size w _ from bl).size, (show Below w.heap.size w _ from bl).mono (Nat.le_of_lt HWL.out)⟩
          case round =>
            obtain ⟨k, M, hn, hk', rfl, m0, m1, hm, hq, hcr, hfr, hbr, hB⟩ := hrel
            have hBr : Below w0.heap.size w0 wr := HB0.out.trans (hB.out.mono hwb)
            by_cases hlt : k < t.kids.length
            · omega
            · obtain rfl : k = t.kids.length := by omega
              rw [List.take_length] at hm hq
              go_wp2
              go_ret
              exact ⟨ret_bool (by rw [HK.out, hq.out]; have := hm.out; have := HSZ.out; symm; simp; omega), HB1.out.trans hB.out, M, hcr.out, hfr.out, fun _ _ => by have := hm.out; have := HSZ.out; omega⟩
        · have m1 : (t.op == 1) = false := by simpa using o1
          by_cases o2 : t.op = 2
          · rw [shape2 o2] at hS
            simp only [Bool.and_eq_true, decide_eq_true_eq, inR] at hS
            obtain ⟨⟨hA, hA2⟩, hP, hK⟩ := hS
            have hn2 : decide (t.n < 0) = false := by simp; omega
            have hn3 : decide (11 < t.n) = false := by simp; omega
            have hK1 : ((t.kids.length : Int) != t.n % 4) = false := by rw [hK, Int.tmod_eq_emod_of_nonneg hA]; exact bne_rfl_ _
            have HKK := Lib.hid hK
            clear hK
            go_enter Try.func57, Try.ntmps57
            go_wp2
            rw [← HW.out, HWS.out]
            go_loopg [7, 79] (t.kids.length + 1) (fun n v7 v79 wr => ∃ k : Nat, ∃ M : Int, n + k = t.kids.length + 1 ∧ k ≤ t.kids.length ∧ v79 = .int .i64 k ∧ 0 ≤ M ∧ M ≤ 60 ∧ Hid (M = L - 1 - (szL (t.kids.take k) : Int)) ∧ Hid (goodL (t.kids.take k) = true) ∧ Hid (wr.cell? ⟨b, 0, none⟩ = some (.int .i64 M)) ∧ Hid (wr.frozen? ⟨b, 0, none⟩ = false) ∧ b < wr.heap.size ∧ Hid (Below b w wr))
            case atStart => exact ⟨0, L - 1, by omega, by omega, rfl, by omega, by omega, by simp [Hid, szL], by simp [Hid, goodL], ((show Below w.heap.size w _ from bl).cell (p := ⟨b, 0, none⟩) HWL.out).trans HWC.out, ((show Below w.heap.size w _ from bl).frozen (p := ⟨b, 0, none⟩) HWL.out).trans HWF.out, Nat.lt_of_lt_of_le HWL.out (show Below w.heap.size w _ from bl).size, (show Below w.heap.size w _ from bl).mono (Nat.le_of_lt HWL.out)⟩
            case round =>
              obtain ⟨k, M, hn, hk', rfl, m0, m1, hm, hq, hcr, hfr, hbr, hB⟩ := hrel
              have hBr : Below w0.heap.size w0 wr := HB0.out.trans (hB.out.mono hwb)
              by_cases hlt : k < t.kids.length
              · obtain ⟨ad, p1, k1, rfl, hp1, hq1, c0, c1', c2', c3⟩ := hr.atT hlt
                have d0 := bCell hBr c0
                have d1 := bCell hBr c1'
                have d2 := bCell hBr c2'
                have d3 := bCell hBr c3
                clear c0 c1' c2' c3
                have g0 : (0 : Int) ≤ (k : Int) := by omega
                have g1 : (k : Int) < (t.kids.length : Int) := by omega
                obtain ⟨P1, n1, rfl⟩ := hp1.slice
                obtain ⟨Q1, m1', rfl⟩ := hq1.slice
                have HBR := Lib.hid hBr
                clear hBr
                have sn := goodL_snoc t.kids k hlt
                have SN := Lib.hid sn
                have tk := szL_take t.kids k hlt
                have TK := Lib.hid tk
                have rm := szL_take_le t.kids (k + 1)
                have RM := Lib.hid rm
                clear sn tk rm
                cases h5 : (good t.kids[k] && decide ((t.kids[k].sz : Int) ≤ M))
                all_goals
                  go_wp2_with fail
                  refine (IH.out t.kids[k] _ w0 _ b M (HKS.out k hlt) ⟨_, _, rfl, hp1, hq1⟩ hwb (bAlloc HBR.out _) (by simp; omega) ((cell_kept_alloc hbr).trans hcr.out) ((frozen_kept_alloc hbr).trans hfr.out) m0 m1).mono ?_
                  rintro e w2 ⟨rfl, hb2, hl2⟩
                  have hB2 : Hid (Below b w w2) := hB.out.trans (((Below.refl b wr).alloc (Nat.le_of_lt hbr) _).trans hb2)
                  have hs2 : b < w2.heap.size := by have := hb2.size; simp at this; omega
                  rw [h5]
                  go_wp2
                · go_ret
                  refine ⟨ret_bool ?_, HB1.out.trans hB2.out, ?_⟩
                  · symm
                    rw [HK.out]
                    cases h6 : good t.kids[k]
                    · rw [goodL_no _ k hlt h6]; rfl
                    · rw [h6] at h5
                      have h7 : ¬ (t.kids[k].sz : Int) ≤ M := by simpa using h5
                      have := hm.out; have := TK.out; have := RM.out; have := HSZ.out
                      have h8 : ¬ (t.sz : Int) ≤ L := by omega
                      simp [h8]
                  · obtain ⟨L', e1, e2, _⟩ := hl2
                    refine ⟨L', e1, e2, fun h9 h10 => ?_⟩
                    exfalso
                    rw [HK.out] at h9
                    have h6 : good t.kids[k] = true := goodL_mem _ h9 _ (List.getElem_mem hlt)
                    rw [h6] at h5
                    have h7 : ¬ (t.kids[k].sz : Int) ≤ M := by simpa using h5
                    have := hm.out; have := TK.out; have := RM.out; have := HSZ.out
                    omega
                · simp only [Bool.and_eq_true, decide_eq_true_eq] at h5
                  obtain ⟨L', e1, e2, e3⟩ := hl2
                  have e4 := e3 h5.1 h5.2
                  have H51 := Lib.hid h5.1
                  have H52 := h5.2
                  have E1 := Lib.hid e1
                  have E2 := Lib.hid e2
                  clear e1 e2 e3 h5
                  go_roundg (gk - 1)
                  case measure => omega
                  case rel => exact ⟨k + 1, L', by omega, by omega, by go_num, by omega, by omega, by unfold Hid; have := hm.out; have := TK.out; omega, by unfold Hid; rw [SN.out, hq.out, H51.out]; rfl, E1.out, E2.out, hs2, hB2.out⟩
              · obtain rfl : k = t.kids.length := by omega
                rw [List.take_length] at hm hq
                go_wp2
                go_ret
                exact ⟨ret_bool (by rw [HK.out, hq.out]; have := hm.out; have := HSZ.out; symm; simp; omega), HB1.out.trans hB.out, M, hcr.out, hfr.out, fun _ _ => by have := hm.out; have := HSZ.out; omega⟩
          · have m2 : (t.op == 2) = false := by simpa using o2
            by_cases o3 : t.op = 3
            · rw [shape3 o3] at hS
              simp only [Bool.and_eq_true, decide_eq_true_eq] at hS
              obtain ⟨hA, hP, hK⟩ := hS
              go_enter Try.func57, Try.ntmps57
              go_wp2_with fail
              rw [← HW.out, HWS.out]
              go_wp2_with fail
              refine (isAtom _ t.n).mono ?_
              rintro e w1 ⟨rfl, hb1⟩
              obtain ⟨hc1, hf1⟩ := bcell hb1
              have hB1 : Below w.heap.size w w1 := bStep bl hb1
              have hp1 := Stp.mk hb1
              have hs1 := hb1.size
              try simp only [World.size_alloc, World.size_setCell, World.size_drew, World.heap_drewN] at hs1
              try simp only [World.size_drew, World.heap_drewN, World.cell?_drew, World.frozen?_drew, World.cell?_drewN, World.frozen?_drewN] at hc1 hf1
              have hz1_0 : w.heap.size < w1.heap.size := by omega
              go_wp2
              go_loopg [7, 79] (t.kids.length + 1) (fun n v7 v79 wr => ∃ k : Nat, ∃ M : Int, n + k = t.kids.length + 1 ∧ k ≤ t.kids.length ∧ v79 = .int .i64 k ∧ 0 ≤ M ∧ M ≤ 60 ∧ Hid (M = L - 1 - (szL (t.kids.take k) : Int)) ∧ Hid (goodL (t.kids.take k) = true) ∧ Hid (wr.cell? ⟨b, 0, none⟩ = some (.int .i64 M)) ∧ Hid (wr.frozen? ⟨b, 0, none⟩ = false) ∧ b < wr.heap.size ∧ Hid (Below b w wr))
              case atStart => exact ⟨0, L - 1, by omega, by omega, rfl, by omega, by omega, by simp [Hid, szL], by simp [Hid, goodL], ((show Below w.heap.size w _ from bl).cell (p := ⟨b, 0, none⟩) HWL.out).trans HWC.out, ((show Below w.heap.size w _ from bl).frozen (p := ⟨b, 0, none⟩) HWL.out).trans HWF.out, Nat.lt_of_lt_of_le HWL.out (show Below w.heap.size w _ from bl).size, (show Below w.heap.size w _ from bl).mono (Nat.le_of_lt HWL.out)⟩
              case round =>
                obtain ⟨k, M, hn, hk', rfl, m0, m1, hm, hq, hcr, hfr, hbr, hB⟩ := hrel
                have hBr : Below w0.heap.size w0 wr := HB0.out.trans (hB.out.mono hwb)
                by_cases hlt : k < t.kids.length
                · obtain ⟨ad, p1, k1, rfl, hp1, hq1, c0, c1', c2', c3⟩ := hr.atT hlt
                  have d0 := bCell hBr c0
                  have d1 := bCell hBr c1'
                  have d2 := bCell hBr c2'
                  have d3 := bCell hBr c3
                  clear c0 c1' c2' c3
                  have g0 : (0 : Int) ≤ (k : Int) := by omega
                  have g1 : (k : Int) < (t.kids.length : Int) := by omega
                  obtain ⟨P1, n1, rfl⟩ := hp1.slice
                  obtain ⟨Q1, m1', rfl⟩ := hq1.slice
                  have HBR := Lib.hid hBr
                  clear hBr
                  have sn := goodL_snoc t.kids k hlt
                  have SN := Lib.hid sn
                  have tk := szL_take t.kids k hlt
                  have TK := Lib.hid tk
                  have rm := szL_take_le t.kids (k + 1)
                  have RM := Lib.hid rm
                  clear sn tk rm
                  cases h5 : (good t.kids[k] && decide ((t.kids[k].sz : Int) ≤ M))
                  all_goals
                    go_wp2_with fail
                    refine (IH.out t.kids[k] _ w0 _ b M (HKS.out k hlt) ⟨_, _, rfl, hp1, hq1⟩ hwb (bAlloc HBR.out _) (by simp; omega) ((cell_kept_alloc hbr).trans hcr.out) ((frozen_kept_alloc hbr).trans hfr.out) m0 m1).mono ?_
                    rintro e w2 ⟨rfl, hb2, hl2⟩
                    have hB2 : Hid (Below b w w2) := hB.out.trans (((Below.refl b wr).alloc (Nat.le_of_lt hbr) _).trans hb2)
                    have hs2 : b < w2.heap.size := by have := hb2.size; simp at this; omega
                    rw [h5]
                    go_wp2
                  · go_ret
                    refine ⟨ret_bool ?_, HB1.out.trans hB2.out, ?_⟩
                    · symm
                      rw [HK.out]
                      cases h6 : good t.kids[k]
                      · rw [goodL_no _ k hlt h6]; rfl
                      · rw [h6] at h5
                        have h7 : ¬ (t.kids[k].sz : Int) ≤ M := by simpa using h5
                        have := hm.out; have := TK.out; have := RM.out; have := HSZ.out
                        have h8 : ¬ (t.sz : Int) ≤ L := by omega
                        simp [h8]
                    · obtain ⟨L', e1, e2, _⟩ := hl2
                      refine ⟨L', e1, e2, fun h9 h10 => ?_⟩
                      exfalso
                      rw [HK.out] at h9
                      have h6 : good t.kids[k] = true := goodL_mem _ h9 _ (List.getElem_mem hlt)
                      rw [h6] at h5
                      have h7 : ¬ (t.kids[k].sz : Int) ≤ M := by simpa using h5
                      have := hm.out; have := TK.out; have := RM.out; have := HSZ.out
                      omega
                  · simp only [Bool.and_eq_true, decide_eq_true_eq] at h5
                    obtain ⟨L', e1, e2, e3⟩ := hl2
                    have e4 := e3 h5.1 h5.2
                    have H51 := Lib.hid h5.1
                    have H52 := h5.2
                    have E1 := Lib.hid e1
                    have E2 := Lib.hid e2
                    clear e1 e2 e3 h5
                    go_roundg (gk - 1)
                    case measure => omega
                    case rel => exact ⟨k + 1, L', by omega, by omega, by go_num, by omega, by omega, by unfold Hid; have := hm.out; have := TK.out; omega, by unfold Hid; rw [SN.out, hq.out, H51.out]; rfl, E1.out, E2.out, hs2, hB2.out⟩
                · obtain rfl : k = t.kids.length := by omega
                  rw [List.take_length] at hm hq
                  go_wp2
                  go_ret
                  exact ⟨ret_bool (by rw [HK.out, hq.out]; have := hm.out; have := HSZ.out; symm; simp; omega), HB1.out.trans hB.out, M, hcr.out, hfr.out, fun _ _ => by have := hm.out; have := HSZ.out; omega⟩
            · have m3 : (t.op == 3) = false := by simpa using o3
              by_cases o4 : t.op = 4
              · rw [shape4 o4] at hS
                simp only [Bool.and_eq_true, decide_eq_true_eq, inR] at hS
                obtain ⟨⟨hA, hA2⟩, hP, hK⟩ := hS
                have hn2 : decide (t.n < 0) = false := by simp; omega
                have hn3 : decide (9 < t.n) = false := by simp; omega
                go_enter Try.func57, Try.ntmps57
                go_wp2_with fail
                rw [← HW.out, HWS.out]
                go_wp2_with fail
                refine (implIsPerm _ _ t.perm (hpw.below KP.mono bl)).mono ?_
                rintro e w1 ⟨rfl, hb1⟩
                obtain ⟨hc1, hf1⟩ := bcell hb1
                have hB1 : Below w.heap.size w w1 := bStep bl hb1
                have hp1 := Stp.mk hb1
                have hs1 := hb1.size
                try simp only [World.size_alloc, World.size_setCell, World.size_drew, World.heap_drewN] at hs1
                try simp only [World.size_drew, World.heap_drewN, World.cell?_drew, World.frozen?_drew, World.cell?_drewN, World.frozen?_drewN] at hc1 hf1
                have hz1_0 : w.heap.size < w1.heap.size := by omega
                go_wp2
                go_loopg [7, 79] (t.kids.length + 1) (fun n v7 v79 wr => ∃ k : Nat, ∃ M : Int, n + k = t.kids.length + 1 ∧ k ≤ t.kids.length ∧ v79 = .int .i64 k ∧ 0 ≤ M ∧ M ≤ 60 ∧ Hid (M = L - 1 - (szL (t.kids.take k) : Int)) ∧ Hid (goodL (t.kids.take k) = true) ∧ Hid (wr.cell? ⟨b, 0, none⟩ = some (.int .i64 M)) ∧ Hid (wr.frozen? ⟨b, 0, none⟩ = false) ∧ b < wr.heap.size ∧ Hid (Below b w wr))
                case atStart => exact ⟨0, L - 1, by omega, by omega, rfl, by omega, by omega, by simp [Hid, szL], by simp [Hid, goodL], ((show Below w.heap.size w _ from bl).cell (p := ⟨b, 0, none⟩) HWL.out).trans HWC.out, ((show Below w.heap.size w _ from bl).frozen (p := ⟨b, 0, none⟩) HWL.out).trans HWF.out, Nat.lt_of_lt_of_le HWL.out (show Below w.heap.size w _ from bl).size, (show Below w.heap.size w _ from bl).mono (Nat.le_of_lt HWL.out)⟩
                case round =>
                  obtain ⟨k, M, hn, hk', rfl, m0, m1, hm, hq, hcr, hfr, hbr, hB⟩ := hrel
                  have hBr : Below w0.heap.size w0 wr := HB0.out.trans (hB.out.mono hwb)
                  by_cases hlt : k < t.kids.length
                  · omega
                  · obtain rfl : k = t.kids.length := by omega
                    rw [List.take_length] at hm hq
                    go_wp2
                    go_ret
                    exact ⟨ret_bool (by rw [HK.out, hq.out]; have := hm.out; have := HSZ.out; symm; simp; omega), HB1.out.trans hB.out, M, hcr.out, hfr.out, fun _ _ => by have := hm.out; have := HSZ.out; omega⟩
              · have m4 : (t.op == 4) = false := by simpa using o4
                rw [shape0 o1 o2 o3 o4] at hS
                simp at hS
theorem implIsTerm (t : Tm) (v : Value) (w : World) (h : VT w v t) : Calls Try.prog 16 #[v] w fun e w' => e = .returned (.bool (termT t)) ∧ Below w.heap.size w w' := by
  obtain ⟨vp, vk, rfl, hp, hk⟩ := h
  obtain ⟨A1, c1, rfl⟩ := hp.slice
  obtain ⟨A2, c2, rfl⟩ := hk.slice
  go_enter Try.func16, Try.ntmps16
  go_wp2_with fail
  refine (rightTerm t.sz t _ w _ (w.heap.size + 1) 60 (Nat.le_refl _) ⟨_, _, rfl, hp, hk⟩ (by omega) (by exact bl) (by simp) (by simp [go_sem]) (by simp [go_sem]) (by omega) (by omega)).mono ?_
  rintro e w2 ⟨rfl, hb2, _⟩
  have hB2 : Below w.heap.size w w2 := Below.trans bl (hb2.mono (by omega))
  go_wp2
  go_ret
  exact ⟨ret_bool (by unfold termT; congr 1; exact decide_eq_decide.2 (by omega)), hB2⟩
end Go.Proofs.Ytbpbgmildhejoaa.Cx
