/- Contract: the cycles of a permutation, the program's way. -/
import Derived.Test.YtmeaghkpojiniaaCycS
import Derived.Test.YtmeaghkpojiniaaSet
import Derived.Test.YtmeaghkpojiniaaAscend
namespace Go.Proofs.Ytmeaghkpojiniaa.Base
open Go.RowKit Go.Maps
theorem off_newer {F : List Nat} {a w w1 : World} {row : Option Nat} (h : Off F a w) (hg : w.grownBy w1 row) (hr : ∀ k, row = some k → a.heap.size ≤ k) : Off F a w1 :=
  ⟨hg.os.trans h.os, hg.tape.trans h.tape, hg.output.trans h.output, Nat.le_trans h.size hg.size, fun g hlt hn => (hg.block g (Nat.lt_of_lt_of_le hlt h.size) (fun e => by have := hr g e.symm; omega)).trans (h.block g hlt hn)⟩
theorem SetI.grown {P : Program} {K E : TypeId} {w w1 : World} {b n : Nat} {xs : List Int} {row : Option Nat} (h : SetI P K E w b n xs) (hg : w.grownBy w1 row) (hne : some b ≠ row) : SetI P K E w1 b n xs := by
  obtain ⟨D, ho, r⟩ := h
  exact ⟨D, ho.kept hg hne, r⟩
theorem atom_wf {p : List (Int × Int)} (h : permS p = true) {a : Int} (ha : a ∈ srcL p) : wfI a := by
  obtain ⟨x, hx, e⟩ := List.mem_map.1 ha
  obtain ⟨i, hi, rfl⟩ := List.getElem_of_mem hx
  simp only [permS, Bool.and_eq_true] at h
  have h1 := (stepS_facts h.2.1 i hi).1
  rw [gp_lt hi, e] at h1
  simp only [atom, Bool.and_eq_true, decide_eq_true_eq] at h1
  exact wfI_of (by omega) (by omega)
end Go.Proofs.Ytmeaghkpojiniaa.Base
namespace Go.Proofs.Ytmeaghkpojiniaa.Cx
open Go.RowKit Base
set_option linter.unusedVariables false
set_option linter.unusedSimpArgs false
set_option maxRecDepth 100000
set_option maxHeartbeats 6400000
theorem zeroBool' (W : World) : (zeroValue 4).run Try.prog W = .ok (.bool false) W := by kernel_rfl
attribute [local go_sem] cell_alloc_some in
theorem implCycles (w : World) (v : Value) (xs : List (Int × Int)) (h : SlP w v xs) : Calls Try.prog 40 #[v] w fun e w' => ∃ r F, e = .returned r ∧ OIs 3 31 w' (cyclesO xs) r F ∧ F.Nodup ∧ (∀ g ∈ F, w.heap.size ≤ g) ∧ Below w.heap.size w w' := by
  cases hP : permS xs
  · have HO := Lib.hid (show cyclesO xs = [] by simp [cyclesO, hP])
    go_enter Try.func40, Try.ntmps40
    go_wp2_with fail
    refine (implIsPerm _ v xs (h.below KP.mono bl)).mono ?_
    rintro e w1 ⟨rfl, hb1⟩
    obtain ⟨hc1, hf1⟩ := bcell hb1
    have hB1 : Below w.heap.size w w1 := bStep bl hb1
    have hp1 := Stp.mk hb1
    have hs1 := hb1.size
    try simp only [World.size_alloc, World.size_setCell, World.size_drew, World.heap_drewN] at hs1
    try simp only [World.size_drew, World.heap_drewN, World.cell?_drew, World.frozen?_drew, World.cell?_drewN, World.frozen?_drewN] at hc1 hf1
    go_wp2
    go_ret
    exact ⟨_, [], rfl, by rw [HO.out]; exact OIs.nil, List.nodup_nil, by simp, bl⟩
  · have hn := permS_len hP
    have HO := Lib.hid (show cyclesO xs = cycL xs by simp [cyclesO, hP])
    have HP := Lib.hid hP
    have h0 := h
    have hmm := @run_makeMap Try.prog
    obtain ⟨A, c, rfl, hc, hl, hr⟩ := h
    go_enter Try.func40, Try.ntmps40
    go_wp2_with fail
    refine (implIsPerm _ _ xs (h0.below KP.mono bl)).mono ?_
    rintro e w1 ⟨rfl, hb1⟩
    obtain ⟨hc1, hf1⟩ := bcell hb1
    have hB1 : Below w.heap.size w w1 := bStep bl hb1
    have hp1 := Stp.mk hb1
    have hs1 := hb1.size
    try simp only [World.size_alloc, World.size_setCell, World.size_drew, World.heap_drewN] at hs1
    try simp only [World.size_drew, World.heap_drewN, World.cell?_drew, World.frozen?_drew, World.cell?_drewN, World.frozen?_drewN] at hc1 hf1
    go_wp2
    clear hP
    go_loopg [3, 6, 7, 8, 15] (xs.length + 1) (fun n v3 v6 v7 v8 v15 wr => ∃ k : Nat, ∃ Sn : List Int, ∃ Ls : List (List Int), ∃ F : List Nat, n + k = xs.length + 1 ∧ k ≤ xs.length ∧ v15 = .int .i64 k ∧ Hid (Ls ++ cycS xs (xs.drop k) Sn = cycL xs) ∧ Hid (ShutBy xs Sn) ∧ Sn.length ≤ 40 * k ∧ Ls.length ≤ k ∧
      Hid (OIs 3 31 wr Ls v3 F) ∧ Hid (F.Nodup ∧ ∀ g ∈ F, w1.heap.size + 1 ≤ g) ∧ Hid (SetI Try.prog 3 4 wr w1.heap.size Sn.length Sn) ∧ w1.heap.size < wr.heap.size ∧ Hid (Below w.heap.size w wr))
    case atStart => exact ⟨0, [], [], [], by omega, by omega, rfl, rfl, fun x hx => by simp at hx, by simp, by simp, OIs.nil, ⟨List.nodup_nil, by simp⟩, SetI.made, by simp, bl⟩
    case round =>
      obtain ⟨k, Sn, Ls, F, hn0, hk, rfl, hq, hsh, hSl, hLl, hoi, hF, hse, hmb, hB⟩ := hrel
      obtain ⟨gi, hgi⟩ : ∃ g, g = gk := ⟨gk, rfl⟩
      obtain ⟨wo, hwo⟩ : ∃ wo, wo = wr := ⟨wr, rfl⟩
      subst hwo
      have hBw := hB.out
      clear hB
      by_cases hlt : k < xs.length
      · obtain ⟨ad, rfl, c0, c1⟩ := (hr.below KP.mono hBw).atP hlt
        have g0 : (0 : Int) ≤ (k : Int) := by omega
        have g1 : (k : Int) < (xs.length : Int) := by omega
        have hwf := atom_wf HP.out (src_mem hlt)
        have hlk := (hse.out.keep (show Below wo.heap.size wo (wo.alloc (.cells #[.int .i64 xs[k].1, .int .i64 xs[k].2] 51)) from bl)).look (t := 66) Try.underlying3 Try.underlying4 Try.underlying66 (zeroBool' _) hwf
        cases hh : hasI Sn xs[k].1
        · have hno : xs[k].1 ∉ Sn := by simpa [hasI] using hh
          rw [hh] at hlk
          obtain ⟨m, hm, horb⟩ := per_ex HP.out (src_mem hlt)
          have CT := Lib.hid (cycS_take (p := xs) hlt hno)
          have HORB := Lib.hid horb
          have HM := Lib.hid hm
          have HNO := Lib.hid hno
          have hm0 := hm.pos
          have hml := hm.le
          have HSRC := Lib.hid (src_mem hlt)
          clear hno hm horb hwf
          go_wp2
          clear hlk c0 c1
          go_loopg [7, 8] (m + 1) (fun n v7 v8 wq => ∃ j : Nat, n + j = m + 1 ∧ j ≤ m ∧ v8 = .int .i64 (it xs j xs[k].1) ∧ Hid (OwI 3 wq (wo.heap.size + 1) v7 (way xs xs[k].1 j)) ∧ Hid (SetI Try.prog 3 4 wq w1.heap.size (Sn.length + j) (Sn ++ way xs xs[k].1 j)) ∧ Hid (Off [w1.heap.size] wo wq) ∧ wo.heap.size < wq.heap.size)
          case atStart => exact ⟨0, by omega, by omega, rfl, own_castI' (xs := []) (World.ownsRow_nil _ _ _ _) (by simp [way]), by simpa [Hid, way] using hse.out.keep (show Below wo.heap.size wo _ from bl), Off.of bl, by simp⟩
          case round =>
            obtain ⟨j, hn3, hj, rfl, hcy, hsq, hof, hwq⟩ := hrel
            have hw1o : w.heap.size ≤ w1.heap.size := hB1.size
            have hpw : Below w.heap.size w wr := hBw.trans (hof.out.below (by simp; omega) hBw.size)
            have hsn := way_seen HP.out HM.out hsh.out HNO.out hj
            have hlk := hsq.out.look (t := 66) Try.underlying3 Try.underlying4 Try.underlying66 (zeroBool' _) (atom_wf HP.out (it_src HP.out HSRC.out j))
            by_cases hjm : j = m
            · have hy : hasI (Sn ++ way xs xs[k].1 j) (it xs j xs[k].1) = true := by simpa [hasI] using hsn.2 hjm
              rw [hy] at hlk
              have HJM := Lib.hid hjm
              have HLW := Lib.hid (way_len xs xs[k].1 j)
              obtain ⟨A6, c6, rfl⟩ := owns_slice hcy.out
              have hoi_q := hoi.out.off hof.out (fun g h1 h2 => by have := hF.out.2 g h1; simp at h2; omega)
              have HOI := Lib.hid hoi_q
              clear hsn hy hjm hoi_q
              go_wp2_with (at_builtin; refine Hid.out ?_)
              refine Lib.hid ?_
              have hW8 : Below wr.heap.size wr (wr.alloc (.cells #[.slice A6 (way xs xs[k].1 j).length c6] 31)) := bAlloc (Below.refl _ _) _
              have hcl : ∀ g ∈ blk (.slice A6 (way xs xs[k].1 j).length c6), wo.heap.size + 1 ≤ g := fun g hg => (owns_blk_lt hcy.out g hg).1
              have hFl := hoi.out.lt
              obtain ⟨vs, hr8, hl8, ha8, hFe⟩ := HOI.out.keep hW8
              refine wpList_app ty_intss 0 u3 Ls.length vs hr8 wr.heap.size 1 [.slice A6 (way xs xs[k].1 j).length c6] (heap_alloc_new wr _) rfl (by simp [Value.oneCell']) (by omega) (by omega) (Nat.zero_le _) (.tmp 38) (.tmp 40) rfl rfl rfl rfl ?_
              intro v9 w9 ho9 hg9 hat9
              have hdF : ∀ g ∈ blk (.slice A6 (way xs xs[k].1 j).length c6), g ∉ F := fun g h1 h2 => by have := hcl g h1; have := hFl g h2; omega
              obtain ⟨R1, R2, R3, R4⟩ := OIs.snoc (B := w1.heap.size + 1) hr8 hl8 ha8 (hFe ▸ hF.out.1) (hFe ▸ hF.out.2) (owns_lower (OwI.keep hcy.out hW8) (Nat.zero_le _)) (fun g hg => by have := hcl g hg; omega) (hFe ▸ hdF) (by simp; omega) ho9 rfl hg9 hat9
              have hu3 : ∀ g, u3.ownBlock = some g → w1.heap.size + 1 ≤ g := fun g hg => hF.out.2 g (by rw [hFe]; exact List.mem_append.2 (.inl (by simp [blk, hg])))
              have hS9 : Hid (SetI Try.prog 3 4 w9 w1.heap.size (Sn ++ way xs xs[k].1 j).length (Sn ++ way xs xs[k].1 j)) := by
                have := (hsq.out.keep hW8).grown hg9 (fun e => by have := hu3 _ e.symm; omega)
                unfold Hid
                rw [List.length_append, HLW.out]
                exact this
              have hB9 : Hid (Below w.heap.size w w9) := Below.grown (bStep hpw hW8) hg9 (by simp; omega) (fun g hg => by have := hu3 g hg; omega)
              have hs9 : w1.heap.size < w9.heap.size := by have := hg9.size; simp at this; omega
              have Q1 := Lib.hid R1
              have Q2 := Lib.hid (And.intro R2 R3)
              clear ho9 hg9 hat9 R1 R2 R3 R4 hr8 ha8 hdF hu3 hlk
              go_wp2
              go_roundg (gi - 1)
              case measure => omega
              case rel =>
                refine ⟨k + 1, Sn ++ way xs xs[k].1 j, Ls ++ [way xs xs[k].1 j], _, by omega, by omega, by go_num, ?_, closed_append hsh.out (closed_way HP.out (by rw [HJM.out]; exact HM.out)), by rw [List.length_append, HLW.out]; omega, by simp; omega, Q1.out, Q2.out, hS9.out, hs9, hB9.out⟩
                unfold Hid
                rw [HJM.out, ← HORB.out, List.append_assoc, List.singleton_append, ← CT.out]
                exact hq.out
            · have hy : hasI (Sn ++ way xs xs[k].1 j) (it xs j xs[k].1) = false := by simp only [hasI, decide_eq_false_iff_not]; exact fun h => hjm (hsn.1 h)
              rw [hy] at hlk
              obtain ⟨w2, hrun, hs2, hg2⟩ := hsq.out.put Try.underlying3 Try.underlying4 Try.underlying66 (by unfold maxLen; omega) (atom_wf HP.out (it_src HP.out HSRC.out j))
              have hcl : ∀ g ∈ blk u7, wo.heap.size + 1 ≤ g := fun g hg => (owns_blk_lt hcy.out g hg).1
              have hcy2 : OwI 3 w2 (wo.heap.size + 1) u7 (way xs xs[k].1 j) := hcy.out.kept hg2 (.inr (fun e => by have := hcl w1.heap.size (by simp [blk, e]); omega))
              have hof2 : Off [w1.heap.size] wo w2 := hof.out.trans ⟨hg2.os, hg2.tape, hg2.output, hg2.size, fun g hlt hn => hg2.block g hlt (fun e => hn (by simpa using e))⟩
              have hz2 := hg2.size
              have HS2 := Lib.hid hs2
              have HCY2 := Lib.hid hcy2
              have HOF2 := Lib.hid hof2
              have HCL := Lib.hid hcl
              clear hsn hy hs2 hg2 hcy2 hof2 hcl
              go_wp2_with (at_builtin; refine Hid.out ?_)
              refine Lib.hid ?_
              have hW4 : Below w2.heap.size w2 (w2.alloc (.cells #[.int .i64 (it xs j xs[k].1)] 3)) := bAlloc (Below.refl _ _) _
              have ho4 := OwI.keep HCY2.out hW4
              refine wpList_app ty_ints (wo.heap.size + 1) u7 _ _ ho4 w2.heap.size 1 [.int .i64 (it xs j xs[k].1)] (heap_alloc_new w2 _) rfl (by simp [Value.oneCell']) (by rw [way_len]; omega) (by rw [way_len]; omega) (by simp; omega) (.tmp 34) (.tmp 36) rfl rfl rfl rfl ?_
              intro v5 w5 ho5 hg5 _
              have hO5 : Hid (OwI 3 w5 (wo.heap.size + 1) v5 (way xs xs[k].1 (j + 1))) := by
                unfold Hid
                rw [way_succ]
                simpa [cI, OwI] using ho5
              have hu7 : ∀ g, u7.ownBlock = some g → wo.heap.size + 1 ≤ g := fun g hg => HCL.out g (by simp [blk, hg])
              have hS5 : Hid (SetI Try.prog 3 4 w5 w1.heap.size (Sn.length + (j + 1)) (Sn ++ way xs xs[k].1 (j + 1))) := by
                have := (HS2.out.keep hW4).grown hg5 (fun e => by have := hu7 _ e.symm; omega)
                unfold Hid
                rw [way_succ, ← List.append_assoc, ← Nat.add_assoc]
                exact this
              have hF5 : Hid (Off [w1.heap.size] wo w5) := off_newer (HOF2.out.trans (Off.of hW4)) hg5 (fun g hg => by have := hu7 g hg; omega)
              have hs5 : wo.heap.size < w5.heap.size := by have := hg5.size; simp at this; omega
              have hpw5 : Below w.heap.size w w5 := hBw.trans (hF5.out.below (by simp; omega) hBw.size)
              clear ho5 hg5 ho4 hu7 hlk hrun
              go_wp2_with fail
              refine (image _ _ xs (it xs j xs[k].1) (h0.below KP.mono hpw5)).mono ?_
              rintro e w6 ⟨rfl, hb6⟩
              have hs6 := hb6.size
              go_wp2
              go_roundg (gk - 1)
              case measure => omega
              case rel => exact ⟨j + 1, by omega, by omega, rfl, OwI.keep hO5.out hb6, hS5.out.keep hb6, hF5.out.trans (Off.of hb6), by omega⟩
        · have hyes : xs[k].1 ∈ Sn := by simpa [hasI] using hh
          rw [hh] at hlk
          have CS := Lib.hid (cycS_skip (p := xs) hlt hyes)
          clear hyes
          go_wp2
          go_roundg (gk - 1)
          case measure => omega
          case rel => exact ⟨k + 1, Sn, Ls, F, by omega, by omega, by go_num, by unfold Hid; rw [← CS.out]; exact hq.out, hsh.out, by omega, by omega, hoi.out.keep bl, hF.out, hse.out.keep bl, by simp; omega, bl⟩
      · obtain rfl : k = xs.length := by omega
        go_wp2
        go_ret
        refine ⟨_, F, rfl, ?_, hF.out.1, fun g hg => by have := hF.out.2 g hg; have := hB1.size; omega, bl⟩
        have := hq.out
        rw [List.drop_length, cycS, List.append_nil] at this
        rw [HO.out, ← this]
        exact hoi.out
end Go.Proofs.Ytmeaghkpojiniaa.Cx
