/- Contract: the cycles of a permutation, the model's way. -/
import Derived.Test.YtmeaghkpojiniaaLists
import Derived.Test.YtmeaghkpojiniaaInts
import Derived.Test.YtmeaghkpojiniaaPerm
namespace Go.Proofs.Ytmeaghkpojiniaa.Base
open Go.RowKit
theorem off_grown {F : List Nat} {a w w1 : World} {v : Value} (h : Off F a w) (hg : w.grownBy w1 v.ownBlock) (hv : ∀ g ∈ blk v, g ∈ F) : Off F a w1 :=
  h.trans ⟨hg.os, hg.tape, hg.output, hg.size, fun g hlt hn => hg.block g hlt (fun e => hn (hv g (by simp [blk, ← e])))⟩
theorem off_of_grown {w w1 : World} {v : Value} (hg : w.grownBy w1 v.ownBlock) : Off (blk v) w w1 := off_grown (Off.refl _ _) hg fun _ h => h
theorem src_at {p : List (Int × Int)} (h : permS p = true) {k : Nat} (hk : k < p.length) : imgL p p[k].1 = p[k].2 := by
  have h1 : p[k].1 ∈ srcL p := src_mem hk
  have h2 := img_mem h1
  obtain ⟨i, hi, e⟩ := List.getElem_of_mem h2
  have hasc := List.pairwise_iff_getElem.1 (permS_asc h)
  have hi' : i < (srcL p).length := by rw [src_len]; exact hi
  have hk' : k < (srcL p).length := by rw [src_len]; exact hk
  have e1 : (srcL p)[i] = (srcL p)[k] := by simp [srcL, e]
  have : i = k := by
    rcases Nat.lt_trichotomy i k with h1 | h1 | h1
    · have := hasc i k hi' hk' h1; omega
    · exact h1
    · have := hasc k i hk' hi' h1; omega
  subst this
  rw [e]
def cyclesO (p : List (Int × Int)) : List (List Int) := if permS p = true then cycL p else []
theorem own_castI' {E : TypeId} {w : World} {B : Nat} {v : Value} {xs ys : List Int} (h : OwI E w B v xs) (e : xs = ys) : OwI E w B v ys := e ▸ h
end Go.Proofs.Ytmeaghkpojiniaa.Base
namespace Go.Proofs.Ytmeaghkpojiniaa.Cx
open Go.RowKit Base
set_option linter.unusedVariables false
set_option linter.unusedSimpArgs false
set_option maxRecDepth 100000
set_option maxHeartbeats 6400000
theorem info_ints : (Try.prog.info? 31).map (fun i => (i.zero, i.size, i.bytes)) = some (some (.slice none 0 0), 1, 24) := by kernel_rfl
theorem ty_intss : SlTy Try.prog 45 31 1 24 := SlTy.of Try.underlying45 info_ints rfl (by decide)
attribute [local go_sem] cell_alloc_some in
theorem specCycles (w : World) (v : Value) (xs : List (Int × Int)) (h : SlP w v xs) : Calls Try.prog 39 #[v] w fun e w' => ∃ r F, e = .returned r ∧ OIs 3 31 w' (cyclesO xs) r F ∧ F.Nodup ∧ (∀ g ∈ F, w.heap.size ≤ g) ∧ Below w.heap.size w w' := by
  cases hP : permS xs
  · have HO := Lib.hid (show cyclesO xs = [] by simp [cyclesO, hP])
    go_enter Try.func39, Try.ntmps39
    go_wp2_with fail
    refine (specIsPerm _ v xs (h.below KP.mono bl)).mono ?_
    rintro e w1 ⟨rfl, hb1⟩
    obtain ⟨hc1, hf1⟩ := bcell hb1
    have hB1 : Below w.heap.size w w1 := bStep bl hb1
    have hp1 := Stp.mk hb1
    have hs1 := hb1.size
    try simp only [World.size_alloc, World.size_setCell, World.size_drew, World.heap_drewN] at hs1
    try simp only [World.size_drew, World.heap_drewN, World.cell?_drew, World.frozen?_drew, World.cell?_drewN, World.frozen?_drewN] at hc1 hf1
    go_wp2
    go_ret
    exact ⟨_, [], rfl, by rw [HO.out]; exact OIs.nil, List.nodup_nil, by simp, bl⟩
  · have hn := permS_len hP
    have HO := Lib.hid (show cyclesO xs = cycL xs by simp [cyclesO, hP])
    have HP := Lib.hid hP
    have h0 := h
    obtain ⟨A, c, rfl, hc, hl, hr⟩ := h
    go_enter Try.func39, Try.ntmps39
    go_wp2_with fail
    refine (specIsPerm _ _ xs (h0.below KP.mono bl)).mono ?_
    rintro e w1 ⟨rfl, hb1⟩
    obtain ⟨hc1, hf1⟩ := bcell hb1
    have hB1 : Below w.heap.size w w1 := bStep bl hb1
    have hp1 := Stp.mk hb1
    have hs1 := hb1.size
    try simp only [World.size_alloc, World.size_setCell, World.size_drew, World.heap_drewN] at hs1
    try simp only [World.size_drew, World.heap_drewN, World.cell?_drew, World.frozen?_drew, World.cell?_drewN, World.frozen?_drewN] at hc1 hf1
    go_wp2
    clear hP
    go_loopg [3, 4, 5, 6, 7] (xs.length + 1) (fun n v3 v4 v5 v6 v7 wr => ∃ k : Nat, ∃ Sn : List Int, ∃ Ls : List (List Int), ∃ F : List Nat, n + k = xs.length + 1 ∧ k ≤ xs.length ∧ v5 = .int .i64 k ∧ Hid (Ls ++ cycS xs (xs.drop k) Sn = cycL xs) ∧ Hid (ShutBy xs Sn) ∧ Sn.length ≤ 40 * k ∧ Ls.length ≤ k ∧
      Hid (OIs 3 31 wr Ls v3 F) ∧ Hid (F.Nodup ∧ ∀ g ∈ F, w.heap.size ≤ g) ∧ Hid (OwI 3 wr w.heap.size v4 Sn) ∧ Hid (∀ g ∈ blk v4, g ∉ F) ∧ Hid (Below w.heap.size w wr))
    case atStart =>
      refine ⟨0, [], [], [w1.heap.size], by omega, by omega, rfl, rfl, fun x hx => by simp at hx, by simp, by simp, ⟨[], ?_, rfl, fun j u l hu => by simp at hu, by simp [blk, Value.ownBlock]⟩, ⟨by simp, by simp; omega⟩, ?_, ?_, bl⟩
      · exact ⟨rfl, .inr ⟨w1.heap.size, 0, #[], rfl, Nat.zero_le _, by rw [Below.heap_alloc _ _ _ (by simp)]; exact heap_alloc_new w1 _, Nat.le_refl _, by unfold maxLen; omega, rfl, by simp⟩⟩
      · exact ownsI_empty _ _ _ _ (by omega) (by have := heap_alloc_new (w1.alloc (.cells #[] 31)) (.cells #[] 3); simpa using this)
      · intro g hg
        simp [blk, Value.ownBlock] at hg ⊢
        omega
    case round =>
      obtain ⟨k, Sn, Ls, F, hn0, hk, rfl, hq, hsh, hSl, hLl, hoi, hF, hos, hap, hB⟩ := hrel
      obtain ⟨gi, hgi⟩ : ∃ g, g = gk := ⟨gk, rfl⟩
      have hBw := hB.out
      clear hB
      by_cases hlt : k < xs.length
      · obtain ⟨ad, rfl, c0, c1⟩ := (hr.below KP.mono hBw).atP hlt
        have g0 : (0 : Int) ≤ (k : Int) := by omega
        have g1 : (k : Int) < (xs.length : Int) := by omega
        cases hh : hasI Sn xs[k].1
        · have hno : xs[k].1 ∉ Sn := by simpa [hasI] using hh
          obtain ⟨m, hm, horb⟩ := per_ex HP.out (src_mem hlt)
          have CT := Lib.hid (cycS_take (p := xs) hlt hno)
          have HORB := Lib.hid horb
          have HM := Lib.hid hm
          have HNO := Lib.hid hno
          have hm0 := hm.pos
          have hml := hm.le
          have SA := Lib.hid (src_at HP.out hlt)
          clear hno hm horb
          go_wp2_with fail
          refine (l1Has _ _ Sn xs[k].1 (OwI.sl (OwI.keep hos.out bl) (by omega))).mono ?_
          rintro e w2 ⟨rfl, hb2⟩
          obtain ⟨hc2, hf2⟩ := bcell hb2
          have hB2 : Below w.heap.size w w2 := bStep bl hb2
          have hp2 := Stp.mk hb2
          have hs2 := hb2.size
          try simp only [World.size_alloc, World.size_setCell, World.size_drew, World.heap_drewN] at hs2
          try simp only [World.size_drew, World.heap_drewN, World.cell?_drew, World.frozen?_drew, World.cell?_drewN, World.frozen?_drewN] at hc2 hf2
          have hoi2 : Hid (OIs 3 31 w2 Ls u3 F) := hoi.out.keep bl
          have hos2 : Hid (OwI 3 w2 w.heap.size u4 Sn) := OwI.keep hos.out bl
          have k0 := bCell (w := wr) (w1 := w2) bl c0
          have k1 := bCell (w := wr) (w1 := w2) bl c1
          clear c0 c1
          go_wp2
          go_loopg [6, 7] m (fun n v6 v7 wq => ∃ j : Nat, n + j = m + 1 ∧ 0 < j ∧ j ≤ m ∧ v7 = .int .i64 (it xs j xs[k].1) ∧ Hid (OwI 3 wq w2.heap.size v6 (way xs xs[k].1 j)) ∧ Hid (Below w2.heap.size w2 wq))
          case atStart =>
            refine ⟨1, by omega, by omega, by omega, by rw [← SA.out]; rfl, ?_, bl⟩
            have := World.ownsRow_lit (w := w2) (base := w2.heap.size) (e := 3) (size := 1) #[.int .i64 xs[k].1] 1 (Nat.le_refl _) (by decide) rfl
            exact own_castI' (xs := [xs[k].1]) (by simpa [OwI, cI] using this) (by simp [way, it])
          case round =>
            obtain ⟨j, hn3, hj0, hj, rfl, hcy, hBq⟩ := hrel
            have hpq := Stp.mk hBq.out
            have e0 := bCell hBq.out k0
            have hpw : Below w.heap.size w wr := bStep hB2 hBq.out
            by_cases hjm : j = m
            · subst hjm
              have hbk : it xs j xs[k].1 = xs[k].1 := HM.out.back
              have bne0 : (it xs j xs[k].1 != xs[k].1) = false := by rw [hbk]; exact bne_rfl_ _
              have HBK := Lib.hid hbk
              clear hbk
              have hos_q := OwI.keep hos2.out hBq.out
              have hoi_q := hoi2.out.keep hBq.out
              obtain ⟨A6, c6, rfl⟩ := owns_slice hcy.out
              have hlw := way_len xs xs[k].1 j
              have HLW := Lib.hid hlw
              clear hlw
              have hFl := hoi2.out.lt
              have hsl : ∀ g ∈ blk u4, g < w2.heap.size := fun g hg => (owns_blk_lt hos2.out g hg).2
              have hcl : ∀ g ∈ blk (.slice A6 (way xs xs[k].1 j).length c6), w2.heap.size ≤ g ∧ g < wr.heap.size := fun g hg => owns_blk_lt hcy.out g hg
              have HFL := Lib.hid hFl
              have HSL := Lib.hid hsl
              have HCL := Lib.hid hcl
              clear hFl hsl hcl
              have hw2 : w.heap.size ≤ w2.heap.size := hB2.size
              have hw3 : w2.heap.size ≤ wr.heap.size := hBq.out.size
              go_wp2_with (at_builtin; refine Hid.out ?_)
              refine Lib.hid ?_
              refine wpList_appJ ty_ints w.heap.size u4 Sn hos_q _ _ (OwI.sl hcy.out (by rw [HLW.out]; omega)) (owns_nz hcy.out) (by rw [HLW.out]; omega) (by omega) (.tmp 51) (.tmp 52) rfl rfl rfl rfl ?_
              intro v7 w7 ho7 hg7 hat7
              have of7 := off_of_grown hg7
              have hoi7 := hoi_q.off of7 (fun g hg h => hap.out g h hg)
              have hcy7 := owns_off hcy.out of7 (fun g h1 h2 => by have := HCL.out g h1; have := HSL.out g h2; omega)
              have hB7 : Below w.heap.size w w7 := bOwn hpw hos_q hg7 (by omega)
              have hs7 := hg7.size
              have hv7 : ∀ g ∈ blk v7, g ∈ blk u4 ∨ g = wr.heap.size := fun g hg => by
                rcases hat7 with h | h
                · exact .inl (by rw [blk, h] at hg; exact hg)
                · exact .inr (by rw [blk, h] at hg; simpa using hg)
              have HO7 := Lib.hid ho7
              have HOI7 := Lib.hid hoi7
              have HCY7 := Lib.hid hcy7
              have HV7 := Lib.hid hv7
              clear ho7 hg7 hat7 of7 hoi7 hcy7 hv7 hos_q hoi_q
              go_wp2_with (at_builtin; refine Hid.out ?_)
              refine Lib.hid ?_
              have hW8 : Below w7.heap.size w7 (w7.alloc (.cells #[.slice A6 (way xs xs[k].1 j).length c6] 31)) := bAlloc (Below.refl _ _) _
              obtain ⟨vs, hr8, hl8, ha8, hFe⟩ := HOI7.out.keep hW8
              refine wpList_app ty_intss 0 u3 Ls.length vs hr8 w7.heap.size 1 [.slice A6 (way xs xs[k].1 j).length c6] (heap_alloc_new w7 _) rfl (by simp [Value.oneCell']) (by omega) (by omega) (Nat.zero_le _) (.tmp 54) (.tmp 56) rfl rfl rfl rfl ?_
              intro v9 w9 ho9 hg9 hat9
              have hdF : ∀ g ∈ blk (.slice A6 (way xs xs[k].1 j).length c6), g ∉ F := fun g h1 h2 => by have := HCL.out g h1; have := HFL.out g h2; omega
              obtain ⟨R1, R2, R3, R4⟩ := OIs.snoc (B := w.heap.size) hr8 hl8 ha8 (hFe ▸ hF.out.1) (hFe ▸ hF.out.2) (owns_lower (OwI.keep HCY7.out hW8) (Nat.zero_le _)) (fun g hg => by have := HCL.out g hg; omega) (hFe ▸ hdF) (by simp; omega) ho9 rfl hg9 hat9
              have hu3 : ∀ g ∈ blk u3, g ∈ F := fun g hg => by rw [hFe]; exact List.mem_append.2 (.inl hg)
              have hos9 : Hid (OwI 3 w9 w.heap.size v7 (Sn ++ way xs xs[k].1 j)) := owns_beside (OwI.keep HO7.out hW8) hg9 fun g h1 h2 => by
                have h3 := HFL.out g (hu3 g h1)
                rcases HV7.out g h2 with h | h
                · exact hap.out g h (hu3 g h1)
                · omega
              rw [← hFe] at R4
              have hap9 : Hid (∀ g ∈ blk v7, g ∉ blk v9 ++ (vs ++ [Value.slice A6 (way xs xs[k].1 j).length c6]).flatMap blk) := fun g h1 h2 => by
                rcases HV7.out g h1 with h | h
                · have h3 := HSL.out g h
                  rcases R4 g h2 with h4 | h4 | h4
                  · exact hap.out g h h4
                  · have := HCL.out g h4; omega
                  · simp at h4; omega
                · rcases R4 g h2 with h4 | h4 | h4
                  · have := HFL.out g h4; omega
                  · have := HCL.out g h4; omega
                  · simp at h4; omega
              have hB9 : Hid (Below w.heap.size w w9) := Below.grown (bStep hB7 hW8) hg9 (by simp; omega) (fun g hg => hF.out.2 g (hu3 g (by simp [blk, hg])))
              have Q1 := Lib.hid R1
              have Q2 := Lib.hid (And.intro R2 R3)
              clear ho9 hg9 hat9 R1 R2 R3 R4 hr8 ha8 hdF hu3
              go_wp2
              go_roundg (gi - 1)
              case measure => omega
              case rel =>
                refine ⟨k + 1, Sn ++ way xs xs[k].1 j, Ls ++ [way xs xs[k].1 j], _, by omega, by omega, by go_num, ?_, closed_append hsh.out (closed_way HP.out HM.out), by rw [List.length_append, HLW.out]; omega, by simp; omega, Q1.out, Q2.out, hos9.out, hap9.out, hB9.out⟩
                unfold Hid
                rw [← HORB.out, List.append_assoc, List.singleton_append, ← CT.out]
                exact hq.out
            · have hne : it xs j xs[k].1 ≠ xs[k].1 := HM.out.first j hj0 (by omega)
              have bne0 : (it xs j xs[k].1 != xs[k].1) = true := by rw [bne_iff_ne]; exact hne
              clear hne
              go_wp2_with (at_builtin; refine Hid.out ?_)
              refine Lib.hid ?_
              have hsz : w2.heap.size ≤ (wr.alloc (.cells #[.int .i64 (it xs j xs[k].1)] 3)).heap.size := (show Below w2.heap.size w2 _ from bl).size
              have ho4 : OwI 3 (wr.alloc (.cells #[.int .i64 (it xs j xs[k].1)] 3)) w2.heap.size u6 (way xs xs[k].1 j) := OwI.keep hcy.out bl
              refine wpList_app ty_ints w2.heap.size u6 _ _ ho4 wr.heap.size 1 [.int .i64 (it xs j xs[k].1)] (heap_alloc_new wr _) rfl (by simp [Value.oneCell']) (by rw [way_len]; omega) (by rw [way_len]; omega) hsz (.tmp 47) (.tmp 49) rfl rfl rfl rfl ?_
              intro v5 w5 ho5 hg5 _
              have hO5 : Hid (OwI 3 w5 w2.heap.size v5 (way xs xs[k].1 (j + 1))) := by
                unfold Hid
                rw [way_succ]
                simpa [cI, OwI] using ho5
              have hB5 : Below w2.heap.size w2 w5 := bOwn (bl) ho4 hg5 hsz
              have hp5 := Stp.mk hB5
              clear ho5 hg5 ho4 hsz
              go_wp2_with fail
              refine (l1Image _ _ xs (it xs j xs[k].1) (h0.below KP.mono (bStep hB2 hB5))).mono ?_
              rintro e w6 ⟨rfl, hb6⟩
              obtain ⟨hc6, hf6⟩ := bcell hb6
              have hB6 : Below w.heap.size w w6 := bStep bl hb6
              have hp6 := Stp.mk hb6
              have hs6 := hb6.size
              try simp only [World.size_alloc, World.size_setCell, World.size_drew, World.heap_drewN] at hs6
              try simp only [World.size_drew, World.heap_drewN, World.cell?_drew, World.frozen?_drew, World.cell?_drewN, World.frozen?_drewN] at hc6 hf6
              go_wp2
              go_roundg (gk - 1)
              case measure => omega
              case rel => exact ⟨j + 1, by omega, by omega, by omega, rfl, OwI.keep hO5.out bl, bl⟩
        · have hyes : xs[k].1 ∈ Sn := by simpa [hasI] using hh
          have CS := Lib.hid (cycS_skip (p := xs) hlt hyes)
          clear hyes
          go_wp2_with fail
          refine (l1Has _ _ Sn xs[k].1 (OwI.sl (OwI.keep hos.out bl) (by omega))).mono ?_
          rintro e w2 ⟨rfl, hb2⟩
          obtain ⟨hc2, hf2⟩ := bcell hb2
          have hB2 : Below w.heap.size w w2 := bStep bl hb2
          have hp2 := Stp.mk hb2
          have hs2 := hb2.size
          try simp only [World.size_alloc, World.size_setCell, World.size_drew, World.heap_drewN] at hs2
          try simp only [World.size_drew, World.heap_drewN, World.cell?_drew, World.frozen?_drew, World.cell?_drewN, World.frozen?_drewN] at hc2 hf2
          go_wp2
          go_roundg (gk - 1)
          case measure => omega
          case rel => exact ⟨k + 1, Sn, Ls, F, by omega, by omega, by go_num, by unfold Hid; rw [← CS.out]; exact hq.out, hsh.out, by omega, by omega, hoi.out.keep bl, hF.out, OwI.keep hos.out bl, hap.out, bl⟩
      · obtain rfl : k = xs.length := by omega
        go_wp2
        go_ret
        refine ⟨_, F, rfl, ?_, hF.out.1, hF.out.2, bl⟩
        have := hq.out
        rw [List.drop_length, cycS, List.append_nil] at this
        rw [HO.out, ← this]
        exact hoi.out
end Go.Proofs.Ytmeaghkpojiniaa.Cx
