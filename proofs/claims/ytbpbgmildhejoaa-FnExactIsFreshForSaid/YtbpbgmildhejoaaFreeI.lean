/- Contracts: the free atoms of a term, the program's way; the functions that stand open, both ways. -/
import Derived.Test.YtbpbgmildhejoaaDel
import Derived.Test.YtbpbgmildhejoaaHoles2
import Derived.Test.YtbpbgmildhejoaaFree2
namespace Go.Proofs.Ytbpbgmildhejoaa.Base
def freeO (t : Tm) : List Int := if termT t = true then freeL t else []
theorem freeO_len (t : Tm) : (freeO t).length ≤ 1000000 := by
  unfold freeO
  split
  · rename_i h
    simp only [termT, Bool.and_eq_true, decide_eq_true_eq] at h
    have := freeL_le t
    omega
  · simp
theorem vt_mk {w : World} {t : Tm} {vp vk : Value} (hp : SlP w vp t.perm) (hk : SlT w vk t.kids) : VT w (.agg #[.int .i64 t.op, .int .i64 t.n, vp, vk]) t := ⟨vp, vk, rfl, hp, hk⟩
def freshFor (a : Int) (t : Tm) : Bool := atom a && (groundT t && !hasI (freeL t) a)
end Go.Proofs.Ytbpbgmildhejoaa.Base
namespace Go.Proofs.Ytbpbgmildhejoaa.Cx
open Go.RowKit Base
set_option linter.unusedVariables false
set_option linter.unusedSimpArgs false
set_option maxRecDepth 100000
set_option maxHeartbeats 6400000
attribute [local go_sem] cell_alloc_some in
theorem implFree (N : Nat) : ∀ (t : Tm) (v : Value) (w : World), t.sz ≤ N → VT w v t → good t = true → t.sz ≤ 1048576 → Calls Try.prog 74 #[v] w fun e w' => ∃ r, e = .returned r ∧ OwI 3 w' w.heap.size r (freeL t) ∧ Below w.heap.size w w' := by
  induction N with
  | zero => intro t v w h; have := t.sz_pos; omega
  | succ N ih =>
    intro t v w hN ht hg hsz
    obtain ⟨vp, vk, rfl, hp, hk⟩ := ht
    obtain ⟨A1, c1, rfl⟩ := hp.slice
    obtain ⟨A2, c2, hv, hc, hl, hr⟩ := hk
    subst hv
    have hk : SlT w (.slice A2 t.kids.length c2) t.kids := ⟨A2, c2, rfl, hc, hl, hr⟩
    have hkids : ∀ j (h : j < t.kids.length), t.kids[j].sz ≤ N ∧ t.kids[j].sz ≤ 1048576 := fun j h => by have := t.kid_sz j h; omega
    have HKS := Lib.hid hkids
    clear hkids
    have IH := Lib.hid ih
    clear ih
    have HG := Lib.hid hg
    have hsc := hg
    rw [good_eq, Bool.and_eq_true] at hsc
    have HSC := Lib.hid (shape_cases hsc.1)
    have HGK := Lib.hid hsc.2
    have HSM := Lib.hid (show szL t.kids ≤ 1048576 by have h1 : t.sz = szL t.kids + 1 := (by cases t; rfl); omega)
    clear hsc hg hsz
    by_cases o1 : t.op = 1
    · have HF := Lib.hid (free_one HG.out o1)
      have b1 : (t.op == 1) = true := by rw [o1]; rfl
      clear o1
      go_enter Try.func74, Try.ntmps74
      go_wp2
      go_ret
      exact ⟨_, rfl, own_castI (xs := [t.n]) (by have := World.ownsRow_lit (w := w.alloc (.cells #[.int .i64 t.op, .int .i64 t.n, .slice A1 t.perm.length c1, .slice A2 t.kids.length c2] 31)) (base := w.heap.size) (e := 3) (size := 1) #[.int .i64 t.n] 1 (by simp) (by decide) rfl; simpa [OwI, cI] using this) HF.out.symm, bl⟩
    · have b1 : (t.op == 1) = false := by simpa using o1
      by_cases o3 : t.op = 3
      · obtain ⟨x, hx⟩ : ∃ x, t.kids = [x] := by rcases HSC.out with h | h | h | h <;> first | exact h.2.2.2 | (exfalso; omega)
        have HF := Lib.hid (free_bind o3 hx)
        have b3 : (t.op == 3) = true := by rw [o3]; rfl
        clear o3 o1
        have hlen : t.kids.length = 1 := by rw [hx]; rfl
        have hlt : 0 < t.kids.length := by omega
        have hk0 : t.kids[0] = x := by simp [hx]
        have HK0 := Lib.hid hk0
        clear hx hk0
        obtain ⟨ad, p1, k1, rfl, hp1, hq1, c0, c1', c2', c3⟩ := hr.atT hlt
        rw [Nat.zero_mul, add_zero] at c0 c1' c2' c3
        obtain ⟨P1, n1, rfl⟩ := hp1.slice
        obtain ⟨Q1, m1, rfl⟩ := hq1.slice
        have le2 := freeL_le t.kids[0]
        have hk2 := HKS.out 0 hlt
        have LE2 := Lib.hid (show (freeL t.kids[0]).length ≤ 1048576 by omega)
        clear le2 hk2
        go_enter Try.func74, Try.ntmps74
        go_wp2_with fail
        refine (IH.out t.kids[0] _ _ (HKS.out 0 hlt).1 ⟨_, _, rfl, hp1.below KP.mono bl, hq1.below KT.mono bl⟩ (goodL_mem _ HGK.out _ (List.getElem_mem hlt)) (HKS.out 0 hlt).2).mono ?_
        rintro e w4 ⟨r4, rfl, ho4, hb4⟩
        obtain ⟨hc4, hf4⟩ := bcell hb4
        have hB4 : Below w.heap.size w w4 := bStep bl hb4
        have hp4 := Stp.mk hb4
        have hs4 := hb4.size
        try simp only [World.size_alloc, World.size_setCell, World.size_drew, World.heap_drewN] at hs4
        try simp only [World.size_drew, World.heap_drewN, World.cell?_drew, World.frozen?_drew, World.cell?_drewN, World.frozen?_drewN] at hc4 hf4
        have hz4_0 : w.heap.size < w4.heap.size := by omega
        go_wp2_with fail
        refine (deleteInts 3 (w.heap.size + 1) _ r4 (freeL t.kids[0]) w.heap.size t.n (owns_lower ho4 (by simp)) (by omega) (by have := LE2.out; omega) (by omega) ⟨.int .i64 t.op, by simp [go_sem, hc4, hz4_0]⟩ (by simp [go_sem, hc4, hz4_0])).mono ?_
        rintro e w5 ⟨r5, rfl, ho5, hb5⟩
        have hB5 : Below w.heap.size w w5 := Below.trans bl (hb5.mono (by omega))
        go_wp2
        go_ret
        exact ⟨_, rfl, owns_lower (own_castI ho5 (by rw [HF.out, HK0.out])) (by omega), hB5⟩
      · have HF := Lib.hid (free_other o1 o3)
        have b3 : (t.op == 3) = false := by simpa using o3
        clear o3 o1
        go_enter Try.func74, Try.ntmps74
        go_wp2
        go_loopg [3, 5, 25] (t.kids.length + 1) (fun n v3 v5 v25 wr => ∃ k : Nat, n + k = t.kids.length + 1 ∧ k ≤ t.kids.length ∧ v25 = .int .i64 k ∧ Hid (OwI 3 wr w.heap.size v3 (freeLs (t.kids.take k))) ∧ Hid (Below w.heap.size w wr))
        case atStart => exact ⟨0, by omega, by omega, rfl, own_castI (xs := []) (World.ownsRow_nil _ _ _ _) (by simp [freeLs]), bl⟩
        case round =>
          obtain ⟨k, hn, hk', rfl, hown, hB⟩ := hrel
          have hBw := hB.out
          clear hB
          by_cases hlt : k < t.kids.length
          · obtain ⟨ad, p1, k1, rfl, hp1, hq1, c0, c1', c2', c3⟩ := (hr.below KT.mono hBw).atT hlt
            have g0 : (0 : Int) ≤ (k : Int) := by omega
            have g1 : (k : Int) < (t.kids.length : Int) := by omega
            obtain ⟨P1, n1, rfl⟩ := hp1.slice
            obtain ⟨Q1, m1, rfl⟩ := hq1.slice
            have SN := Lib.hid (freeLs_snoc t.kids k hlt)
            have le1 := freeLs_le (t.kids.take k)
            have le2 := freeL_le t.kids[k]
            have le3 : szL (t.kids.take k) + t.kids[k].sz ≤ szL t.kids := by rw [← szL_take t.kids k hlt]; exact szL_take_le _ _
            have LE := Lib.hid (show (freeLs (t.kids.take k)).length + (freeL t.kids[k]).length ≤ 1048576 by have := HSM.out; omega)
            clear le1 le2 le3
            go_wp2_with fail
            refine (IH.out t.kids[k] _ _ (HKS.out k hlt).1 ⟨_, _, rfl, hp1.below KP.mono bl, hq1.below KT.mono bl⟩ (goodL_mem _ HGK.out _ (List.getElem_mem hlt)) (HKS.out k hlt).2).mono ?_
            rintro e w6 ⟨r6, rfl, ho6, hb6⟩
            obtain ⟨hc6, hf6⟩ := bcell hb6
            have hB6 : Below w.heap.size w w6 := bStep bl hb6
            have hp6 := Stp.mk hb6
            have hs6 := hb6.size
            try simp only [World.size_alloc, World.size_setCell, World.size_drew, World.heap_drewN] at hs6
            try simp only [World.size_drew, World.heap_drewN, World.cell?_drew, World.frozen?_drew, World.cell?_drewN, World.frozen?_drewN] at hc6 hf6
            obtain ⟨A6, c6, rfl⟩ := owns_slice ho6
            have hs6' : w.heap.size ≤ w6.heap.size := (show Below w.heap.size w w6 from bl).size
            have ho7 := OwI.keep hown.out (show Below wr.heap.size wr w6 from bl)
            go_wp2_with (at_builtin; refine Hid.out ?_)
            refine Lib.hid ?_
            refine wpList_appI ty_ints w.heap.size _ _ ho7 _ _ (ho6.sl (by have := LE.out; omega)) (owns_nz ho6) (by have := LE.out; omega) hs6' (.tmp 29) (.tmp 31) rfl rfl rfl rfl ?_
            intro v8 w8 ho8 hg8
            have hO8 : Hid (OwI 3 w8 w.heap.size v8 (freeLs (t.kids.take (k + 1)))) := by unfold Hid; rw [SN.out]; exact ho8
            have hB8 : Hid (Below w.heap.size w w8) := bOwn (bl) ho7 hg8 hs6'
            clear ho8 hg8 ho7 ho6
            go_wp2
            go_roundg (gk - 1)
            case measure => omega
            case rel => exact ⟨k + 1, by omega, by omega, by go_num, hO8, hB8⟩
          · obtain rfl : k = t.kids.length := by omega
            rw [List.take_length] at hown
            have le1 := freeLs_le t.kids
            have LE := Lib.hid (show (freeLs t.kids).length ≤ 1048576 by have := HSM.out; omega)
            clear le1
            obtain ⟨A3, c3, hu3⟩ := owns_slice hown.out
            subst hu3
            have hkl := KL_one wr 43 _ _ (hown.out.sl (by have := LE.out; omega)) (owns_nz hown.out)
            have HKL := Lib.hid hkl
            clear hkl
            go_wp2_with fail
            refine (ascending _ _ _ HKL.out (by simp [cat]; have := LE.out; omega)).mono ?_
            rintro e w7 ⟨r7, rfl, ho7, hb7⟩
            obtain ⟨hc7, hf7⟩ := bcell hb7
            have hB7 : Below w.heap.size w w7 := bStep bl hb7
            have hp7 := Stp.mk hb7
            have hs7 := hb7.size
            try simp only [World.size_alloc, World.size_setCell, World.size_drew, World.heap_drewN] at hs7
            try simp only [World.size_drew, World.heap_drewN, World.cell?_drew, World.frozen?_drew, World.cell?_drewN, World.frozen?_drewN] at hc7 hf7
            go_wp2
            go_ret
            exact ⟨_, rfl, owns_lower (own_castI ho7 (by rw [HF.out]; simp [cat])) (show Below w.heap.size w _ from bl).size, bl⟩
theorem implFreeAtoms (w : World) (v : Value) (t : Tm) (h : VT w v t) (hb : t.bulk ≤ 1048576) : Calls Try.prog 38 #[v] w fun e w' => ∃ r, e = .returned r ∧ OwI 3 w' w.heap.size r (freeO t) ∧ Below w.heap.size w w' := by
  obtain ⟨vp, vk, rfl, hp, hk⟩ := h
  obtain ⟨A1, c1, rfl⟩ := hp.slice
  obtain ⟨A2, c2, rfl⟩ := hk.slice
  cases hT : termT t
  · go_enter Try.func38, Try.ntmps38
    go_wp2_with fail
    refine (implIsTerm t _ _ ⟨_, _, rfl, hp.below KP.mono bl, hk.below KT.mono bl⟩).mono ?_
    rintro e w1 ⟨rfl, hb1⟩
    obtain ⟨hc1, hf1⟩ := bcell hb1
    have hB1 : Below w.heap.size w w1 := bStep bl hb1
    have hp1 := Stp.mk hb1
    have hs1 := hb1.size
    try simp only [World.size_alloc, World.size_setCell, World.size_drew, World.heap_drewN] at hs1
    try simp only [World.size_drew, World.heap_drewN, World.cell?_drew, World.frozen?_drew, World.cell?_drewN, World.frozen?_drewN] at hc1 hf1
    have hz1_0 : w.heap.size < w1.heap.size := by omega
    go_wp2
    go_ret
    exact ⟨_, rfl, own_castI (xs := []) (World.ownsRow_nil _ _ _ _) (by simp [freeO, hT]), bl⟩
  · have hz : good t = true ∧ t.sz ≤ 60 := by simpa [termT] using hT
    have HT := Lib.hid hT
    go_enter Try.func38, Try.ntmps38
    go_wp2_with fail
    refine (implIsTerm t _ _ ⟨_, _, rfl, hp.below KP.mono bl, hk.below KT.mono bl⟩).mono ?_
    rintro e w1 ⟨rfl, hb1⟩
    obtain ⟨hc1, hf1⟩ := bcell hb1
    have hB1 : Below w.heap.size w w1 := bStep bl hb1
    have hp1 := Stp.mk hb1
    have hs1 := hb1.size
    try simp only [World.size_alloc, World.size_setCell, World.size_drew, World.heap_drewN] at hs1
    try simp only [World.size_drew, World.heap_drewN, World.cell?_drew, World.frozen?_drew, World.cell?_drewN, World.frozen?_drewN] at hc1 hf1
    have hz1_0 : w.heap.size < w1.heap.size := by omega
    go_wp2_with fail
    refine (implFree t.sz t _ _ (Nat.le_refl _) ⟨_, _, rfl, hp.below KP.mono bl, hk.below KT.mono bl⟩ hz.1 (by omega)).mono ?_
    rintro e w2 ⟨r2, rfl, ho2, hb2⟩
    obtain ⟨hc2, hf2⟩ := bcell hb2
    have hB2 : Below w.heap.size w w2 := bStep bl hb2
    have hp2 := Stp.mk hb2
    have hs2 := hb2.size
    try simp only [World.size_alloc, World.size_setCell, World.size_drew, World.heap_drewN] at hs2
    try simp only [World.size_drew, World.heap_drewN, World.cell?_drew, World.frozen?_drew, World.cell?_drewN, World.frozen?_drewN] at hc2 hf2
    have hz2_0 : w.heap.size < w2.heap.size := by omega
    go_wp2
    go_ret
    exact ⟨_, rfl, owns_lower (own_castI ho2 (by simp [freeO, HT.out])) (show Below w.heap.size w _ from bl).size, bl⟩
theorem specFreeAtoms (w : World) (v : Value) (t : Tm) (h : VT w v t) (hb : t.bulk ≤ 1048576) : Calls Try.prog 37 #[v] w fun e w' => ∃ r, e = .returned r ∧ OwI 3 w' w.heap.size r (freeO t) ∧ Below w.heap.size w w' := by
  obtain ⟨vp, vk, rfl, hp, hk⟩ := h
  obtain ⟨A1, c1, rfl⟩ := hp.slice
  obtain ⟨A2, c2, rfl⟩ := hk.slice
  cases hT : termT t
  · go_enter Try.func37, Try.ntmps37
    go_wp2_with fail
    refine (specIsTerm t _ _ ⟨_, _, rfl, hp.below KP.mono bl, hk.below KT.mono bl⟩ hb).mono ?_
    rintro e w1 ⟨rfl, hb1⟩
    obtain ⟨hc1, hf1⟩ := bcell hb1
    have hB1 : Below w.heap.size w w1 := bStep bl hb1
    have hp1 := Stp.mk hb1
    have hs1 := hb1.size
    try simp only [World.size_alloc, World.size_setCell, World.size_drew, World.heap_drewN] at hs1
    try simp only [World.size_drew, World.heap_drewN, World.cell?_drew, World.frozen?_drew, World.cell?_drewN, World.frozen?_drewN] at hc1 hf1
    have hz1_0 : w.heap.size < w1.heap.size := by omega
    go_wp2
    go_ret
    exact ⟨_, rfl, own_castI (ownsI_empty _ _ _ _ (show Below w.heap.size w w1 from bl).size (heap_alloc_new w1 _)) (by simp [freeO, hT]), bl⟩
  · have HT := Lib.hid hT
    go_enter Try.func37, Try.ntmps37
    go_wp2_with fail
    refine (specIsTerm t _ _ ⟨_, _, rfl, hp.below KP.mono bl, hk.below KT.mono bl⟩ hb).mono ?_
    rintro e w1 ⟨rfl, hb1⟩
    obtain ⟨hc1, hf1⟩ := bcell hb1
    have hB1 : Below w.heap.size w w1 := bStep bl hb1
    have hp1 := Stp.mk hb1
    have hs1 := hb1.size
    try simp only [World.size_alloc, World.size_setCell, World.size_drew, World.heap_drewN] at hs1
    try simp only [World.size_drew, World.heap_drewN, World.cell?_drew, World.frozen?_drew, World.cell?_drewN, World.frozen?_drewN] at hc1 hf1
    have hz1_0 : w.heap.size < w1.heap.size := by omega
    go_wp2_with fail
    refine (l2Free t.sz t _ _ (Nat.le_refl _) ⟨_, _, rfl, hp.below KP.mono bl, hk.below KT.mono bl⟩ hb).mono ?_
    rintro e w2 ⟨r2, rfl, ho2, hb2⟩
    obtain ⟨hc2, hf2⟩ := bcell hb2
    have hB2 : Below w.heap.size w w2 := bStep bl hb2
    have hp2 := Stp.mk hb2
    have hs2 := hb2.size
    try simp only [World.size_alloc, World.size_setCell, World.size_drew, World.heap_drewN] at hs2
    try simp only [World.size_drew, World.heap_drewN, World.cell?_drew, World.frozen?_drew, World.cell?_drewN, World.frozen?_drewN] at hc2 hf2
    have hz2_0 : w.heap.size < w2.heap.size := by omega
    go_wp2
    go_ret
    exact ⟨_, rfl, owns_lower (own_castI ho2 (by simp [freeO, HT.out])) (show Below w.heap.size w _ from bl).size, bl⟩
theorem specFreshFor (w : World) (v : Value) (a : Int) (t : Tm) (h : VT w v t) (hb : t.bulk ≤ 1048576) : Calls Try.prog 33 #[.int .i64 a, v] w fun e w' => e = .returned (.bool (freshFor a t)) ∧ Below w.heap.size w w' := by
  obtain ⟨vp, vk, rfl, hp, hk⟩ := h
  obtain ⟨A1, c1, rfl⟩ := hp.slice
  obtain ⟨A2, c2, rfl⟩ := hk.slice
  cases hA : atom a
  · go_enter Try.func33, Try.ntmps33
    go_wp2_with fail
    refine (l1Atom _ a).mono ?_
    rintro e w1 ⟨rfl, hb1⟩
    obtain ⟨hc1, hf1⟩ := bcell hb1
    have hB1 : Below w.heap.size w w1 := bStep bl hb1
    have hp1 := Stp.mk hb1
    have hs1 := hb1.size
    try simp only [World.size_alloc, World.size_setCell, World.size_drew, World.heap_drewN] at hs1
    try simp only [World.size_drew, World.heap_drewN, World.cell?_drew, World.frozen?_drew, World.cell?_drewN, World.frozen?_drewN] at hc1 hf1
    have hz1_0 : w.heap.size < w1.heap.size := by omega
    go_wp2
    go_ret
    exact ⟨ret_bool (by simp [freshFor, hA]), bl⟩
  · cases hG : groundT t
    · go_enter Try.func33, Try.ntmps33
      go_wp2_with fail
      refine (l1Atom _ a).mono ?_
      rintro e w1 ⟨rfl, hb1⟩
      obtain ⟨hc1, hf1⟩ := bcell hb1
      have hB1 : Below w.heap.size w w1 := bStep bl hb1
      have hp1 := Stp.mk hb1
      have hs1 := hb1.size
      try simp only [World.size_alloc, World.size_setCell, World.size_drew, World.heap_drewN] at hs1
      try simp only [World.size_drew, World.heap_drewN, World.cell?_drew, World.frozen?_drew, World.cell?_drewN, World.frozen?_drewN] at hc1 hf1
      have hz1_0 : w.heap.size < w1.heap.size := by omega
      go_wp2_with fail
      refine (specGround _ _ t ⟨_, _, rfl, hp.below KP.mono bl, hk.below KT.mono bl⟩ hb).mono ?_
      rintro e w2 ⟨rfl, hb2⟩
      obtain ⟨hc2, hf2⟩ := bcell hb2
      have hB2 : Below w.heap.size w w2 := bStep bl hb2
      have hp2 := Stp.mk hb2
      have hs2 := hb2.size
      try simp only [World.size_alloc, World.size_setCell, World.size_drew, World.heap_drewN] at hs2
      try simp only [World.size_drew, World.heap_drewN, World.cell?_drew, World.frozen?_drew, World.cell?_drewN, World.frozen?_drewN] at hc2 hf2
      have hz2_0 : w.heap.size < w2.heap.size := by omega
      go_wp2
      go_ret
      exact ⟨ret_bool (by simp [freshFor, hG]), bl⟩
    · have hz : good t = true ∧ t.sz ≤ 60 := by simp only [groundT, termT, Bool.and_eq_true, decide_eq_true_eq] at hG; exact hG.1
      have hle := freeL_le t
      have HLE := Lib.hid (show (freeL t).length ≤ 60 by omega)
      clear hle
      go_enter Try.func33, Try.ntmps33
      go_wp2_with fail
      refine (l1Atom _ a).mono ?_
      rintro e w1 ⟨rfl, hb1⟩
      obtain ⟨hc1, hf1⟩ := bcell hb1
      have hB1 : Below w.heap.size w w1 := bStep bl hb1
      have hp1 := Stp.mk hb1
      have hs1 := hb1.size
      try simp only [World.size_alloc, World.size_setCell, World.size_drew, World.heap_drewN] at hs1
      try simp only [World.size_drew, World.heap_drewN, World.cell?_drew, World.frozen?_drew, World.cell?_drewN, World.frozen?_drewN] at hc1 hf1
      have hz1_0 : w.heap.size < w1.heap.size := by omega
      go_wp2_with fail
      refine (specGround _ _ t ⟨_, _, rfl, hp.below KP.mono bl, hk.below KT.mono bl⟩ hb).mono ?_
      rintro e w2 ⟨rfl, hb2⟩
      obtain ⟨hc2, hf2⟩ := bcell hb2
      have hB2 : Below w.heap.size w w2 := bStep bl hb2
      have hp2 := Stp.mk hb2
      have hs2 := hb2.size
      try simp only [World.size_alloc, World.size_setCell, World.size_drew, World.heap_drewN] at hs2
      try simp only [World.size_drew, World.heap_drewN, World.cell?_drew, World.frozen?_drew, World.cell?_drewN, World.frozen?_drewN] at hc2 hf2
      have hz2_0 : w.heap.size < w2.heap.size := by omega
      go_wp2_with fail
      refine (l2Free t.sz t _ _ (Nat.le_refl _) (vt_mk (hp.below KP.mono bl) (hk.below KT.mono bl)) hb).mono ?_
      rintro e w3 ⟨r3, rfl, ho3, hb3⟩
      obtain ⟨hc3, hf3⟩ := bcell hb3
      have hB3 : Below w.heap.size w w3 := bStep bl hb3
      have hp3 := Stp.mk hb3
      have hs3 := hb3.size
      try simp only [World.size_alloc, World.size_setCell, World.size_drew, World.heap_drewN] at hs3
      try simp only [World.size_drew, World.heap_drewN, World.cell?_drew, World.frozen?_drew, World.cell?_drewN, World.frozen?_drewN] at hc3 hf3
      have hz3_0 : w.heap.size < w3.heap.size := by omega
      go_wp2_with fail
      refine (l1Has _ _ (freeL t) a (ho3.sl (by have := HLE.out; omega))).mono ?_
      rintro e w4 ⟨rfl, hb4⟩
      obtain ⟨hc4, hf4⟩ := bcell hb4
      have hB4 : Below w.heap.size w w4 := bStep bl hb4
      have hp4 := Stp.mk hb4
      have hs4 := hb4.size
      try simp only [World.size_alloc, World.size_setCell, World.size_drew, World.heap_drewN] at hs4
      try simp only [World.size_drew, World.heap_drewN, World.cell?_drew, World.frozen?_drew, World.cell?_drewN, World.frozen?_drewN] at hc4 hf4
      have hz4_0 : w.heap.size < w4.heap.size := by omega
      go_wp2
      go_ret
      exact ⟨ret_bool (by simp [freshFor, hA, hG]), bl⟩
theorem implFreshFor (w : World) (v : Value) (a : Int) (t : Tm) (h : VT w v t) (hb : t.bulk ≤ 1048576) : Calls Try.prog 34 #[.int .i64 a, v] w fun e w' => e = .returned (.bool (freshFor a t)) ∧ Below w.heap.size w w' := by
  obtain ⟨vp, vk, rfl, hp, hk⟩ := h
  obtain ⟨A1, c1, rfl⟩ := hp.slice
  obtain ⟨A2, c2, rfl⟩ := hk.slice
  cases hA : atom a
  · go_enter Try.func34, Try.ntmps34
    go_wp2_with fail
    refine (isAtom _ a).mono ?_
    rintro e w1 ⟨rfl, hb1⟩
    obtain ⟨hc1, hf1⟩ := bcell hb1
    have hB1 : Below w.heap.size w w1 := bStep bl hb1
    have hp1 := Stp.mk hb1
    have hs1 := hb1.size
    try simp only [World.size_alloc, World.size_setCell, World.size_drew, World.heap_drewN] at hs1
    try simp only [World.size_drew, World.heap_drewN, World.cell?_drew, World.frozen?_drew, World.cell?_drewN, World.frozen?_drewN] at hc1 hf1
    have hz1_0 : w.heap.size < w1.heap.size := by omega
    go_wp2
    go_ret
    exact ⟨ret_bool (by simp [freshFor, hA]), bl⟩
  · cases hG : groundT t
    · go_enter Try.func34, Try.ntmps34
      go_wp2_with fail
      refine (isAtom _ a).mono ?_
      rintro e w1 ⟨rfl, hb1⟩
      obtain ⟨hc1, hf1⟩ := bcell hb1
      have hB1 : Below w.heap.size w w1 := bStep bl hb1
      have hp1 := Stp.mk hb1
      have hs1 := hb1.size
      try simp only [World.size_alloc, World.size_setCell, World.size_drew, World.heap_drewN] at hs1
      try simp only [World.size_drew, World.heap_drewN, World.cell?_drew, World.frozen?_drew, World.cell?_drewN, World.frozen?_drewN] at hc1 hf1
      have hz1_0 : w.heap.size < w1.heap.size := by omega
      go_wp2_with fail
      refine (implGround _ _ t ⟨_, _, rfl, hp.below KP.mono bl, hk.below KT.mono bl⟩ hb).mono ?_
      rintro e w2 ⟨rfl, hb2⟩
      obtain ⟨hc2, hf2⟩ := bcell hb2
      have hB2 : Below w.heap.size w w2 := bStep bl hb2
      have hp2 := Stp.mk hb2
      have hs2 := hb2.size
      try simp only [World.size_alloc, World.size_setCell, World.size_drew, World.heap_drewN] at hs2
      try simp only [World.size_drew, World.heap_drewN, World.cell?_drew, World.frozen?_drew, World.cell?_drewN, World.frozen?_drewN] at hc2 hf2
      have hz2_0 : w.heap.size < w2.heap.size := by omega
      go_wp2
      go_ret
      exact ⟨ret_bool (by simp [freshFor, hG]), bl⟩
    · have hz : good t = true ∧ t.sz ≤ 60 := by simp only [groundT, termT, Bool.and_eq_true, decide_eq_true_eq] at hG; exact hG.1
      have hle := freeL_le t
      have HLE := Lib.hid (show (freeL t).length ≤ 60 by omega)
      clear hle
      go_enter Try.func34, Try.ntmps34
      go_wp2_with fail
      refine (isAtom _ a).mono ?_
      rintro e w1 ⟨rfl, hb1⟩
      obtain ⟨hc1, hf1⟩ := bcell hb1
      have hB1 : Below w.heap.size w w1 := bStep bl hb1
      have hp1 := Stp.mk hb1
      have hs1 := hb1.size
      try simp only [World.size_alloc, World.size_setCell, World.size_drew, World.heap_drewN] at hs1
      try simp only [World.size_drew, World.heap_drewN, World.cell?_drew, World.frozen?_drew, World.cell?_drewN, World.frozen?_drewN] at hc1 hf1
      have hz1_0 : w.heap.size < w1.heap.size := by omega
      go_wp2_with fail
      refine (implGround _ _ t ⟨_, _, rfl, hp.below KP.mono bl, hk.below KT.mono bl⟩ hb).mono ?_
      rintro e w2 ⟨rfl, hb2⟩
      obtain ⟨hc2, hf2⟩ := bcell hb2
      have hB2 : Below w.heap.size w w2 := bStep bl hb2
      have hp2 := Stp.mk hb2
      have hs2 := hb2.size
      try simp only [World.size_alloc, World.size_setCell, World.size_drew, World.heap_drewN] at hs2
      try simp only [World.size_drew, World.heap_drewN, World.cell?_drew, World.frozen?_drew, World.cell?_drewN, World.frozen?_drewN] at hc2 hf2
      have hz2_0 : w.heap.size < w2.heap.size := by omega
      go_wp2_with fail
      refine (implFree t.sz t _ _ (Nat.le_refl _) (vt_mk (hp.below KP.mono bl) (hk.below KT.mono bl)) hz.1 (by omega)).mono ?_
      rintro e w3 ⟨r3, rfl, ho3, hb3⟩
      obtain ⟨hc3, hf3⟩ := bcell hb3
      have hB3 : Below w.heap.size w w3 := bStep bl hb3
      have hp3 := Stp.mk hb3
      have hs3 := hb3.size
      try simp only [World.size_alloc, World.size_setCell, World.size_drew, World.heap_drewN] at hs3
      try simp only [World.size_drew, World.heap_drewN, World.cell?_drew, World.frozen?_drew, World.cell?_drewN, World.frozen?_drewN] at hc3 hf3
      have hz3_0 : w.heap.size < w3.heap.size := by omega
      go_wp2_with fail
      refine (containsInts _ _ (freeL t) a (ho3.sl (by have := HLE.out; omega))).mono ?_
      rintro e w4 ⟨rfl, hb4⟩
      obtain ⟨hc4, hf4⟩ := bcell hb4
      have hB4 : Below w.heap.size w w4 := bStep bl hb4
      have hp4 := Stp.mk hb4
      have hs4 := hb4.size
      try simp only [World.size_alloc, World.size_setCell, World.size_drew, World.heap_drewN] at hs4
      try simp only [World.size_drew, World.heap_drewN, World.cell?_drew, World.frozen?_drew, World.cell?_drewN, World.frozen?_drewN] at hc4 hf4
      have hz4_0 : w.heap.size < w4.heap.size := by omega
      go_wp2
      go_ret
      exact ⟨ret_bool (by simp [freshFor, hA, hG]), bl⟩
end Go.Proofs.Ytbpbgmildhejoaa.Cx
