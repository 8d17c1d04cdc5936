/- Contracts: the holes, all atoms and the free atoms of a term, the model's way. -/
import Derived.Test.YtbpbgmildhejoaaHoles2
import Derived.Test.YtbpbgmildhejoaaBoth
namespace Go.Proofs.Ytbpbgmildhejoaa.Base
theorem holesLs_snoc (ts : List Tm) (k : Nat) (h : k < ts.length) : holesLs (ts.take (k + 1)) = holesLs (ts.take k) ++ holesL ts[k] := by
  induction ts generalizing k with
  | nil => simp at h
  | cons t ts ih =>
    cases k with
    | zero => simp [holesLs]
    | succ k => have := ih k (by simpa using h); simp [holesLs, this, List.append_assoc]
theorem atomsLs_snoc (ts : List Tm) (k : Nat) (h : k < ts.length) : atomsLs (ts.take (k + 1)) = atomsLs (ts.take k) ++ atomsL ts[k] := by
  induction ts generalizing k with
  | nil => simp at h
  | cons t ts ih =>
    cases k with
    | zero => simp [atomsLs]
    | succ k => have := ih k (by simpa using h); simp [atomsLs, this, List.append_assoc]
theorem freeLs_snoc (ts : List Tm) (k : Nat) (h : k < ts.length) : freeLs (ts.take (k + 1)) = freeLs (ts.take k) ++ freeL ts[k] := by
  induction ts generalizing k with
  | nil => simp at h
  | cons t ts ih =>
    cases k with
    | zero => simp [freeLs]
    | succ k => have := ih k (by simpa using h); simp [freeLs, this, List.append_assoc]
mutual
theorem holesL_le : ∀ (t : Tm), (holesL t).length ≤ t.sz
  | .mk o n p k => by
    have h1 := holesLs_le k
    have h2 := ascL_len (holesLs k)
    rw [holesL_eq]
    simp only [Tm.sz, Tm.kids]
    split
    · simp
    · omega
theorem holesLs_le : ∀ (ts : List Tm), (holesLs ts).length ≤ szL ts
  | [] => by simp [holesLs]
  | t :: ts => by have := holesL_le t; have := holesLs_le ts; simp only [holesLs, List.length_append, szL]; omega
end
mutual
theorem freeL_le : ∀ (t : Tm), (freeL t).length ≤ t.sz
  | .mk o n p k => by
    have h1 := freeLs_le k
    rw [freeL_eq]
    have h2 := ascL_len ((if (Tm.mk o n p k).op == 1 then [(Tm.mk o n p k).n] else []) ++ (freeLs k).filter fun a => !((Tm.mk o n p k).op == 3 && a == (Tm.mk o n p k).n))
    have h3 := List.length_filter_le (fun a => !((Tm.mk o n p k).op == 3 && a == (Tm.mk o n p k).n)) (freeLs k)
    simp only [Tm.sz]
    rw [List.length_append] at h2
    have h4 : (if (Tm.mk o n p k).op == 1 then [(Tm.mk o n p k).n] else []).length ≤ 1 := by split <;> simp
    exact Nat.le_trans h2 (by omega)
theorem freeLs_le : ∀ (ts : List Tm), (freeLs ts).length ≤ szL ts
  | [] => by simp [freeLs]
  | t :: ts => by have := freeL_le t; have := freeLs_le ts; simp only [freeLs, List.length_append, szL]; omega
end
mutual
theorem atomsL_le : ∀ (t : Tm), (atomsL t).length ≤ t.bulk + t.sz
  | .mk o n p k => by
    have h1 := atomsLs_le k
    rw [atomsL_eq]
    have h2 := ascL_len (srcL (Tm.mk o n p k).perm ++ (if (Tm.mk o n p k).op == 1 || (Tm.mk o n p k).op == 3 then [(Tm.mk o n p k).n] else []) ++ atomsLs k)
    rw [List.length_append, List.length_append, src_len] at h2
    have h4 : (if (Tm.mk o n p k).op == 1 || (Tm.mk o n p k).op == 3 then [(Tm.mk o n p k).n] else []).length ≤ 1 := by split <;> simp
    simp only [Tm.sz, Tm.bulk]
    have h5 : (Tm.mk o n p k).perm.length = p.length := rfl
    exact Nat.le_trans h2 (by omega)
theorem atomsLs_le : ∀ (ts : List Tm), (atomsLs ts).length ≤ bulkL ts + szL ts
  | [] => by simp [atomsLs]
  | t :: ts => by have := atomsL_le t; have := atomsLs_le ts; simp only [atomsLs, List.length_append, szL, bulkL]; omega
end
theorem holesO_one {t : Tm} (h : t.op = 4) (ht : termT t = true) : holesO t = [t.n] := by unfold holesO; rw [if_pos ht, holesL_eq]; simp [h]
theorem holesO_many {t : Tm} (h : t.op ≠ 4) (ht : termT t = true) : holesO t = insAll [] (holesLs t.kids) := by
  unfold holesO; rw [if_pos ht, holesL_eq]; simp [h, ascL]
theorem term_kid {t : Tm} (h : termT t = true) {j : Nat} (hj : j < t.kids.length) : termT t.kids[j] = true := by
  simp only [termT, Bool.and_eq_true, decide_eq_true_eq] at h ⊢
  rw [good_eq, Bool.and_eq_true] at h
  exact ⟨goodL_mem _ h.1.2 _ (List.getElem_mem hj), by have := t.kid_sz j hj; omega⟩
theorem bulkL_take_le : ∀ (ts : List Tm) (k : Nat), bulkL (ts.take k) ≤ bulkL ts
  | [], k => by simp [bulkL]
  | t :: ts, 0 => by simp [bulkL]
  | t :: ts, k + 1 => by have := bulkL_take_le ts k; simp only [List.take_succ_cons, bulkL]; omega
theorem ownI_at {E : TypeId} {w : World} {B n c : Nat} {A : Option Addr} {xs : List Int} (h : OwI E w B (.slice A n c) xs) {j : Nat} (hj : j < xs.length) : ∃ ad, A = some ad ∧ w.cell? (ad.add j) = some (.int .i64 xs[j]) := by
  obtain ⟨A', c', e, _, _, h3⟩ := owns_shape h
  simp at e
  obtain ⟨rfl, _, _⟩ := e
  exact h3 j _ (by simp [cI, hj])
theorem holesO_term {t : Tm} (ht : termT t = true) : holesO t = holesL t := by simp [holesO, ht]
end Go.Proofs.Ytbpbgmildhejoaa.Base
namespace Go.Proofs.Ytbpbgmildhejoaa.Cx
open Go.RowKit Base
set_option linter.unusedVariables false
set_option linter.unusedSimpArgs false
set_option maxRecDepth 100000
set_option maxHeartbeats 6400000
attribute [local go_sem] cell_alloc_some in
theorem l2Atoms (N : Nat) : ∀ (t : Tm) (v : Value) (w : World), t.sz ≤ N → VT w v t → good t = true → t.bulk ≤ 1048576 → Calls Try.prog 75 #[v] w fun e w' => ∃ r, e = .returned r ∧ OwI 3 w' w.heap.size r (atomsL t) ∧ Below w.heap.size w w' := by
  induction N with
  | zero => intro t v w h; have := t.sz_pos; omega
  | succ N ih =>
    intro t v w hN ht hg hbk
    obtain ⟨vp, vk, rfl, hp, hk⟩ := ht
    obtain ⟨A1, c1, rfl⟩ := hp.slice
    obtain ⟨A2, c2, hv, hc, hl, hr⟩ := hk
    subst hv
    have hk : SlT w (.slice A2 t.kids.length c2) t.kids := ⟨A2, c2, rfl, hc, hl, hr⟩
    have hkids : ∀ j (h : j < t.kids.length), t.kids[j].sz ≤ N := fun j h => by have := t.kid_sz j h; omega
    have HKS := Lib.hid hkids
    clear hkids
    have IH := Lib.hid ih
    clear ih
    have hzb := sz_bulk t
    have HSM := Lib.hid (show szL t.kids ≤ 1048576 ∧ bulkL t.kids ≤ 1048576 ∧ t.perm.length ≤ 1048576 by have h1 : t.sz = szL t.kids + 1 := (by cases t; rfl); have h2 : t.bulk = t.perm.length + bulkL t.kids := (by cases t; rfl); omega)
    have hsc := hg
    rw [good_eq, Bool.and_eq_true] at hsc
    have HSC := Lib.hid (shape_cases hsc.1)
    have HGK := Lib.hid hsc.2
    have HAE := Lib.hid (atomsL_eq t)
    have hkb : ∀ j (h : j < t.kids.length), t.kids[j].bulk ≤ 1048576 := fun j h => by have := t.kid_bulk j h; omega
    have HKB := Lib.hid hkb
    have HPL : Hid (t.perm.length ≤ 274877906944) := by have := HSM.out; unfold Hid; omega
    clear hzb hsc hg hbk hkb
    generalize hO : insAll [] (srcL t.perm ++ (if t.op == 1 || t.op == 3 then [t.n] else [])) = O0 at *
    have HO := Lib.hid hO
    clear hO
    have HO0 : Hid (O0.length ≤ 1048577) := by
      unfold Hid; rw [← HO.out]
      have h1 := insAll_len (srcL t.perm ++ (if t.op == 1 || t.op == 3 then [t.n] else [])) []
      rw [List.length_append, src_len] at h1
      have h2 : (if t.op == 1 || t.op == 3 then [t.n] else []).length ≤ 1 := by split <;> simp
      have := HSM.out
      simp only [List.length_nil] at h1
      omega
    by_cases o13 : t.op = 1 ∨ t.op = 3
    · have hperm : t.perm = [] := by rcases HSC.out with h | h | h | h <;> first | exact h.2.2.1 | (exfalso; omega)
      have hO1 : O0 = [t.n] := by rw [← HO.out, hperm]; rcases o13 with h | h <;> simp [h, srcL, insAll, insI]
      have HO1 := Lib.hid hO1
      have hpe : ascL (srcL t.perm ++ srcL []) = [] := by rw [hperm]; rfl
      have HPE := Lib.hid hpe
      clear hperm hO1 hpe
      rcases o13 with o1 | o1
      all_goals
        go_enter Try.func75, Try.ntmps75
        go_wp2_with fail
        refine (l1Atoms _ _ (.slice none 0 0) t.perm [] (hp.below KP.mono bl) Sl.nil HPL.out (by simp)).mono ?_
        rintro e w1 ⟨r1, rfl, ho1, hb1⟩
        obtain ⟨hc1, hf1⟩ := bcell hb1
        have hB1 : Below w.heap.size w w1 := bStep bl hb1
        have hp1 := Stp.mk hb1
        have hs1 := hb1.size
        try simp only [World.size_alloc, World.size_setCell, World.size_drew, World.heap_drewN] at hs1
        try simp only [World.size_drew, World.heap_drewN, World.cell?_drew, World.frozen?_drew, World.cell?_drewN, World.frozen?_drewN] at hc1 hf1
        have hz1_0 : w.heap.size < w1.heap.size := by omega
        rw [HPE.out] at ho1
        go_wp2_with (at_builtin; refine Hid.out ?_)
        refine Lib.hid ?_
        have hs4 : w.heap.size + 1 ≤ (w1.alloc (.cells #[.int .i64 t.n] 3)).heap.size := by simp; omega
        have ho4 : OwI 3 (w1.alloc (.cells #[.int .i64 t.n] 3)) (w.heap.size + 1) r1 [] := owns_lower (OwI.keep ho1 bl) (by simp)
        refine wpList_app ty_ints (w.heap.size + 1) r1 _ _ ho4 w1.heap.size 1 [.int .i64 t.n] (heap_alloc_new w1 _) rfl (by simp [Value.oneCell']) (by simp) (by simp) hs4 (.tmp 19) (.tmp 22) rfl rfl rfl rfl ?_
        intro v5 w5 ho5 hg5 hat
        have hO5 : Hid (OwI 3 w5 w.heap.size v5 O0) := by unfold Hid; rw [HO1.out]; exact owns_lower (by simpa [cI, OwI] using ho5) (Nat.le_succ _)
        have hK5 : ∀ g, g < w.heap.size + 1 → w5.heap[g]? = w1.heap[g]? := fun g hg => (hg5.block g (by simp; omega) (fun e => by have := (owns_blk_lt ho4 g (by simp [blk, ← e])).1; omega)).trans (Below.heap_alloc _ _ _ (by omega))
        have k0 : w5.cell? ⟨w.heap.size, 3, none⟩ = some (.slice A2 t.kids.length c2) := (World.cell?_of_block (w := w1) (hK5 w.heap.size (by omega))).trans (by simp [go_sem, hc1, hz1_0])
        have hB5 : Below w.heap.size w w5 := bOwn (bl) (owns_lower ho4 (Nat.le_succ _)) hg5 (by omega)
        have HK5 := Lib.hid hK5
        clear hK5
        clear ho5 hg5 hat ho4 hs4 ho1
        go_wp2
        go_loopg [3, 5, 7, 27, 34] (t.kids.length + 1) (fun n v3 v5 v7 v27 v34 wr => ∃ k : Nat, n + k = t.kids.length + 1 ∧ k ≤ t.kids.length ∧ v27 = .int .i64 k ∧ Hid (OwI 3 wr w.heap.size v3 (insAll O0 ((atomsLs (t.kids.take k))))) ∧ Hid (Below w.heap.size w wr))
        case atStart => exact ⟨0, by omega, by omega, rfl, by simpa [Hid, insAll, atomsLs] using OwI.keep hO5.out bl, bl⟩
        case round =>
          obtain ⟨k, hn, hk', rfl, hown, hB⟩ := hrel
          obtain ⟨gi, hgi⟩ : ∃ g, g = gk := ⟨gk, rfl⟩
          have hBw := hB.out
          clear hB
          by_cases hlt : k < t.kids.length
          · obtain ⟨ad, p1, k1, rfl, hp1, hq1, c0, c1, c2, c3⟩ := (hr.below KT.mono hBw).atT hlt
            have g0 : (0 : Int) ≤ (k : Int) := by omega
            have g1 : (k : Int) < (t.kids.length : Int) := by omega
            obtain ⟨P1, n1, rfl⟩ := hp1.slice
            obtain ⟨Q1, m1, rfl⟩ := hq1.slice
            have sn := atomsLs_snoc t.kids k hlt
            have SN := Lib.hid sn
            have le1 := atomsLs_le (t.kids.take k)
            have le2 := atomsL_le t.kids[k]
            have le3 : szL (t.kids.take k) + t.kids[k].sz ≤ szL t.kids := by rw [← szL_take t.kids k hlt]; exact szL_take_le _ _
            have le4 : bulkL (t.kids.take k) + t.kids[k].bulk ≤ bulkL t.kids := by have := bulkL_take t.kids k hlt; have := bulkL_take_le t.kids (k + 1); omega
            have LE1 := Lib.hid le1
            have LE2 := Lib.hid le2
            have LE3 := Lib.hid le3
            have LE4 := Lib.hid le4
            clear sn le1 le2 le3 le4
            go_wp2_with fail
            refine (IH.out t.kids[k] _ _ (HKS.out k hlt) ⟨_, _, rfl, hp1.below KP.mono bl, hq1.below KT.mono bl⟩ (goodL_mem _ HGK.out _ (List.getElem_mem hlt)) (HKB.out k hlt)).mono ?_
            rintro e w7 ⟨r7, rfl, ho7, hb7⟩
            obtain ⟨hc7, hf7⟩ := bcell hb7
            have hB7 : Below w.heap.size w w7 := bStep bl hb7
            have hp7 := Stp.mk hb7
            have hs7 := hb7.size
            try simp only [World.size_alloc, World.size_setCell, World.size_drew, World.heap_drewN] at hs7
            try simp only [World.size_drew, World.heap_drewN, World.cell?_drew, World.frozen?_drew, World.cell?_drewN, World.frozen?_drewN] at hc7 hf7
            generalize hY : atomsL t.kids[k] = Y at ho7
            have HY := Lib.hid hY
            clear hY
            obtain ⟨A7, c7, rfl⟩ := owns_slice ho7
            have HO7 := Lib.hid ho7
            have hlY : Y.length ≤ 4194304 := by have := LE2.out; rw [HY.out] at this; have := HSM.out; have := LE3.out; have := LE4.out; omega
            clear ho7
            go_wp2
            go_loopg [3, 7, 34] (Y.length + 1) (fun n v3 v7 v34 wq => ∃ j : Nat, n + j = Y.length + 1 ∧ j ≤ Y.length ∧ v34 = .int .i64 j ∧ Hid (OwI 3 wq w.heap.size v3 (insAll (insAll O0 ((atomsLs (t.kids.take k)))) ((Y.take j)))) ∧ Hid (Below w7.heap.size w7 wq))
            case atStart => exact ⟨0, by omega, by omega, rfl, by simpa [Hid, insAll] using OwI.keep hown.out bl, Below.refl _ _⟩
            case round =>
              obtain ⟨j, hn2, hj, rfl, hown2, hB2⟩ := hrel
              have hpq := Stp.mk hB2.out
              clear hB2
              by_cases hlt2 : j < Y.length
              · obtain ⟨ad7, ea, c0⟩ := ownI_at (OwI.keep HO7.out hpq) hlt2
                subst ea
                have g0 : (0 : Int) ≤ (j : Int) := by omega
                have g1 : (j : Int) < (Y.length : Int) := by omega
                go_wp2_with fail
                refine (l1Insert 3 w.heap.size rfl _ _ _ Y[j] (OwI.keep hown2.out bl) (show Below w.heap.size w _ from bl).size (by have h1 := insAll_len ((Y.take j)) (insAll O0 ((atomsLs (t.kids.take k)))); have h2 := insAll_len ((atomsLs (t.kids.take k))) O0; have := LE1.out; have := LE3.out; have := LE4.out; have := HSM.out; have := HO0.out;  simp only [List.length_take] at h1 h2; omega)).mono ?_
                rintro e w8 ⟨r8, rfl, ho8, hb8⟩
                obtain ⟨hc8, hf8⟩ := bcell hb8
                have hB8 : Below w.heap.size w w8 := bStep bl hb8
                have hp8 := Stp.mk hb8
                have hs8 := hb8.size
                try simp only [World.size_alloc, World.size_setCell, World.size_drew, World.heap_drewN] at hs8
                try simp only [World.size_drew, World.heap_drewN, World.cell?_drew, World.frozen?_drew, World.cell?_drewN, World.frozen?_drewN] at hc8 hf8
                go_wp2
                go_roundg (gk - 1)
                case measure => omega
                case rel => exact ⟨j + 1, by omega, by omega, by go_num, by unfold Hid; rw [take_snoc Y j hlt2, insAll_snoc]; exact ho8, bl⟩
              · obtain rfl : j = Y.length := by omega
                rw [List.take_length] at hown2
                go_wp2
                go_roundg (gi - 1)
                case measure => omega
                case rel => exact ⟨k + 1, by omega, by omega, by go_num, by unfold Hid; rw [SN.out, HY.out, ← insAll_append]; exact hown2.out, bl⟩
          · obtain rfl : k = t.kids.length := by omega
            rw [List.take_length] at hown
            go_wp2
            go_ret
            exact ⟨_, rfl, own_castI hown.out (by rw [HAE.out, ← HO.out, insAll_append]; rfl), bl⟩
    · have o1 : ¬ t.op = 1 := fun h => o13 (.inl h)
      have o3 : ¬ t.op = 3 := fun h => o13 (.inr h)
      have hO1 : O0 = ascL (srcL t.perm ++ srcL []) := by
        rw [← HO.out]
        have e1 : (t.op == 1) = false := by simpa using o1
        have e3 : (t.op == 3) = false := by simpa using o3
        rw [e1, e3]; rfl
      have HO1 := Lib.hid hO1
      have b1 : (t.op == 1) = false := by simpa using o1
      have b3 : (t.op == 3) = false := by simpa using o3
      clear o13 hO1
      go_enter Try.func75, Try.ntmps75
      go_wp2_with fail
      refine (l1Atoms _ _ (.slice none 0 0) t.perm [] (hp.below KP.mono bl) Sl.nil HPL.out (by simp)).mono ?_
      rintro e w1 ⟨r1, rfl, ho1, hb1⟩
      obtain ⟨hc1, hf1⟩ := bcell hb1
      have hB1 : Below w.heap.size w w1 := bStep bl hb1
      have hp1 := Stp.mk hb1
      have hs1 := hb1.size
      try simp only [World.size_alloc, World.size_setCell, World.size_drew, World.heap_drewN] at hs1
      try simp only [World.size_drew, World.heap_drewN, World.cell?_drew, World.frozen?_drew, World.cell?_drewN, World.frozen?_drewN] at hc1 hf1
      have hz1_0 : w.heap.size < w1.heap.size := by omega
      rw [← HO1.out] at ho1
      have hO5 : Hid (OwI 3 w1 w.heap.size r1 O0) := owns_lower ho1 (show Below w.heap.size w _ from bl).size
      clear ho1
      go_wp2
      go_loopg [3, 5, 7, 27, 34] (t.kids.length + 1) (fun n v3 v5 v7 v27 v34 wr => ∃ k : Nat, n + k = t.kids.length + 1 ∧ k ≤ t.kids.length ∧ v27 = .int .i64 k ∧ Hid (OwI 3 wr w.heap.size v3 (insAll O0 ((atomsLs (t.kids.take k))))) ∧ Hid (Below w.heap.size w wr))
      case atStart => exact ⟨0, by omega, by omega, rfl, by simpa [Hid, insAll, atomsLs] using OwI.keep hO5.out bl, bl⟩
      case round =>
        obtain ⟨k, hn, hk', rfl, hown, hB⟩ := hrel
        obtain ⟨gi, hgi⟩ : ∃ g, g = gk := ⟨gk, rfl⟩
        have hBw := hB.out
        clear hB
        by_cases hlt : k < t.kids.length
        · obtain ⟨ad, p1, k1, rfl, hp1, hq1, c0, c1, c2, c3⟩ := (hr.below KT.mono hBw).atT hlt
          have g0 : (0 : Int) ≤ (k : Int) := by omega
          have g1 : (k : Int) < (t.kids.length : Int) := by omega
          obtain ⟨P1, n1, rfl⟩ := hp1.slice
          obtain ⟨Q1, m1, rfl⟩ := hq1.slice
          have sn := atomsLs_snoc t.kids k hlt
          have SN := Lib.hid sn
          have le1 := atomsLs_le (t.kids.take k)
          have le2 := atomsL_le t.kids[k]
          have le3 : szL (t.kids.take k) + t.kids[k].sz ≤ szL t.kids := by rw [← szL_take t.kids k hlt]; exact szL_take_le _ _
          have le4 : bulkL (t.kids.take k) + t.kids[k].bulk ≤ bulkL t.kids := by have := bulkL_take t.kids k hlt; have := bulkL_take_le t.kids (k + 1); omega
          have LE1 := Lib.hid le1
          have LE2 := Lib.hid le2
          have LE3 := Lib.hid le3
          have LE4 := Lib.hid le4
          clear sn le1 le2 le3 le4
          go_wp2_with fail
          refine (IH.out t.kids[k] _ _ (HKS.out k hlt) ⟨_, _, rfl, hp1.below KP.mono bl, hq1.below KT.mono bl⟩ (goodL_mem _ HGK.out _ (List.getElem_mem hlt)) (HKB.out k hlt)).mono ?_
          rintro e w7 ⟨r7, rfl, ho7, hb7⟩
          obtain ⟨hc7, hf7⟩ := bcell hb7
          have hB7 : Below w.heap.size w w7 := bStep bl hb7
          have hp7 := Stp.mk hb7
          have hs7 := hb7.size
          try simp only [World.size_alloc, World.size_setCell, World.size_drew, World.heap_drewN] at hs7
          try simp only [World.size_drew, World.heap_drewN, World.cell?_drew, World.frozen?_drew, World.cell?_drewN, World.frozen?_drewN] at hc7 hf7
          generalize hY : atomsL t.kids[k] = Y at ho7
          have HY := Lib.hid hY
          clear hY
          obtain ⟨A7, c7, rfl⟩ := owns_slice ho7
          have HO7 := Lib.hid ho7
          have hlY : Y.length ≤ 4194304 := by have := LE2.out; rw [HY.out] at this; have := HSM.out; have := LE3.out; have := LE4.out; omega
          clear ho7
          go_wp2
          go_loopg [3, 7, 34] (Y.length + 1) (fun n v3 v7 v34 wq => ∃ j : Nat, n + j = Y.length + 1 ∧ j ≤ Y.length ∧ v34 = .int .i64 j ∧ Hid (OwI 3 wq w.heap.size v3 (insAll (insAll O0 ((atomsLs (t.kids.take k)))) ((Y.take j)))) ∧ Hid (Below w7.heap.size w7 wq))
          case atStart => exact ⟨0, by omega, by omega, rfl, by simpa [Hid, insAll] using OwI.keep hown.out bl, Below.refl _ _⟩
          case round =>
            obtain ⟨j, hn2, hj, rfl, hown2, hB2⟩ := hrel
            have hpq := Stp.mk hB2.out
            clear hB2
            by_cases hlt2 : j < Y.length
            · obtain ⟨ad7, ea, c0⟩ := ownI_at (OwI.keep HO7.out hpq) hlt2
              subst ea
              have g0 : (0 : Int) ≤ (j : Int) := by omega
              have g1 : (j : Int) < (Y.length : Int) := by omega
              go_wp2_with fail
              refine (l1Insert 3 w.heap.size rfl _ _ _ Y[j] (OwI.keep hown2.out bl) (show Below w.heap.size w _ from bl).size (by have h1 := insAll_len ((Y.take j)) (insAll O0 ((atomsLs (t.kids.take k)))); have h2 := insAll_len ((atomsLs (t.kids.take k))) O0; have := LE1.out; have := LE3.out; have := LE4.out; have := HSM.out; have := HO0.out;  simp only [List.length_take] at h1 h2; omega)).mono ?_
              rintro e w8 ⟨r8, rfl, ho8, hb8⟩
              obtain ⟨hc8, hf8⟩ := bcell hb8
              have hB8 : Below w.heap.size w w8 := bStep bl hb8
              have hp8 := Stp.mk hb8
              have hs8 := hb8.size
              try simp only [World.size_alloc, World.size_setCell, World.size_drew, World.heap_drewN] at hs8
              try simp only [World.size_drew, World.heap_drewN, World.cell?_drew, World.frozen?_drew, World.cell?_drewN, World.frozen?_drewN] at hc8 hf8
              go_wp2
              go_roundg (gk - 1)
              case measure => omega
              case rel => exact ⟨j + 1, by omega, by omega, by go_num, by unfold Hid; rw [take_snoc Y j hlt2, insAll_snoc]; exact ho8, bl⟩
            · obtain rfl : j = Y.length := by omega
              rw [List.take_length] at hown2
              go_wp2
              go_roundg (gi - 1)
              case measure => omega
              case rel => exact ⟨k + 1, by omega, by omega, by go_num, by unfold Hid; rw [SN.out, HY.out, ← insAll_append]; exact hown2.out, bl⟩
        · obtain rfl : k = t.kids.length := by omega
          rw [List.take_length] at hown
          go_wp2
          go_ret
          exact ⟨_, rfl, own_castI hown.out (by rw [HAE.out, ← HO.out, insAll_append]; rfl), bl⟩
end Go.Proofs.Ytbpbgmildhejoaa.Cx
