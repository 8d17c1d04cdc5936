/- Contracts: the holes and the free atoms of a term, the model's way. -/
import Derived.Test.YtbpbgmildhejoaaFree
namespace Go.Proofs.Ytbpbgmildhejoaa.Base
theorem filterTake_snoc {α : Type} (f : α → Bool) (l : List α) (k : Nat) (h : k < l.length) : (l.take (k + 1)).filter f = (l.take k).filter f ++ (if f l[k] then [l[k]] else []) := by
  rw [List.take_succ_eq_append_getElem h, List.filter_append]
  simp only [List.filter_cons, List.filter_nil]
def freeF (t : Tm) (a : Int) : Bool := !(t.op == 3 && a == t.n)
theorem freeL_eq' (t : Tm) : freeL t = ascL ((if t.op == 1 then [t.n] else []) ++ (freeLs t.kids).filter (freeF t)) := freeL_eq t
end Go.Proofs.Ytbpbgmildhejoaa.Base
namespace Go.Proofs.Ytbpbgmildhejoaa.Cx
open Go.RowKit Base
set_option linter.unusedVariables false
set_option linter.unusedSimpArgs false
set_option maxRecDepth 100000
set_option maxHeartbeats 6400000
attribute [local go_sem] cell_alloc_some in
theorem specHoles (N : Nat) : ∀ (t : Tm) (v : Value) (w : World), t.sz ≤ N → VT w v t → t.bulk ≤ 1048576 → Calls Try.prog 27 #[v] w fun e w' => ∃ r, e = .returned r ∧ OwI 3 w' w.heap.size r (holesO t) ∧ Below w.heap.size w w' := by
  induction N with
  | zero => intro t v w h; have := t.sz_pos; omega
  | succ N ih =>
    intro t v w hN ht hbk
    obtain ⟨vp, vk, rfl, hp, hk⟩ := ht
    obtain ⟨A1, c1, rfl⟩ := hp.slice
    obtain ⟨A2, c2, hv, hc, hl, hr⟩ := hk
    subst hv
    have hk : SlT w (.slice A2 t.kids.length c2) t.kids := ⟨A2, c2, rfl, hc, hl, hr⟩
    have hkids : ∀ j (h : j < t.kids.length), t.kids[j].sz ≤ N := fun j h => by have := t.kid_sz j h; omega
    have HKS := Lib.hid hkids
    clear hkids
    have IH := Lib.hid ih
    clear ih
    have hzb := sz_bulk t
    have HSM := Lib.hid (show szL t.kids ≤ 1048576 ∧ bulkL t.kids ≤ 1048576 by have h1 : t.sz = szL t.kids + 1 := (by cases t; rfl); have h2 : t.bulk = t.perm.length + bulkL t.kids := (by cases t; rfl); omega)
    have hkb : ∀ j (h : j < t.kids.length), t.kids[j].bulk ≤ 1048576 := fun j h => by have := t.kid_bulk j h; omega
    have HKB := Lib.hid hkb
    clear hkb hzb
    cases hT : termT t
    · have HO := Lib.hid (show holesO t = [] by simp [holesO, hT])
      go_enter Try.func27, Try.ntmps27
      go_wp2_with fail
      refine (specIsTerm t _ _ ⟨_, _, rfl, hp.below KP.mono bl, hk.below KT.mono bl⟩ hbk).mono ?_
      rintro e w1 ⟨rfl, hb1⟩
      obtain ⟨hc1, hf1⟩ := bcell hb1
      have hB1 : Below w.heap.size w w1 := bStep bl hb1
      have hp1 := Stp.mk hb1
      have hs1 := hb1.size
      try simp only [World.size_alloc, World.size_setCell, World.size_drew, World.heap_drewN] at hs1
      try simp only [World.size_drew, World.heap_drewN, World.cell?_drew, World.frozen?_drew, World.cell?_drewN, World.frozen?_drewN] at hc1 hf1
      have hz1_0 : w.heap.size < w1.heap.size := by omega
      have hz1_1 : w.heap.size + 1 < w1.heap.size := by omega
      go_wp2
      go_ret
      exact ⟨_, rfl, own_castI (OwI.keep (ownsI_empty ((w.alloc (.cells #[.int .i64 t.op, .int .i64 t.n, .slice A1 t.perm.length c1, .slice A2 t.kids.length c2] 31)).alloc (.cells #[] 3)) 3 _ w.heap.size (by omega) (by have := heap_alloc_new (w.alloc (.cells #[.int .i64 t.op, .int .i64 t.n, .slice A1 t.perm.length c1, .slice A2 t.kids.length c2] 31)) (.cells #[] 3); simpa using this)) bl) HO.out.symm, bl⟩
    · by_cases o4 : t.op = 4
      · have HO := Lib.hid (holesO_one o4 hT)
        have b4 : (t.op == 4) = true := by simpa using o4
        clear o4
        go_enter Try.func27, Try.ntmps27
        go_wp2_with fail
        refine (specIsTerm t _ _ ⟨_, _, rfl, hp.below KP.mono bl, hk.below KT.mono bl⟩ hbk).mono ?_
        rintro e w1 ⟨rfl, hb1⟩
        obtain ⟨hc1, hf1⟩ := bcell hb1
        have hB1 : Below w.heap.size w w1 := bStep bl hb1
        have hp1 := Stp.mk hb1
        have hs1 := hb1.size
        try simp only [World.size_alloc, World.size_setCell, World.size_drew, World.heap_drewN] at hs1
        try simp only [World.size_drew, World.heap_drewN, World.cell?_drew, World.frozen?_drew, World.cell?_drewN, World.frozen?_drewN] at hc1 hf1
        have hz1_0 : w.heap.size < w1.heap.size := by omega
        have hz1_1 : w.heap.size + 1 < w1.heap.size := by omega
        go_wp2
        go_ret
        exact ⟨_, rfl, own_castI (xs := [t.n]) (by have := World.ownsRow_lit (w := w1) (base := w.heap.size) (e := 3) (size := 1) #[.int .i64 t.n] 1 (show Below w.heap.size w _ from bl).size (by decide) rfl; simpa [OwI, cI] using this) HO.out.symm, bl⟩
      · have b4 : (t.op == 4) = false := by simpa using o4
        have HO := Lib.hid (holesO_many o4 hT)
        have HO0 : Hid (([] : List Int).length ≤ 1048577) := by unfold Hid; simp
        have KID : Hid (∀ (j : Nat) (h : j < t.kids.length) (v : Value) (w' : World), VT w' v t.kids[j] → Calls Try.prog 27 #[v] w' fun e w2 => ∃ r, e = .returned r ∧ OwI 3 w2 w'.heap.size r (holesL t.kids[j]) ∧ Below w'.heap.size w' w2) := fun j h v w' hv =>
          (IH.out t.kids[j] v w' (HKS.out j h) hv (HKB.out j h)).mono fun e w2 h5 => by
            obtain ⟨r, e1, e2, e3⟩ := h5
            exact ⟨r, e1, own_castI e2 (holesO_term (term_kid hT h)), e3⟩
        go_enter Try.func27, Try.ntmps27
        go_wp2_with fail
        refine (specIsTerm t _ _ ⟨_, _, rfl, hp.below KP.mono bl, hk.below KT.mono bl⟩ hbk).mono ?_
        rintro e w1 ⟨rfl, hb1⟩
        obtain ⟨hc1, hf1⟩ := bcell hb1
        have hB1 : Below w.heap.size w w1 := bStep bl hb1
        have hp1 := Stp.mk hb1
        have hs1 := hb1.size
        try simp only [World.size_alloc, World.size_setCell, World.size_drew, World.heap_drewN] at hs1
        try simp only [World.size_drew, World.heap_drewN, World.cell?_drew, World.frozen?_drew, World.cell?_drewN, World.frozen?_drewN] at hc1 hf1
        have hz1_0 : w.heap.size < w1.heap.size := by omega
        have hz1_1 : w.heap.size + 1 < w1.heap.size := by omega
        have hO5 : Hid (OwI 3 w1 w.heap.size (.slice (some ⟨w.heap.size + 1, 0, none⟩) 0 0) []) := OwI.keep (ownsI_empty ((w.alloc (.cells #[.int .i64 t.op, .int .i64 t.n, .slice A1 t.perm.length c1, .slice A2 t.kids.length c2] 31)).alloc (.cells #[] 3)) 3 _ w.heap.size (by omega) (by have := heap_alloc_new (w.alloc (.cells #[.int .i64 t.op, .int .i64 t.n, .slice A1 t.perm.length c1, .slice A2 t.kids.length c2] 31)) (.cells #[] 3); simpa using this)) bl
        go_wp2
        go_loopg [3, 5, 7, 22, 29] (t.kids.length + 1) (fun n v3 v5 v7 v22 v29 wr => ∃ k : Nat, n + k = t.kids.length + 1 ∧ k ≤ t.kids.length ∧ v22 = .int .i64 k ∧ Hid (OwI 3 wr w.heap.size v3 (insAll [] ((holesLs (t.kids.take k))))) ∧ Hid (Below w.heap.size w wr))
        case atStart => exact ⟨0, by omega, by omega, rfl, by simpa [Hid, insAll, holesLs] using OwI.keep hO5.out bl, bl⟩
        case round =>
          obtain ⟨k, hn, hk', rfl, hown, hB⟩ := hrel
          obtain ⟨gi, hgi⟩ : ∃ g, g = gk := ⟨gk, rfl⟩
          have hBw := hB.out
          clear hB
          by_cases hlt : k < t.kids.length
          · obtain ⟨ad, p1, k1, rfl, hp1, hq1, c0, c1, c2, c3⟩ := (hr.below KT.mono hBw).atT hlt
            have g0 : (0 : Int) ≤ (k : Int) := by omega
            have g1 : (k : Int) < (t.kids.length : Int) := by omega
            obtain ⟨P1, n1, rfl⟩ := hp1.slice
            obtain ⟨Q1, m1, rfl⟩ := hq1.slice
            have sn := holesLs_snoc t.kids k hlt
            have SN := Lib.hid sn
            have le1 := holesLs_le (t.kids.take k)
            have le2 := holesL_le t.kids[k]
            have le3 : szL (t.kids.take k) + t.kids[k].sz ≤ szL t.kids := by rw [← szL_take t.kids k hlt]; exact szL_take_le _ _
            have le4 : bulkL (t.kids.take k) + t.kids[k].bulk ≤ bulkL t.kids := by have := bulkL_take t.kids k hlt; have := bulkL_take_le t.kids (k + 1); omega
            have LE1 := Lib.hid le1
            have LE2 := Lib.hid le2
            have LE3 := Lib.hid le3
            have LE4 := Lib.hid le4
            clear sn le1 le2 le3 le4
            go_wp2_with fail
            refine (KID.out k hlt _ _ ⟨_, _, rfl, hp1.below KP.mono bl, hq1.below KT.mono bl⟩).mono ?_
            rintro e w7 ⟨r7, rfl, ho7, hb7⟩
            obtain ⟨hc7, hf7⟩ := bcell hb7
            have hB7 : Below w.heap.size w w7 := bStep bl hb7
            have hp7 := Stp.mk hb7
            have hs7 := hb7.size
            try simp only [World.size_alloc, World.size_setCell, World.size_drew, World.heap_drewN] at hs7
            try simp only [World.size_drew, World.heap_drewN, World.cell?_drew, World.frozen?_drew, World.cell?_drewN, World.frozen?_drewN] at hc7 hf7
            generalize hY : holesL t.kids[k] = Y at ho7
            have HY := Lib.hid hY
            clear hY
            obtain ⟨A7, c7, rfl⟩ := owns_slice ho7
            have HO7 := Lib.hid ho7
            have hlY : Y.length ≤ 4194304 := by have := LE2.out; rw [HY.out] at this; have := HSM.out; have := LE3.out; have := LE4.out; omega
            clear ho7
            go_wp2
            go_loopg [3, 7, 29] (Y.length + 1) (fun n v3 v7 v29 wq => ∃ j : Nat, n + j = Y.length + 1 ∧ j ≤ Y.length ∧ v29 = .int .i64 j ∧ Hid (OwI 3 wq w.heap.size v3 (insAll (insAll [] ((holesLs (t.kids.take k)))) ((Y.take j)))) ∧ Hid (Below w7.heap.size w7 wq))
            case atStart => exact ⟨0, by omega, by omega, rfl, by simpa [Hid, insAll] using OwI.keep hown.out bl, Below.refl _ _⟩
            case round =>
              obtain ⟨j, hn2, hj, rfl, hown2, hB2⟩ := hrel
              have hpq := Stp.mk hB2.out
              clear hB2
              by_cases hlt2 : j < Y.length
              · obtain ⟨ad7, ea, c0⟩ := ownI_at (OwI.keep HO7.out hpq) hlt2
                subst ea
                have g0 : (0 : Int) ≤ (j : Int) := by omega
                have g1 : (j : Int) < (Y.length : Int) := by omega
                go_wp2_with fail
                refine (l1Insert 3 w.heap.size rfl _ _ _ Y[j] (OwI.keep hown2.out bl) (show Below w.heap.size w _ from bl).size (by have h1 := insAll_len ((Y.take j)) (insAll [] ((holesLs (t.kids.take k)))); have h2 := insAll_len ((holesLs (t.kids.take k))) []; have := LE1.out; have := LE3.out; have := LE4.out; have := HSM.out; have := HO0.out;  (try simp only [List.length_take] at h1 h2); omega)).mono ?_
                rintro e w8 ⟨r8, rfl, ho8, hb8⟩
                obtain ⟨hc8, hf8⟩ := bcell hb8
                have hB8 : Below w.heap.size w w8 := bStep bl hb8
                have hp8 := Stp.mk hb8
                have hs8 := hb8.size
                try simp only [World.size_alloc, World.size_setCell, World.size_drew, World.heap_drewN] at hs8
                try simp only [World.size_drew, World.heap_drewN, World.cell?_drew, World.frozen?_drew, World.cell?_drewN, World.frozen?_drewN] at hc8 hf8
                go_wp2
                go_roundg (gk - 1)
                case measure => omega
                case rel => exact ⟨j + 1, by omega, by omega, by go_num, by unfold Hid; rw [take_snoc Y j hlt2, insAll_snoc]; exact ho8, bl⟩
              · obtain rfl : j = Y.length := by omega
                rw [List.take_length] at hown2
                go_wp2
                go_roundg (gi - 1)
                case measure => omega
                case rel => exact ⟨k + 1, by omega, by omega, by go_num, by unfold Hid; rw [SN.out, HY.out, ← insAll_append]; exact hown2.out, bl⟩
          · obtain rfl : k = t.kids.length := by omega
            rw [List.take_length] at hown
            go_wp2
            go_ret
            exact ⟨_, rfl, own_castI hown.out HO.out.symm, bl⟩
attribute [local go_sem] cell_alloc_some in
theorem l2Free (N : Nat) : ∀ (t : Tm) (v : Value) (w : World), t.sz ≤ N → VT w v t → t.bulk ≤ 1048576 → Calls Try.prog 71 #[v] w fun e w' => ∃ r, e = .returned r ∧ OwI 3 w' w.heap.size r (freeL t) ∧ Below w.heap.size w w' := by
  induction N with
  | zero => intro t v w h; have := t.sz_pos; omega
  | succ N ih =>
    intro t v w hN ht hbk
    obtain ⟨vp, vk, rfl, hp, hk⟩ := ht
    obtain ⟨A1, c1, rfl⟩ := hp.slice
    obtain ⟨A2, c2, hv, hc, hl, hr⟩ := hk
    subst hv
    have hk : SlT w (.slice A2 t.kids.length c2) t.kids := ⟨A2, c2, rfl, hc, hl, hr⟩
    have hkids : ∀ j (h : j < t.kids.length), t.kids[j].sz ≤ N := fun j h => by have := t.kid_sz j h; omega
    have HKS := Lib.hid hkids
    clear hkids
    have IH := Lib.hid ih
    clear ih
    have hzb := sz_bulk t
    have HSM := Lib.hid (show szL t.kids ≤ 1048576 ∧ bulkL t.kids ≤ 1048576 by have h1 : t.sz = szL t.kids + 1 := (by cases t; rfl); have h2 : t.bulk = t.perm.length + bulkL t.kids := (by cases t; rfl); omega)
    have hkb : ∀ j (h : j < t.kids.length), t.kids[j].bulk ≤ 1048576 := fun j h => by have := t.kid_bulk j h; omega
    have HKB := Lib.hid hkb
    clear hkb hzb hbk
    have HFE := Lib.hid (freeL_eq' t)
    generalize hO : (if t.op == 1 then [t.n] else []) = O0 at *
    have HO := Lib.hid hO
    clear hO
    have HO0 : Hid (O0.length ≤ 1048577) := by unfold Hid; rw [← HO.out]; split <;> simp
    have HOI : Hid (insAll [] O0 = O0) := by unfold Hid; rw [← HO.out]; split <;> simp [insAll, insI]
    have hem := ownsI_empty ((w.alloc (.cells #[.int .i64 t.op, .int .i64 t.n, .slice A1 t.perm.length c1, .slice A2 t.kids.length c2] 31)).alloc (.cells #[] 3)) 3 (w.heap.size + 1) (w.heap.size + 1) (by omega) (by have := heap_alloc_new (w.alloc (.cells #[.int .i64 t.op, .int .i64 t.n, .slice A1 t.perm.length c1, .slice A2 t.kids.length c2] 31)) (.cells #[] 3); simpa using this)
    have HEM := Lib.hid hem
    clear hem
    by_cases o1 : t.op = 1
    · have hO1 : O0 = [t.n] := by rw [← HO.out]; simp [o1]
      have HO1 := Lib.hid hO1
      have HOP := Lib.hid o1
      clear hO1
      go_enter Try.func71, Try.ntmps71
      go_wp2_with (at_builtin; refine Hid.out ?_)
      refine Lib.hid ?_
      have hem4 : OwI 3 (((w.alloc (.cells #[.int .i64 1, .int .i64 t.n, .slice A1 t.perm.length c1, .slice A2 t.kids.length c2] 31)).alloc (.cells #[] 3)).alloc (.cells #[.int .i64 t.n] 3)) (w.heap.size + 1) (.slice (some ⟨w.heap.size + 1, 0, none⟩) 0 0) [] := by
        have := HEM.out
        rw [HOP.out] at this
        exact OwI.keep this bl
      refine wpList_app ty_ints (w.heap.size + 1) _ _ _ hem4 (w.heap.size + 1 + 1) 1 [.int .i64 t.n] (by have := heap_alloc_new ((w.alloc (.cells #[.int .i64 1, .int .i64 t.n, .slice A1 t.perm.length c1, .slice A2 t.kids.length c2] 31)).alloc (.cells #[] 3)) (.cells #[.int .i64 t.n] 3); simpa using this) rfl (by simp [Value.oneCell']) (by simp) (by simp) (by simp) (.tmp 12) (.tmp 15) rfl rfl rfl rfl ?_
      intro v5 w5 ho5 hg5 hat
      have hO5 : Hid (OwI 3 w5 w.heap.size v5 O0) := by unfold Hid; rw [HO1.out]; exact owns_lower (by simpa [cI, OwI] using ho5) (Nat.le_succ _)
      have hK5 : w5.heap[w.heap.size]? = (((w.alloc (.cells #[.int .i64 1, .int .i64 t.n, .slice A1 t.perm.length c1, .slice A2 t.kids.length c2] 31)).alloc (.cells #[] 3)).alloc (.cells #[.int .i64 t.n] 3)).heap[w.heap.size]? := hg5.block _ (by simp; omega) (fun e => by have := (owns_blk_lt hem4 w.heap.size (by simp [blk, ← e])).1; omega)
      have k0 : w5.cell? ⟨w.heap.size, 0, none⟩ = some (.int .i64 t.op) := (World.cell?_of_block hK5).trans (by rw [HOP.out]; simp [go_sem])
      have k1 : w5.cell? ⟨w.heap.size, 1, none⟩ = some (.int .i64 t.n) := (World.cell?_of_block hK5).trans (by simp [go_sem])
      have k3 : w5.cell? ⟨w.heap.size, 3, none⟩ = some (.slice A2 t.kids.length c2) := (World.cell?_of_block hK5).trans (by simp [go_sem])
      have hB5 : Below w.heap.size w w5 := bOwn (bl) (owns_lower hem4 (Nat.le_succ _)) hg5 (by simp; omega)
      clear ho5 hg5 hat hem4 hK5
      go_wp2
      go_loopg [3, 5, 7, 20, 27] (t.kids.length + 1) (fun n v3 v5 v7 v20 v27 wr => ∃ k : Nat, n + k = t.kids.length + 1 ∧ k ≤ t.kids.length ∧ v20 = .int .i64 k ∧ Hid (OwI 3 wr w.heap.size v3 (insAll O0 ((freeLs (t.kids.take k)).filter (freeF t)))) ∧ wr.cell? ⟨w.heap.size, 0, none⟩ = some (.int .i64 t.op) ∧ wr.cell? ⟨w.heap.size, 1, none⟩ = some (.int .i64 t.n) ∧ Hid (Below w.heap.size w wr))
      case atStart => exact ⟨0, by omega, by omega, rfl, by simpa [Hid, insAll, freeLs] using hO5.out, k0, k1, bl⟩
      case round =>
        obtain ⟨k, hn, hk', rfl, hown, hop, hnn, hB⟩ := hrel
        obtain ⟨gi, hgi⟩ : ∃ g, g = gk := ⟨gk, rfl⟩
        have hBw := hB.out
        clear hB
        by_cases hlt : k < t.kids.length
        · obtain ⟨ad, p1, k1, rfl, hp1, hq1, c0, c1, c2, c3⟩ := (hr.below KT.mono hBw).atT hlt
          have g0 : (0 : Int) ≤ (k : Int) := by omega
          have g1 : (k : Int) < (t.kids.length : Int) := by omega
          obtain ⟨P1, n1, rfl⟩ := hp1.slice
          obtain ⟨Q1, m1, rfl⟩ := hq1.slice
          have sn := freeLs_snoc t.kids k hlt
          have SN := Lib.hid sn
          have le1 := freeLs_le (t.kids.take k)
          have le2 := freeL_le t.kids[k]
          have le3 : szL (t.kids.take k) + t.kids[k].sz ≤ szL t.kids := by rw [← szL_take t.kids k hlt]; exact szL_take_le _ _
          have le4 : bulkL (t.kids.take k) + t.kids[k].bulk ≤ bulkL t.kids := by have := bulkL_take t.kids k hlt; have := bulkL_take_le t.kids (k + 1); omega
          have LE1 := Lib.hid le1
          have LE2 := Lib.hid le2
          have LE3 := Lib.hid le3
          have LE4 := Lib.hid le4
          clear sn le1 le2 le3 le4
          go_wp2_with fail
          refine (IH.out t.kids[k] _ _ (HKS.out k hlt) ⟨_, _, rfl, hp1.below KP.mono bl, hq1.below KT.mono bl⟩ (HKB.out k hlt)).mono ?_
          rintro e w7 ⟨r7, rfl, ho7, hb7⟩
          obtain ⟨hc7, hf7⟩ := bcell hb7
          have hB7 : Below w.heap.size w w7 := bStep bl hb7
          have hp7 := Stp.mk hb7
          have hs7 := hb7.size
          try simp only [World.size_alloc, World.size_setCell, World.size_drew, World.heap_drewN] at hs7
          try simp only [World.size_drew, World.heap_drewN, World.cell?_drew, World.frozen?_drew, World.cell?_drewN, World.frozen?_drewN] at hc7 hf7
          generalize hY : freeL t.kids[k] = Y at ho7
          have HY := Lib.hid hY
          clear hY
          obtain ⟨A7, c7, rfl⟩ := owns_slice ho7
          have HO7 := Lib.hid ho7
          have hlY : Y.length ≤ 4194304 := by have := LE2.out; rw [HY.out] at this; have := HSM.out; have := LE3.out; have := LE4.out; omega
          clear ho7
          have op7 := bCell (w := wr) (w1 := w7) bl hop
          have n7 := bCell (w := wr) (w1 := w7) bl hnn
          go_wp2
          go_loopg [3, 7, 27] (Y.length + 1) (fun n v3 v7 v27 wq => ∃ j : Nat, n + j = Y.length + 1 ∧ j ≤ Y.length ∧ v27 = .int .i64 j ∧ Hid (OwI 3 wq w.heap.size v3 (insAll (insAll O0 ((freeLs (t.kids.take k)).filter (freeF t))) ((Y.take j).filter (freeF t)))) ∧ wq.cell? ⟨w.heap.size, 0, none⟩ = some (.int .i64 t.op) ∧ wq.cell? ⟨w.heap.size, 1, none⟩ = some (.int .i64 t.n) ∧ Hid (Below w7.heap.size w7 wq))
          case atStart => exact ⟨0, by omega, by omega, rfl, by simpa [Hid, insAll] using OwI.keep hown.out bl, op7, n7, Below.refl _ _⟩
          case round =>
            obtain ⟨j, hn2, hj, rfl, hown2, hop, hnn, hB2⟩ := hrel
            have hpq := Stp.mk hB2.out
            clear hB2
            by_cases hlt2 : j < Y.length
            · obtain ⟨ad7, ea, c0⟩ := ownI_at (OwI.keep HO7.out hpq) hlt2
              subst ea
              have g0 : (0 : Int) ≤ (j : Int) := by omega
              have g1 : (j : Int) < (Y.length : Int) := by omega
              have tf := filterTake_snoc (freeF t) Y j hlt2
              have TF := Lib.hid tf
              clear tf
              by_cases o3 : t.op = 3
              · omega
              · have hnf : (freeF t) Y[j] = true := by simp [freeF, o3]
                have HNF := Lib.hid hnf
                have b3 : (t.op != 3) = true := by rw [bne_iff_ne]; exact o3
                clear hnf
                go_wp2_with fail
                refine (l1Insert 3 w.heap.size rfl _ _ _ Y[j] (OwI.keep hown2.out bl) (show Below w.heap.size w _ from bl).size (by have h1 := insAll_len ((Y.take j).filter (freeF t)) (insAll O0 ((freeLs (t.kids.take k)).filter (freeF t))); have h2 := insAll_len ((freeLs (t.kids.take k)).filter (freeF t)) O0; have := LE1.out; have := LE3.out; have := LE4.out; have := HSM.out; have := HO0.out; have f0 : (Y.take j).length ≤ Y.length := (by rw [List.length_take]; omega); have f1 := List.length_filter_le (freeF t) (Y.take j); have f2 := List.length_filter_le (freeF t) (freeLs (t.kids.take k)); (try simp only [List.length_take] at h1 h2); omega)).mono ?_
                rintro e w8 ⟨r8, rfl, ho8, hb8⟩
                obtain ⟨hc8, hf8⟩ := bcell hb8
                have hB8 : Below w.heap.size w w8 := bStep bl hb8
                have hp8 := Stp.mk hb8
                have hs8 := hb8.size
                try simp only [World.size_alloc, World.size_setCell, World.size_drew, World.heap_drewN] at hs8
                try simp only [World.size_drew, World.heap_drewN, World.cell?_drew, World.frozen?_drew, World.cell?_drewN, World.frozen?_drewN] at hc8 hf8
                have op8 := bCell (w := wr) (w1 := w8) bl hop
                have n8 := bCell (w := wr) (w1 := w8) bl hnn
                go_wp2
                go_roundg (gk - 1)
                case measure => omega
                case rel => exact ⟨j + 1, by omega, by omega, by go_num, by unfold Hid; rw [TF.out, HNF.out]; simp only [if_true]; rw [insAll_snoc]; exact ho8, op8, n8, bl⟩
            · obtain rfl : j = Y.length := by omega
              rw [List.take_length] at hown2
              go_wp2
              go_roundg (gi - 1)
              case measure => omega
              case rel => exact ⟨k + 1, by omega, by omega, by go_num, by unfold Hid; rw [SN.out, HY.out, List.filter_append, ← insAll_append]; exact hown2.out, hop, hnn, bl⟩
        · obtain rfl : k = t.kids.length := by omega
          rw [List.take_length] at hown
          go_wp2
          go_ret
          exact ⟨_, rfl, own_castI hown.out (by rw [HFE.out]; unfold ascL; rw [← insAll_append, HOI.out]), bl⟩
    · have b1 : (t.op == 1) = false := by simpa using o1
      have hO1 : O0 = [] := by rw [← HO.out, b1]; rfl
      have HO1 := Lib.hid hO1
      clear hO1 o1
      go_enter Try.func71, Try.ntmps71
      go_wp2
      go_loopg [3, 5, 7, 20, 27] (t.kids.length + 1) (fun n v3 v5 v7 v20 v27 wr => ∃ k : Nat, n + k = t.kids.length + 1 ∧ k ≤ t.kids.length ∧ v20 = .int .i64 k ∧ Hid (OwI 3 wr w.heap.size v3 (insAll O0 ((freeLs (t.kids.take k)).filter (freeF t)))) ∧ wr.cell? ⟨w.heap.size, 0, none⟩ = some (.int .i64 t.op) ∧ wr.cell? ⟨w.heap.size, 1, none⟩ = some (.int .i64 t.n) ∧ Hid (Below w.heap.size w wr))
      case atStart => exact ⟨0, by omega, by omega, rfl, own_castI (owns_lower HEM.out (Nat.le_succ _)) (by simp [insAll, freeLs, HO1.out]), by simp [go_sem], by simp [go_sem], bl⟩
      case round =>
        obtain ⟨k, hn, hk', rfl, hown, hop, hnn, hB⟩ := hrel
        obtain ⟨gi, hgi⟩ : ∃ g, g = gk := ⟨gk, rfl⟩
        have hBw := hB.out
        clear hB
        by_cases hlt : k < t.kids.length
        · obtain ⟨ad, p1, k1, rfl, hp1, hq1, c0, c1, c2, c3⟩ := (hr.below KT.mono hBw).atT hlt
          have g0 : (0 : Int) ≤ (k : Int) := by omega
          have g1 : (k : Int) < (t.kids.length : Int) := by omega
          obtain ⟨P1, n1, rfl⟩ := hp1.slice
          obtain ⟨Q1, m1, rfl⟩ := hq1.slice
          have sn := freeLs_snoc t.kids k hlt
          have SN := Lib.hid sn
          have le1 := freeLs_le (t.kids.take k)
          have le2 := freeL_le t.kids[k]
          have le3 : szL (t.kids.take k) + t.kids[k].sz ≤ szL t.kids := by rw [← szL_take t.kids k hlt]; exact szL_take_le _ _
          have le4 : bulkL (t.kids.take k) + t.kids[k].bulk ≤ bulkL t.kids := by have := bulkL_take t.kids k hlt; have := bulkL_take_le t.kids (k + 1); omega
          have LE1 := Lib.hid le1
          have LE2 := Lib.hid le2
          have LE3 := Lib.hid le3
          have LE4 := Lib.hid le4
          clear sn le1 le2 le3 le4
          go_wp2_with fail
          refine (IH.out t.kids[k] _ _ (HKS.out k hlt) ⟨_, _, rfl, hp1.below KP.mono bl, hq1.below KT.mono bl⟩ (HKB.out k hlt)).mono ?_
          rintro e w7 ⟨r7, rfl, ho7, hb7⟩
          obtain ⟨hc7, hf7⟩ := bcell hb7
          have hB7 : Below w.heap.size w w7 := bStep bl hb7
          have hp7 := Stp.mk hb7
          have hs7 := hb7.size
          try simp only [World.size_alloc, World.size_setCell, World.size_drew, World.heap_drewN] at hs7
          try simp only [World.size_drew, World.heap_drewN, World.cell?_drew, World.frozen?_drew, World.cell?_drewN, World.frozen?_drewN] at hc7 hf7
          generalize hY : freeL t.kids[k] = Y at ho7
          have HY := Lib.hid hY
          clear hY
          obtain ⟨A7, c7, rfl⟩ := owns_slice ho7
          have HO7 := Lib.hid ho7
          have hlY : Y.length ≤ 4194304 := by have := LE2.out; rw [HY.out] at this; have := HSM.out; have := LE3.out; have := LE4.out; omega
          clear ho7
          have op7 := bCell (w := wr) (w1 := w7) bl hop
          have n7 := bCell (w := wr) (w1 := w7) bl hnn
          go_wp2
          go_loopg [3, 7, 27] (Y.length + 1) (fun n v3 v7 v27 wq => ∃ j : Nat, n + j = Y.length + 1 ∧ j ≤ Y.length ∧ v27 = .int .i64 j ∧ Hid (OwI 3 wq w.heap.size v3 (insAll (insAll O0 ((freeLs (t.kids.take k)).filter (freeF t))) ((Y.take j).filter (freeF t)))) ∧ wq.cell? ⟨w.heap.size, 0, none⟩ = some (.int .i64 t.op) ∧ wq.cell? ⟨w.heap.size, 1, none⟩ = some (.int .i64 t.n) ∧ Hid (Below w7.heap.size w7 wq))
          case atStart => exact ⟨0, by omega, by omega, rfl, by simpa [Hid, insAll] using OwI.keep hown.out bl, op7, n7, Below.refl _ _⟩
          case round =>
            obtain ⟨j, hn2, hj, rfl, hown2, hop, hnn, hB2⟩ := hrel
            have hpq := Stp.mk hB2.out
            clear hB2
            by_cases hlt2 : j < Y.length
            · obtain ⟨ad7, ea, c0⟩ := ownI_at (OwI.keep HO7.out hpq) hlt2
              subst ea
              have g0 : (0 : Int) ≤ (j : Int) := by omega
              have g1 : (j : Int) < (Y.length : Int) := by omega
              have tf := filterTake_snoc (freeF t) Y j hlt2
              have TF := Lib.hid tf
              clear tf
              by_cases o3 : t.op = 3
              · by_cases e3 : Y[j] = t.n
                · have hnf : (freeF t) Y[j] = false := by simp [freeF, o3, e3]
                  have HNF := Lib.hid hnf
                  have b3 : (Y[j] != t.n) = false := by rw [e3]; exact bne_rfl_ _
                  have HE := Lib.hid e3
                  have b0 : (t.op != 3) = false := by rw [o3]; rfl
                  clear hnf e3 o3
                  go_wp2
                  go_roundg (gk - 1)
                  case measure => omega
                  case rel => exact ⟨j + 1, by omega, by omega, by go_num, by unfold Hid; rw [TF.out, HNF.out]; simpa using OwI.keep hown2.out bl, by assumption, by assumption, bl⟩
                · have hnf : (freeF t) Y[j] = true := by simp [freeF, o3, e3]
                  have HNF := Lib.hid hnf
                  have b3 : (Y[j] != t.n) = true := by rw [bne_iff_ne]; exact e3
                  have HE := Lib.hid e3
                  have b0 : (t.op != 3) = false := by rw [o3]; rfl
                  clear hnf e3 o3
                  go_wp2_with fail
                  refine (l1Insert 3 w.heap.size rfl _ _ _ Y[j] (OwI.keep hown2.out bl) (show Below w.heap.size w _ from bl).size (by have h1 := insAll_len ((Y.take j).filter (freeF t)) (insAll O0 ((freeLs (t.kids.take k)).filter (freeF t))); have h2 := insAll_len ((freeLs (t.kids.take k)).filter (freeF t)) O0; have := LE1.out; have := LE3.out; have := LE4.out; have := HSM.out; have := HO0.out; have f0 : (Y.take j).length ≤ Y.length := (by rw [List.length_take]; omega); have f1 := List.length_filter_le (freeF t) (Y.take j); have f2 := List.length_filter_le (freeF t) (freeLs (t.kids.take k)); (try simp only [List.length_take] at h1 h2); omega)).mono ?_
                  rintro e w8 ⟨r8, rfl, ho8, hb8⟩
                  obtain ⟨hc8, hf8⟩ := bcell hb8
                  have hB8 : Below w.heap.size w w8 := bStep bl hb8
                  have hp8 := Stp.mk hb8
                  have hs8 := hb8.size
                  try simp only [World.size_alloc, World.size_setCell, World.size_drew, World.heap_drewN] at hs8
                  try simp only [World.size_drew, World.heap_drewN, World.cell?_drew, World.frozen?_drew, World.cell?_drewN, World.frozen?_drewN] at hc8 hf8
                  have op8 := bCell (w := wr) (w1 := w8) bl hop
                  have n8 := bCell (w := wr) (w1 := w8) bl hnn
                  go_wp2
                  go_roundg (gk - 1)
                  case measure => omega
                  case rel => exact ⟨j + 1, by omega, by omega, by go_num, by unfold Hid; rw [TF.out, HNF.out]; simp only [if_true]; rw [insAll_snoc]; exact ho8, op8, n8, bl⟩
              · have hnf : (freeF t) Y[j] = true := by simp [freeF, o3]
                have HNF := Lib.hid hnf
                have b3 : (t.op != 3) = true := by rw [bne_iff_ne]; exact o3
                clear hnf
                go_wp2_with fail
                refine (l1Insert 3 w.heap.size rfl _ _ _ Y[j] (OwI.keep hown2.out bl) (show Below w.heap.size w _ from bl).size (by have h1 := insAll_len ((Y.take j).filter (freeF t)) (insAll O0 ((freeLs (t.kids.take k)).filter (freeF t))); have h2 := insAll_len ((freeLs (t.kids.take k)).filter (freeF t)) O0; have := LE1.out; have := LE3.out; have := LE4.out; have := HSM.out; have := HO0.out; have f0 : (Y.take j).length ≤ Y.length := (by rw [List.length_take]; omega); have f1 := List.length_filter_le (freeF t) (Y.take j); have f2 := List.length_filter_le (freeF t) (freeLs (t.kids.take k)); (try simp only [List.length_take] at h1 h2); omega)).mono ?_
                rintro e w8 ⟨r8, rfl, ho8, hb8⟩
                obtain ⟨hc8, hf8⟩ := bcell hb8
                have hB8 : Below w.heap.size w w8 := bStep bl hb8
                have hp8 := Stp.mk hb8
                have hs8 := hb8.size
                try simp only [World.size_alloc, World.size_setCell, World.size_drew, World.heap_drewN] at hs8
                try simp only [World.size_drew, World.heap_drewN, World.cell?_drew, World.frozen?_drew, World.cell?_drewN, World.frozen?_drewN] at hc8 hf8
                have op8 := bCell (w := wr) (w1 := w8) bl hop
                have n8 := bCell (w := wr) (w1 := w8) bl hnn
                go_wp2
                go_roundg (gk - 1)
                case measure => omega
                case rel => exact ⟨j + 1, by omega, by omega, by go_num, by unfold Hid; rw [TF.out, HNF.out]; simp only [if_true]; rw [insAll_snoc]; exact ho8, op8, n8, bl⟩
            · obtain rfl : j = Y.length := by omega
              rw [List.take_length] at hown2
              go_wp2
              go_roundg (gi - 1)
              case measure => omega
              case rel => exact ⟨k + 1, by omega, by omega, by go_num, by unfold Hid; rw [SN.out, HY.out, List.filter_append, ← insAll_append]; exact hown2.out, hop, hnn, bl⟩
        · obtain rfl : k = t.kids.length := by omega
          rw [List.take_length] at hown
          go_wp2
          go_ret
          exact ⟨_, rfl, own_castI hown.out (by rw [HFE.out]; unfold ascL; rw [← insAll_append, HOI.out]), bl⟩
end Go.Proofs.Ytbpbgmildhejoaa.Cx
