/- Contracts of the laws' own helpers over lists of lists of numbers: comparison, marks. -/
import Derived.Test.YtmeaghkpojiniaaCycS
import Derived.Test.YtmeaghkpojiniaaMark
import Derived.Test.YtmeaghkpojiniaaOrdL
namespace Go.Proofs.Ytmeaghkpojiniaa.Base
open Go.RowKit
set_option linter.unusedVariables false
set_option linter.unusedSimpArgs false
def mkIs : List (List Int) → Int → List (List Int) | [], _ => [] | l :: ls, k => mkI k l.length :: mkIs ls (k + (l.length : Int))
theorem mkIs_len : ∀ (ls : List (List Int)) (k : Int), (mkIs ls k).length = ls.length
  | [], _ => rfl
  | l :: ls, k => by simp [mkIs, mkIs_len ls]
theorem lenSum_cons (l : List Int) (ls : List (List Int)) : lenSum (l :: ls) = l.length + lenSum ls := by simp [lenSum]
theorem mkIs_snoc : ∀ (ls : List (List Int)) (j : Nat) (h : j < ls.length) (k : Int), mkIs (ls.take (j + 1)) k = mkIs (ls.take j) k ++ [mkI (k + (lenSum (ls.take j) : Int)) ls[j].length]
  | [], j, h, k => by simp at h
  | l :: ls, 0, _, k => by simp [mkIs, lenSum]
  | l :: ls, j + 1, h, k => by
    have := mkIs_snoc ls j (by simpa using h) (k + (l.length : Int))
    simp only [List.take_succ_cons, mkIs, this, lenSum_cons, List.cons_append, List.getElem_cons_succ]
    congr 4
    omega
theorem mkIs_get : ∀ (ls : List (List Int)) (j : Nat) (h : j < ls.length) (k : Int) (h' : j < (mkIs ls k).length), (mkIs ls k)[j] = mkI (k + (lenSum (ls.take j) : Int)) ls[j].length
  | [], j, h, k, _ => by simp at h
  | l :: ls, 0, _, k, _ => by simp [mkIs, lenSum]
  | l :: ls, j + 1, h, k, h' => by
    have e : (mkIs (l :: ls) k)[j + 1] = (mkIs ls (k + (l.length : Int)))[j]'(by rw [mkIs_len]; simpa using h) := by simp [mkIs]
    rw [e, mkIs_get ls j (by simpa using h)]
    simp only [List.getElem_cons_succ, List.take_succ_cons, lenSum_cons]
    congr 1
    omega
theorem lenSum_mk : ∀ (ls : List (List Int)) (k : Int), lenSum (mkIs ls k) = lenSum ls
  | [], _ => rfl
  | l :: ls, k => by rw [mkIs, lenSum_cons, lenSum_cons, lenSum_mk ls, mkI_len]
theorem lenSum_snoc (ls : List (List Int)) (j : Nat) (h : j < ls.length) : lenSum (ls.take (j + 1)) = lenSum (ls.take j) + ls[j].length := by
  rw [List.take_succ_eq_append_getElem h]; unfold lenSum; rw [List.map_append, List.sum_append, List.map_cons, List.map_nil, List.sum_cons, List.sum_nil, Nat.add_zero]
theorem lenSum_mem {ls : List (List Int)} {l : List Int} (h : l ∈ ls) : l.length ≤ lenSum ls := by
  induction ls with
  | nil => simp at h
  | cons x ls ih =>
    rw [lenSum_cons]
    rcases List.mem_cons.1 h with rfl | h
    · omega
    · have := ih h; omega
theorem flat_apart : ∀ (vs : List Value), (vs.flatMap blk).Nodup → ∀ (i j : Nat) (u u' : Value), vs[i]? = some u → vs[j]? = some u' → i ≠ j → ∀ x ∈ blk u, x ∉ blk u'
  | [], _, i, j, u, u', h, _, _ => by simp at h
  | v :: vs, hn, i, j, u, u', hi, hj, hij => by
    rw [List.flatMap_cons, List.nodup_append] at hn
    intro x hx hx'
    cases i with
    | zero =>
      cases j with
      | zero => exact hij rfl
      | succ j =>
        simp at hi hj
        subst hi
        exact hn.2.2 x hx x (List.mem_flatMap.2 ⟨u', List.mem_of_getElem? hj, hx'⟩) rfl
    | succ i =>
      cases j with
      | zero =>
        simp at hi hj
        subst hj
        exact hn.2.2 x hx' x (List.mem_flatMap.2 ⟨u, List.mem_of_getElem? hi, hx⟩) rfl
      | succ j => exact flat_apart vs hn.2.1 i j u u' (by simpa using hi) (by simpa using hj) (by omega) x hx hx'
/-- An element, and how another one comes into its place. -/
theorem OIs.put {E T : TypeId} {w : World} {ls : List (List Int)} {A : Option Addr} {n c : Nat} {F : List Nat} (h : OIs E T w ls (.slice A n c) F) (hn : F.Nodup) {j : Nat} (hj : j < ls.length) :
    ∃ ad A' c', A = some ad ∧ w.cell? (ad.add j) = some (.slice A' ls[j].length c') ∧ OwI E w 0 (.slice A' ls[j].length c') ls[j] ∧ (∀ g ∈ blk (.slice A' ls[j].length c'), g ∈ F) ∧
      ∀ (w' : World) (l' : List Int), Off (blk (.slice A' ls[j].length c')) w w' → OwI E w' 0 (.slice A' ls[j].length c') l' → OIs E T w' (ls.set j l') (.slice A n c) F := by
  obtain ⟨vs, hr, hl, ha, rfl⟩ := h
  have hj' : j < vs.length := by omega
  have hvj := List.getElem?_eq_getElem hj'
  have ho := ha j _ _ hvj (List.getElem?_eq_getElem hj)
  obtain ⟨A', c', e⟩ := owns_slice ho
  obtain ⟨A2, c2, e2, _, _, h3⟩ := owns_shape hr
  simp at e2
  obtain ⟨rfl, _, _⟩ := e2
  obtain ⟨ad, ea, hc⟩ := h3 j _ hvj
  rw [List.nodup_append] at hn
  refine ⟨ad, A', c', ea, by rw [hc, e], e ▸ ho, fun g hg => List.mem_append.2 (.inr (List.mem_flatMap.2 ⟨vs[j], List.getElem_mem hj', by rw [e]; exact hg⟩)), fun w' l' hoff hown => ?_⟩
  rw [← e] at hoff hown
  refine ⟨vs, by rw [List.length_set]; exact owns_off hr hoff fun g h1 h2 => hn.2.2 g h1 g (List.mem_flatMap.2 ⟨vs[j], List.getElem_mem hj', h2⟩) rfl, by simpa using hl, fun i u l hu hl' => ?_, rfl⟩
  by_cases hij : i = j
  · subst hij
    rw [hvj] at hu
    cases hu
    rw [List.getElem?_set_self hj] at hl'
    cases hl'
    exact hown
  · rw [List.getElem?_set_ne (fun e => hij e.symm)] at hl'
    exact owns_off (ha i u l hu hl') hoff fun g h1 h2 => flat_apart vs hn.2.1 i j u _ hu hvj hij g h1 h2
end Go.Proofs.Ytmeaghkpojiniaa.Base
namespace Go.Proofs.Ytmeaghkpojiniaa.Cx
open Go.RowKit Base
set_option linter.unusedVariables false
set_option linter.unusedSimpArgs false
set_option maxRecDepth 100000
set_option maxHeartbeats 3200000
theorem eqIntSS (w : World) (va vb : Value) (ls : List (List Int)) (F G : List Nat) (ha : OIs 3 31 w ls va F) (hb : OIs 3 31 w ls vb G) (hs : lenSum ls ≤ 1000000) (hn : ls.length ≤ 1000000) :
    Calls Try.prog 41 #[va, vb] w fun e w' => e = .returned (.bool true) ∧ Below w.heap.size w w' := by
  have hbd : ∀ l ∈ ls, l.length ≤ 17592186044416 := fun l hl => by have := lenSum_mem hl; omega
  have HBD := Lib.hid hbd
  clear hbd
  obtain ⟨A1, c1, rfl⟩ := ha.slice
  obtain ⟨A2, c2, rfl⟩ := hb.slice
  have b0 := bne_rfl_ (ls.length : Int)
  have b1 := bne_rfl_ ls.length
  have HA := Lib.hid ha
  have HBB := Lib.hid hb
  clear ha hb
  go_enter Try.func41, Try.ntmps41
  go_wp2
  go_loopg [5] (ls.length + 1) (fun n v5 wr => ∃ k : Nat, n + k = ls.length + 1 ∧ k ≤ ls.length ∧ v5 = .int .i64 k ∧ Hid (Below w.heap.size w wr))
  case atStart => exact ⟨0, by omega, by omega, rfl, Below.refl _ _⟩
  case round =>
    obtain ⟨k, hn0, hk, rfl, hB⟩ := hrel
    have hBw := hB.out
    clear hB
    by_cases hlt : k < ls.length
    · obtain ⟨ad, A3, c3, rfl, k0, s0, _, _⟩ := (HA.out.keep hBw).at_ HBD.out hlt
      obtain ⟨ad2, A4, c4, rfl, k1, s1, _, _⟩ := (HBB.out.keep hBw).at_ HBD.out hlt
      have g0 : (0 : Int) ≤ (k : Int) := by omega
      have g1 : (k : Int) < (ls.length : Int) := by omega
      have br := beq_rfl_ ls[k]
      have cls_k0 := clsCell k0
      have cls_k1 := clsCell k1
      go_wp2
      refine wp_region_plan ([([0, 1, 2, 3, 4, 5, 6, 7], 8)], [9], []) (by kernel_rfl) (by kernel_rfl) ?_
      simp only [wpSegs, opsAt, consAt_some, List.getElem?_cons_succ, List.getElem?_cons_zero]
      repeat (go_big_quiet_step (fail))
      refine wpQuiet_nil ?_
      go_wp2_with fail
      refine (eqIntS _ _ _ ls[k] ls[k] (s0.below KI.mono bl) (s1.below KI.mono bl)).mono ?_
      rintro e w3 ⟨rfl, hb3⟩
      go_wp2_with fail
      refine nrm_mk ⟨hb3, ?_⟩
      obtain ⟨hc3, hf3⟩ := bcell hb3
      have hB3 : Below w.heap.size w w3 := bStep bl hb3
      have hp3 := Stp.mk hb3
      have hs3 := hb3.size
      try simp only [World.size_alloc, World.size_setCell, World.size_drew, World.heap_drewN] at hs3
      try simp only [World.size_drew, World.heap_drewN, World.cell?_drew, World.frozen?_drew, World.cell?_drewN, World.frozen?_drewN] at hc3 hf3
      repeat (go_big_quiet_step (fail))
      refine wpQuiet_nil ?_
      refine wpList_nil (nrm_mk ?_)
      go_wp2
      go_roundg (gk - 1)
      case measure => omega
      case rel => exact ⟨k + 1, by omega, by omega, by go_num, bl⟩
    · obtain rfl : k = ls.length := by omega
      go_wp2
      go_ret
      exact ⟨rfl, hBw⟩
theorem markIntSS (w : World) (v : Value) (ls : List (List Int)) (F : List Nat) (k : Int) (B : Nat) (h : OIs 3 31 w ls v F) (hF : F.Nodup) (hFB : ∀ g ∈ F, B ≤ g) (hB : B ≤ w.heap.size) (hs : lenSum ls ≤ 1000000) (hn : ls.length ≤ 1000000) (h0 : 0 ≤ k) (h1 : k ≤ 1152921504605000000) :
    Calls Try.prog 42 #[v, .int .i64 k] w fun e w' => e = .returned (.int .i64 (k + (lenSum ls : Int))) ∧ OIs 3 31 w' (mkIs ls k) v F ∧ Below B w w' ∧ Off F w w' := by
  obtain ⟨A, c, rfl⟩ := h.slice
  have H := Lib.hid h
  have HF := Lib.hid hF
  clear h hF
  go_enter Try.func42, Try.ntmps42
  go_wp2
  go_loopg [1, 5] (ls.length + 1) (fun n v1 v5 wr => ∃ j : Nat, ∃ m : Int, n + j = ls.length + 1 ∧ j ≤ ls.length ∧ v5 = .int .i64 j ∧ v1 = .int .i64 m ∧ 0 ≤ m ∧ Hid (m = k + (lenSum (ls.take j) : Int)) ∧ Hid (OIs 3 31 wr (mkIs (ls.take j) k ++ ls.drop j) (.slice A ls.length c) F) ∧ Hid (Off F w wr))
  case atStart => exact ⟨0, k, by omega, by omega, rfl, rfl, by omega, by simp [Hid, lenSum], by simpa [Hid, mkIs] using H.out, Off.refl _ _⟩
  case round =>
    obtain ⟨j, m, hn0, hk, rfl, rfl, hm0, hm, hown, hof⟩ := hrel
    have XL := Lib.hid (show (mkIs (ls.take j) k ++ ls.drop j).length = ls.length by simp [mkIs_len]; omega)
    by_cases hlt : j < ls.length
    · have ej : (mkIs (ls.take j) k ++ ls.drop j)[j]'(by rw [XL.out]; exact hlt) = ls[j] := by
        rw [List.getElem_append_right (by simp [mkIs_len]; omega)]
        simp [mkIs_len, Nat.min_eq_left hk]
      obtain ⟨ad, A3, c3, rfl, k0, ho, hsub, hput⟩ := hown.out.put HF.out (j := j) (by rw [XL.out]; exact hlt)
      simp only [ej] at k0 ho hsub hput
      have ls1 := lenSum_snoc ls j hlt
      have ls2 := lenSum_take ls (j + 1)
      have hlj : ls[j].length ≤ 1000000 := by omega
      have LS1 := Lib.hid ls1
      have hml : m ≤ 1152921504606000000 := by have := hm.out; omega
      have HPUT := Lib.hid hput
      have HSUB := Lib.hid hsub
      have HO := Lib.hid ho
      clear ls1 ls2 hput hsub ho ej
      have g0 : (0 : Int) ≤ (j : Int) := by omega
      have g1 : (j : Int) < (ls.length : Int) := by omega
      go_wp2_with fail
      refine (markIntG 3 0 _ _ ls[j] m HO.out (Nat.zero_le _) (by omega) (by omega) (by omega)).mono ?_
      rintro e w2 ⟨rfl, ho2, _, hx2⟩
      have h5 := HPUT.out w2 _ hx2 ho2
      rw [mark_set _ _ j _ (by simp [mkIs_len]; omega) hlt] at h5
      have hO : Hid (OIs 3 31 w2 (mkIs (ls.take (j + 1)) k ++ ls.drop (j + 1)) (.slice (some ad) ls.length c) F) := by
        unfold Hid
        rw [mkIs_snoc ls j hlt, ← hm.out]
        exact h5
      have hF2 : Hid (Off F w w2) := hof.out.trans (hx2.mono HSUB.out)
      clear h5 ho2 hx2
      go_wp2
      go_roundg (gk - 1)
      case measure => omega
      case rel => exact ⟨j + 1, _, by omega, by omega, by go_num, rfl, by omega, by unfold Hid; rw [LS1.out, hm.out]; omega, hO, hF2⟩
    · obtain rfl : j = ls.length := by omega
      go_wp2
      go_ret
      exact ⟨ret_int (by rw [hm.out, List.take_length]), by have := hown.out; simpa [Hid] using this, hof.out.below hFB hB, hof.out⟩
theorem heldIntSS (w : World) (v : Value) (ls : List (List Int)) (F : List Nat) (k : Int) (h : OIs 3 31 w (mkIs ls k) v F) (hs : lenSum ls ≤ 1000000) (hn : ls.length ≤ 1000000) (h0 : 0 ≤ k) (h1 : k ≤ 1152921504605000000) :
    Calls Try.prog 43 #[v, .int .i64 k] w fun e w' => e = .returned (.int .i64 (k + (lenSum ls : Int))) ∧ Below w.heap.size w w' := by
  obtain ⟨A, c, rfl⟩ := h.slice
  have hbd : ∀ l ∈ mkIs ls k, l.length ≤ 17592186044416 := fun l hl => by have := lenSum_mem hl; rw [lenSum_mk] at this; omega
  rw [mkIs_len] at h ⊢
  have H := Lib.hid h
  have HBD := Lib.hid hbd
  clear h hbd
  go_enter Try.func43, Try.ntmps43
  go_wp2
  go_loopg [1, 5] (ls.length + 1) (fun n v1 v5 wr => ∃ j : Nat, ∃ m : Int, n + j = ls.length + 1 ∧ j ≤ ls.length ∧ v5 = .int .i64 j ∧ v1 = .int .i64 m ∧ 0 ≤ m ∧ Hid (m = k + (lenSum (ls.take j) : Int)) ∧ Hid (Below w.heap.size w wr))
  case atStart => exact ⟨0, k, by omega, by omega, rfl, rfl, by omega, by simp [Hid, lenSum], Below.refl _ _⟩
  case round =>
    obtain ⟨j, m, hn0, hk, rfl, rfl, hm0, hm, hB⟩ := hrel
    have hBw := hB.out
    clear hB
    by_cases hlt : j < ls.length
    · obtain ⟨ad, A3, c3, rfl, k0, s0, _, _⟩ := (H.out.keep hBw).at_ HBD.out (j := j) (by rw [mkIs_len]; exact hlt)
      simp only [mkIs_get ls j hlt, ← hm.out, mkI_len] at k0 s0
      have ls1 := lenSum_snoc ls j hlt
      have ls2 := lenSum_take ls (j + 1)
      have hlj : ls[j].length ≤ 1000000 := by omega
      have LS1 := Lib.hid ls1
      have hml : m ≤ 1152921504606000000 := by have := hm.out; omega
      have n1 : ¬ m + (ls[j].length : Int) < 0 := by omega
      clear ls1 ls2
      have g0 : (0 : Int) ≤ (j : Int) := by omega
      have g1 : (j : Int) < (ls.length : Int) := by omega
      go_wp2_with fail
      refine (heldIntS _ _ ls[j].length m (s0.below KI.mono bl) (by omega) (by omega)).mono ?_
      rintro e w2 ⟨rfl, hb2⟩
      obtain ⟨hc2, hf2⟩ := bcell hb2
      have hB2 : Below w.heap.size w w2 := bStep bl hb2
      have hp2 := Stp.mk hb2
      have hs2 := hb2.size
      try simp only [World.size_alloc, World.size_setCell, World.size_drew, World.heap_drewN] at hs2
      try simp only [World.size_drew, World.heap_drewN, World.cell?_drew, World.frozen?_drew, World.cell?_drewN, World.frozen?_drewN] at hc2 hf2
      go_wp2
      go_roundg (gk - 1)
      case measure => omega
      case rel => exact ⟨j + 1, _, by omega, by omega, by go_num, rfl, by omega, by unfold Hid; rw [LS1.out, hm.out]; omega, bl⟩
    · obtain rfl : j = ls.length := by omega
      go_wp2
      go_ret
      exact ⟨ret_int (by rw [hm.out, List.take_length]), hBw⟩
end Go.Proofs.Ytmeaghkpojiniaa.Cx
