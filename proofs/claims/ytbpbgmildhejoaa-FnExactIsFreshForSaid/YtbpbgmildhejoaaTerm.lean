/- Contracts of the laws' own helpers over terms: size, copy, comparison. -/
import Derived.Test.YtbpbgmildhejoaaConv
namespace Go.Proofs.Ytbpbgmildhejoaa.Cx
open Go.RowKit Base
set_option linter.unusedVariables false
set_option linter.unusedSimpArgs false
theorem bulkL_room : ∀ (ts : List Tm) (k : Nat), k ≤ ts.length → bulkL (ts.take k) + (ts.length - k) ≤ bulkL ts
  | [], k, h => by simp at h; subst h; simp [bulkL]
  | t :: ts, 0, _ => by have := bulkL_len (t :: ts); simp [bulkL] at this ⊢; omega
  | t :: ts, k + 1, h => by have := bulkL_room ts k (by simpa using h); simp [bulkL]; omega

/-! ### sizes -/
section
set_option maxHeartbeats 1600000 in
theorem szTermS_of (N : Nat) (ih : ∀ (t : Tm) (v : Value) (l : Int) (w : World), t.sz ≤ N → VT w v t → 0 ≤ l → l ≤ 1048576 → Calls Try.prog 13 #[v, .int .i64 l] w fun e w' => e = .returned (.int .i64 (szr l t.bulk)) ∧ Below w.heap.size w w')
    (ts : List Tm) (v : Value) (l : Int) (w : World) (hN : ∀ j (h : j < ts.length), ts[j].sz ≤ N) (h : SlT w v ts) (h0 : 0 ≤ l) (h1 : l ≤ 1048576) :
    Calls Try.prog 53 #[v, .int .i64 l] w fun e w' => e = .returned (.int .i64 (szr l (bulkL ts))) ∧ Below w.heap.size w w' := by
  have IH := Lib.hid ih
  clear ih
  obtain ⟨A, c, rfl, hc, hl, hr⟩ := h
  have hlen := bulkL_len ts
  by_cases hbig : (ts.length : Int) ≤ l
  · go_enter Try.func53, Try.ntmps53
    go_wp2
    go_loopg [1, 5] (ts.length + 1) (fun n v1 v5 wr => ∃ k : Nat, ∃ m : Int, n + k = ts.length + 1 ∧ k ≤ ts.length ∧ v5 = .int .i64 k ∧ v1 = .int .i64 m ∧ 0 ≤ m ∧ m ≤ 1048576 ∧ Hid (m = l - (ts.length - k : Nat) - bulkL (ts.take k)) ∧ Hid (Below w.heap.size w wr))
    case atStart => exact ⟨0, _, by omega, by omega, rfl, rfl, by omega, by omega, by simp [Hid, bulkL], bl⟩
    case round =>
      obtain ⟨k, m, hn, hk, rfl, rfl, m0, m1, hm, hB⟩ := hrel
      have hBw := hB.out
      clear hB
      by_cases hlt : k < ts.length
      · obtain ⟨ad, p1, k1, rfl, hp1, hq1, c0, c1, c2, c3⟩ := (hr.below KT.mono hBw).atT hlt
        have g0 : (0 : Int) ≤ (k : Int) := by omega
        have g1 : (k : Int) < (ts.length : Int) := by omega
        have tk := bulkL_take ts k hlt
        have TK := Lib.hid tk
        clear tk
        have rm := bulkL_room ts (k + 1) hlt
        have RM := Lib.hid rm
        clear rm
        by_cases hb : (ts[k].bulk : Int) ≤ m
        · have hz : szr m ts[k].bulk = m - ts[k].bulk := by unfold szr; rw [if_pos hb]
          have z0 : (0 : Int) ≤ m - ts[k].bulk := by omega
          have z1 : m - (ts[k].bulk : Int) ≤ 1048576 := by omega
          go_wp2_with (go_at_call 13; refine (IH.out ts[k] _ m _ (hN k hlt) ⟨p1, k1, rfl, hp1.below KP.mono bl, hq1.below KT.mono bl⟩ m0 m1).mono ?_; rintro e w4 ⟨rfl, hb4⟩; have hB4 : Below w.heap.size w w4 := bStep hBw hb4)
          go_roundg (gk - 1)
          case measure => omega
          case rel => exact ⟨k + 1, _, by omega, by omega, by go_num, rfl, z0, z1, by unfold Hid; rw [hm.out, TK.out]; omega, hB4⟩
        · have hz : szr m ts[k].bulk = -1 := by unfold szr; rw [if_neg hb]
          go_wp2_with (go_at_call 13; refine (IH.out ts[k] _ m _ (hN k hlt) ⟨p1, k1, rfl, hp1.below KP.mono bl, hq1.below KT.mono bl⟩ m0 m1).mono ?_; rintro e w4 ⟨rfl, hb4⟩; have hB4 : Below w.heap.size w w4 := bStep hBw hb4)
          go_ret
          exact ⟨ret_int (by unfold szr; rw [if_neg]; have := hm.out; have := TK.out; have := RM.out; omega), hB4⟩
      · obtain rfl : k = ts.length := by omega
        go_wp2
        go_ret
        exact ⟨ret_int (by have := hm.out; rw [List.take_length] at this; unfold szr; rw [if_pos (by omega)]; omega), hBw⟩
  · have hneg : l - (ts.length : Int) < 0 := by omega
    go_enter Try.func53, Try.ntmps53
    go_wp2
    go_ret
    exact ⟨ret_int (by unfold szr; rw [if_neg (by omega)]), bl⟩

set_option maxHeartbeats 1600000 in
theorem szTerm (N : Nat) : ∀ (t : Tm) (v : Value) (l : Int) (w : World), t.sz ≤ N → VT w v t → 0 ≤ l → l ≤ 1048576 →
    Calls Try.prog 13 #[v, .int .i64 l] w fun e w' => e = .returned (.int .i64 (szr l t.bulk)) ∧ Below w.heap.size w w' := by
  induction N with
  | zero => intro t v l w h; have := t.sz_pos; omega
  | succ N ih =>
    intro t v l w hN ht h0 h1
    have hS := szTermS_of N ih
    clear ih
    obtain ⟨vp, vk, rfl, hp, hk⟩ := ht
    have hbk : t.bulk = t.perm.length + bulkL t.kids := by cases t; rfl
    have HBK := Lib.hid hbk
    clear hbk
    have hkids : ∀ j (h : j < t.kids.length), t.kids[j].sz ≤ N := fun j h => by have := t.kid_sz j h; omega
    have HK := Lib.hid hkids
    clear hkids
    have HS := Lib.hid hS
    clear hS
    by_cases ha : (t.perm.length : Int) ≤ l
    · have hz : szr l t.perm.length = l - t.perm.length := by unfold szr; rw [if_pos ha]
      by_cases hb : (bulkL t.kids : Int) ≤ l - t.perm.length
      · have hz2 : szr (l - t.perm.length) (bulkL t.kids) = l - t.perm.length - bulkL t.kids := by unfold szr; rw [if_pos hb]
        have z0 : (0 : Int) ≤ l - t.perm.length - bulkL t.kids := by omega
        go_enter Try.func13, Try.ntmps13
        go_wp2_with (first | (go_at_call 39; refine (szPairS _ _ _ _ (hp.below KP.mono bl) h0 h1).mono ?_; rintro e w2 ⟨rfl, hb2⟩; have hB2 : Below w.heap.size w w2 := bStep bl hb2; obtain ⟨hc2, hf2⟩ := bcell hb2; have sz2 := hb2.size) | (go_at_call 53; refine (HS.out t.kids _ _ _ HK.out (hk.below KT.mono bl) (by omega) (by omega)).mono ?_; rintro e w3 ⟨rfl, hb3⟩; have hB3 : Below w.heap.size w w3 := bStep bl hb3))
        go_ret
        exact ⟨ret_int (by rw [HBK.out]; unfold szr; rw [if_pos (by omega)]; omega), hB3⟩
      · have hz2 : szr (l - t.perm.length) (bulkL t.kids) = -1 := by unfold szr; rw [if_neg hb]
        go_enter Try.func13, Try.ntmps13
        go_wp2_with (first | (go_at_call 39; refine (szPairS _ _ _ _ (hp.below KP.mono bl) h0 h1).mono ?_; rintro e w2 ⟨rfl, hb2⟩; have hB2 : Below w.heap.size w w2 := bStep bl hb2; obtain ⟨hc2, hf2⟩ := bcell hb2; have sz2 := hb2.size) | (go_at_call 53; refine (HS.out t.kids _ _ _ HK.out (hk.below KT.mono bl) (by omega) (by omega)).mono ?_; rintro e w3 ⟨rfl, hb3⟩; have hB3 : Below w.heap.size w w3 := bStep bl hb3))
        go_ret
        exact ⟨ret_int (by rw [HBK.out]; unfold szr; rw [if_neg (by omega)]), hB3⟩
    · have hz : szr l t.perm.length = -1 := by unfold szr; rw [if_neg ha]
      go_enter Try.func13, Try.ntmps13
      go_wp2_with (first | (go_at_call 39; refine (szPairS _ _ _ _ (hp.below KP.mono bl) h0 h1).mono ?_; rintro e w2 ⟨rfl, hb2⟩; have hB2 : Below w.heap.size w w2 := bStep bl hb2))
      go_ret
      exact ⟨ret_int (by rw [HBK.out]; unfold szr; rw [if_neg (by omega)]), hB2⟩
end

/-! ### copies -/
section
theorem info_Term : (Try.prog.info? 31).map (fun i => (i.zero, i.size, i.bytes)) = some (some (.agg #[.int .i64 0, .int .i64 0, .slice none 0 0, .slice none 0 0]), 4, 64) := by kernel_rfl
theorem ty_Term : SlTy Try.prog 29 31 4 64 := SlTy.of Try.underlying29 info_Term rfl (by decide)
theorem mk_Term (n : Nat) (h : n * 64 ≤ 281474976710656) : ∀ W : World, (Instr.makeSlice 29 (.int .i64 (n : Int)) (.int .i64 (n : Int))).run Try.prog W = .ok (.slice (some ⟨W.heap.size, 0, none⟩) n n) (W.alloc (.cells (madeCells #[.int .i64 0, .int .i64 0, .slice none 0 0, .slice none 0 0] (n * 4)) 31)) :=
  ty_Term.make #[.int .i64 0, .int .i64 0, .slice none 0 0, .slice none 0 0] (fun i z hi hz => by have := info_Term; rw [hi] at this; simp at this; rw [this.1] at hz; cases hz; rfl) n h (by omega)

set_option maxHeartbeats 1600000 in
theorem toTermS_of (N : Nat) (ih : ∀ (t : Tm) (v : Value) (w : World), t.sz ≤ N → VT w v t → t.bulk ≤ 1048576 → Calls Try.prog 15 #[v] w fun e w' => ∃ r, e = .returned r ∧ OwT 90 31 w' w.heap.size r t ∧ Below w.heap.size w w')
    (ts : List Tm) (v : Value) (w : World) (hN : ∀ j (h : j < ts.length), ts[j].sz ≤ N) (h : SlT w v ts) (hb : bulkL ts ≤ 1048576) :
    Calls Try.prog 56 #[v] w fun e w' => ∃ r, e = .returned r ∧ OwTs 90 31 w' w.heap.size r ts ∧ Below w.heap.size w w' := by
  have IH := Lib.hid ih
  clear ih
  obtain ⟨A, c, rfl, hc, hl, hr⟩ := h
  have hlen := bulkL_len ts
  have hmk := mk_Term ts.length (by omega)
  go_enter Try.func56, Try.ntmps56
  go_wp2
  go_loopg [4] (ts.length + 1) (fun n v4 wr => ∃ k : Nat, n + k = ts.length + 1 ∧ k ≤ ts.length ∧ v4 = .int .i64 k ∧ Hid (LaidTs 90 31 wr w.heap.size w.heap.size ts k) ∧ Hid (Below w.heap.size w wr))
  case atStart => exact ⟨0, by omega, by omega, rfl, LaidTs.made hl, bl⟩
  case round =>
    obtain ⟨k, hn, hk, rfl, hown, hB⟩ := hrel
    have hBw := hB.out
    clear hB
    by_cases hlt : k < ts.length
    · obtain ⟨ad, p1, k1, rfl, hp1, hq1, c0, c1, c2, c3⟩ := (hr.below KT.mono hBw).atT hlt
      have g0 : (0 : Int) ≤ (k : Int) := by omega
      have g1 : (k : Int) < (ts.length : Int) := by omega
      go_wp2_with (go_at_call 15; refine (IH.out ts[k] _ _ (hN k hlt) ⟨p1, k1, rfl, hp1.below KP.mono bl, hq1.below KT.mono bl⟩ (by have := bulkL_mem ts k hlt; omega)).mono ?_; rintro e w4 ⟨r, rfl, ⟨vp, vk, F, rfl, hot, hnd, hF⟩, hb4⟩; have hB4 : Below w.heap.size w w4 := bStep hBw hb4; obtain ⟨z0, e0, f0⟩ := hown.out.at_ hb4 hlt 0 (by omega); obtain ⟨z1, e1, f1⟩ := hown.out.at_ hb4 hlt 1 (by omega); obtain ⟨z2, e2, f2⟩ := hown.out.at_ hb4 hlt 2 (by omega); obtain ⟨z3, e3, f3⟩ := hown.out.at_ hb4 hlt 3 (by omega); simp only [Nat.add_zero] at e0 f0; obtain ⟨A2, c2', A3, c3', rfl, rfl⟩ := hot.slices; have HOT := Lib.hid hot; clear hot)
      have hL := hown.out.step hb4 hlt HOT.out hnd hF hown.out.lt (Nat.le_refl _)
      go_roundg (gk - 1)
      case measure => omega
      case rel => exact ⟨k + 1, by omega, by omega, by go_num, hL, ((((hB4.setCell (Nat.le_refl _) _).setCell (Nat.le_refl _) _).setCell (Nat.le_refl _) _).setCell (Nat.le_refl _) _)⟩
    · obtain rfl : k = ts.length := by omega
      go_wp2
      go_ret
      exact ⟨_, rfl, hown.out.done (Nat.le_refl _), hBw⟩

set_option maxHeartbeats 1600000 in
theorem toTerm (N : Nat) : ∀ (t : Tm) (v : Value) (w : World), t.sz ≤ N → VT w v t → t.bulk ≤ 1048576 →
    Calls Try.prog 15 #[v] w fun e w' => ∃ r, e = .returned r ∧ OwT 90 31 w' w.heap.size r t ∧ Below w.heap.size w w' := by
  induction N with
  | zero => intro t v w h; have := t.sz_pos; omega
  | succ N ih =>
    intro t v w hN ht hbk
    have hS := toTermS_of N ih
    clear ih
    obtain ⟨vp, vk, rfl, hp, hk⟩ := ht
    have hkids : ∀ j (h : j < t.kids.length), t.kids[j].sz ≤ N := fun j h => by have := t.kid_sz j h; omega
    have HK := Lib.hid hkids
    clear hkids
    have HS := Lib.hid hS
    clear hS
    go_enter Try.func15, Try.ntmps15
    go_wp2_with (first | (go_at_call 41; (refine (toPairS _ _ _ (hp.below KP.mono bl)).mono ?_; rintro e w2 ⟨r2, rfl, ho2, hb2⟩; have hB2 : Below w.heap.size w w2 := bStep bl hb2; obtain ⟨hc2, hf2⟩ := bcell hb2; have hz2 : w.heap.size + 1 + 1 < w2.heap.size := by { have := hb2.size; simp at this; omega }; have hy2 : w.heap.size + 1 < w2.heap.size := (by omega); have hx2 : w.heap.size < w2.heap.size := (by omega); obtain ⟨A2, c2', rfl⟩ := owns_slice ho2)) | (go_at_call 56; (refine (HS.out _ _ _ HK.out (hk.below KT.mono ((Below.setCell hB2 (by (try simp); try omega) _))) (by cases t; simp only [Tm.bulk] at hbk; simp only [Tm.kids]; omega)).mono ?_; rintro e w3 ⟨r3, rfl, ho3, hb3⟩; obtain ⟨hc3, hf3⟩ := bcell hb3; have hz3 : w.heap.size + 1 + 1 < w3.heap.size := by { have := hb3.size; simp at this; omega }; have hy3 : w.heap.size + 1 < w3.heap.size := (by omega); have hx3 : w.heap.size < w3.heap.size := (by omega); obtain ⟨A3, c3', rfl⟩ := ho3.slice)))
    refine bodyPost_ret (v := .agg #[.int .i64 t.op, .int .i64 t.n, .slice A2 t.perm.length c2', .slice A3 t.kids.length c3']) (by simp [results, Try.results15, go_sem, hy3, hc3, hf3, hy2, hc2, hf2]) rfl ⟨_, rfl, ?_, ?_⟩
    · obtain ⟨F3, ho3, hn3, hF3⟩ := ho3
      have k2 : ∀ g, w.heap.size + 1 + 1 < g → g < w2.heap.size → (((((w3.setCell ⟨w.heap.size + 1 + 1, 3, none⟩ (.slice A3 t.kids.length c3')).setCell ⟨w.heap.size + 1, 0, none⟩ (.int .i64 t.op)).setCell ⟨w.heap.size + 1, 1, none⟩ (.int .i64 t.n)).setCell ⟨w.heap.size + 1, 2, none⟩ (.slice A2 t.perm.length c2')).setCell ⟨w.heap.size + 1, 3, none⟩ (.slice A3 t.kids.length c3')).heap[g]? = w2.heap[g]? := fun g h1 h2 => by
        rw [setCell_other _ _ _ _ _ (by omega), setCell_other _ _ _ _ _ (by omega), setCell_other _ _ _ _ _ (by omega), setCell_other _ _ _ _ _ (by omega), setCell_other _ _ _ _ _ (by omega), hb3.block g (by simp; omega), setCell_other _ _ _ _ _ (by omega)]
      have k3 : ∀ g, w.heap.size + 1 + 1 < g → (((((w3.setCell ⟨w.heap.size + 1 + 1, 3, none⟩ (.slice A3 t.kids.length c3')).setCell ⟨w.heap.size + 1, 0, none⟩ (.int .i64 t.op)).setCell ⟨w.heap.size + 1, 1, none⟩ (.int .i64 t.n)).setCell ⟨w.heap.size + 1, 2, none⟩ (.slice A2 t.perm.length c2')).setCell ⟨w.heap.size + 1, 3, none⟩ (.slice A3 t.kids.length c3')).heap[g]? = w3.heap[g]? := fun g h1 => by
        rw [setCell_other _ _ _ _ _ (by omega), setCell_other _ _ _ _ _ (by omega), setCell_other _ _ _ _ _ (by omega), setCell_other _ _ _ _ _ (by omega), setCell_other _ _ _ _ _ (by omega)]
      have l2 := owns_blk_lt ho2
      have l3 : ∀ g ∈ F3, w2.heap.size ≤ g := fun g hg => by have := hF3 g hg; simp at this; omega
      cases t with
      | mk o n p ks => exact OwT.build (owns_lower (owns_same ho2 fun g hg => k2 g (by have := (l2 g hg).1; simp at this; omega) (l2 g hg).2) (by simp; omega)) (ho3.same_ fun g hg => k3 g (by have := l3 g hg; omega)) hn3 (fun g hg => by have := l3 g hg; omega) (fun g hg hg' => by have := (l2 g hg).2; have := l3 g hg'; omega)
    · exact (((((bStep (Below.setCell hB2 (by simp; omega) _) hb3).setCell (by simp; omega) _).setCell (by simp) _).setCell (by simp) _).setCell (by simp) _).setCell (by simp) _
end

/-! ### comparisons -/
section
set_option maxHeartbeats 1600000 in
theorem eqTermS_of (N : Nat) (ih : ∀ (s t : Tm) (vs vt : Value) (w : World), s.sz ≤ N → VT w vs s → VT w vt t → Calls Try.prog 17 #[vs, vt] w fun e w' => e = .returned (.bool (s.same t)) ∧ Below w.heap.size w w')
    (xs ys : List Tm) (va vb : Value) (w : World) (hN : ∀ j (h : j < xs.length), xs[j].sz ≤ N) (ha : SlT w va xs) (hb : SlT w vb ys) :
    Calls Try.prog 58 #[va, vb] w fun e w' => e = .returned (.bool (sameL xs ys)) ∧ Below w.heap.size w w' := by
  have IH := Lib.hid ih
  clear ih
  obtain ⟨A, c, rfl, hc, hl, hr⟩ := ha
  obtain ⟨A', c', rfl, hc', hl', hr'⟩ := hb
  by_cases hlen : xs.length = ys.length
  · have b1 : (xs.length != ys.length) = false := by simp [hlen]
    have b2 : ((xs.length : Int) != (ys.length : Int)) = false := by simp [hlen]
    have HL := Lib.hid hlen
    clear hlen
    go_enter Try.func58, Try.ntmps58
    go_wp2
    go_loopg [5] (xs.length + 1) (fun n v5 wr => ∃ k : Nat, n + k = xs.length + 1 ∧ k ≤ xs.length ∧ v5 = .int .i64 k ∧ Hid (sameL (xs.take k) (ys.take k) = true) ∧ Hid (Below w.heap.size w wr))
    case atStart => exact ⟨0, by omega, by omega, rfl, by simp [Hid, sameL], Below.refl _ _⟩
    case round =>
      obtain ⟨k, hn, hk, rfl, hq, hB⟩ := hrel
      have hBw := hB.out
      clear hB
      by_cases hlt : k < xs.length
      · have hlt' : k < ys.length := by have := HL.out; omega
        obtain ⟨ad, p1, k1, rfl, hp1, hq1, c0, c1, c2, c3⟩ := (hr.below KT.mono hBw).atT hlt
        obtain ⟨ad', p2, k2, rfl, hp2, hq2, d0, d1, d2, d3⟩ := (hr'.below KT.mono hBw).atT hlt'
        have g0 : (0 : Int) ≤ (k : Int) := by omega
        have g1 : (k : Int) < (xs.length : Int) := by omega
        have g2 : (k : Int) < (ys.length : Int) := by omega
        have cls_c0 := clsCell c0
        have cls_c1 := clsCell c1
        have cls_c2 := clsCell c2
        have cls_c3 := clsCell c3
        have cls_d0 := clsCell d0
        have cls_d1 := clsCell d1
        have cls_d2 := clsCell d2
        have cls_d3 := clsCell d3
        cases h5 : xs[k].same ys[k]
        all_goals
          go_wp2
          refine wp_region_plan ([([0,1,2,3,4,5,6,7],8)],[9],[]) (by kernel_rfl) (by kernel_rfl) ?_
          simp only [wpSegs, opsAt, consAt_some, List.getElem?_cons_succ, List.getElem?_cons_zero]
          repeat (go_big_quiet_step (fail))
          refine wpQuiet_nil ?_
          go_wp2_with (go_at_call 17; refine (IH.out xs[k] ys[k] _ _ _ (hN k hlt) ⟨p1, k1, rfl, hp1.below KP.mono bl, hq1.below KT.mono bl⟩ ⟨p2, k2, rfl, hp2.below KP.mono bl, hq2.below KT.mono bl⟩).mono ?_; rintro e w4 ⟨rfl, hb4⟩)
          refine nrm_mk ⟨hb4, ?_⟩
          have hB4 : Below w.heap.size w w4 := bStep (Below.drew hBw) hb4
          clear hb4
          repeat (go_big_quiet_step (fail))
          refine wpQuiet_nil (wpList_nil (nrm_mk ?_))
          go_wp2
        · go_ret
          exact ⟨ret_bool (by symm; exact sameL_no _ _ k hlt hlt' h5), hB4⟩
        · go_roundg (gk - 1)
          case measure => omega
          case rel => exact ⟨k + 1, by omega, by omega, by go_num, by unfold Hid; rw [sameL_take _ _ k hlt hlt', hq.out, h5]; rfl, hB4⟩
      · obtain rfl : k = xs.length := by omega
        go_wp2
        go_ret
        exact ⟨ret_bool (by symm; have h6 := hq.out; rw [List.take_length, List.take_of_length_le (by have := HL.out; omega)] at h6; exact h6), hBw⟩
  · have b1 : (xs.length != ys.length) = true := by simp [hlen]
    have b2 : ((xs.length : Int) != (ys.length : Int)) = true := by simp; omega
    have HL := Lib.hid hlen
    clear hlen
    go_enter Try.func58, Try.ntmps58
    go_wp2
    go_ret
    exact ⟨ret_bool (sameL_len _ _ HL.out).symm, Below.refl _ _⟩

set_option maxHeartbeats 3200000 in
theorem eqTerm (N : Nat) : ∀ (s t : Tm) (vs vt : Value) (w : World), s.sz ≤ N → VT w vs s → VT w vt t →
    Calls Try.prog 17 #[vs, vt] w fun e w' => e = .returned (.bool (s.same t)) ∧ Below w.heap.size w w' := by
  induction N with
  | zero => intro s t vs vt w h; have := s.sz_pos; omega
  | succ N ih =>
    intro s t vs vt w hN hs ht
    have hS := eqTermS_of N ih
    clear ih
    obtain ⟨vp, vk, rfl, hp, hk⟩ := hs
    obtain ⟨vp', vk', rfl, hp', hk'⟩ := ht
    have hkids : ∀ j (h : j < s.kids.length), s.kids[j].sz ≤ N := fun j h => by have := s.kid_sz j h; omega
    have HK := Lib.hid hkids
    clear hkids
    have HS := Lib.hid hS
    clear hS
    have key := Lib.hid (Tm.same_eq s t)
    by_cases e1 : s.op = t.op
    · have b1 : (s.op != t.op) = false := by simp [e1]
      have E1 := Lib.hid e1
      clear e1
      by_cases e2 : s.n = t.n
      · have b2 : (s.n != t.n) = false := by simp [e2]
        have E2 := Lib.hid e2
        clear e2
        cases e3 : s.perm == t.perm
        · go_enter Try.func17, Try.ntmps17
          go_wp2_with (go_at_call 43; refine (eqPairS _ _ _ _ _ (hp.below KP.mono bl) (hp'.below KP.mono bl)).mono ?_; rintro e w2 ⟨rfl, hb2⟩; have hB2 : Below w.heap.size w w2 := bStep bl hb2)
          go_ret
          exact ⟨ret_bool (by rw [key.out, e3]; simp), hB2⟩
        · cases e4 : sameL s.kids t.kids
          all_goals
            go_enter Try.func17, Try.ntmps17
            go_wp2_with (first | (go_at_call 43; refine (eqPairS _ _ _ _ _ (hp.below KP.mono bl) (hp'.below KP.mono bl)).mono ?_; rintro e w2 ⟨rfl, hb2⟩; have hB2 : Below w.heap.size w w2 := bStep bl hb2; obtain ⟨hc2, hf2⟩ := bcell hb2) | (go_at_call 58; refine (HS.out _ _ _ _ _ HK.out (hk.below KT.mono hB2) (hk'.below KT.mono hB2)).mono ?_; rintro e w3 ⟨rfl, hb3⟩; have hB3 : Below w.heap.size w w3 := bStep hB2 hb3))
            go_ret
            exact ⟨ret_bool (by rw [key.out, e3, e4, E1.out, E2.out]; simp), hB3⟩
      · have b2 : (s.n != t.n) = true := by simp [e2]
        have E2 := Lib.hid e2
        clear e2
        go_enter Try.func17, Try.ntmps17
        go_wp2
        go_ret
        exact ⟨ret_bool (by rw [key.out]; simp [E2.out]), bl⟩
    · have b1 : (s.op != t.op) = true := by simp [e1]
      have E1 := Lib.hid e1
      clear e1
      go_enter Try.func17, Try.ntmps17
      go_wp2
      go_ret
      exact ⟨ret_bool (by rw [key.out]; simp [E1.out]), bl⟩
end
end Go.Proofs.Ytbpbgmildhejoaa.Cx
