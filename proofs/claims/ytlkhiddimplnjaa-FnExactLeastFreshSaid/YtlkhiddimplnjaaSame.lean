/- Contracts: two terms are the same: the reference's way (l1Same, l1Flat, l2Same, SameTerms) and the program's (Equal, EqualFunc, SameTerms). -/
import Derived.Test.YtlkhiddimplnjaaConv
import Derived.Deep.LoopGhost
namespace Go.Proofs.Ytlkhiddimplnjaa.Cx
open Go.RowKit Base
set_option linter.unusedVariables false
set_option linter.unusedSimpArgs false

theorem info_int : (Try.prog.info? 3).map (fun i => (i.zero, i.size, i.bytes)) = some (some (.int .i64 0), 1, 8) := by kernel_rfl
theorem ty_ints : SlTy Try.prog 23 3 1 8 := SlTy.of Try.underlying23 info_int rfl (by decide)
def flat (p : List (Int × Int)) : List Int := p.flatMap fun x => [x.1, x.2]
theorem flat_len (p : List (Int × Int)) : (flat p).length = p.length * 2 := by
  induction p with
  | nil => rfl
  | cons x p ih => simp [flat] at ih ⊢; omega
theorem flat_snoc (p : List (Int × Int)) (k : Nat) (h : k < p.length) : flat (p.take (k + 1)) = flat (p.take k) ++ [p[k].1, p[k].2] := by
  rw [take_snoc p k h, flat, flat, List.flatMap_append]; rfl
theorem flat_inj : ∀ (p q : List (Int × Int)), flat p = flat q → p = q
  | [], [], _ => rfl
  | [], y :: q, h => by simp [flat] at h
  | x :: p, [], h => by simp [flat] at h
  | x :: p, y :: q, h => by
    have e : ∀ (z : Int × Int) r, flat (z :: r) = z.1 :: z.2 :: flat r := fun _ _ => rfl
    rw [e, e] at h
    simp only [List.cons.injEq] at h
    rw [flat_inj p q h.2.2, Prod.ext h.1 h.2.1]
theorem flat_beq (p q : List (Int × Int)) : (flat p == flat q) = (p == q) := by
  rw [Bool.eq_iff_iff, beq_iff_eq, beq_iff_eq]
  exact ⟨flat_inj p q, fun h => by rw [h]⟩

set_option maxHeartbeats 800000 in
theorem l1Same (w : World) (va vb : Value) (xs ys : List Int) (ha : SlI w va xs) (hb : SlI w vb ys) :
    Calls Try.prog 56 #[va, vb] w fun e w' => e = .returned (.bool (xs == ys)) ∧ Below w.heap.size w w' := by
  obtain ⟨A, c, rfl, hc, hl, hr⟩ := ha
  obtain ⟨A', c', rfl, hc', hl', hr'⟩ := hb
  by_cases hlen : xs.length = ys.length
  · have b1 : (xs.length != ys.length) = false := by simp [hlen]
    have b2 : ((xs.length : Int) != (ys.length : Int)) = false := by simp [hlen]
    have HL := Lib.hid hlen
    clear hlen
    go_enter Try.func56, Try.ntmps56
    go_wp2
    go_loopg [5] (xs.length + 1) (fun n v5 wr => ∃ k : Nat, n + k = xs.length + 1 ∧ k ≤ xs.length ∧ v5 = .int .i64 k ∧ Hid (xs.take k = ys.take k) ∧ Hid (Below w.heap.size w wr))
    case atStart => exact ⟨0, by omega, by omega, rfl, rfl, Below.refl _ _⟩
    case round =>
      obtain ⟨k, hn, hk, rfl, hq, hB⟩ := hrel
      by_cases hlt : k < xs.length
      · have hlt' : k < ys.length := by have := HL.out; omega
        obtain ⟨ad, rfl, c0⟩ := (hr.below KI.mono hB.out).atI hlt
        obtain ⟨ad', rfl, c1⟩ := (hr'.below KI.mono hB.out).atI hlt'
        have g0 : (0 : Int) ≤ (k : Int) := by omega
        have g1 : (k : Int) < (xs.length : Int) := by omega
        have g2 : (k : Int) < (ys.length : Int) := by omega
        have f0 := clsCell c0
        have f1 := clsCell c1
        by_cases he : xs[k] = ys[k]
        all_goals
          first | have b3 : (xs[k] != ys[k]) = false := by simp [he]
                | have b3 : (xs[k] != ys[k]) = true := by simp [he]
          have HE := Lib.hid he
          clear he
          go_wp2
          refine wp_region_plan ([], [0,1,2,3,4,5,6,7,8], []) (by kernel_rfl) (by kernel_rfl) ?_
          simp only [wpSegs, opsAt, consAt_some, List.getElem?_cons_succ, List.getElem?_cons_zero]
          repeat (go_big_quiet_step (fail))
          refine wpQuiet_nil (wpList_nil (nrm_mk ?_))
          go_wp2
        · go_roundg (gk - 1)
          case measure => omega
          case rel => exact ⟨k + 1, by omega, by omega, by go_num, by unfold Hid; rw [take_snoc xs k hlt, take_snoc ys k hlt', hq.out, HE.out], bDrewN hB.out 1⟩
        · go_ret
          exact ⟨ret_bool (by symm; rw [beq_eq_false_iff_ne]; rintro rfl; exact HE.out rfl), bDrewN hB.out 1⟩
      · obtain rfl : k = xs.length := by omega
        go_wp2
        go_ret
        exact ⟨ret_bool (by symm; rw [beq_iff_eq]; have h1 := hq.out; rw [List.take_length, List.take_of_length_le (by have := HL.out; omega)] at h1; exact h1), hB.out⟩
  · have b1 : (xs.length != ys.length) = true := by simp [hlen]
    have b2 : ((xs.length : Int) != (ys.length : Int)) = true := by simp; omega
    have HL := Lib.hid hlen
    clear hlen
    go_enter Try.func56, Try.ntmps56
    go_wp2
    go_ret
    exact ⟨ret_bool (by symm; rw [beq_eq_false_iff_ne]; rintro rfl; exact HL.out rfl), Below.refl _ _⟩

set_option maxHeartbeats 800000 in
theorem l1Flat (w : World) (v : Value) (xs : List (Int × Int)) (h : SlP w v xs) :
    Calls Try.prog 57 #[v] w fun e w' => ∃ r, e = .returned r ∧ OwI 3 w' w.heap.size r (flat xs) ∧ Below w.heap.size w w' := by
  obtain ⟨A, c, rfl, hc, hl, hr⟩ := h
  go_enter Try.func57, Try.ntmps57
  go_wp2
  go_loopg [3, 4] (xs.length + 1) (fun n v3 v4 wr => ∃ k : Nat, n + k = xs.length + 1 ∧ k ≤ xs.length ∧ v4 = .int .i64 k ∧ Hid (OwI 3 wr w.heap.size v3 (flat (xs.take k))) ∧ Hid (Below w.heap.size w wr))
  case atStart => exact ⟨0, by omega, by omega, rfl, World.ownsRow_made w #[] 0 (Nat.le_refl _) (by unfold maxLen; omega) (by simp), bAlloc (Below.refl _ _) _⟩
  case round =>
    obtain ⟨k, hn, hk, rfl, hown, hB⟩ := hrel
    by_cases hlt : k < xs.length
    · obtain ⟨ad, rfl, c0, c1⟩ := (hr.below KP.mono hB.out).atP hlt
      have g0 : (0 : Int) ≤ (k : Int) := by omega
      have g1 : (k : Int) < (xs.length : Int) := by omega
      have fl : (flat (xs.take k)).length = k * 2 := by rw [flat_len]; simp; omega
      have FL := Lib.hid fl
      clear fl
      go_wp2
      have f0 := clsCell c0
      have f1 := clsCell c1
      refine wp_region_plan ([([0,1,2,3,4,5,6,7,8,9,10],11)],[],[12,13]) (by kernel_rfl) (by kernel_rfl) ?_
      simp only [wpSegs, opsAt, consAt_some, List.getElem?_cons_succ, List.getElem?_cons_zero]
      repeat (go_big_quiet_step (fail))
      refine wpQuiet_nil ?_
      go_wp2
      refine nrm_mk ⟨bAlloc (Below.refl _ _) _, wpQuiet_nil ?_⟩
      go_wp2_with (at_builtin; refine wpList_app ty_ints w.heap.size u3 _ _ ((owns_drew hown.out).alloc _) wr.heap.size 2 [.int .i64 xs[k].1, .int .i64 xs[k].2] (heap_alloc_new wr.drew _) rfl (by simp [Value.oneCell']) (by rw [FL.out]; omega) (by rw [FL.out]; omega) (by have := hB.out.size; simp; omega) (.tmp 12) (.tmp 23) rfl rfl rfl rfl ?_; intro v' w2 hown2 hgrow hat)
      refine nrm_mk ?_
      have hO : Hid (OwI 3 w2 w.heap.size v' (flat (xs.take (k + 1)))) := by unfold Hid; rw [flat_snoc xs k hlt]; simpa [cI, OwI] using hown2
      have hB2 : Hid (Below w.heap.size w w2) := bOwn ((bAlloc hB.out _).drew) ((owns_drew hown.out).alloc _) hgrow (by have := hB.out.size; simp; omega)
      clear hown2 hgrow hat
      go_wp2
      go_roundg (gk - 1)
      case measure => omega
      case rel => exact ⟨k + 1, by omega, by omega, by go_num, hO, hB2⟩
    · obtain rfl : k = xs.length := by omega
      go_wp2
      go_ret
      exact ⟨_, rfl, by have := hown.out; rwa [List.take_length] at this, hB.out⟩

set_option maxHeartbeats 3200000 in
theorem l2Same (N : Nat) : ∀ (s t : Tm) (vs vt : Value) (w : World), s.sz ≤ N → VT w vs s → VT w vt t →
    Calls Try.prog 44 #[vs, vt] w fun e w' => e = .returned (.bool (s.same t)) ∧ Below w.heap.size w w' := by
  induction N with
  | zero => intro s t vs vt w h; have := s.sz_pos; omega
  | succ N ih =>
    intro s t vs vt w hN hs ht
    obtain ⟨vp, vk, rfl, hp, hk⟩ := hs
    obtain ⟨vp', vk', rfl, hp', hk'⟩ := ht
    have hk1 := hk
    have hk1' := hk'
    obtain ⟨A, c, rfl, hc, hl, hr⟩ := hk
    obtain ⟨A', c', rfl, hc', hl', hr'⟩ := hk'
    by_cases h1 : s.op = t.op ∧ s.n = t.n ∧ s.kids.length = t.kids.length
    · obtain ⟨h1, h2, h3⟩ := h1
      have b1 : (s.op != t.op) = false := by simp [h1]
      have b2 : (s.n != t.n) = false := by simp [h2]
      have b3 : (s.kids.length != t.kids.length) = false := by simp [h3]
      have b4 : ((s.kids.length : Int) != (t.kids.length : Int)) = false := by simp [h3]
      have H1 := Lib.hid h1
      have H2 := Lib.hid h2
      have H3 := Lib.hid h3
      clear h1 h2 h3
      have b5 := flat_beq s.perm t.perm
      cases h4 : s.perm == t.perm
      all_goals
        rw [h4] at b5
        have H4 := Lib.hid h4
        clear h4
        go_enter Try.func44, Try.ntmps44
        go_wp2
        refine wp_region_plan ([([0,1,2,3,4,5,6,7,8,9,10,11,12,13,14,15,16,17,18,19,20,21,22,23,25,26],24),([],27),([],28)],[29,30],[]) (by kernel_rfl) (by kernel_rfl) ?_
        simp only [wpSegs, opsAt, consAt_some, List.getElem?_cons_succ, List.getElem?_cons_zero]
        repeat (go_big_quiet_step (fail))
        refine wpQuiet_nil ?_
        go_wp2_with (go_at_call 57; refine (l1Flat _ _ _ (hp.below KP.mono bl)).mono ?_; rintro e w1 ⟨r1, rfl, ho1, hb1⟩)
        refine nrm_mk ⟨hb1, wpQuiet_nil ?_⟩
        have hB1 : Below w.heap.size w w1 := bStep bl hb1
        go_wp2_with (go_at_call 57; refine (l1Flat _ _ _ (hp'.below KP.mono bl)).mono ?_; rintro e w2 ⟨r2, rfl, ho2, hb2⟩)
        refine nrm_mk ⟨hb2, wpQuiet_nil ?_⟩
        have hB2 : Below w.heap.size w w2 := bStep bl hb2
        have q1 := OwI.sl (owns_below ho1 hb2) (by rw [flat_len]; have := hp.len; omega)
        have q2 := OwI.sl ho2 (by rw [flat_len]; have := hp'.len; omega)
        go_wp2_with (go_at_call 56; refine (l1Same _ _ _ _ _ q1 q2).mono ?_; rintro e w3 ⟨rfl, hb3⟩)
        refine nrm_mk ⟨hb3, ?_⟩
        have hB3 : Below w.heap.size w w3 := bStep bl hb3
        have x1 : w3.cell? ⟨w.heap.size, 3, none⟩ = some (.slice A s.kids.length c) := bCell (bStep (bStep hb1 hb2) hb3) (by simp)
        have x2 : w3.cell? ⟨w.heap.size + 1, 3, none⟩ = some (.slice A' t.kids.length c') := bCell (bStep (bStep hb1 hb2) hb3) (by simp)
        clear ho1 hb1 ho2 hb2 hb3 hB1 hB2 q1 q2
        repeat (go_big_quiet_step (fail))
        refine wpQuiet_nil (wpList_nil (nrm_mk ?_))
        go_wp2
      · go_ret
        exact ⟨ret_bool (by symm; rw [Tm.same_eq, H4.out]; simp), hB3⟩
      · go_loopg [5, 40] (s.kids.length + 1) (fun n v5 v40 wr => ∃ k : Nat, n + k = s.kids.length + 1 ∧ k ≤ s.kids.length ∧ v40 = .int .i64 k ∧ Hid (sameL (s.kids.take k) (t.kids.take k) = true) ∧ Hid (Below w3.heap.size w3 wr))
        case atStart => exact ⟨0, by omega, by omega, rfl, by simp [Hid, sameL], Below.refl _ _⟩
        case round =>
          obtain ⟨k, hn, hk, rfl, hq, hB⟩ := hrel
          have hBr := hB.out
          clear hB
          have hBw : Below w.heap.size w wr := bStep hB3 hBr
          by_cases hlt : k < s.kids.length
          · have hlt' : k < t.kids.length := by have := H3.out; omega
            obtain ⟨ad, p1, k1, rfl, hp1, hq1, c0, c1, c2, c3⟩ := (hr.below KT.mono hBw).atT hlt
            obtain ⟨ad', p2, k2, rfl, hp2, hq2, d0, d1, d2, d3⟩ := (hr'.below KT.mono hBw).atT hlt'
            have y1 := bCell hBr x1
            have y2 := bCell hBr x2
            have g0 : (0 : Int) ≤ (k : Int) := by omega
            have g1 : (k : Int) < (s.kids.length : Int) := by omega
            have g2 : (k : Int) < (t.kids.length : Int) := by omega
            have cls_c0 := clsCell c0
            have cls_c1 := clsCell c1
            have cls_c2 := clsCell c2
            have cls_c3 := clsCell c3
            have cls_d0 := clsCell d0
            have cls_d1 := clsCell d1
            have cls_d2 := clsCell d2
            have cls_d3 := clsCell d3
            have cls_y1 := clsCell y1
            have cls_y2 := clsCell y2
            cases h5 : s.kids[k].same t.kids[k]
            all_goals
              go_wp2
              refine wp_region_plan ([([0,1,2,3,4,5,6,7,8,9],10)],[11],[]) (by kernel_rfl) (by kernel_rfl) ?_
              simp only [wpSegs, opsAt, consAt_some, List.getElem?_cons_succ, List.getElem?_cons_zero]
              repeat (go_big_quiet_step (fail))
              refine wpQuiet_nil ?_
              go_wp2_with (go_at_call 44; refine (ih s.kids[k] t.kids[k] _ _ _ (by have := s.kid_sz k hlt; omega) ⟨p1, k1, rfl, hp1.below KP.mono bl, hq1.below KT.mono bl⟩ ⟨p2, k2, rfl, hp2.below KP.mono bl, hq2.below KT.mono bl⟩).mono ?_; rintro e w4 ⟨rfl, hb4⟩)
              refine nrm_mk ⟨hb4, ?_⟩
              have hBr4 : Below w3.heap.size w3 w4 := bStep (Below.drew hBr) hb4
              have hB4 : Below w.heap.size w w4 := bStep (Below.drew hBw) hb4
              clear hb4
              repeat (go_big_quiet_step (fail))
              refine wpQuiet_nil (wpList_nil (nrm_mk ?_))
              go_wp2
            · go_ret
              exact ⟨ret_bool (by symm; rw [Tm.same_eq, sameL_no _ _ k hlt hlt' h5]; simp), hB4⟩
            · go_roundg (gk - 1)
              case measure => omega
              case rel => exact ⟨k + 1, by omega, by omega, by go_num, by unfold Hid; rw [sameL_take _ _ k hlt hlt', hq.out, h5]; rfl, hBr4⟩
          · obtain rfl : k = s.kids.length := by omega
            go_wp2
            go_ret
            exact ⟨ret_bool (by symm; have h6 := hq.out; rw [List.take_length, List.take_of_length_le (by have := H3.out; omega)] at h6; rw [Tm.same_eq, h6, H4.out, H1.out, H2.out]; simp), hBw⟩
    · have hno : s.same t = false := by
        rw [Tm.same_eq]
        by_cases e1 : s.op = t.op
        · by_cases e2 : s.n = t.n
          · have e3 : s.kids.length ≠ t.kids.length := fun e3 => h1 ⟨e1, e2, e3⟩
            rw [sameL_len _ _ e3]; simp
          · simp [e2]
        · simp [e1]
      have HNO := Lib.hid hno
      clear hno
      by_cases e1 : s.op = t.op
      · have b1 : (s.op != t.op) = false := by simp [e1]
        by_cases e2 : s.n = t.n
        · have b2 : (s.n != t.n) = false := by simp [e2]
          have e3 : s.kids.length ≠ t.kids.length := fun e3 => h1 ⟨e1, e2, e3⟩
          have b3 : (s.kids.length != t.kids.length) = true := by simp [e3]
          have b4 : ((s.kids.length : Int) != (t.kids.length : Int)) = true := by simp; omega
          clear h1 e1 e2 e3
          go_enter Try.func44, Try.ntmps44
          go_wp2
          refine wp_region_plan ([([0,1,2,3,4,5,6,7,8,9,10,11,12,13,14,15,16,17,18,19,20,21,22,23,25,26],24),([],27),([],28)],[29,30],[]) (by kernel_rfl) (by kernel_rfl) ?_
          simp only [wpSegs, opsAt, consAt_some, List.getElem?_cons_succ, List.getElem?_cons_zero]
          repeat (go_big_quiet_step (fail))
          refine wpQuiet_nil ?_
          iterate 3
            go_wp2
            refine nrm_mk ⟨Below.refl _ _, ?_⟩
            repeat (go_big_quiet_step (fail))
            refine wpQuiet_nil ?_
          refine wpList_nil (nrm_mk ?_)
          go_wp2
          go_ret
          exact ⟨ret_bool HNO.out.symm, bl⟩
        · have b2 : (s.n != t.n) = true := by simp [e2]
          clear h1 e1 e2
          go_enter Try.func44, Try.ntmps44
          go_wp2
          refine wp_region_plan ([([0,1,2,3,4,5,6,7,8,9,10,11,12,13,14,15,16,17,18,19,20,21,22,23,25,26],24),([],27),([],28)],[29,30],[]) (by kernel_rfl) (by kernel_rfl) ?_
          simp only [wpSegs, opsAt, consAt_some, List.getElem?_cons_succ, List.getElem?_cons_zero]
          repeat (go_big_quiet_step (fail))
          refine wpQuiet_nil ?_
          iterate 3
            go_wp2
            refine nrm_mk ⟨Below.refl _ _, ?_⟩
            repeat (go_big_quiet_step (fail))
            refine wpQuiet_nil ?_
          refine wpList_nil (nrm_mk ?_)
          go_wp2
          go_ret
          exact ⟨ret_bool HNO.out.symm, bl⟩
      · have b1 : (s.op != t.op) = true := by simp [e1]
        clear h1 e1
        go_enter Try.func44, Try.ntmps44
        go_wp2
        refine wp_region_plan ([([0,1,2,3,4,5,6,7,8,9,10,11,12,13,14,15,16,17,18,19,20,21,22,23,25,26],24),([],27),([],28)],[29,30],[]) (by kernel_rfl) (by kernel_rfl) ?_
        simp only [wpSegs, opsAt, consAt_some, List.getElem?_cons_succ, List.getElem?_cons_zero]
        repeat (go_big_quiet_step (fail))
        refine wpQuiet_nil ?_
        iterate 3
          go_wp2
          refine nrm_mk ⟨Below.refl _ _, ?_⟩
          repeat (go_big_quiet_step (fail))
          refine wpQuiet_nil ?_
        refine wpList_nil (nrm_mk ?_)
        go_wp2
        go_ret
        exact ⟨ret_bool HNO.out.symm, bl⟩

set_option maxHeartbeats 800000 in
theorem specSame (s t : Tm) (vs vt : Value) (w : World) (hs : VT w vs s) (ht : VT w vt t) :
    Calls Try.prog 26 #[vs, vt] w fun e w' => e = .returned (.bool (s.same t)) ∧ Below w.heap.size w w' := by
  obtain ⟨vp, vk, rfl, hp, hk⟩ := hs
  obtain ⟨vp', vk', rfl, hp', hk'⟩ := ht
  go_enter Try.func26, Try.ntmps26
  go_wp2_with (go_at_call 44; refine (l2Same s.sz s t _ _ _ (Nat.le_refl _) ⟨_, _, rfl, hp.below KP.mono bl, hk.below KT.mono bl⟩ ⟨_, _, rfl, hp'.below KP.mono bl, hk'.below KT.mono bl⟩).mono ?_; rintro e w1 ⟨rfl, hb⟩)
  go_ret
  exact ⟨rfl, bStep bl hb⟩

/-! ### the program's way -/
end Go.Proofs.Ytlkhiddimplnjaa.Cx
