/- Contracts: all atoms of a term, the program's way; the function that stands open, both ways. -/
import Derived.Test.YtbpbgmildhejoaaHoles
import Derived.Test.YtbpbgmildhejoaaFree
namespace Go.Proofs.Ytbpbgmildhejoaa.Base
open Go.RowKit
section
variable {P : Program} {w : World} {ops : Array Oper} {rest : List Oper} {o : Oper} {a : Act} {Q : Exit → Act → World → Prop}
theorem wpList_appI2 {t e : TypeId} (T : SlTy P t e 1 8) (base : Nat) (v : Value) (xs : List Int) (hown : OwI e w base v xs) (vy : Value) (ys : List Int) (hy : SlI w vy ys) (hz : Nz vy) (hb : xs.length + ys.length ≤ 17592186044416) (hbase : base ≤ w.heap.size)
    (s x : Operand) (hgd : o.guard = none) (ho : o.op = .call { callee := .builtin .append, args := #[s, x], argTypes := #[t, t] }) (hs : a.eval s = v) (hx : a.eval x = vy)
    (h : ∀ v' w', OwI e w' base v' (xs ++ ys) → w.grownBy w' v.ownBlock → (v'.ownBlock = v.ownBlock ∨ v'.ownBlock = some w.heap.size) → wpList P ops Q rest (a.put o.dst v') w') : wpList P ops Q (o :: rest) a w := by
  obtain ⟨i, z, hi, h0, h2, h3, h4⟩ := T.info
  obtain ⟨A, c, rfl⟩ := hy.slice
  cases A with
  | none =>
    obtain ⟨rfl, _⟩ := hy.none_
    obtain rfl := hz _ _ rfl
    exact wpList_append_own_none hgd s x t ho base e i 1 T.ht hi v xs.length (cI xs) hs hown hx (h v w (by simpa using hown) ⟨rfl, rfl, rfl, Nat.le_refl _, fun _ _ _ => rfl⟩ (.inl rfl))
  | some ad =>
    refine wpList_append_own_at w hgd s x t ho base e i z 1 8 T.ht hi h0 h2 h3 h4 (by omega) v xs.length (cI xs) hs hown ad ys.length c (cI ys) hx (by simp [cI]) (fun j u hu => ?_) (fun u hu => ?_) (by unfold maxLen; omega) (by omega) hbase (fun v' w' h5 h6 _ h7 => h v' w' ?_ h6 h7)
    · obtain ⟨A', c', e', _, _, hr⟩ := hy
      simp at e'
      obtain ⟨rfl, rfl⟩ := e'
      have hj : j < ys.length := by have := (List.getElem?_eq_some_iff.1 hu).1; simpa [cI] using this
      obtain ⟨ad', ea, hc⟩ := hr.atI hj
      obtain rfl := Option.some.inj ea
      simp [cI, hj] at hu
      subst hu
      exact hc
    · simp [cI] at hu
      obtain ⟨y, _, rfl⟩ := hu
      rfl
    · simpa [OwI, cI] using h5
end
def addA (x : Tm) : List Int := if x.op == 1 || x.op == 3 then [x.n] else if x.op == 4 then srcL x.perm else []
def stepA (s : Nat × List Int) (x : Tm) : Nat × List Int := (s.1 + 1, s.2 ++ addA x)
theorem preA_add (t : Tm) : preA t = addA t ++ preAs t.kids := preA_eq t
mutual
theorem fold_atoms : ∀ (t : Tm) (s : Nat × List Int), foldT stepA s t = (s.1 + t.sz, s.2 ++ preA t)
  | .mk o m p ks, s => by
    rw [foldT, folds_atoms ks, preA_add]
    simp only [stepA, Tm.sz, List.append_assoc, Tm.kids]
    congr 1; omega
theorem folds_atoms : ∀ (ts : List Tm) (s : Nat × List Int), foldTs stepA s ts = (s.1 + szL ts, s.2 ++ preAs ts)
  | [], s => by simp [foldTs, szL, preAs]
  | t :: ts, s => by
    rw [foldTs, folds_atoms ts, fold_atoms t]
    simp only [preAs, szL, List.append_assoc]
    congr 1; omega
end
theorem addA_len {x : Tm} (h : good x = true) : (addA x).length ≤ 40 := by
  unfold addA
  split
  · simp
  · split
    · rw [good_eq, Bool.and_eq_true] at h
      rename_i h1 h4
      have h4' : x.op = 4 := by simpa using h4
      rcases shape_cases h.1 with h | h | h | h
      · omega
      · omega
      · omega
      · rw [src_len]; have h5 := h.2.2.1; simp only [permS, Bool.and_eq_true, decide_eq_true_eq] at h5; exact h5.1
    · simp
mutual
theorem preA_len : ∀ (t : Tm), good t = true → (preA t).length ≤ t.sz * 40
  | .mk o n p k, h => by
    have h1 := addA_len h
    rw [good_eq, Bool.and_eq_true] at h
    have h2 := preAs_len k h.2
    rw [preA_add, List.length_append]
    simp only [Tm.sz, Tm.kids]
    omega
theorem preAs_len : ∀ (ts : List Tm), goodL ts = true → (preAs ts).length ≤ szL ts * 40
  | [], _ => by simp [preAs, szL]
  | t :: ts, h => by
    simp only [goodL, Bool.and_eq_true] at h
    have := preA_len t h.1
    have := preAs_len ts h.2
    simp only [preAs, szL, List.length_append]
    omega
end
def atomsO (t : Tm) : List Int := if termT t = true then atomsL t else []
theorem atomsO_len (t : Tm) : (atomsO t).length ≤ 1000000 := by
  unfold atomsO
  split
  · rename_i h
    simp only [termT, Bool.and_eq_true, decide_eq_true_eq] at h
    rw [← atoms_eq h.1]
    have := ascL_len (preA t)
    have := preA_len t h.1
    omega
  · simp
end Go.Proofs.Ytbpbgmildhejoaa.Base
namespace Go.Proofs.Ytbpbgmildhejoaa.Cx
open Go.RowKit Base
set_option linter.unusedVariables false
set_option linter.unusedSimpArgs false
set_option maxRecDepth 100000
set_option maxHeartbeats 3200000
/-- What stands behind an append onto the list in the box, and the store. -/
theorem memL_put (b : Nat) (w W w4 : World) (s : Nat × List Int) (ys : List Int) (A A4 : Option Addr) (c c4 : Nat) (hBW : Below w.heap.size w W) (hlt : b < w.heap.size) (hown : OwI 3 W (b + 1) (.slice A s.2.length c) s.2) (ho4 : OwI 3 w4 (b + 1) (.slice A4 (s.2 ++ ys).length c4) (s.2 ++ ys)) (hg4 : W.grownBy w4 (Value.slice A s.2.length c).ownBlock)
    (hcell : w.cell? ⟨b, 0, none⟩ = some (.slice A s.2.length c)) (hfz : w.frozen? ⟨b, 0, none⟩ = false) (hat : (Value.slice A4 (s.2 ++ ys).length c4).ownBlock = (Value.slice A s.2.length c).ownBlock ∨ ∀ g, (Value.slice A4 (s.2 ++ ys).length c4).ownBlock = some g → w.heap.size ≤ g) (hlen : s.2.length ≤ s.1 * 41) (hy : ys.length ≤ 41) :
    w4.cell? ⟨b, 0, none⟩ = some (.slice A s.2.length c) ∧ w4.frozen? ⟨b, 0, none⟩ = false ∧ b < w4.heap.size ∧
      Off (b :: blk (.slice A s.2.length c)) w (w4.setCell ⟨b, 0, none⟩ (.slice A4 (s.2 ++ ys).length c4)) ∧ MemLSt 3 b (w4.setCell ⟨b, 0, none⟩ (.slice A4 (s.2 ++ ys).length c4)) (s.1 + 1, s.2 ++ ys) (b :: blk (.slice A4 (s.2 ++ ys).length c4)) ∧
      ∀ g ∈ b :: blk (.slice A4 (s.2 ++ ys).length c4), g ∈ b :: blk (.slice A s.2.length c) ∨ w.heap.size ≤ g := by
  have hbo : ∀ g ∈ blk (.slice A s.2.length c), b + 1 ≤ g := fun g hg => (owns_blk_lt hown g hg).1
  have hb4 : ∀ g ∈ blk (.slice A4 (s.2 ++ ys).length c4), b + 1 ≤ g := fun g hg => (owns_blk_lt ho4 g hg).1
  have hOg : Off (blk (.slice A s.2.length c)) W w4 := Off.grown (Off.refl _ _) hg4 (fun g hg => hg)
  have hrow : b ∉ blk (.slice A s.2.length c) := fun e => by have := hbo b e; omega
  have hbW : b < W.heap.size := Nat.lt_of_lt_of_le hlt hBW.size
  have k1 : w4.cell? ⟨b, 0, none⟩ = some (.slice A s.2.length c) := (offCell hOg (p := ⟨b, 0, none⟩) hbW hrow).trans (bCell hBW hcell)
  have k2 : w4.frozen? ⟨b, 0, none⟩ = false := (offFrozen hOg (p := ⟨b, 0, none⟩) hbW hrow).trans ((hBW.frozen (p := ⟨b, 0, none⟩) hlt).trans hfz)
  have k3 : b < w4.heap.size := Nat.lt_of_lt_of_le hbW hg4.size
  have hO4 : Off (b :: blk (.slice A s.2.length c)) w w4 := Off.grown (Off.of hBW) hg4 (fun g hg => List.mem_cons_of_mem _ hg)
  refine ⟨k1, k2, k3, hO4.setCell (by simp) _, ⟨A4, c4, rfl, by simp [go_sem, k1, k3], by simp [go_sem, k2], by simpa using k3, owns_same ho4 fun g hg => setCell_other _ _ _ _ _ (by have := hb4 g hg; omega), by simp; omega⟩, fun g hg => ?_⟩
  rcases List.mem_cons.1 hg with rfl | hg
  · exact .inl (by simp)
  · rcases hat with h5 | h5
    · exact .inl (List.mem_cons_of_mem _ (by rw [blk, h5] at hg; exact hg))
    · exact .inr (h5 g (by rw [blk, Option.mem_toList] at hg; exact hg))
theorem atomsStep (b : Nat) (x : Tm) (v : Value) (w0 w : World) (s : Nat × List Int) (F : List Nat) (hx : good x = true) (hv : VT w0 v x) (hb : Below w0.heap.size w0 w) (h : (MemL 3 b).St w s F) (hF : ∀ g ∈ F, w0.heap.size ≤ g) (hc : s.1 ≤ 100000) :
    Calls Try.prog 76 #[v, .pointer (some ⟨b, 0, none⟩)] w fun e w' => e = .returned (.tuple #[]) ∧ Off F w w' ∧ ∃ F', (MemL 3 b).St w' (stepA s x) F' ∧ ∀ g ∈ F', g ∈ F ∨ w.heap.size ≤ g := by
  have hkeep := (MemL 3 b).keep
  obtain ⟨vp, vk, rfl, hp, hk⟩ := hv
  obtain ⟨A1, c1, rfl⟩ := hp.slice
  obtain ⟨A2, c2, rfl⟩ := hk.slice
  have hpl := addA_len hx
  obtain ⟨A, c, rfl, hcell, hfz, hlt, hown, hlen⟩ := h
  have hne : b ≠ w.heap.size := by omega
  have HOW := Lib.hid hown
  have HLE := Lib.hid hlen
  have HPW := Lib.hid (show SlP w (.slice A1 x.perm.length c1) x.perm from hp.below KP.mono hb)
  have HB := Lib.hid hb
  clear hown hlen hp hk hb
  by_cases o13 : x.op = 1 ∨ x.op = 3
  · have hadd : addA x = [x.n] := by unfold addA; rcases o13 with h | h <;> simp [h]
    have hst : stepA s x = (s.1 + 1, s.2 ++ [x.n]) := by rw [stepA, hadd]
    rw [hst]
    rcases o13 with o | o
    all_goals
      first | have b1 : (x.op == 1) = true := by rw [o]; rfl
            | (have b1 : (x.op == 1) = false := by rw [o]; rfl
               have b3 : (x.op == 3) = true := by rw [o]; rfl)
      clear o hadd hst hpl
      go_enter Try.func76, Try.ntmps76
      go_wp2_with (at_builtin; refine Hid.out ?_)
      refine Lib.hid ?_
      obtain ⟨W, hW⟩ : ∃ W, W = (w.alloc (.cells #[.int .i64 x.op, .int .i64 x.n, .slice A1 x.perm.length c1, .slice A2 x.kids.length c2] 31)).alloc (.cells #[.int .i64 x.n] 3) := ⟨_, rfl⟩
      have hBW : Below w.heap.size w W := by rw [hW]; exact bl
      have hnew : W.heap[w.heap.size + 1]? = some (.cells #[.int .i64 x.n] 3 (0, 0)) := by
        rw [hW]
        have := heap_alloc_new (w.alloc (.cells #[.int .i64 x.op, .int .i64 x.n, .slice A1 x.perm.length c1, .slice A2 x.kids.length c2] 31)) (.cells #[.int .i64 x.n] 3)
        simpa using this
      have hsW : W.heap.size = w.heap.size + 2 := by rw [hW]; simp
      rw [← hW]
      have ho1 := OwI.keep HOW.out hBW
      refine wpList_app ty_ints (b + 1) _ _ _ ho1 (w.heap.size + 1) 1 [.int .i64 x.n] hnew rfl (by simp [Value.oneCell']) (by have := HLE.out; omega) (by have := HLE.out; omega) (by omega) (.tmp 8) (.tmp 11) rfl rfl rfl rfl ?_
      intro v' w4 ho4 hg4 hat
      have ho4' : OwI 3 w4 (b + 1) v' (s.2 ++ [x.n]) := by simpa [cI, OwI] using ho4
      obtain ⟨A4, c4, rfl⟩ := owns_slice ho4'
      obtain ⟨k1, k2, k3, R1, R2, R3⟩ := memL_put b w W w4 s [x.n] A A4 c c4 hBW hlt ho1 ho4' hg4 hcell hfz (by rcases hat with h | h; exact .inl h; exact .inr (fun g hg => by rw [h] at hg; simp at hg; omega)) HLE.out (by simp)
      have Q1 := Lib.hid R1
      have Q2 := Lib.hid R2
      have Q3 := Lib.hid R3
      clear hg4 hat ho4 ho4' hnew ho1 R1 R2 R3
      go_wp2
      go_end0
      rw [show s.2.length + 1 = (s.2 ++ [x.n]).length by simp]
      exact ⟨rfl, Q1.out, _, Q2.out, Q3.out⟩
  · have b1 : (x.op == 1) = false := by simp; exact fun h => o13 (.inl h)
    have b3 : (x.op == 3) = false := by simp; exact fun h => o13 (.inr h)
    by_cases o4 : x.op = 4
    · have hadd : addA x = srcL x.perm := by unfold addA; rw [b1, b3]; simp [o4]
      have hst : stepA s x = (s.1 + 1, s.2 ++ srcL x.perm) := by rw [stepA, hadd]
      rw [hst]
      have b4 : (x.op == 4) = true := by rw [o4]; rfl
      rw [hadd] at hpl
      clear o4 o13 hadd hst
      go_enter Try.func76, Try.ntmps76
      obtain ⟨W, hW⟩ : ∃ W, W = w.alloc (.cells #[.int .i64 x.op, .int .i64 x.n, .slice A1 x.perm.length c1, .slice A2 x.kids.length c2] 31) := ⟨_, rfl⟩
      go_wp2
      refine wp_region_plan ([([0, 1, 2], 3)], [], [4, 5]) (by kernel_rfl) (by kernel_rfl) ?_
      simp only [wpSegs, opsAt, consAt_some, List.getElem?_cons_succ, List.getElem?_cons_zero]
      repeat (go_big_quiet_step (fail))
      refine wpQuiet_nil ?_
      rw [← hW]
      have hBW : Below w.heap.size w W := by rw [hW]; exact bl
      have hsW : W.heap.size = w.heap.size + 1 := by rw [hW]; simp
      have hpW := Stp.mk hBW
      have HW := Lib.hid hW
      clear hW
      go_wp2_with fail
      refine (sources _ _ x.perm (HPW.out.below KP.mono bl)).mono ?_
      rintro e w1 ⟨r1, rfl, ho1, hb1⟩
      go_wp2_with fail
      refine nrm_mk ⟨hb1, ?_⟩
      obtain ⟨hc1, hf1⟩ := bcell hb1
      have hB1 : Below w.heap.size w w1 := bStep bl hb1
      have hp1 := Stp.mk hb1
      have hs1 := hb1.size
      try simp only [World.size_alloc, World.size_setCell, World.size_drew, World.heap_drewN] at hs1
      try simp only [World.size_drew, World.heap_drewN, World.cell?_drew, World.frozen?_drew, World.cell?_drewN, World.frozen?_drewN] at hc1 hf1
      have hz1_0 : w.heap.size < w1.heap.size := by omega
      repeat (go_big_quiet_step (fail))
      refine wpQuiet_nil ?_
      have hg1 := OwI.keep HOW.out hB1
      refine wpList_appI2 ty_ints (b + 1) _ _ hg1 _ _ (ho1.sl (by omega)) (owns_nz ho1) (by have := HLE.out; omega) (by omega) (.tmp 15) (.tmp 18) rfl rfl rfl rfl ?_
      intro v' w4 ho4 hg4 hat
      obtain ⟨A4, c4, rfl⟩ := owns_slice ho4
      obtain ⟨k1, k2, k3, R1, R2, R3⟩ := memL_put b w w1 w4 s (srcL x.perm) A A4 c c4 hB1 hlt hg1 ho4 hg4 hcell hfz (by rcases hat with h | h; exact .inl h; exact .inr (fun g hg => by rw [h] at hg; simp at hg; omega)) HLE.out (by omega)
      have Q1 := Lib.hid R1
      have Q2 := Lib.hid R2
      have Q3 := Lib.hid R3
      clear hg4 hat ho4 hg1 R1 R2 R3
      go_wp2
      refine nrm_mk ?_
      go_end0
      rw [show s.2.length + (srcL x.perm).length = (s.2 ++ srcL x.perm).length by simp]
      exact ⟨rfl, Q1.out, _, Q2.out, Q3.out⟩
    · have b4 : (x.op == 4) = false := by simpa using o4
      have hadd : addA x = [] := by unfold addA; rw [b1, b3, b4]; rfl
      have hst : stepA s x = (s.1 + 1, s.2) := by rw [stepA, hadd, List.append_nil]
      rw [hst]
      clear o13 o4 hadd hst hpl
      go_enter Try.func76, Try.ntmps76
      go_wp2
      go_end0
      refine ⟨rfl, Off.of bl, b :: blk (.slice A s.2.length c), hkeep w _ _ _ bl ⟨A, c, rfl, hcell, hfz, hlt, HOW.out, by have := HLE.out; simp only; omega⟩, fun g hg => .inl hg⟩
theorem implAtoms (w : World) (v : Value) (t : Tm) (h : VT w v t) (hb : t.bulk ≤ 1048576) : Calls Try.prog 36 #[v] w fun e w' => ∃ r, e = .returned r ∧ OwI 3 w' w.heap.size r (atomsO t) ∧ Below w.heap.size w w' := by
  obtain ⟨vp, vk, rfl, hp, hk⟩ := h
  obtain ⟨A1, c1, rfl⟩ := hp.slice
  obtain ⟨A2, c2, rfl⟩ := hk.slice
  cases hT : termT t
  · go_enter Try.func36, Try.ntmps36
    go_wp2_with fail
    refine (implIsTerm t _ _ ⟨_, _, rfl, hp.below KP.mono bl, hk.below KT.mono bl⟩).mono ?_
    rintro e w1 ⟨rfl, hb1⟩
    obtain ⟨hc1, hf1⟩ := bcell hb1
    have hB1 : Below w.heap.size w w1 := bStep bl hb1
    have hp1 := Stp.mk hb1
    have hs1 := hb1.size
    try simp only [World.size_alloc, World.size_setCell, World.size_drew, World.heap_drewN] at hs1
    try simp only [World.size_drew, World.heap_drewN, World.cell?_drew, World.frozen?_drew, World.cell?_drewN, World.frozen?_drewN] at hc1 hf1
    have hz1_0 : w.heap.size < w1.heap.size := by omega
    go_wp2
    go_ret
    exact ⟨_, rfl, own_castI (xs := []) (World.ownsRow_nil _ _ _ _) (by simp [atomsO, hT]), bl⟩
  · have hz : good t = true ∧ t.sz ≤ 60 := by simpa [termT] using hT
    have hlen := preA_len t hz.1
    have HLE := Lib.hid (show (preA t).length ≤ 2400 by omega)
    have HAE := Lib.hid (show atomsO t = ascL (preA t) by rw [atoms_eq hz.1]; simp [atomsO, hT])
    clear hlen
    go_enter Try.func36, Try.ntmps36
    go_wp2_with fail
    refine (implIsTerm t _ _ ⟨_, _, rfl, hp.below KP.mono bl, hk.below KT.mono bl⟩).mono ?_
    rintro e w1 ⟨rfl, hb1⟩
    obtain ⟨hc1, hf1⟩ := bcell hb1
    have hB1 : Below w.heap.size w w1 := bStep bl hb1
    have hp1 := Stp.mk hb1
    have hs1 := hb1.size
    try simp only [World.size_alloc, World.size_setCell, World.size_drew, World.heap_drewN] at hs1
    try simp only [World.size_drew, World.heap_drewN, World.cell?_drew, World.frozen?_drew, World.cell?_drewN, World.frozen?_drewN] at hc1 hf1
    have hz1_0 : w.heap.size < w1.heap.size := by omega
    go_wp2_with fail
    refine (eachAtoms (MemL 3 w1.heap.size) Prod.fst stepA w1.heap.size (fun _ _ => rfl) (fun x v w0 w s F a b c d e f => atomsStep _ x v w0 w s F a b c d e f) t.sz t _ w _ (0, []) [w1.heap.size] (Nat.le_refl _) hz.1 ⟨_, _, rfl, hp, hk⟩ bl ⟨none, 0, by simp [blk, Value.ownBlock], by simp [go_sem], by simp [go_sem], by simp, World.ownsRow_nil _ _ _ _, by simp⟩ (by simp; omega) (by simp only; omega)).mono ?_
    rintro e w2 ⟨rfl, ho2, F2, hst2, hn2⟩
    have hB2 : Below w.heap.size w w2 := Below.trans bl (ho2.below (by simp; omega) (by simp; omega))
    rw [fold_atoms] at hst2
    obtain ⟨A, c, rfl, hcell, hfz, hlt, hown, _⟩ := hst2
    simp only [List.nil_append] at hcell hown
    have hs2 := hB2.size
    have hkl := KL_one w2 43 _ _ (hown.sl (by have := HLE.out; omega)) (owns_nz hown)
    have HKL := Lib.hid hkl
    clear hkl hn2 ho2 hown
    go_wp2_with fail
    refine (ascending _ _ _ HKL.out (by simp [cat]; have := HLE.out; omega)).mono ?_
    rintro e w3 ⟨r3, rfl, ho3, hb3⟩
    obtain ⟨hc3, hf3⟩ := bcell hb3
    have hB3 : Below w.heap.size w w3 := bStep bl hb3
    have hp3 := Stp.mk hb3
    have hs3 := hb3.size
    try simp only [World.size_alloc, World.size_setCell, World.size_drew, World.heap_drewN] at hs3
    try simp only [World.size_drew, World.heap_drewN, World.cell?_drew, World.frozen?_drew, World.cell?_drewN, World.frozen?_drewN] at hc3 hf3
    go_wp2
    go_ret
    exact ⟨_, rfl, owns_lower (own_castI ho3 (by rw [HAE.out]; simp [cat])) (show Below w.heap.size w _ from bl).size, bl⟩
theorem specAtoms (w : World) (v : Value) (t : Tm) (h : VT w v t) (hb : t.bulk ≤ 1048576) : Calls Try.prog 35 #[v] w fun e w' => ∃ r, e = .returned r ∧ OwI 3 w' w.heap.size r (atomsO t) ∧ Below w.heap.size w w' := by
  obtain ⟨vp, vk, rfl, hp, hk⟩ := h
  obtain ⟨A1, c1, rfl⟩ := hp.slice
  obtain ⟨A2, c2, rfl⟩ := hk.slice
  cases hT : termT t
  · go_enter Try.func35, Try.ntmps35
    go_wp2_with fail
    refine (specIsTerm t _ _ ⟨_, _, rfl, hp.below KP.mono bl, hk.below KT.mono bl⟩ hb).mono ?_
    rintro e w1 ⟨rfl, hb1⟩
    obtain ⟨hc1, hf1⟩ := bcell hb1
    have hB1 : Below w.heap.size w w1 := bStep bl hb1
    have hp1 := Stp.mk hb1
    have hs1 := hb1.size
    try simp only [World.size_alloc, World.size_setCell, World.size_drew, World.heap_drewN] at hs1
    try simp only [World.size_drew, World.heap_drewN, World.cell?_drew, World.frozen?_drew, World.cell?_drewN, World.frozen?_drewN] at hc1 hf1
    have hz1_0 : w.heap.size < w1.heap.size := by omega
    go_wp2
    go_ret
    exact ⟨_, rfl, own_castI (ownsI_empty _ _ _ _ (show Below w.heap.size w w1 from bl).size (heap_alloc_new w1 _)) (by simp [atomsO, hT]), bl⟩
  · have hz : good t = true ∧ t.sz ≤ 60 := by simpa [termT] using hT
    have HT := Lib.hid hT
    go_enter Try.func35, Try.ntmps35
    go_wp2_with fail
    refine (specIsTerm t _ _ ⟨_, _, rfl, hp.below KP.mono bl, hk.below KT.mono bl⟩ hb).mono ?_
    rintro e w1 ⟨rfl, hb1⟩
    obtain ⟨hc1, hf1⟩ := bcell hb1
    have hB1 : Below w.heap.size w w1 := bStep bl hb1
    have hp1 := Stp.mk hb1
    have hs1 := hb1.size
    try simp only [World.size_alloc, World.size_setCell, World.size_drew, World.heap_drewN] at hs1
    try simp only [World.size_drew, World.heap_drewN, World.cell?_drew, World.frozen?_drew, World.cell?_drewN, World.frozen?_drewN] at hc1 hf1
    have hz1_0 : w.heap.size < w1.heap.size := by omega
    go_wp2_with fail
    refine (l2Atoms t.sz t _ _ (Nat.le_refl _) ⟨_, _, rfl, hp.below KP.mono bl, hk.below KT.mono bl⟩ hz.1 hb).mono ?_
    rintro e w2 ⟨r2, rfl, ho2, hb2⟩
    obtain ⟨hc2, hf2⟩ := bcell hb2
    have hB2 : Below w.heap.size w w2 := bStep bl hb2
    have hp2 := Stp.mk hb2
    have hs2 := hb2.size
    try simp only [World.size_alloc, World.size_setCell, World.size_drew, World.heap_drewN] at hs2
    try simp only [World.size_drew, World.heap_drewN, World.cell?_drew, World.frozen?_drew, World.cell?_drewN, World.frozen?_drewN] at hc2 hf2
    have hz2_0 : w.heap.size < w2.heap.size := by omega
    go_wp2
    go_ret
    exact ⟨_, rfl, owns_lower (own_castI ho2 (by simp [atomsO, HT.out])) (show Below w.heap.size w _ from bl).size, bl⟩
end Go.Proofs.Ytbpbgmildhejoaa.Cx
