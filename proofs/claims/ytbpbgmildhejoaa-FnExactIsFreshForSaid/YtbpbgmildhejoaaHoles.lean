/- Contracts: the holes of a term, as they come and in order, the program's way. -/
import Derived.Test.YtbpbgmildhejoaaEach
import Derived.Test.YtbpbgmildhejoaaAscend
namespace Go.Proofs.Ytbpbgmildhejoaa.Base
open Go.RowKit
theorem offFrozen {F : List Nat} {w w' : World} (h : Off F w w') {p : Addr} (hp : p.block < w.heap.size) (hn : p.block ∉ F) : w'.frozen? p = w.frozen? p := World.frozen?_of_block (w := w) (h.block p.block hp hn)
theorem Off.grown {F : List Nat} {a w w1 : World} {v : Value} (h : Off F a w) (hg : w.grownBy w1 v.ownBlock) (hv : ∀ g ∈ blk v, g ∈ F) : Off F a w1 :=
  h.trans ⟨hg.os, hg.tape, hg.output, hg.size, fun g hlt hn => hg.block g hlt (fun e => hn (hv g (by simp [blk, ← e])))⟩
/-- A list of numbers of one's own, its slice in a box. -/
def MemLSt (E : TypeId) (b : Nat) (w : World) (s : Nat × List Int) (F : List Nat) : Prop :=
  ∃ A c, F = b :: blk (.slice A s.2.length c) ∧ w.cell? ⟨b, 0, none⟩ = some (.slice A s.2.length c) ∧ w.frozen? ⟨b, 0, none⟩ = false ∧ b < w.heap.size ∧ OwI E w (b + 1) (.slice A s.2.length c) s.2 ∧ s.2.length ≤ s.1 * 41
def MemL (E : TypeId) (b : Nat) : Mem (Nat × List Int) where
  St := MemLSt E b
  keep w w1 s F hb h := by
    obtain ⟨A, c, h1, h2, h3, h4, h5, h6⟩ := h
    exact ⟨A, c, h1, bCell hb h2, (hb.frozen (p := ⟨b, 0, none⟩) h4).trans h3, Nat.lt_of_lt_of_le h4 hb.size, OwI.keep h5 hb, h6⟩
  lt w s F h g hg := by
    obtain ⟨A, c, rfl, h2, h3, h4, h5, h6⟩ := h
    rcases List.mem_cons.1 hg with rfl | hg
    · exact h4
    · exact (owns_blk_lt h5 g hg).2
theorem KL_one (W : World) (E : TypeId) (r1 : Value) (xs : List Int) (h1 : SlI W r1 xs) (n1 : Nz r1) :
    Sl KL 1 (W.alloc (.cells #[r1] E)) (.slice (some ⟨W.heap.size, 0, none⟩) 1 1) [(r1, xs)] := by
  have hb : Below W.heap.size W (W.alloc (.cells #[r1] E)) := bAlloc (Below.refl _ _) _
  refine ⟨some ⟨W.heap.size, 0, none⟩, 1, rfl, Nat.le_refl _, by simp, fun j hj => ?_⟩
  obtain rfl : j = 0 := by simpa using hj
  refine ⟨⟨W.heap.size, 0, none⟩, [r1], rfl, ⟨rfl, h1.below KI.mono hb, n1⟩, fun i u hu => ?_⟩
  match i, hu with
  | 0, hu => simp at hu; subst hu; simp [Addr.add]
def stepH (s : Nat × List Int) (x : Tm) : Nat × List Int := (s.1 + 1, s.2 ++ (if x.op == 4 then [x.n] else []))
mutual
theorem fold_holes : ∀ (t : Tm) (s : Nat × List Int), foldT stepH s t = (s.1 + t.sz, s.2 ++ preH t)
  | .mk o m p ks, s => by
    rw [foldT, folds_holes ks]
    simp only [stepH, preH, Tm.sz, List.append_assoc]
    congr 1; omega
theorem folds_holes : ∀ (ts : List Tm) (s : Nat × List Int), foldTs stepH s ts = (s.1 + szL ts, s.2 ++ preHs ts)
  | [], s => by simp [foldTs, szL, preHs]
  | t :: ts, s => by
    rw [foldTs, folds_holes ts, fold_holes t]
    simp only [preHs, szL, List.append_assoc]
    congr 1; omega
end
theorem preH_len (t : Tm) : (preH t).length ≤ t.sz * 41 ∧ ∀ ts : List Tm, (preHs ts).length ≤ szL ts * 41 := by
  have key : ∀ N, (∀ t : Tm, t.sz ≤ N → (preH t).length ≤ t.sz) ∧ (∀ ts : List Tm, szL ts ≤ N → (preHs ts).length ≤ szL ts) := by
    intro N
    induction N with
    | zero =>
      refine ⟨fun t h => by have := t.sz_pos; omega, fun ts h => ?_⟩
      cases ts with
      | nil => simp [preHs]
      | cons t ts => have := t.sz_pos; simp [szL] at h; omega
    | succ N ih =>
      have h1 : ∀ t : Tm, t.sz ≤ N + 1 → (preH t).length ≤ t.sz := fun t h => by
        cases t with
        | mk o n p k =>
          simp only [Tm.sz] at h ⊢
          have := ih.2 k (by omega)
          simp only [preH, List.length_append]
          split <;> simp <;> omega
      refine ⟨h1, fun ts => ?_⟩
      induction ts with
      | nil => intro _; simp [preHs]
      | cons t ts ih2 =>
        intro h
        simp only [szL] at h
        have h2 := h1 t (by omega)
        have h3 := ih2 (by omega)
        simp only [preHs, List.length_append, szL]
        omega
  exact ⟨Nat.le_trans ((key t.sz).1 t (Nat.le_refl _)) (by omega), fun ts => Nat.le_trans ((key (szL ts)).2 ts (Nat.le_refl _)) (by omega)⟩
def holesO (t : Tm) : List Int := if termT t = true then holesL t else []
end Go.Proofs.Ytbpbgmildhejoaa.Base
namespace Go.Proofs.Ytbpbgmildhejoaa.Cx
open Go.RowKit Base
set_option linter.unusedVariables false
set_option linter.unusedSimpArgs false
set_option maxRecDepth 100000
set_option maxHeartbeats 3200000
theorem holesStep (b : Nat) (x : Tm) (v : Value) (w0 w : World) (s : Nat × List Int) (F : List Nat) (hx : good x = true) (hv : VT w0 v x) (hb : Below w0.heap.size w0 w) (h : (MemL 3 b).St w s F) (hF : ∀ g ∈ F, w0.heap.size ≤ g) (hc : s.1 ≤ 100000) :
    Calls Try.prog 94 #[v, .pointer (some ⟨b, 0, none⟩)] w fun e w' => e = .returned (.tuple #[]) ∧ Off F w w' ∧ ∃ F', (MemL 3 b).St w' (stepH s x) F' ∧ ∀ g ∈ F', g ∈ F ∨ w.heap.size ≤ g := by
  have hkeep := (MemL 3 b).keep
  obtain ⟨vp, vk, rfl, hp, hk⟩ := hv
  obtain ⟨A1, c1, rfl⟩ := hp.slice
  obtain ⟨A2, c2, rfl⟩ := hk.slice
  have HM := Lib.hid h
  obtain ⟨A, c, rfl, hcell, hfz, hlt, hown, hlen⟩ := h
  have hne : b ≠ w.heap.size := by omega
  have HOW := Lib.hid hown
  have HLE := Lib.hid hlen
  clear hown hlen
  by_cases h4 : x.op = 4
  · have hst : stepH s x = (s.1 + 1, s.2 ++ [x.n]) := by simp [stepH, h4]
    have HS := Lib.hid hst
    clear hst
    go_enter Try.func94, Try.ntmps94
    go_wp2_with (at_builtin; refine Hid.out ?_)
    refine Lib.hid ?_
    obtain ⟨W, hW⟩ : ∃ W, W = (w.alloc (.cells #[.int .i64 4, .int .i64 x.n, .slice A1 x.perm.length c1, .slice A2 x.kids.length c2] 31)).alloc (.cells #[.int .i64 x.n] 3) := ⟨_, rfl⟩
    have hBW : Below w.heap.size w W := by rw [hW]; exact bl
    have hnew : W.heap[w.heap.size + 1]? = some (.cells #[.int .i64 x.n] 3 (0, 0)) := by
      rw [hW]
      have := heap_alloc_new (w.alloc (.cells #[.int .i64 4, .int .i64 x.n, .slice A1 x.perm.length c1, .slice A2 x.kids.length c2] 31)) (.cells #[.int .i64 x.n] 3)
      simpa using this
    have hsW : W.heap.size = w.heap.size + 2 := by rw [hW]; simp
    rw [← hW]
    have ho1 := OwI.keep HOW.out hBW
    refine wpList_app ty_ints (b + 1) _ _ _ ho1 (w.heap.size + 1) 1 [.int .i64 x.n] hnew rfl (by simp [Value.oneCell']) (by have := HLE.out; omega) (by have := HLE.out; omega) (by omega) (.tmp 6) (.tmp 9) rfl rfl rfl rfl ?_
    intro v' w4 ho4 hg4 hat
    obtain ⟨A4, c4, rfl⟩ := owns_slice ho4
    have hbo : ∀ g ∈ blk (.slice A s.2.length c), b + 1 ≤ g := fun g hg => (owns_blk_lt ho1 g hg).1
    have hOg : Off (blk (.slice A s.2.length c)) W w4 := Off.grown (Off.refl _ _) hg4 (fun g hg => hg)
    have hrow : b ∉ blk (.slice A s.2.length c) := fun e => by have := hbo b e; omega
    have hbW : b < W.heap.size := by omega
    have k1 : w4.cell? ⟨b, 0, none⟩ = some (.slice A s.2.length c) := (offCell hOg (p := ⟨b, 0, none⟩) hbW hrow).trans (bCell hBW hcell)
    have k2 : w4.frozen? ⟨b, 0, none⟩ = false := (offFrozen hOg (p := ⟨b, 0, none⟩) hbW hrow).trans ((hBW.frozen (p := ⟨b, 0, none⟩) hlt).trans hfz)
    have k3 : b < w4.heap.size := Nat.lt_of_lt_of_le hbW hg4.size
    have hO4 : Off (b :: blk (.slice A s.2.length c)) w w4 := Off.grown (Off.of hBW) hg4 (fun g hg => List.mem_cons_of_mem _ hg)
    have hO5 : Hid (OwI 3 w4 (b + 1) (.slice A4 (s.2 ++ [x.n]).length c4) (s.2 ++ [x.n])) := by unfold Hid; simpa [cI, OwI] using ho4
    have hF5 : Hid (∀ g ∈ blk (.slice A4 (s.2.length + 1) c4), g ∈ blk (.slice A s.2.length c) ∨ w.heap.size ≤ g) := fun g hg => by
      rcases hat with h5 | h5
      · exact .inl (by simpa [blk, h5] using hg)
      · right
        have : g = W.heap.size := by simpa [blk, h5] using hg
        omega
    have HO4 := Lib.hid hO4
    clear hg4 hat ho4 hO4 hnew ho1 hOg
    go_wp2
    go_end0
    have ho5 := hO5.out
    have hb5 : ∀ g ∈ blk (.slice A4 (s.2.length + 1) c4), b + 1 ≤ g := fun g hg => by
      have := owns_blk_lt ho5 g (by simpa using hg)
      exact this.1
    refine ⟨rfl, HO4.out.setCell (by simp) _, b :: blk (.slice A4 (s.2.length + 1) c4), ?_, fun g hg => ?_⟩
    · rw [HS.out]
      refine ⟨A4, c4, by simp, by simp [go_sem, k1, k3], by simp [go_sem, k2], by simpa using k3, owns_same ho5 fun g hg => setCell_other _ _ _ _ _ (by have := hb5 g (by simpa using hg); omega), by have := HLE.out; simp; omega⟩
    · rcases List.mem_cons.1 hg with rfl | hg
      · exact .inl (by simp)
      · rcases hF5.out g hg with h | h
        · exact .inl (List.mem_cons_of_mem _ h)
        · exact .inr h
  · have hst : stepH s x = (s.1 + 1, s.2) := by simp [stepH, h4]
    rw [hst]
    go_enter Try.func94, Try.ntmps94
    go_wp2
    go_end0
    refine ⟨rfl, Off.of bl, b :: blk (.slice A s.2.length c), hkeep w _ _ _ bl ⟨A, c, rfl, hcell, hfz, hlt, HOW.out, by have := HLE.out; simp only; omega⟩, fun g hg => .inl hg⟩
end Go.Proofs.Ytbpbgmildhejoaa.Cx
