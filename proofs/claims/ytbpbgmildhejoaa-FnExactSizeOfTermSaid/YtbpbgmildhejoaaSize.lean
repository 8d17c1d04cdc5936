/- Contracts: how great a term is, the functions that stand open, both ways. -/
import Derived.Test.YtbpbgmildhejoaaEach
namespace Go.Proofs.Ytbpbgmildhejoaa.Base
open Go.RowKit
/-- A count in a box. -/
def MemN (b : Nat) : Mem Nat where
  St w n F := F = [b] ∧ w.cell? ⟨b, 0, none⟩ = some (.int .i64 (n : Int)) ∧ w.frozen? ⟨b, 0, none⟩ = false ∧ b < w.heap.size
  keep w w1 s F hb h := ⟨h.1, bCell hb h.2.1, (hb.frozen (p := ⟨b, 0, none⟩) h.2.2.2).trans h.2.2.1, Nat.lt_of_lt_of_le h.2.2.2 hb.size⟩
  lt w s F h g hg := by obtain ⟨rfl, _, _, h4⟩ := h; simp at hg; omega
mutual
theorem fold_size : ∀ (t : Tm) (n : Nat), foldT (fun n _ => n + 1) n t = n + t.sz
  | .mk o m p ks, n => by rw [foldT, folds_size ks]; simp only [Tm.sz]; omega
theorem folds_size : ∀ (ts : List Tm) (n : Nat), foldTs (fun n _ => n + 1) n ts = n + szL ts
  | [], n => by simp [foldTs, szL]
  | t :: ts, n => by rw [foldTs, folds_size ts, fold_size t]; simp only [szL]; omega
end
def sizeO (t : Tm) : Int := if termT t = true then (t.sz : Int) else -1
theorem term_good {t : Tm} (h : termT t = true) : good t = true ∧ t.sz ≤ 60 := by simpa [termT] using h
end Go.Proofs.Ytbpbgmildhejoaa.Base
namespace Go.Proofs.Ytbpbgmildhejoaa.Cx
open Go.RowKit Base
set_option linter.unusedVariables false
set_option linter.unusedSimpArgs false
set_option maxRecDepth 100000
set_option maxHeartbeats 3200000
theorem sizeStep (b : Nat) (x : Tm) (v : Value) (w0 w : World) (s : Nat) (F : List Nat) (hx : good x = true) (hv : VT w0 v x) (hb : Below w0.heap.size w0 w) (h : (MemN b).St w s F) (hF : ∀ g ∈ F, w0.heap.size ≤ g) (hc : s ≤ 100000) :
    Calls Try.prog 60 #[v, .pointer (some ⟨b, 0, none⟩)] w fun e w' => e = .returned (.tuple #[]) ∧ Off F w w' ∧ ∃ F', (MemN b).St w' (s + 1) F' ∧ ∀ g ∈ F', g ∈ F ∨ w.heap.size ≤ g := by
  obtain ⟨vp, vk, rfl, hp, hk⟩ := hv
  obtain ⟨A1, c1, rfl⟩ := hp.slice
  obtain ⟨A2, c2, rfl⟩ := hk.slice
  obtain ⟨rfl, hcell, hfz, hlt⟩ := h
  have hne : b ≠ w.heap.size := by omega
  go_enter Try.func60, Try.ntmps60
  go_wp2
  go_end0
  exact ⟨rfl, ((Off.refl _ _).setCell (by simp) _).trans (Off.of (bAlloc (Below.refl _ _) _)), [b], ⟨rfl, by simp [go_sem, hcell, hlt], (frozen_kept_alloc (by simpa using hlt)).trans (by simp [go_sem, hfz]), by simp; omega⟩, fun g hg => .inl hg⟩
theorem specSize (w : World) (v : Value) (t : Tm) (h : VT w v t) (hb : t.bulk ≤ 1048576) : Calls Try.prog 18 #[v] w fun e w' => e = .returned (.int .i64 (sizeO t)) ∧ Below w.heap.size w w' := by
  obtain ⟨vp, vk, rfl, hp, hk⟩ := h
  obtain ⟨A1, c1, rfl⟩ := hp.slice
  obtain ⟨A2, c2, rfl⟩ := hk.slice
  cases hT : termT t
  · go_enter Try.func18, Try.ntmps18
    go_wp2_with fail
    refine (specIsTerm t _ _ ⟨_, _, rfl, hp.below KP.mono bl, hk.below KT.mono bl⟩ hb).mono ?_
    rintro e w1 ⟨rfl, hb1⟩
    obtain ⟨hc1, hf1⟩ := bcell hb1
    have hB1 : Below w.heap.size w w1 := bStep bl hb1
    have hp1 := Stp.mk hb1
    have hs1 := hb1.size
    try simp only [World.size_alloc, World.size_setCell, World.size_drew, World.heap_drewN] at hs1
    try simp only [World.size_drew, World.heap_drewN, World.cell?_drew, World.frozen?_drew, World.cell?_drewN, World.frozen?_drewN] at hc1 hf1
    have hz1_0 : w.heap.size < w1.heap.size := by omega
    go_wp2
    go_ret
    exact ⟨ret_int (by simp [sizeO, hT]), bl⟩
  · have hz := term_good hT
    go_enter Try.func18, Try.ntmps18
    go_wp2_with fail
    refine (specIsTerm t _ _ ⟨_, _, rfl, hp.below KP.mono bl, hk.below KT.mono bl⟩ hb).mono ?_
    rintro e w1 ⟨rfl, hb1⟩
    obtain ⟨hc1, hf1⟩ := bcell hb1
    have hB1 : Below w.heap.size w w1 := bStep bl hb1
    have hp1 := Stp.mk hb1
    have hs1 := hb1.size
    try simp only [World.size_alloc, World.size_setCell, World.size_drew, World.heap_drewN] at hs1
    try simp only [World.size_drew, World.heap_drewN, World.cell?_drew, World.frozen?_drew, World.cell?_drewN, World.frozen?_drewN] at hc1 hf1
    have hz1_0 : w.heap.size < w1.heap.size := by omega
    go_wp2_with fail
    refine (l2Size t.sz t _ _ (Nat.le_refl _) ⟨_, _, rfl, hp.below KP.mono bl, hk.below KT.mono bl⟩ (by omega)).mono ?_
    rintro e w2 ⟨rfl, hb2⟩
    obtain ⟨hc2, hf2⟩ := bcell hb2
    have hB2 : Below w.heap.size w w2 := bStep bl hb2
    have hp2 := Stp.mk hb2
    have hs2 := hb2.size
    try simp only [World.size_alloc, World.size_setCell, World.size_drew, World.heap_drewN] at hs2
    try simp only [World.size_drew, World.heap_drewN, World.cell?_drew, World.frozen?_drew, World.cell?_drewN, World.frozen?_drewN] at hc2 hf2
    have hz2_0 : w.heap.size < w2.heap.size := by omega
    go_wp2
    go_ret
    exact ⟨ret_int (by simp [sizeO, hT]), bl⟩
theorem implSize (w : World) (v : Value) (t : Tm) (h : VT w v t) (hb : t.bulk ≤ 1048576) : Calls Try.prog 19 #[v] w fun e w' => e = .returned (.int .i64 (sizeO t)) ∧ Below w.heap.size w w' := by
  obtain ⟨vp, vk, rfl, hp, hk⟩ := h
  obtain ⟨A1, c1, rfl⟩ := hp.slice
  obtain ⟨A2, c2, rfl⟩ := hk.slice
  cases hT : termT t
  · go_enter Try.func19, Try.ntmps19
    go_wp2_with fail
    refine (implIsTerm t _ _ ⟨_, _, rfl, hp.below KP.mono bl, hk.below KT.mono bl⟩).mono ?_
    rintro e w1 ⟨rfl, hb1⟩
    obtain ⟨hc1, hf1⟩ := bcell hb1
    have hB1 : Below w.heap.size w w1 := bStep bl hb1
    have hp1 := Stp.mk hb1
    have hs1 := hb1.size
    try simp only [World.size_alloc, World.size_setCell, World.size_drew, World.heap_drewN] at hs1
    try simp only [World.size_drew, World.heap_drewN, World.cell?_drew, World.frozen?_drew, World.cell?_drewN, World.frozen?_drewN] at hc1 hf1
    have hz1_0 : w.heap.size < w1.heap.size := by omega
    go_wp2
    go_ret
    exact ⟨ret_int (by simp [sizeO, hT]), bl⟩
  · have hz := term_good hT
    go_enter Try.func19, Try.ntmps19
    go_wp2_with fail
    refine (implIsTerm t _ _ ⟨_, _, rfl, hp.below KP.mono bl, hk.below KT.mono bl⟩).mono ?_
    rintro e w1 ⟨rfl, hb1⟩
    obtain ⟨hc1, hf1⟩ := bcell hb1
    have hB1 : Below w.heap.size w w1 := bStep bl hb1
    have hp1 := Stp.mk hb1
    have hs1 := hb1.size
    try simp only [World.size_alloc, World.size_setCell, World.size_drew, World.heap_drewN] at hs1
    try simp only [World.size_drew, World.heap_drewN, World.cell?_drew, World.frozen?_drew, World.cell?_drewN, World.frozen?_drewN] at hc1 hf1
    have hz1_0 : w.heap.size < w1.heap.size := by omega
    go_wp2_with fail
    refine (eachSize (MemN w1.heap.size) id (fun n _ => n + 1) w1.heap.size (fun _ _ => rfl) (fun x v w0 w s F a b c d e f => sizeStep w1.heap.size x v w0 w s F a b c d e f) t.sz t _ w _ 0 [w1.heap.size] (Nat.le_refl _) hz.1 ⟨_, _, rfl, hp, hk⟩ bl ⟨rfl, by simp [go_sem], by simp [go_sem], by simp⟩ (by simp; omega) (by simp only [id]; omega)).mono ?_
    rintro e w2 ⟨rfl, ho2, F2, hst2, hn2⟩
    obtain ⟨rfl, hcell, hfz, hlt⟩ := hst2
    rw [fold_size, Nat.zero_add] at hcell
    have hB2 : Below w.heap.size w w2 := Below.trans bl (ho2.below (by simp; omega) (by simp; omega))
    go_wp2
    go_ret
    exact ⟨ret_int (by simp [sizeO, hT]), hB2⟩
end Go.Proofs.Ytbpbgmildhejoaa.Cx
