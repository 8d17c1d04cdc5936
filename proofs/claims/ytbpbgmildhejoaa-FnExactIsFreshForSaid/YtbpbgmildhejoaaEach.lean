/- Contracts: going through a term with a function that remembers. -/
import Derived.Test.YtbpbgmildhejoaaRight
import Derived.Test.YtbpbgmildhejoaaApp
namespace Go.Proofs.Ytbpbgmildhejoaa.Base
open Go.RowKit
mutual
def foldT {σ : Type} (step : σ → Tm → σ) : σ → Tm → σ | s, .mk o n p ks => foldTs step (step s (.mk o n p ks)) ks
def foldTs {σ : Type} (step : σ → Tm → σ) : σ → List Tm → σ | s, [] => s | s, t :: ts => foldTs step (foldT step s t) ts
end
theorem foldT_eq {σ : Type} (step : σ → Tm → σ) (s : σ) (t : Tm) : foldT step s t = foldTs step (step s t) t.kids := by cases t; rw [foldT]; rfl
theorem foldTs_snoc {σ : Type} (step : σ → Tm → σ) : ∀ (ts : List Tm) (s : σ) (k : Nat) (h : k < ts.length), foldTs step s (ts.take (k + 1)) = foldT step (foldTs step s (ts.take k)) ts[k]
  | [], s, k, h => by simp at h
  | t :: ts, s, 0, _ => by simp [foldTs]
  | t :: ts, s, k + 1, h => by
    have := foldTs_snoc step ts (foldT step s t) k (by simpa using h)
    simpa [foldTs] using this
mutual
theorem foldT_cnt {σ : Type} (step : σ → Tm → σ) (cnt : σ → Nat) (h : ∀ s x, cnt (step s x) = cnt s + 1) : ∀ (t : Tm) (s : σ), cnt (foldT step s t) = cnt s + t.sz
  | .mk o n p ks, s => by rw [foldT, foldTs_cnt step cnt h ks, h]; simp only [Tm.sz]; omega
theorem foldTs_cnt {σ : Type} (step : σ → Tm → σ) (cnt : σ → Nat) (h : ∀ s x, cnt (step s x) = cnt s + 1) : ∀ (ts : List Tm) (s : σ), cnt (foldTs step s ts) = cnt s + szL ts
  | [], s => by simp [foldTs, szL]
  | t :: ts, s => by rw [foldTs, foldTs_cnt step cnt h ts, foldT_cnt step cnt h t]; simp only [szL]; omega
end
theorem offCell {F : List Nat} {w w' : World} (h : Off F w w') {p : Addr} (hp : p.block < w.heap.size) (hn : p.block ∉ F) : w'.cell? p = w.cell? p := World.cell?_of_block (w := w) (h.block p.block hp hn)
/-- All old blocks but some stand, and what the state lies in then is of these or new. -/
structure Mem (σ : Type) where
  St : World → σ → List Nat → Prop
  keep : ∀ w w1 s F, Below w.heap.size w w1 → St w s F → St w1 s F
  lt : ∀ w s F, St w s F → ∀ g ∈ F, g < w.heap.size
theorem Off.fresh {F F1 : List Nat} {w w1 w2 : World} (h : Off F w w1) (k : Off F1 w1 w2) (hF : ∀ g ∈ F1, g ∈ F ∨ w.heap.size ≤ g) : Off F w w2 :=
  ⟨k.os.trans h.os, k.tape.trans h.tape, k.output.trans h.output, Nat.le_trans h.size k.size, fun g hg hn => (k.block g (Nat.lt_of_lt_of_le hg h.size) (fun h' => by rcases hF g h' with h2 | h2; exact hn h2; omega)).trans (h.block g hg hn)⟩
theorem fresh_trans {F F1 F2 : List Nat} {w w1 : World} (h1 : ∀ g ∈ F1, g ∈ F ∨ w.heap.size ≤ g) (h2 : ∀ g ∈ F2, g ∈ F1 ∨ w1.heap.size ≤ g) (hs : w.heap.size ≤ w1.heap.size) : ∀ g ∈ F2, g ∈ F ∨ w.heap.size ≤ g := fun g hg => by
  rcases h2 g hg with h | h
  · exact h1 g h
  · exact .inr (by omega)
end Go.Proofs.Ytbpbgmildhejoaa.Base
namespace Go.Proofs.Ytbpbgmildhejoaa.Cx
open Go.RowKit Base
set_option linter.unusedVariables false
set_option linter.unusedSimpArgs false
set_option maxRecDepth 100000
set_option maxHeartbeats 6400000
attribute [local go_sem] cell_alloc_some in
theorem eachSize {σ : Type} (M : Mem σ) (cnt : σ → Nat) (step : σ → Tm → σ) (b : Nat) (hcnt : ∀ s x, cnt (step s x) = cnt s + 1)
    (hf : ∀ (x : Tm) (v : Value) (w0 w : World) (s : σ) (F : List Nat), good x = true → VT w0 v x → Below w0.heap.size w0 w → M.St w s F → (∀ g ∈ F, w0.heap.size ≤ g) → cnt s ≤ 100000 →
      Calls Try.prog 60 #[v, .pointer (some ⟨b, 0, none⟩)] w fun e w' => e = .returned (.tuple #[]) ∧ Off F w w' ∧ ∃ F', M.St w' (step s x) F' ∧ ∀ g ∈ F', g ∈ F ∨ w.heap.size ≤ g)
    (N : Nat) : ∀ (t : Tm) (v : Value) (w0 w : World) (s : σ) (F : List Nat), t.sz ≤ N → good t = true → VT w0 v t → Below w0.heap.size w0 w → M.St w s F → (∀ g ∈ F, w0.heap.size ≤ g) → cnt s + t.sz ≤ 100000 →
      Calls Try.prog 59 #[v, .func (.func 60) #[] #[.pointer (some ⟨b, 0, none⟩)]] w fun e w' => e = .returned (.tuple #[]) ∧ Off F w w' ∧ ∃ F', M.St w' (foldT step s t) F' ∧ ∀ g ∈ F', g ∈ F ∨ w.heap.size ≤ g := by
  induction N with
  | zero => intro t v w0 w s F h; have := t.sz_pos; omega
  | succ N ih =>
    intro t v w0 w s F hN hg ht hbw hst hF hc
    obtain ⟨vp, vk, rfl, hp, hk⟩ := ht
    obtain ⟨A1, c1, rfl⟩ := hp.slice
    obtain ⟨A2, c2, hv, hcc, hl, hr⟩ := hk
    subst hv
    have hk : SlT w0 (.slice A2 t.kids.length c2) t.kids := ⟨A2, c2, rfl, hcc, hl, hr⟩
    have hkids : ∀ j (h : j < t.kids.length), t.kids[j].sz ≤ N := fun j h => by have := t.kid_sz j h; omega
    have HKS := Lib.hid hkids
    clear hkids
    have IH := Lib.hid ih
    clear ih
    have HCF := Lib.hid hf
    clear hf
    have HCN := Lib.hid hcnt
    clear hcnt
    have hz : t.sz = szL t.kids + 1 := by cases t; rfl
    have HZ := Lib.hid hz
    have HC := Lib.hid hc
    have HG := Lib.hid hg
    have HGK := Lib.hid (show goodL t.kids = true by rw [good_eq, Bool.and_eq_true] at hg; exact hg.2)
    have HFE := Lib.hid (foldT_eq step s t)
    have HST := Lib.hid hst
    have HFF := Lib.hid hF
    have HWB := Lib.hid hbw
    have hsw := hbw.size
    have hXF : w.heap.size ∉ F := fun h => by have := M.lt _ _ _ hst _ h; omega
    have HXF := Lib.hid hXF
    clear hz hc hg hst hF hbw hXF
    go_enter Try.func59, Try.ntmps59
    go_wp2_with fail
    refine (HCF.out t _ w0 _ s F HG.out ⟨_, _, rfl, hp, hk⟩ (bAlloc HWB.out _) (M.keep _ _ _ _ (bAlloc (Below.refl _ _) _) HST.out) HFF.out (by have := HC.out; omega)).mono ?_
    rintro e w1 ⟨rfl, ho1, F1, hst1, hn1⟩
    have d3 : w1.cell? ⟨w.heap.size, 3, none⟩ = some (.slice A2 t.kids.length c2) := by
      rw [offCell ho1 (by simp) HXF.out]
      simp [go_sem]
    have hs1 := ho1.size
    simp only [World.size_alloc] at hs1
    have OF1 : Hid (Off F w w1) := (Off.of (bAlloc (Below.refl _ _) _)).trans ho1
    have HN1 : Hid (∀ g ∈ F1, g ∈ F ∨ w.heap.size ≤ g) := fun g hg => by
      rcases hn1 g hg with h | h
      · exact .inl h
      · exact .inr (by simp at h; omega)
    have HST1 := Lib.hid hst1
    have hcs := HCN.out s t
    have HCS := Lib.hid hcs
    clear ho1 hst1 hn1 hcs
    go_wp2
    go_loopg [5, 12] (t.kids.length + 1) (fun n v5 v12 wr => ∃ k : Nat, ∃ Fk : List Nat, n + k = t.kids.length + 1 ∧ k ≤ t.kids.length ∧ v12 = .int .i64 k ∧ Hid (M.St wr (foldTs step (step s t) (t.kids.take k)) Fk) ∧ Hid (∀ g ∈ Fk, g ∈ F ∨ w.heap.size ≤ g) ∧ Hid (Off F w wr))
    case atStart => exact ⟨0, F1, by omega, by omega, rfl, by simpa [Hid, foldTs] using HST1.out, HN1.out, OF1.out⟩
    case round =>
      obtain ⟨k, Fk, hn, hk', rfl, hstk, hnk, hok⟩ := hrel
      by_cases hlt : k < t.kids.length
      · obtain ⟨ad, p1, k1, rfl, hp1, hq1, c0, c1', c2', c3⟩ := hr.atT hlt
        have hBr : Below w0.heap.size w0 wr := HWB.out.trans (hok.out.below HFF.out hsw)
        have d0 := bCell hBr c0
        have d1 := bCell hBr c1'
        have d2 := bCell hBr c2'
        have d4 := bCell hBr c3
        clear c0 c1' c2' c3
        have g0 : (0 : Int) ≤ (k : Int) := by omega
        have g1 : (k : Int) < (t.kids.length : Int) := by omega
        obtain ⟨P1, n1, rfl⟩ := hp1.slice
        obtain ⟨Q1, m1, rfl⟩ := hq1.slice
        have HBR := Lib.hid hBr
        clear hBr
        go_wp2_with fail
        refine (IH.out t.kids[k] _ w0 _ _ Fk (HKS.out k hlt) (goodL_mem _ HGK.out _ (List.getElem_mem hlt)) ⟨_, _, rfl, hp1, hq1⟩ (bAlloc HBR.out _) (M.keep _ _ _ _ (bAlloc (Below.refl _ _) _) hstk.out) (fun g hg => by rcases hnk.out g hg with h | h; exact HFF.out g h; omega) (by rw [foldTs_cnt step cnt HCN.out, HCS.out]; have := HC.out; have := HZ.out; have := szL_take t.kids k hlt; have := szL_take_le t.kids (k + 1); omega)).mono ?_
        rintro e w2 ⟨rfl, ho2, F2, hst2, hn2⟩
        have hS2 : Hid (M.St w2 (foldTs step (step s t) (t.kids.take (k + 1))) F2) := by unfold Hid; rw [foldTs_snoc step _ _ k hlt]; exact hst2
        have hwr : w.heap.size ≤ wr.heap.size := hok.out.size
        have hN2 : Hid (∀ g ∈ F2, g ∈ F ∨ w.heap.size ≤ g) := fresh_trans hnk.out (w1 := wr) (fun g hg => by rcases hn2 g hg with h | h; exact .inl h; exact .inr (by simp at h; omega)) hwr
        have hO2 : Hid (Off F w w2) := Off.fresh (hok.out.trans (Off.of (bAlloc (Below.refl _ _) _))) ho2 hnk.out
        clear ho2 hst2 hn2
        go_wp2
        go_roundg (gk - 1)
        case measure => omega
        case rel => exact ⟨k + 1, F2, by omega, by omega, by go_num, hS2, hN2, hO2⟩
      · obtain rfl : k = t.kids.length := by omega
        go_wp2
        go_end0
        exact ⟨rfl, hok.out, Fk, by rw [HFE.out]; have := hstk.out; rw [List.take_length] at this; exact this, hnk.out⟩
attribute [local go_sem] cell_alloc_some in
theorem eachAtoms {σ : Type} (M : Mem σ) (cnt : σ → Nat) (step : σ → Tm → σ) (b : Nat) (hcnt : ∀ s x, cnt (step s x) = cnt s + 1)
    (hf : ∀ (x : Tm) (v : Value) (w0 w : World) (s : σ) (F : List Nat), good x = true → VT w0 v x → Below w0.heap.size w0 w → M.St w s F → (∀ g ∈ F, w0.heap.size ≤ g) → cnt s ≤ 100000 →
      Calls Try.prog 76 #[v, .pointer (some ⟨b, 0, none⟩)] w fun e w' => e = .returned (.tuple #[]) ∧ Off F w w' ∧ ∃ F', M.St w' (step s x) F' ∧ ∀ g ∈ F', g ∈ F ∨ w.heap.size ≤ g)
    (N : Nat) : ∀ (t : Tm) (v : Value) (w0 w : World) (s : σ) (F : List Nat), t.sz ≤ N → good t = true → VT w0 v t → Below w0.heap.size w0 w → M.St w s F → (∀ g ∈ F, w0.heap.size ≤ g) → cnt s + t.sz ≤ 100000 →
      Calls Try.prog 59 #[v, .func (.func 76) #[] #[.pointer (some ⟨b, 0, none⟩)]] w fun e w' => e = .returned (.tuple #[]) ∧ Off F w w' ∧ ∃ F', M.St w' (foldT step s t) F' ∧ ∀ g ∈ F', g ∈ F ∨ w.heap.size ≤ g := by
  induction N with
  | zero => intro t v w0 w s F h; have := t.sz_pos; omega
  | succ N ih =>
    intro t v w0 w s F hN hg ht hbw hst hF hc
    obtain ⟨vp, vk, rfl, hp, hk⟩ := ht
    obtain ⟨A1, c1, rfl⟩ := hp.slice
    obtain ⟨A2, c2, hv, hcc, hl, hr⟩ := hk
    subst hv
    have hk : SlT w0 (.slice A2 t.kids.length c2) t.kids := ⟨A2, c2, rfl, hcc, hl, hr⟩
    have hkids : ∀ j (h : j < t.kids.length), t.kids[j].sz ≤ N := fun j h => by have := t.kid_sz j h; omega
    have HKS := Lib.hid hkids
    clear hkids
    have IH := Lib.hid ih
    clear ih
    have HCF := Lib.hid hf
    clear hf
    have HCN := Lib.hid hcnt
    clear hcnt
    have hz : t.sz = szL t.kids + 1 := by cases t; rfl
    have HZ := Lib.hid hz
    have HC := Lib.hid hc
    have HG := Lib.hid hg
    have HGK := Lib.hid (show goodL t.kids = true by rw [good_eq, Bool.and_eq_true] at hg; exact hg.2)
    have HFE := Lib.hid (foldT_eq step s t)
    have HST := Lib.hid hst
    have HFF := Lib.hid hF
    have HWB := Lib.hid hbw
    have hsw := hbw.size
    have hXF : w.heap.size ∉ F := fun h => by have := M.lt _ _ _ hst _ h; omega
    have HXF := Lib.hid hXF
    clear hz hc hg hst hF hbw hXF
    go_enter Try.func59, Try.ntmps59
    go_wp2_with fail
    refine (HCF.out t _ w0 _ s F HG.out ⟨_, _, rfl, hp, hk⟩ (bAlloc HWB.out _) (M.keep _ _ _ _ (bAlloc (Below.refl _ _) _) HST.out) HFF.out (by have := HC.out; omega)).mono ?_
    rintro e w1 ⟨rfl, ho1, F1, hst1, hn1⟩
    have d3 : w1.cell? ⟨w.heap.size, 3, none⟩ = some (.slice A2 t.kids.length c2) := by
      rw [offCell ho1 (by simp) HXF.out]
      simp [go_sem]
    have hs1 := ho1.size
    simp only [World.size_alloc] at hs1
    have OF1 : Hid (Off F w w1) := (Off.of (bAlloc (Below.refl _ _) _)).trans ho1
    have HN1 : Hid (∀ g ∈ F1, g ∈ F ∨ w.heap.size ≤ g) := fun g hg => by
      rcases hn1 g hg with h | h
      · exact .inl h
      · exact .inr (by simp at h; omega)
    have HST1 := Lib.hid hst1
    have hcs := HCN.out s t
    have HCS := Lib.hid hcs
    clear ho1 hst1 hn1 hcs
    go_wp2
    go_loopg [5, 12] (t.kids.length + 1) (fun n v5 v12 wr => ∃ k : Nat, ∃ Fk : List Nat, n + k = t.kids.length + 1 ∧ k ≤ t.kids.length ∧ v12 = .int .i64 k ∧ Hid (M.St wr (foldTs step (step s t) (t.kids.take k)) Fk) ∧ Hid (∀ g ∈ Fk, g ∈ F ∨ w.heap.size ≤ g) ∧ Hid (Off F w wr))
    case atStart => exact ⟨0, F1, by omega, by omega, rfl, by simpa [Hid, foldTs] using HST1.out, HN1.out, OF1.out⟩
    case round =>
      obtain ⟨k, Fk, hn, hk', rfl, hstk, hnk, hok⟩ := hrel
      by_cases hlt : k < t.kids.length
      · obtain ⟨ad, p1, k1, rfl, hp1, hq1, c0, c1', c2', c3⟩ := hr.atT hlt
        have hBr : Below w0.heap.size w0 wr := HWB.out.trans (hok.out.below HFF.out hsw)
        have d0 := bCell hBr c0
        have d1 := bCell hBr c1'
        have d2 := bCell hBr c2'
        have d4 := bCell hBr c3
        clear c0 c1' c2' c3
        have g0 : (0 : Int) ≤ (k : Int) := by omega
        have g1 : (k : Int) < (t.kids.length : Int) := by omega
        obtain ⟨P1, n1, rfl⟩ := hp1.slice
        obtain ⟨Q1, m1, rfl⟩ := hq1.slice
        have HBR := Lib.hid hBr
        clear hBr
        go_wp2_with fail
        refine (IH.out t.kids[k] _ w0 _ _ Fk (HKS.out k hlt) (goodL_mem _ HGK.out _ (List.getElem_mem hlt)) ⟨_, _, rfl, hp1, hq1⟩ (bAlloc HBR.out _) (M.keep _ _ _ _ (bAlloc (Below.refl _ _) _) hstk.out) (fun g hg => by rcases hnk.out g hg with h | h; exact HFF.out g h; omega) (by rw [foldTs_cnt step cnt HCN.out, HCS.out]; have := HC.out; have := HZ.out; have := szL_take t.kids k hlt; have := szL_take_le t.kids (k + 1); omega)).mono ?_
        rintro e w2 ⟨rfl, ho2, F2, hst2, hn2⟩
        have hS2 : Hid (M.St w2 (foldTs step (step s t) (t.kids.take (k + 1))) F2) := by unfold Hid; rw [foldTs_snoc step _ _ k hlt]; exact hst2
        have hwr : w.heap.size ≤ wr.heap.size := hok.out.size
        have hN2 : Hid (∀ g ∈ F2, g ∈ F ∨ w.heap.size ≤ g) := fresh_trans hnk.out (w1 := wr) (fun g hg => by rcases hn2 g hg with h | h; exact .inl h; exact .inr (by simp at h; omega)) hwr
        have hO2 : Hid (Off F w w2) := Off.fresh (hok.out.trans (Off.of (bAlloc (Below.refl _ _) _))) ho2 hnk.out
        clear ho2 hst2 hn2
        go_wp2
        go_roundg (gk - 1)
        case measure => omega
        case rel => exact ⟨k + 1, F2, by omega, by omega, by go_num, hS2, hN2, hO2⟩
      · obtain rfl : k = t.kids.length := by omega
        go_wp2
        go_end0
        exact ⟨rfl, hok.out, Fk, by rw [HFE.out]; have := hstk.out; rw [List.take_length] at this; exact this, hnk.out⟩
attribute [local go_sem] cell_alloc_some in
theorem eachHoles {σ : Type} (M : Mem σ) (cnt : σ → Nat) (step : σ → Tm → σ) (b : Nat) (hcnt : ∀ s x, cnt (step s x) = cnt s + 1)
    (hf : ∀ (x : Tm) (v : Value) (w0 w : World) (s : σ) (F : List Nat), good x = true → VT w0 v x → Below w0.heap.size w0 w → M.St w s F → (∀ g ∈ F, w0.heap.size ≤ g) → cnt s ≤ 100000 →
      Calls Try.prog 94 #[v, .pointer (some ⟨b, 0, none⟩)] w fun e w' => e = .returned (.tuple #[]) ∧ Off F w w' ∧ ∃ F', M.St w' (step s x) F' ∧ ∀ g ∈ F', g ∈ F ∨ w.heap.size ≤ g)
    (N : Nat) : ∀ (t : Tm) (v : Value) (w0 w : World) (s : σ) (F : List Nat), t.sz ≤ N → good t = true → VT w0 v t → Below w0.heap.size w0 w → M.St w s F → (∀ g ∈ F, w0.heap.size ≤ g) → cnt s + t.sz ≤ 100000 →
      Calls Try.prog 59 #[v, .func (.func 94) #[] #[.pointer (some ⟨b, 0, none⟩)]] w fun e w' => e = .returned (.tuple #[]) ∧ Off F w w' ∧ ∃ F', M.St w' (foldT step s t) F' ∧ ∀ g ∈ F', g ∈ F ∨ w.heap.size ≤ g := by
  induction N with
  | zero => intro t v w0 w s F h; have := t.sz_pos; omega
  | succ N ih =>
    intro t v w0 w s F hN hg ht hbw hst hF hc
    obtain ⟨vp, vk, rfl, hp, hk⟩ := ht
    obtain ⟨A1, c1, rfl⟩ := hp.slice
    obtain ⟨A2, c2, hv, hcc, hl, hr⟩ := hk
    subst hv
    have hk : SlT w0 (.slice A2 t.kids.length c2) t.kids := ⟨A2, c2, rfl, hcc, hl, hr⟩
    have hkids : ∀ j (h : j < t.kids.length), t.kids[j].sz ≤ N := fun j h => by have := t.kid_sz j h; omega
    have HKS := Lib.hid hkids
    clear hkids
    have IH := Lib.hid ih
    clear ih
    have HCF := Lib.hid hf
    clear hf
    have HCN := Lib.hid hcnt
    clear hcnt
    have hz : t.sz = szL t.kids + 1 := by cases t; rfl
    have HZ := Lib.hid hz
    have HC := Lib.hid hc
    have HG := Lib.hid hg
    have HGK := Lib.hid (show goodL t.kids = true by rw [good_eq, Bool.and_eq_true] at hg; exact hg.2)
    have HFE := Lib.hid (foldT_eq step s t)
    have HST := Lib.hid hst
    have HFF := Lib.hid hF
    have HWB := Lib.hid hbw
    have hsw := hbw.size
    have hXF : w.heap.size ∉ F := fun h => by have := M.lt _ _ _ hst _ h; omega
    have HXF := Lib.hid hXF
    clear hz hc hg hst hF hbw hXF
    go_enter Try.func59, Try.ntmps59
    go_wp2_with fail
    refine (HCF.out t _ w0 _ s F HG.out ⟨_, _, rfl, hp, hk⟩ (bAlloc HWB.out _) (M.keep _ _ _ _ (bAlloc (Below.refl _ _) _) HST.out) HFF.out (by have := HC.out; omega)).mono ?_
    rintro e w1 ⟨rfl, ho1, F1, hst1, hn1⟩
    have d3 : w1.cell? ⟨w.heap.size, 3, none⟩ = some (.slice A2 t.kids.length c2) := by
      rw [offCell ho1 (by simp) HXF.out]
      simp [go_sem]
    have hs1 := ho1.size
    simp only [World.size_alloc] at hs1
    have OF1 : Hid (Off F w w1) := (Off.of (bAlloc (Below.refl _ _) _)).trans ho1
    have HN1 : Hid (∀ g ∈ F1, g ∈ F ∨ w.heap.size ≤ g) := fun g hg => by
      rcases hn1 g hg with h | h
      · exact .inl h
      · exact .inr (by simp at h; omega)
    have HST1 := Lib.hid hst1
    have hcs := HCN.out s t
    have HCS := Lib.hid hcs
    clear ho1 hst1 hn1 hcs
    go_wp2
    go_loopg [5, 12] (t.kids.length + 1) (fun n v5 v12 wr => ∃ k : Nat, ∃ Fk : List Nat, n + k = t.kids.length + 1 ∧ k ≤ t.kids.length ∧ v12 = .int .i64 k ∧ Hid (M.St wr (foldTs step (step s t) (t.kids.take k)) Fk) ∧ Hid (∀ g ∈ Fk, g ∈ F ∨ w.heap.size ≤ g) ∧ Hid (Off F w wr))
    case atStart => exact ⟨0, F1, by omega, by omega, rfl, by simpa [Hid, foldTs] using HST1.out, HN1.out, OF1.out⟩
    case round =>
      obtain ⟨k, Fk, hn, hk', rfl, hstk, hnk, hok⟩ := hrel
      by_cases hlt : k < t.kids.length
      · obtain ⟨ad, p1, k1, rfl, hp1, hq1, c0, c1', c2', c3⟩ := hr.atT hlt
        have hBr : Below w0.heap.size w0 wr := HWB.out.trans (hok.out.below HFF.out hsw)
        have d0 := bCell hBr c0
        have d1 := bCell hBr c1'
        have d2 := bCell hBr c2'
        have d4 := bCell hBr c3
        clear c0 c1' c2' c3
        have g0 : (0 : Int) ≤ (k : Int) := by omega
        have g1 : (k : Int) < (t.kids.length : Int) := by omega
        obtain ⟨P1, n1, rfl⟩ := hp1.slice
        obtain ⟨Q1, m1, rfl⟩ := hq1.slice
        have HBR := Lib.hid hBr
        clear hBr
        go_wp2_with fail
        refine (IH.out t.kids[k] _ w0 _ _ Fk (HKS.out k hlt) (goodL_mem _ HGK.out _ (List.getElem_mem hlt)) ⟨_, _, rfl, hp1, hq1⟩ (bAlloc HBR.out _) (M.keep _ _ _ _ (bAlloc (Below.refl _ _) _) hstk.out) (fun g hg => by rcases hnk.out g hg with h | h; exact HFF.out g h; omega) (by rw [foldTs_cnt step cnt HCN.out, HCS.out]; have := HC.out; have := HZ.out; have := szL_take t.kids k hlt; have := szL_take_le t.kids (k + 1); omega)).mono ?_
        rintro e w2 ⟨rfl, ho2, F2, hst2, hn2⟩
        have hS2 : Hid (M.St w2 (foldTs step (step s t) (t.kids.take (k + 1))) F2) := by unfold Hid; rw [foldTs_snoc step _ _ k hlt]; exact hst2
        have hwr : w.heap.size ≤ wr.heap.size := hok.out.size
        have hN2 : Hid (∀ g ∈ F2, g ∈ F ∨ w.heap.size ≤ g) := fresh_trans hnk.out (w1 := wr) (fun g hg => by rcases hn2 g hg with h | h; exact .inl h; exact .inr (by simp at h; omega)) hwr
        have hO2 : Hid (Off F w w2) := Off.fresh (hok.out.trans (Off.of (bAlloc (Below.refl _ _) _))) ho2 hnk.out
        clear ho2 hst2 hn2
        go_wp2
        go_roundg (gk - 1)
        case measure => omega
        case rel => exact ⟨k + 1, F2, by omega, by omega, by go_num, hS2, hN2, hO2⟩
      · obtain rfl : k = t.kids.length := by omega
        go_wp2
        go_end0
        exact ⟨rfl, hok.out, Fk, by rw [HFE.out]; have := hstk.out; rw [List.take_length] at this; exact this, hnk.out⟩
end Go.Proofs.Ytbpbgmildhejoaa.Cx
