/- Contracts: numbers struck from a list of one's own; whether a list has a number; the program's way. -/
import Derived.Test.YtbpbgmildhejoaaSort
import Derived.Test.YtbpbgmildhejoaaShelfD
import Derived.Test.YtbpbgmildhejoaaAscend
namespace Go.Proofs.Ytbpbgmildhejoaa.Cx
open Go.RowKit Go.Sort Base
set_option linter.unusedVariables false
set_option linter.unusedSimpArgs false
set_option maxRecDepth 100000
set_option maxHeartbeats 3200000
theorem freeStrike (W : World) (bx : Nat) (n a : Int) (h : W.cell? ⟨bx, 1, none⟩ = some (.int .i64 n)) (h0 : ∃ u, W.cell? ⟨bx, 0, none⟩ = some u) : Calls Try.prog 98 #[.int .i64 a, .pointer (some ⟨bx, 0, none⟩)] W fun e w' => e = .returned (.bool (a == n)) ∧ w' = W := by
  obtain ⟨u, h0⟩ := h0
  go_enter Try.func98, Try.ntmps98
  go_wp2
  go_ret
  exact ⟨rfl, rfl⟩
theorem indexNone (w : World) (A : Option Addr) (c : Nat) (f : Value) : Calls Try.prog 115 #[.slice A 0 c, f] w fun e w' => e = .returned (.int .i64 (-1)) ∧ Below w.heap.size w w' := by
  go_enter Try.func115, Try.ntmps115
  go_wp2
  go_loopg [5, 8] 1 (fun n v5 v8 wr => n = 1 ∧ v8 = .int .i64 0 ∧ Hid (Below w.heap.size w wr))
  case atStart => exact ⟨rfl, rfl, Below.refl _ _⟩
  case round =>
    obtain ⟨hn, rfl, hB⟩ := hrel
    go_wp2
    go_ret
    exact ⟨rfl, hB.out⟩
theorem deleteInts (E : TypeId) (B : Nat) (w : World) (v : Value) (xs : List Int) (bx : Nat) (n : Int) (h : OwI E w B v xs) (hB : B ≤ w.heap.size) (hl : xs.length ≤ 17592186044416) (hbx : bx < B) (hc0 : ∃ u, w.cell? ⟨bx, 0, none⟩ = some u) (hc1 : w.cell? ⟨bx, 1, none⟩ = some (.int .i64 n)) :
    Calls Try.prog 97 #[v, .func (.func 98) #[] #[.pointer (some ⟨bx, 0, none⟩)]] w fun e w' => ∃ r, e = .returned r ∧ OwI E w' B r (xs.filter fun a => !(a == n)) ∧ Below B w w' := by
  rcases h.2 with ⟨rfl, h0⟩ | ⟨g, cap, cur, rfl, hg, hcur, h1, h2, h3, h4⟩
  · obtain rfl := List.eq_nil_of_length_eq_zero h0
    go_enter Try.func97, Try.ntmps97
    go_wp2_with fail
    refine (indexNone _ _ _ _).mono ?_
    rintro e w1 ⟨rfl, hb1⟩
    obtain ⟨hc1, hf1⟩ := bcell hb1
    have hB1 : Below w.heap.size w w1 := bStep bl hb1
    have hp1 := Stp.mk hb1
    have hs1 := hb1.size
    try simp only [World.size_alloc, World.size_setCell, World.size_drew, World.heap_drewN] at hs1
    try simp only [World.size_drew, World.heap_drewN, World.cell?_drew, World.frozen?_drew, World.cell?_drewN, World.frozen?_drewN] at hc1 hf1
    go_wp2
    go_ret
    exact ⟨_, rfl, World.ownsRow_nil _ _ _ _, Below.mono (show Below w.heap.size w _ from bl) hB⟩
  · have eg : ∀ args w, (callFunc 98 args).run Try.prog w = .ok (.enter 98 args) w := enters_of Try.func98 (by kernel_rfl) rfl
    have hgw : g < w.heap.size := (Array.getElem?_eq_some_iff.1 hcur).1
    have hgive : ∀ (W : World) (x : Int), (∀ o, W.cell? ⟨bx, o, none⟩ = w.cell? ⟨bx, o, none⟩) → FnGives Try.prog 98 #[.pointer (some ⟨bx, 0, none⟩)] #[.int .i64 x] (.bool (x == n)) W := fun W x hW =>
      (freeStrike W bx n x ((hW 1).trans hc1) (by obtain ⟨u, hu⟩ := hc0; exact ⟨u, (hW 0).trans hu⟩)).mono fun e w' h => ⟨h.1, 0, h.2⟩
    have hcl : (xs.filter fun a => !(a == n)).length ≤ xs.length := List.length_filter_le _ _
    refine (AnyE.slices_DeleteFunc Try.delI (Value.int .i64) (fun _ => rfl) (fun a => a == n) 98 #[.pointer (some ⟨bx, 0, none⟩)] eg 0 (fun w => by kernel_rfl) g 0 cap xs.toArray w ?_ ?_ (holds_of_blockI hcur (by rw [Nat.mul_one] at h4; exact h4)) (by simp; omega) (by simpa using h1)).mono ?_
    · intro W x hb
      exact hgive W x fun o => hb.cell (p := ⟨bx, o, none⟩) (by show bx < w.heap.size; omega)
    · intro m os dk x hs
      refine hgive _ x fun o => World.cell?_of_block (w := w) ?_
      rw [sortWorld, heap_grow_old _ _ (by simpa using Nat.lt_of_lt_of_le hbx hB)]
      have : g ≠ bx := by omega
      simp [putRow, mapBlock, Sort.ahead, Array.getElem?_modify, this]
    · rintro e w' ⟨rfl, q, rfl⟩
      have hh := heap_sortedI (n := q) (os := #[]) ((xs.filter fun a => !(a == n)) ++ List.replicate (xs.length - (xs.filter fun a => !(a == n)).length) 0).toArray hcur
      have hgb := grownBy_sortedI (w := w) (g := g) (n := q) (os := #[]) ((xs.filter fun a => !(a == n)) ++ List.replicate (xs.length - (xs.filter fun a => !(a == n)).length) 0).toArray
      rw [grow_empty] at hh hgb
      refine ⟨_, rfl, ⟨by simp [cI], .inr ⟨g, cap, _, rfl, hg, hh, by omega, h2, by simp [putCells, h3], ?_⟩⟩, bGrown (Below.refl _ _) hgb hB (fun k hk => by cases hk; exact hg)⟩
      have ht := take_putCellsI cur ((xs.filter fun a => !(a == n)) ++ List.replicate (xs.length - (xs.filter fun a => !(a == n)).length) 0) (by simp; omega)
      have e1 : (((xs.filter fun a => !(a == n)) ++ List.replicate (xs.length - (xs.filter fun a => !(a == n)).length) 0).map (Value.int .i64)).take (xs.filter fun a => !(a == n)).length = (xs.filter fun a => !(a == n)).map (Value.int .i64) := by
        rw [List.map_append, List.take_append_of_le_length (by simp), List.take_of_length_le (by simp)]
      rw [← ht, List.take_take, Nat.min_eq_left (by simp)] at e1
      rw [Nat.mul_one]
      exact e1
theorem indexInts (w : World) (v : Value) (xs : List Int) (x : Int) (h : SlI w v xs) : Calls Try.prog 96 #[v, .int .i64 x] w fun e w' => ∃ i : Int, e = .returned (.int .i64 i) ∧ (decide (0 ≤ i) = hasI xs x) ∧ Below w.heap.size w w' := by
  obtain ⟨A, c, rfl, hc, hl, hr⟩ := h
  go_enter Try.func96, Try.ntmps96
  go_wp2
  go_loopg [5, 8] (xs.length + 1) (fun n v5 v8 wr => ∃ k : Nat, n + k = xs.length + 1 ∧ k ≤ xs.length ∧ v8 = .int .i64 k ∧ Hid (x ∉ xs.take k) ∧ Hid (Below w.heap.size w wr))
  case atStart => exact ⟨0, by omega, by omega, rfl, by simp [Hid], Below.refl _ _⟩
  case round =>
    obtain ⟨k, hn, hk, rfl, hq, hB⟩ := hrel
    have hBw := hB.out
    clear hB
    by_cases hlt : k < xs.length
    · obtain ⟨ad, rfl, c0⟩ := (hr.below KI.mono hBw).atI hlt
      have g0 : (0 : Int) ≤ (k : Int) := by omega
      have g1 : (k : Int) < (xs.length : Int) := by omega
      cases h5 : (x == xs[k])
      all_goals
        go_wp2
      · go_roundg (gk - 1)
        case measure => omega
        case rel =>
          refine ⟨k + 1, by omega, by omega, by go_num, ?_, hBw⟩
          unfold Hid
          rw [take_snoc xs k hlt]
          simp only [List.mem_append, List.mem_singleton]
          rintro (h3 | h3)
          · exact hq.out h3
          · subst h3; simp at h5
      · go_ret
        exact ⟨_, rfl, by have := beq_iff_eq.1 h5; subst this; simp [hasI], hBw⟩
    · obtain rfl : k = xs.length := by omega
      go_wp2
      go_ret
      exact ⟨_, rfl, by have := hq.out; rw [List.take_length] at this; simp [hasI, this], hBw⟩
theorem containsInts (w : World) (v : Value) (xs : List Int) (x : Int) (h : SlI w v xs) : Calls Try.prog 73 #[v, .int .i64 x] w fun e w' => e = .returned (.bool (hasI xs x)) ∧ Below w.heap.size w w' := by
  go_enter Try.func73, Try.ntmps73
  go_wp2_with fail
  refine (indexInts _ v xs x (h.below KI.mono bl)).mono ?_
  rintro e w1 ⟨i, rfl, hi, hb1⟩
  obtain ⟨hc1, hf1⟩ := bcell hb1
  have hB1 : Below w.heap.size w w1 := bStep bl hb1
  have hp1 := Stp.mk hb1
  have hs1 := hb1.size
  try simp only [World.size_alloc, World.size_setCell, World.size_drew, World.heap_drewN] at hs1
  try simp only [World.size_drew, World.heap_drewN, World.cell?_drew, World.frozen?_drew, World.cell?_drewN, World.frozen?_drewN] at hc1 hf1
  go_wp2
  go_ret
  exact ⟨rfl, bl⟩
end Go.Proofs.Ytbpbgmildhejoaa.Cx
