/- Sorting, striking repeats, comparing lists of numbers: the library's functions, over rows of the call's own. -/
import Derived.Test.YtmeaghkpojiniaaShelf
import Derived.Test.YtmeaghkpojiniaaAsc
import Derived.Test.YtmeaghkpojiniaaMark
import Derived.Sort.OwnSortedInts
namespace Go.Proofs.Ytmeaghkpojiniaa.Base
open Go.Lib
set_option linter.unusedVariables false
set_option linter.unusedSimpArgs false
theorem compactUpTo_asc (d : Array Int) (hs : ∀ j k, j < k → k < d.size → d[j]! ≤ d[k]!) : ∀ m, m ≤ d.size → Asc (compactUpTo d m) ∧ ∀ x, x ∈ compactUpTo d m ↔ ∃ j, j < m ∧ d[j]! = x
  | 0, _ => by simp [compactUpTo]
  | m + 1, h => by
    obtain ⟨ha, hm⟩ := compactUpTo_asc d hs m (by omega)
    rw [compactUpTo_succ]
    cases hk : keeps d m
    · have hk' : ¬ (m = 0 ∨ d[m]! ≠ d[m - 1]!) := by simpa [keeps] using hk
      have h0 : m ≠ 0 := fun e => hk' (.inl e)
      have h1 : d[m]! = d[m - 1]! := Classical.not_not.1 fun e => hk' (.inr e)
      simp only [Bool.false_eq_true, if_false, List.append_nil]
      refine ⟨ha, fun x => ?_⟩
      rw [hm]
      constructor
      · rintro ⟨j, hj, e⟩; exact ⟨j, by omega, e⟩
      · rintro ⟨j, hj, e⟩
        rcases Nat.lt_or_ge j m with h2 | h2
        · exact ⟨j, h2, e⟩
        · obtain rfl : j = m := by omega
          exact ⟨j - 1, by omega, by rw [← h1]; exact e⟩
    · have hk' : m = 0 ∨ d[m]! ≠ d[m - 1]! := by simpa [keeps] using hk
      simp only [if_true]
      refine ⟨List.pairwise_append.2 ⟨ha, by simp, fun x hx y hy => ?_⟩, fun x => ?_⟩
      · obtain ⟨j, hj, rfl⟩ := (hm x).1 hx
        obtain rfl : y = d[m]! := by simpa using hy
        have h1 : d[j]! ≤ d[m - 1]! := by
          rcases Nat.lt_or_ge j (m - 1) with h2 | h2
          · exact hs j (m - 1) h2 (by omega)
          · obtain rfl : j = m - 1 := by omega
            exact Int.le_refl _
        have h2 : d[m - 1]! ≤ d[m]! := hs (m - 1) m (by omega) (by omega)
        have h3 : d[m]! ≠ d[m - 1]! := hk'.resolve_left (by omega)
        omega
      · rw [List.mem_append, hm]
        constructor
        · rintro (⟨j, hj, e⟩ | h1)
          · exact ⟨j, by omega, e⟩
          · exact ⟨m, by omega, (List.mem_singleton.1 h1).symm⟩
        · rintro ⟨j, hj, e⟩
          rcases Nat.lt_or_ge j m with h2 | h2
          · exact .inl ⟨j, h2, e⟩
          · obtain rfl : j = m := by omega
            exact .inr (by simp [e])
theorem compact_ascL (xs : List Int) : Lib.compact (xs.mergeSort fun x y => decide (x ≤ y)) = ascL xs := by
  have hp := List.mergeSort_perm xs (fun x y => decide (x ≤ y))
  have hs := List.pairwise_mergeSort (le := fun x y : Int => decide (x ≤ y)) (by intro a b c; simp; omega) (by intro a b; simp; omega) xs
  generalize hz : (xs.mergeSort fun x y => decide (x ≤ y)) = zs at hp hs
  have hget : ∀ j, (h : j < zs.length) → zs.toArray[j]! = zs[j] := fun j h => by simp [h]
  obtain ⟨ha, hm⟩ := compactUpTo_asc zs.toArray (fun j k hjk hk => by
    have hk' : k < zs.length := by simpa using hk
    rw [hget j (by omega), hget k hk']
    simpa using List.pairwise_iff_getElem.1 hs j k (by omega) hk' hjk) zs.length (by simp)
  refine asc_unique _ _ ha (ascL_asc xs) fun x => ?_
  rw [ascL_mem, ← hp.mem_iff]
  refine (hm x).trans ?_
  constructor
  · rintro ⟨j, hj, rfl⟩; rw [hget j hj]; exact List.getElem_mem hj
  · intro hx
    obtain ⟨j, hj, rfl⟩ := List.getElem_of_mem hx
    exact ⟨j, hj, hget j hj⟩
end Go.Proofs.Ytmeaghkpojiniaa.Base
namespace Go.Proofs.Ytmeaghkpojiniaa.Cx
open Go.RowKit Go.Sort Base
set_option linter.unusedVariables false
set_option linter.unusedSimpArgs false
theorem sortInts (E : TypeId) (B : Nat) (w : World) (v : Value) (xs : List Int) (h : OwI E w B v xs) (hB : B ≤ w.heap.size) (hl : xs.length ≤ 17592186044416) :
    Calls Try.prog 72 #[v] w fun e w' => e = .returned (.tuple #[]) ∧ OwI E w' B v (xs.mergeSort fun x y => decide (x ≤ y)) ∧ Below B w w' := by
  have hlen : (xs.mergeSort fun x y => decide (x ≤ y)).length = xs.length := List.length_mergeSort xs
  rcases h.2 with ⟨rfl, h0⟩ | ⟨g, cap, cur, rfl, hg, hcur, h1, h2, h3, h4⟩
  · refine (Try.slices_Sort_int_none none 0 w).mono ?_
    rintro e w' ⟨rfl, rfl⟩
    have : xs = [] := List.eq_nil_of_length_eq_zero h0
    subst this
    exact ⟨rfl, by simpa using h, ⟨rfl, rfl, rfl, Nat.le_refl _, fun _ _ => rfl⟩⟩
  · refine (Try.slices_Sort_int g 0 cap xs w (holds_of_blockI hcur (by rw [Nat.mul_one] at h4; exact h4)) (Array.getElem?_eq_some_iff.1 hcur).1 (by omega)).mono ?_
    rintro e w' ⟨rfl, n, os, rfl⟩
    refine ⟨rfl, ?_, ?_⟩
    · unfold OwI
      rw [hlen]
      exact ownsRow_sortedI hlen hg hcur h1 h2 h3
    · exact bGrown (Below.refl _ _) (grownBy_sortedI _) hB (fun k hk => by cases hk; exact hg)
theorem compactInts (E : TypeId) (B : Nat) (w : World) (v : Value) (xs : List Int) (h : OwI E w B v xs) (hB : B ≤ w.heap.size) (hl : xs.length ≤ 17592186044416) :
    Calls Try.prog 73 #[v] w fun e w' => ∃ r, e = .returned r ∧ OwI E w' B r (Lib.compact xs) ∧ Below B w w' := by
  have hz : xs.length = 0 → xs = [] := List.eq_nil_of_length_eq_zero
  rcases h.2 with ⟨rfl, h0⟩ | ⟨g, cap, cur, rfl, hg, hcur, h1, h2, h3, h4⟩
  · obtain rfl := hz h0
    refine (Try.slices_Compact_int_empty none 0 w).mono ?_
    rintro e w' ⟨rfl, rfl⟩
    exact ⟨_, rfl, by simpa [Lib.compact, Lib.compactUpTo] using h, ⟨rfl, rfl, rfl, Nat.le_refl _, fun _ _ => rfl⟩⟩
  · refine (Try.slices_Compact_int g 0 cap xs w (holds_of_blockI hcur (by rw [Nat.mul_one] at h4; exact h4)) (by omega) h1).mono ?_
    rintro e w' ⟨rfl, q, rfl⟩
    have hcl : (Lib.compact xs).length ≤ xs.length := by
      unfold Lib.compact Lib.compactUpTo
      rw [List.length_map]
      exact Nat.le_trans (List.length_filter_le _ _) (by simp)
    have hh := heap_sortedI (n := q) (os := #[]) (Lib.compact xs ++ List.replicate (xs.length - (Lib.compact xs).length) 0).toArray hcur
    have hgb := grownBy_sortedI (w := w) (g := g) (n := q) (os := #[]) (Lib.compact xs ++ List.replicate (xs.length - (Lib.compact xs).length) 0).toArray
    rw [grow_empty] at hh hgb
    refine ⟨_, rfl, ⟨by simp [cI], .inr ⟨g, cap, _, rfl, hg, hh, by omega, h2, by simp [putCells, h3], ?_⟩⟩, bGrown (Below.refl _ _) hgb hB (fun k hk => by cases hk; exact hg)⟩
    have ht := take_putCellsI cur (Lib.compact xs ++ List.replicate (xs.length - (Lib.compact xs).length) 0) (by simp; omega)
    have e1 : ((Lib.compact xs ++ List.replicate (xs.length - (Lib.compact xs).length) 0).map (Value.int .i64)).take (Lib.compact xs).length = (Lib.compact xs).map (Value.int .i64) := by
      rw [List.map_append, List.take_append_of_le_length (by simp), List.take_of_length_le (by simp)]
    rw [← ht, List.take_take, Nat.min_eq_left (by simp)] at e1
    rw [Nat.mul_one]
    exact e1
theorem equalInts (E E' : TypeId) (B B' : Nat) (w : World) (va vb : Value) (xs ys : List Int) (ha : OwI E w B va xs) (hb : OwI E' w B' vb ys) (hl : xs.length ≤ 17592186044416) (hl' : ys.length ≤ 17592186044416) :
    Calls Try.prog 52 #[va, vb] w fun e w' => e = .returned (.bool (xs == ys)) ∧ Below w.heap.size w w' := by
  have key : ∀ w' : World, (∃ q, w' = w.drewN q) → Below w.heap.size w w' := by rintro _ ⟨q, rfl⟩; exact bDrewN (Below.refl _ _) q
  obtain ⟨A, c, rfl⟩ := owns_slice ha
  obtain ⟨A', c', rfl⟩ := owns_slice hb
  by_cases hlen : xs.length = ys.length
  · by_cases h0 : xs.length = 0
    · obtain rfl := List.eq_nil_of_length_eq_zero h0
      obtain rfl := List.eq_nil_of_length_eq_zero (hlen.symm.trans h0)
      refine (Try.slices_Equal_int_empty A A' c 0 c' w (by omega)).mono ?_
      rintro e w' ⟨rfl, rfl⟩
      exact ⟨rfl, Below.refl _ _⟩
    · obtain ⟨g, rfl, _⟩ := own_some ha (by omega)
      obtain ⟨g', rfl, _⟩ := own_some hb (by omega)
      refine (Try.slices_Equal_int g 0 xs.length c g' 0 ys.length c' xs ys w (Nat.le_refl _) (Nat.le_refl _) (by omega) (by omega) (fun j hj => ?_) (fun j hj => ?_)).mono ?_
      · rw [Nat.zero_add, ha.cellAt j (by omega)]; simp [cI, hj, List.getD]
      · rw [Nat.zero_add, hb.cellAt j (by omega)]; simp [cI, hj, List.getD]
      · rintro e w' ⟨rfl, hq⟩
        exact ⟨by rw [List.take_length, List.take_length], key _ hq⟩
  · refine (Try.slices_Equal_int_lens A A' xs.length c ys.length c' w hlen).mono ?_
    rintro e w' ⟨rfl, rfl⟩
    exact ⟨ret_bool (by symm; rw [beq_eq_false_iff_ne]; rintro rfl; exact hlen rfl), Below.refl _ _⟩
end Go.Proofs.Ytmeaghkpojiniaa.Cx
