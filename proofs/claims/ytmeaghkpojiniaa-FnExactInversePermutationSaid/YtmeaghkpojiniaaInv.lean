/- Contracts: the inverse of a permutation, the model's way and the program's. -/
import Derived.Test.YtmeaghkpojiniaaAscend
import Derived.Test.YtmeaghkpojiniaaCmpL
import Derived.Test.YtmeaghkpojiniaaDiff
import Derived.Test.YtmeaghkpojiniaaTop
import Derived.Shelf.SlSortCmp.WholeK
import Derived.Shelf.SlSortCmp.NoneTotal
namespace Go.Proofs.Ytmeaghkpojiniaa.Base
open Go.Shelf Go.RowKit Go.Lib Go.Sort
def encP (x : Int × Int) : List Value := [.int .i64 x.1, .int .i64 x.2]
theorem ltLo (x y : Int × Int) : ltOf (fun x y : Int × Int => Lib.compareInt x.1 y.1) x y = decide (x.1 < y.1) := by
  unfold ltOf Lib.compareInt
  by_cases h1 : x.1 < y.1
  · simp [h1]
  · by_cases h2 : y.1 < x.1 <;> simp [h1, h2]
theorem swoLo : SWO (ltOf fun x y : Int × Int => Lib.compareInt x.1 y.1) where
  irrefl x := by rw [ltLo]; simp
  trans x y z h1 h2 := by rw [ltLo] at *; simp at *; omega
  ntrans x y z h1 h2 := by rw [ltLo] at *; simp at *; omega
/-- The row's cells, flat, are the list's. -/
theorem flat_cP (d : List (Int × Int)) : (flatK encP 2 d.toArray).toList = cP d := by
  apply List.ext_getElem?
  intro i
  by_cases hi : i < d.length * 2
  · have h2 : i / 2 < d.length := by omega
    obtain ⟨g0, g1⟩ := cP_get d (i / 2) h2
    have e1 : (flatK encP 2 d.toArray).toList[i]? = some ((encP d.toArray[i / 2]!)[i % 2]!) := by
      rw [Array.getElem?_toList, Array.getElem?_eq_getElem (by simpa using hi)]
      have := get_flatK encP 2 d.toArray i (by simpa using hi)
      rw [getElem!_pos _ i (by simpa using hi)] at this
      rw [this]
    rw [e1, getElem!_pos _ (i / 2) (by simpa using h2)]
    rcases (by omega : i % 2 = 0 ∨ i % 2 = 1) with e | e
    · have : i = i / 2 * 2 := by omega
      rw [e]
      conv => rhs; rw [this]
      rw [g0]; simp [encP]
    · have : i = i / 2 * 2 + 1 := by omega
      rw [e]
      conv => rhs; rw [this]
      rw [g1]; simp [encP]
  · rw [List.getElem?_eq_none (by simp; omega), List.getElem?_eq_none (by rw [cP_len]; omega)]
theorem holds_of_blockV {w : World} {g : Nat} {cur : Array Value} {e : TypeId} {F : Array Value} (hb : w.heap[g]? = some (.cells cur e (0, 0))) (ht : cur.toList.take F.size = F.toList) : Holds id w g 0 F := by
  intro j hj
  refine ⟨?_, by simp [World.frozen?, hb]⟩
  have h1 : (cur.toList.take F.size)[j]? = F.toList[j]? := by rw [ht]
  rw [List.getElem?_take_of_lt hj] at h1
  simp only [World.cell?, hb, Nat.zero_add]
  simp only [Option.isSome_none, Bool.false_eq_true, if_false]
  rw [← Array.getElem?_toList, h1]
  simp [hj]
theorem heap_sortedV {w : World} {g n : Nat} {os : Array Obj} {cur : Array Value} {e : TypeId} {fr : Nat × Nat} (d : Array Value) (hb : w.heap[g]? = some (.cells cur e fr)) :
    (grow (putRow id (Sort.ahead w n) g 0 d) os).heap[g]? = some (.cells (putCells id 0 d cur) e fr) := by
  have hg : g < w.heap.size := (Array.getElem?_eq_some_iff.1 hb).1
  rw [heap_grow_old _ _ (by simpa using hg)]
  simp [putRow, mapBlock, Sort.ahead, Array.getElem?_modify, hb, onCells]
theorem grownBy_sortedV {w : World} {g n : Nat} {os : Array Obj} (d : Array Value) : w.grownBy (grow (putRow id (Sort.ahead w n) g 0 d) os) (some g) := by
  refine ⟨rfl, rfl, rfl, by simp, fun k hk hne => ?_⟩
  rw [heap_grow_old _ _ (by simpa using hk)]
  have : g ≠ k := fun e => hne (by rw [e])
  simp [putRow, mapBlock, Sort.ahead, Array.getElem?_modify, this]
theorem take_putCellsV (cur : Array Value) (F : Array Value) (h : F.size ≤ cur.size) : (putCells id 0 F cur).toList.take F.size = F.toList := by
  apply List.ext_getElem?
  intro j
  by_cases hj : j < F.size
  · rw [List.getElem?_take_of_lt hj, Array.getElem?_toList]
    simp [putCells, hj, show j < cur.size by omega]
  · rw [List.getElem?_take_eq_none (by omega), List.getElem?_eq_none (by simp; omega)]
end Go.Proofs.Ytmeaghkpojiniaa.Base
namespace Go.Proofs.Ytmeaghkpojiniaa.Cx
open Go.RowKit Base Go.Shelf Go.Sort
set_option linter.unusedVariables false
set_option linter.unusedSimpArgs false
set_option maxRecDepth 100000
set_option maxHeartbeats 3200000
theorem inverseCmp (x y : Int × Int) (W : World) : Calls Try.prog 79 #[.agg #[.int .i64 x.1, .int .i64 x.2], .agg #[.int .i64 y.1, .int .i64 y.2]] W fun e w' => e = .returned (.int .i64 (Lib.compareInt x.1 y.1)) ∧ ∃ q os', w' = grow (W.drewN q) os' := by
  have hcon := fun W' => Try.cmp_Compare_int x.1 y.1 W'
  generalize Lib.compareInt x.1 y.1 = r at hcon ⊢
  go_enter Try.func79, Try.ntmps79
  go_wp2_with (go_at_call 80; refine (hcon _).mono ?_; rintro e w' ⟨rfl, rfl⟩)
  go_ret
  exact ⟨rfl, 0, _, by rw [alloc_eq_grow, alloc_eq_grow, grow_grow]; rfl⟩
theorem sortByFrom (E : TypeId) (B : Nat) (w : World) (v : Value) (xs : List (Int × Int)) (h : OwP E w B v xs) (hB : B ≤ w.heap.size) (hl : xs.length ≤ 17592186044416) :
    Calls Try.prog 78 #[v, .func (.func 79) #[] #[]] w fun e w' => e = .returned (.tuple #[]) ∧ ∃ ys : List (Int × Int), ys.Perm xs ∧ (ys.Pairwise fun x y => x.1 ≤ y.1) ∧ OwP E w' B v ys ∧ Below B w w' := by
  rcases h.2 with ⟨rfl, h0⟩ | ⟨g, cap, cur, rfl, hg, hcur, h1, h2, h3, h4⟩
  · obtain rfl := List.eq_nil_of_length_eq_zero h0
    refine (AnyF.slices_SortFunc_none Try.sortFP none 0 _ w).mono ?_
    rintro e w' ⟨rfl, rfl⟩
    exact ⟨rfl, [], List.Perm.refl _, List.Pairwise.nil, h, Below.refl _ _⟩
  · have eg : ∀ args w, (callFunc 79 args).run Try.prog w = .ok (.enter 79 args) w := enters_of Try.func79 (by kernel_rfl) rfl
    have hgw : g < w.heap.size := (Array.getElem?_eq_some_iff.1 hcur).1
    have hfl := flat_cP xs
    have hH : HoldsK encP 2 w g 0 xs.toArray := holds_of_blockV hcur (by rw [hfl, size_flatK]; simpa using h4)
    refine (AnyQ.slices_SortFunc Try.sortFP 2 Try.isAgg51 Try.sizeOf51 encP (fun _ => rfl) (fun x v hv => by simp [encP] at hv; rcases hv with rfl | rfl <;> rfl) (fun x y => Lib.compareInt x.1 y.1) swoLo 79 #[] g 0 cap xs.toArray w eg (fun _ _ _ _ x y => inverseCmp x y _) hH hgw (by simp; omega)).mono ?_
    rintro e w' ⟨rfl, d', n, os, hp, hs, rfl⟩
    have hsz : d'.size = xs.length := by have := hp.1; simpa using this
    refine ⟨rfl, d'.toList, ?_, ?_, ?_, ?_⟩
    · have := hp.2.2
      rw [show d'.extract 0 xs.toArray.size = d' by simp [← hsz]] at this
      simpa using this
    · rw [List.pairwise_iff_getElem]
      intro i j hi hj hij
      have := hs i j (Nat.zero_le _) hij (by simpa [hsz] using hj)
      rw [ltLo, decide_eq_false_iff_not, getElem!_pos _ i (by simpa using hi), getElem!_pos _ j (by simpa using hj)] at this
      simp only [Array.getElem_toList]
      omega
    · have hh := heap_sortedV (n := n) (os := os) (flatK encP 2 d') hcur
      have hf2 := flat_cP d'.toList
      simp only [Array.toArray_toList] at hf2
      have hlen : d'.toList.length = xs.length := by simpa using hsz
      unfold OwP
      rw [hlen]
      refine ⟨by rw [cP_len, hlen], .inr ⟨g, cap, _, rfl, hg, hh, h1, h2, by simp [putCells, h3], ?_⟩⟩
      have ht := take_putCellsV cur (flatK encP 2 d') (by rw [size_flatK, hsz, h3]; exact Nat.mul_le_mul_right _ h1)
      rw [size_flatK, hsz, hf2] at ht
      exact ht
    · exact bGrown (Below.refl _ _) (grownBy_sortedV _) hB (fun k hk => by cases hk; exact hg)
end Go.Proofs.Ytmeaghkpojiniaa.Cx
