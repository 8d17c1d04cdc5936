/- Ascending lists of numbers: what both ways of making one come to; a list of pairs that is a permutation. Plain lists, of no program. -/
import Derived.Test.YtmeaghkpojiniaaSet
import Derived.Lib.SlicesCompact
namespace Go.Proofs.Ytmeaghkpojiniaa.Base
set_option linter.unusedVariables false
set_option linter.unusedSimpArgs false
abbrev Asc (l : List Int) : Prop := l.Pairwise (· < ·)
theorem asc_unique : ∀ (l m : List Int), Asc l → Asc m → (∀ x, x ∈ l ↔ x ∈ m) → l = m
  | [], [], _, _, _ => rfl
  | [], y :: m, _, _, h => absurd ((h y).2 (by simp)) (by simp)
  | x :: l, [], _, _, h => absurd ((h x).1 (by simp)) (by simp)
  | x :: l, y :: m, hl, hm, h => by
    rw [Asc, List.pairwise_cons] at hl hm
    have e : x = y := by
      rcases List.mem_cons.1 ((h x).1 (by simp)) with h1 | h1
      · exact h1
      · rcases List.mem_cons.1 ((h y).2 (by simp)) with h2 | h2
        · exact h2.symm
        · have := hl.1 y h2; have := hm.1 x h1; omega
    subst e
    rw [asc_unique l m hl.2 hm.2 fun z => ?_]
    constructor
    · intro hz
      rcases List.mem_cons.1 ((h z).1 (by simp [hz])) with h1 | h1
      · subst h1; have := hl.1 z hz; omega
      · exact h1
    · intro hz
      rcases List.mem_cons.1 ((h z).2 (by simp [hz])) with h1 | h1
      · subst h1; have := hm.1 z hz; omega
      · exact h1
/-- Where a number goes in: behind the last that is not above it, from the end. -/
def insPos (l : List Int) (n : Int) : Nat → Nat
  | 0 => 0
  | k + 1 => if n < l.getD k 0 then insPos l n k else k + 1
def insI (l : List Int) (n : Int) : List Int := if n ∈ l then l else l.take (insPos l n l.length) ++ n :: l.drop (insPos l n l.length)
theorem insPos_le (l : List Int) (n : Int) : ∀ k, insPos l n k ≤ k
  | 0 => Nat.le_refl _
  | k + 1 => by unfold insPos; split; exact Nat.le_succ_of_le (insPos_le l n k); exact Nat.le_refl _
theorem insPos_hi (l : List Int) (n : Int) : ∀ k i, insPos l n k ≤ i → i < k → n < l.getD i 0
  | 0, i, _, h => by omega
  | k + 1, i, h1, h2 => by
    unfold insPos at h1
    split at h1
    · rename_i h3
      rcases Nat.lt_or_ge i k with h4 | h4
      · exact insPos_hi l n k i h1 h4
      · obtain rfl : i = k := by omega
        exact h3
    · omega
theorem insPos_lo (l : List Int) (n : Int) : ∀ k j, insPos l n k = j + 1 → ¬ n < l.getD j 0
  | 0, j, h => by simp [insPos] at h
  | k + 1, j, h => by
    unfold insPos at h
    split at h
    · exact insPos_lo l n k j h
    · obtain rfl : k = j := by omega
      assumption
theorem insI_mem (l : List Int) (n x : Int) : x ∈ insI l n ↔ x = n ∨ x ∈ l := by
  unfold insI
  split
  · constructor
    · exact .inr
    · rintro (rfl | h) <;> assumption
  · rw [List.mem_append, List.mem_cons]
    have := congrArg (x ∈ ·) (List.take_append_drop (insPos l n l.length) l)
    simp only [List.mem_append, eq_iff_iff] at this
    rw [← this]
    constructor
    · rintro (h | h | h)
      · exact .inr (.inl h)
      · exact .inl h
      · exact .inr (.inr h)
    · rintro (h | h | h)
      · exact .inr (.inl h)
      · exact .inl h
      · exact .inr (.inr h)
theorem insI_asc (l : List Int) (n : Int) (h : Asc l) : Asc (insI l n) := by
  unfold insI
  split
  · exact h
  · rename_i hn
    have hp := List.pairwise_iff_getElem.1 h
    have hle := insPos_le l n l.length
    refine List.pairwise_append.2 ⟨h.sublist (List.take_sublist _ _), List.pairwise_cons.2 ⟨fun x hx => ?_, h.sublist (List.drop_sublist _ _)⟩, fun x hx y hy => ?_⟩
    · obtain ⟨i, hi, rfl⟩ := List.getElem_of_mem hx
      rw [List.length_drop] at hi
      rw [List.getElem_drop]
      have := insPos_hi l n l.length (insPos l n l.length + i) (by omega) (by omega)
      rwa [List.getD_eq_getElem?_getD, List.getElem?_eq_getElem (by omega), Option.getD_some] at this
    · obtain ⟨i, hi, rfl⟩ := List.getElem_of_mem hx
      rw [List.length_take] at hi
      have hx' : (l.take (insPos l n l.length))[i] < n := by
        rw [List.getElem_take]
        obtain ⟨j, hj⟩ : ∃ j, insPos l n l.length = j + 1 := ⟨insPos l n l.length - 1, by omega⟩
        have h1 := insPos_lo l n l.length j hj
        rw [List.getD_eq_getElem?_getD, List.getElem?_eq_getElem (by omega), Option.getD_some] at h1
        have h2 : l[i]'(by omega) ≤ l[j]'(by omega) := by
          rcases Nat.lt_or_ge i j with h3 | h3
          · exact Int.le_of_lt (hp i j (by omega) (by omega) h3)
          · obtain rfl : i = j := by omega
            exact Int.le_refl _
        have h3 : l[i]'(by omega) ≠ n := fun e => hn (e ▸ List.getElem_mem _)
        omega
      rcases List.mem_cons.1 hy with rfl | hy
      · exact hx'
      · obtain ⟨k, hk, rfl⟩ := List.getElem_of_mem hy
        rw [List.length_drop] at hk
        rw [List.getElem_drop, List.getElem_take]
        exact hp _ _ (by omega) (by omega) (by omega)
def insAll (l ns : List Int) : List Int := ns.foldl insI l
theorem insAll_mem : ∀ (ns l : List Int) (x : Int), x ∈ insAll l ns ↔ x ∈ l ∨ x ∈ ns
  | [], l, x => by simp [insAll]
  | n :: ns, l, x => by
    have := insAll_mem ns (insI l n) x
    simp only [insAll, List.foldl_cons] at this ⊢
    rw [this, insI_mem, List.mem_cons]
    constructor
    · rintro ((h | h) | h)
      · exact .inr (.inl h)
      · exact .inl h
      · exact .inr (.inr h)
    · rintro (h | h | h)
      · exact .inl (.inr h)
      · exact .inl (.inl h)
      · exact .inr h
theorem insAll_asc : ∀ (ns l : List Int), Asc l → Asc (insAll l ns)
  | [], l, h => h
  | n :: ns, l, h => insAll_asc ns (insI l n) (insI_asc l n h)
/-- The different numbers of a list, in order. -/
def ascL (xs : List Int) : List Int := insAll [] xs
theorem ascL_asc (xs : List Int) : Asc (ascL xs) := insAll_asc xs [] List.Pairwise.nil
theorem ascL_mem (xs : List Int) (x : Int) : x ∈ ascL xs ↔ x ∈ xs := by rw [ascL, insAll_mem]; simp
theorem asc_filter {l : List Int} (h : Asc l) (f : Int → Bool) : Asc (l.filter f) := h.sublist List.filter_sublist
theorem ascL_of_asc {l : List Int} (h : Asc l) : ascL l = l := asc_unique _ _ (ascL_asc _) h (ascL_mem l)
theorem ascL_congr {l m : List Int} (h : ∀ x, x ∈ l ↔ x ∈ m) : ascL l = ascL m := asc_unique _ _ (ascL_asc _) (ascL_asc _) fun x => by rw [ascL_mem, ascL_mem, h]
theorem insAll_append (l a b : List Int) : insAll (insAll l a) b = insAll l (a ++ b) := by simp [insAll, List.foldl_append]
theorem insI_len (l : List Int) (n : Int) : (insI l n).length ≤ l.length + 1 := by
  unfold insI
  split
  · omega
  · rw [List.length_append, List.length_cons, ← Nat.add_assoc, ← List.length_append, List.take_append_drop]; omega
theorem insAll_len : ∀ (ns l : List Int), (insAll l ns).length ≤ l.length + ns.length
  | [], l => by simp [insAll]
  | n :: ns, l => by
    have h1 := insAll_len ns (insI l n)
    have h2 := insI_len l n
    simp only [insAll, List.foldl_cons, List.length_cons] at h1 ⊢
    omega
theorem ascL_len (xs : List Int) : (ascL xs).length ≤ xs.length := by have := insAll_len xs []; simpa [ascL] using this
end Go.Proofs.Ytmeaghkpojiniaa.Base
