/- The order of a permutation: the least common multiple of its cycles' lengths, which is small. Plain numbers and lists, of no program. -/
import Derived.Test.YtmeaghkpojiniaaCyc
namespace Go.Proofs.Ytmeaghkpojiniaa.Base
set_option linter.unusedVariables false
set_option linter.unusedSimpArgs false
theorem way_nodup {p : List (Int × Int)} (h : permS p = true) {a : Int} {m : Nat} (hm : Per p a m) : (way p a m).Nodup := by
  rw [way, List.Nodup, List.pairwise_map, List.pairwise_iff_getElem]
  intro i j hi hj hij e
  simp only [List.getElem_range] at e
  simp only [List.length_range] at hj
  obtain ⟨d, rfl⟩ : ∃ d, j = i + d := ⟨j - i, by omega⟩
  rw [it_add] at e
  exact hm.first d (by omega) (by omega) (it_inj h i e).symm
theorem cycS_nodup {p : List (Int × Int)} (h : permS p = true) : ∀ (q : List (Int × Int)) (S : List Int), (∀ x ∈ q, x.1 ∈ srcL p) → S.Nodup → ShutBy p S → (∀ x ∈ S, x ∈ srcL p) → (S ++ (cycS p q S).flatten).Nodup ∧ ∀ x ∈ S ++ (cycS p q S).flatten, x ∈ srcL p
  | [], S, _, hn, _, hs => by simp [cycS]; exact ⟨hn, hs⟩
  | x :: q, S, hq, hn, hc, hs => by
    rw [cycS]
    split
    · exact cycS_nodup h q S (fun y hy => hq y (by simp [hy])) hn hc hs
    · rename_i hx
      obtain ⟨m, hm, e⟩ := per_ex h (hq x (by simp))
      have hd : (S ++ orb p x.1).Nodup := by
        rw [e, List.nodup_append]
        refine ⟨hn, way_nodup h hm, fun a ha b hb e => ?_⟩
        subst e
        obtain ⟨k, _, rfl⟩ := way_mem.1 hb
        exact hx (closed_it hc k ha)
      have hsrc : ∀ y ∈ S ++ orb p x.1, y ∈ srcL p := fun y hy => by
        rcases List.mem_append.1 hy with hy | hy
        · exact hs y hy
        · rw [e] at hy
          obtain ⟨k, _, rfl⟩ := way_mem.1 hy
          exact it_src h (hq x (by simp)) k
      have := cycS_nodup h q (S ++ orb p x.1) (fun y hy => hq y (by simp [hy])) hd (closed_append hc (by rw [e]; exact closed_way h hm)) hsrc
      rw [List.flatten_cons, ← List.append_assoc]
      exact this
def lenSum (ls : List (List Int)) : Nat := (ls.map List.length).sum
theorem cyc_sum {p : List (Int × Int)} (h : permS p = true) : lenSum (cycL p) ≤ 40 := by
  have h1 := cycS_nodup h p [] (fun x hx => List.mem_map.2 ⟨x, hx, rfl⟩) List.nodup_nil (fun x hx => by simp at hx) (by simp)
  have h2 := nodup_le h1.1 h1.2
  rw [List.nil_append, List.length_flatten, src_len] at h2
  have := permS_len h
  unfold lenSum cycL
  omega
def lcms : List (List Int) → Nat | [] => 1 | l :: r => Nat.lcm (lcms r) l.length
/-- In the order of the walk. -/
def lcmF (ls : List (List Int)) : Nat := ls.foldl (fun n l => Nat.lcm n l.length) 1
theorem lcmF_snoc (ls : List (List Int)) (k : Nat) (h : k < ls.length) : lcmF (ls.take (k + 1)) = Nat.lcm (lcmF (ls.take k)) ls[k].length := by
  rw [List.take_succ_eq_append_getElem h, lcmF, List.foldl_append]; rfl
theorem lt_two (n : Nat) : n ≤ 2 ^ n := Nat.le_of_lt Nat.lt_two_pow_self
theorem lcm_pos {n l : Nat} (hn : 0 < n) (hl : 0 < l) : 0 < Nat.lcm n l := Nat.lcm_pos hn hl
theorem lcm_le_mul {n l : Nat} (hn : 0 < n) (hl : 0 < l) : Nat.lcm n l ≤ n * l := Nat.le_of_dvd (Nat.mul_pos hn hl) (Nat.lcm_dvd_mul n l)
theorem lcmF_bound : ∀ (ls : List (List Int)) (n : Nat), 0 < n → (∀ l ∈ ls, 0 < l.length) → 0 < ls.foldl (fun n l => Nat.lcm n l.length) n ∧ ls.foldl (fun n l => Nat.lcm n l.length) n ≤ n * 2 ^ lenSum ls
  | [], n, hn, _ => by simp [lenSum]; exact hn
  | l :: ls, n, hn, hl => by
    have h1 := hl l (by simp)
    have h2 := lcmF_bound ls (Nat.lcm n l.length) (lcm_pos hn h1) (fun m hm => hl m (by simp [hm]))
    refine ⟨h2.1, Nat.le_trans h2.2 ?_⟩
    have h3 := lcm_le_mul hn h1
    have h4 := lt_two l.length
    have e : lenSum (l :: ls) = l.length + lenSum ls := by simp [lenSum]
    rw [e, Nat.pow_add, ← Nat.mul_assoc]
    exact Nat.mul_le_mul_right _ (Nat.le_trans h3 (Nat.mul_le_mul_left _ h4))
theorem lenSum_take (ls : List (List Int)) (k : Nat) : lenSum (ls.take k) ≤ lenSum ls := by
  have : lenSum ls = lenSum (ls.take k) + lenSum (ls.drop k) := by unfold lenSum; rw [← List.sum_append, ← List.map_append, List.take_append_drop]
  omega
theorem lcmF_small {ls : List (List Int)} (h : ∀ l ∈ ls, 0 < l.length) (hs : lenSum ls ≤ 40) (k : Nat) : 0 < lcmF (ls.take k) ∧ lcmF (ls.take k) ≤ 1099511627776 := by
  have h1 := lcmF_bound (ls.take k) 1 (by omega) (fun l hl => h l (List.mem_of_mem_take hl))
  refine ⟨h1.1, Nat.le_trans h1.2 ?_⟩
  rw [Nat.one_mul]
  have := lenSum_take ls k
  exact Nat.le_trans (Nat.pow_le_pow_right (by omega) (show lenSum (ls.take k) ≤ 40 by omega)) (by decide)
/-- The first multiple that the other divides. -/
theorem lcm_first {n l j : Nat} (hn : 0 < n) (hl : 0 < l) (hj : 0 < j) (hd : l ∣ n * j) (hf : ∀ i, 0 < i → i < j → ¬ l ∣ n * i) : n * j = Nat.lcm n l := by
  obtain ⟨i, hi⟩ := Nat.dvd_lcm_left n l
  have h1 : Nat.lcm n l ∣ n * j := Nat.lcm_dvd (Nat.dvd_mul_right n j) hd
  have hip : 0 < i := by
    rcases Nat.eq_zero_or_pos i with h | h
    · subst h; have := lcm_pos hn hl; omega
    · exact h
  have h2 : Nat.lcm n l ≤ n * j := Nat.le_of_dvd (Nat.mul_pos hn hj) h1
  rw [hi] at h2
  have h3 : i ≤ j := Nat.le_of_mul_le_mul_left h2 hn
  rcases Nat.lt_or_ge i j with h4 | h4
  · exact absurd (hi ▸ Nat.dvd_lcm_right n l) (hf i hip h4)
  · have : i = j := by omega
    rw [hi, this]
theorem lcm_room {n l j : Nat} (hn : 0 < n) (hl : 0 < l) (hf : ∀ i, 0 < i → i ≤ j → ¬ l ∣ n * i) : j < l := by
  rcases Nat.lt_or_ge j l with h | h
  · exact h
  · exact absurd (Nat.dvd_mul_left l n) (hf l hl h)
theorem gcd_lcm (n l : Nat) : n / Nat.gcd n l * l = Nat.lcm n l := by rw [Nat.lcm, Nat.div_mul_right_comm (Nat.gcd_dvd_left n l)]
def orderO (p : List (Int × Int)) : Int := if permS p = true then (lcmF (cycL p) : Int) else -1
end Go.Proofs.Ytmeaghkpojiniaa.Base
