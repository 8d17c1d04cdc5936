/- The cycles of a permutation. Plain lists, of no program. -/
import Derived.Test.YtmeaghkpojiniaaCmpL
namespace Go.Proofs.Ytmeaghkpojiniaa.Base
set_option linter.unusedVariables false
set_option linter.unusedSimpArgs false
def it (p : List (Int × Int)) : Nat → Int → Int | 0, a => a | k + 1, a => imgL p (it p k a)
theorem it_add (p : List (Int × Int)) (a : Int) : ∀ (j k : Nat), it p (j + k) a = it p j (it p k a)
  | 0, k => by simp [it]
  | j + 1, k => by rw [Nat.add_right_comm, it, it, it_add p a j k]
theorem img_mem {p : List (Int × Int)} {a : Int} (h : a ∈ srcL p) : (a, imgL p a) ∈ p := by
  obtain ⟨x, hx, e⟩ := List.mem_map.1 h
  unfold imgL
  cases hf : p.find? (fun x => x.1 == a) with
  | none => have := List.find?_eq_none.1 hf x hx; simp [e] at this
  | some y =>
    have h1 := List.find?_some hf
    have h2 := List.mem_of_find?_eq_some hf
    simp at h1
    rw [← h1]; exact h2
theorem img_out {p : List (Int × Int)} {a : Int} (h : a ∉ srcL p) : imgL p a = a := by
  unfold imgL
  cases hf : p.find? (fun x => x.1 == a) with
  | none => rfl
  | some y =>
    have h1 := List.find?_some hf
    have h2 := List.mem_of_find?_eq_some hf
    simp at h1
    exact absurd (List.mem_map.2 ⟨y, h2, h1⟩) h
theorem perm_mem {p : List (Int × Int)} (h : permS p = true) (x : Int) : x ∈ srcL p ↔ x ∈ tgtL p := by
  simp only [permS, Bool.and_eq_true] at h; exact permS_sub h.2.1 h.2.2 x
theorem img_src {p : List (Int × Int)} (h : permS p = true) {a : Int} (ha : a ∈ srcL p) : imgL p a ∈ srcL p :=
  (perm_mem h _).2 (List.mem_map.2 ⟨_, img_mem ha, rfl⟩)
theorem img_inj {p : List (Int × Int)} (h : permS p = true) {x y : Int} (e : imgL p x = imgL p y) : x = y := by
  by_cases hx : x ∈ srcL p <;> by_cases hy : y ∈ srcL p
  · have h1 := img_mem hx
    have h2 := img_mem hy
    rw [← e] at h2
    exact tgt_one h h1 h2
  · rw [img_out hy] at e
    exact absurd (e ▸ img_src h hx) hy
  · rw [img_out hx] at e
    exact absurd (e ▸ img_src h hy) hx
  · rwa [img_out hx, img_out hy] at e
theorem it_inj {p : List (Int × Int)} (h : permS p = true) : ∀ (k : Nat) {x y : Int}, it p k x = it p k y → x = y
  | 0, x, y, e => e
  | k + 1, x, y, e => it_inj h k (img_inj h e)
theorem it_src {p : List (Int × Int)} (h : permS p = true) {a : Int} (ha : a ∈ srcL p) : ∀ k, it p k a ∈ srcL p
  | 0 => ha
  | k + 1 => img_src h (it_src h ha k)
theorem least_of {P : Nat → Prop} : ∀ n, P n → ∃ m, m ≤ n ∧ P m ∧ ∀ k, k < m → ¬ P k := by
  intro n
  induction n using Nat.strongRecOn with
  | ind n ih =>
    intro hn
    by_cases h : ∃ k, k < n ∧ P k
    · obtain ⟨k, hk, hp⟩ := h
      obtain ⟨m, h1, h2, h3⟩ := ih k hk hp
      exact ⟨m, by omega, h2, h3⟩
    · exact ⟨n, Nat.le_refl _, hn, fun k hk hp => h ⟨k, hk, hp⟩⟩
theorem nodup_le {F T : List Int} (hF : F.Nodup) (hs : ∀ x ∈ F, x ∈ T) : F.length ≤ T.length := by
  have h1 := count_sum F T hF
  have h2 : F.length ≤ (F.map fun f => T.count f).sum := by
    clear h1 hF
    induction F with
    | nil => simp
    | cons x F ih =>
      rw [List.map_cons, List.sum_cons, List.length_cons]
      have := ih (fun y hy => hs y (by simp [hy]))
      have h3 : 1 ≤ T.count x := List.count_pos_iff.2 (hs x (by simp))
      omega
  have h3 := List.countP_le_length (p := fun x => decide (x ∈ F)) (l := T)
  omega
/-- How long a number goes round. -/
theorem per_of {p : List (Int × Int)} (h : permS p = true) {a : Int} (ha : a ∈ srcL p) : ∃ m, 0 < m ∧ m ≤ p.length ∧ it p m a = a ∧ ∀ k, 0 < k → k < m → it p k a ≠ a := by
  by_cases hex : ∃ k, 0 < k ∧ k ≤ p.length ∧ it p k a = a
  · obtain ⟨k, h0, h1, h2⟩ := hex
    obtain ⟨m, m1, ⟨m2, m3⟩, m4⟩ := least_of (P := fun k => 0 < k ∧ it p k a = a) k ⟨h0, h2⟩
    exact ⟨m, m2, by omega, m3, fun j j0 jm e => m4 j jm ⟨j0, e⟩⟩
  · exfalso
    have hnd : ((List.range (p.length + 1)).map fun k => it p k a).Nodup := by
      rw [List.Nodup, List.pairwise_map, List.pairwise_iff_getElem]
      intro i j hi hj hij e
      simp only [List.getElem_range] at e
      simp only [List.length_range] at hj
      obtain ⟨d, rfl⟩ : ∃ d, j = i + d := ⟨j - i, by omega⟩
      rw [it_add] at e
      exact hex ⟨d, by omega, by omega, (it_inj h i e).symm⟩
    have := nodup_le hnd (T := srcL p) (fun x hx => by
      obtain ⟨k, _, rfl⟩ := List.mem_map.1 hx
      exact it_src h ha k)
    rw [List.length_map, List.length_range, src_len] at this
    omega
/-- The first numbers on the way round. -/
def way (p : List (Int × Int)) (a : Int) (m : Nat) : List Int := (List.range m).map fun k => it p k a
theorem way_succ (p : List (Int × Int)) (a : Int) (m : Nat) : way p a (m + 1) = way p a m ++ [it p m a] := by simp [way, List.range_succ]
theorem way_len (p : List (Int × Int)) (a : Int) (m : Nat) : (way p a m).length = m := by simp [way]
theorem way_mem {p : List (Int × Int)} {a x : Int} {m : Nat} : x ∈ way p a m ↔ ∃ k, k < m ∧ it p k a = x := by simp [way]
/-- How long, told. -/
def perL (p : List (Int × Int)) (a : Int) : Nat := ((List.range p.length).find? fun k => it p (k + 1) a == a).getD 0 + 1
theorem perL_eq {p : List (Int × Int)} {a : Int} {m : Nat} (h0 : 0 < m) (h1 : m ≤ p.length) (h2 : it p m a = a) (h3 : ∀ k, 0 < k → k < m → it p k a ≠ a) : perL p a = m := by
  unfold perL
  obtain ⟨q, rfl⟩ : ∃ q, m = q + 1 := ⟨m - 1, by omega⟩
  have : (List.range p.length).find? (fun k => it p (k + 1) a == a) = some q := by
    rw [List.find?_eq_some_iff_getElem]
    refine ⟨by simpa using h2, q, by simp; omega, by simp, fun j hj => ?_⟩
    simp only [List.getElem_range]
    have := h3 (j + 1) (by omega) (by omega)
    simpa using this
  rw [this]; rfl
def orb (p : List (Int × Int)) (a : Int) : List Int := way p a (perL p a)
structure Per (p : List (Int × Int)) (a : Int) (m : Nat) : Prop where
  pos : 0 < m
  le : m ≤ p.length
  back : it p m a = a
  first : ∀ k, 0 < k → k < m → it p k a ≠ a
theorem per_ex {p : List (Int × Int)} (h : permS p = true) {a : Int} (ha : a ∈ srcL p) : ∃ m, Per p a m ∧ orb p a = way p a m := by
  obtain ⟨m, h0, h1, h2, h3⟩ := per_of h ha
  exact ⟨m, ⟨h0, h1, h2, h3⟩, by rw [orb, perL_eq h0 h1 h2 h3]⟩
/-- A set that holds whatever is led into it. -/
def ShutBy (p : List (Int × Int)) (S : List Int) : Prop := ∀ x, imgL p x ∈ S → x ∈ S
theorem closed_way {p : List (Int × Int)} (h : permS p = true) {a : Int} {m : Nat} (hm : Per p a m) : ShutBy p (way p a m) := by
  intro x hx
  obtain ⟨k, hk, e⟩ := way_mem.1 hx
  rw [way_mem]
  cases k with
  | zero =>
    obtain ⟨q, rfl⟩ : ∃ q, m = q + 1 := ⟨m - 1, by have := hm.pos; omega⟩
    refine ⟨q, by omega, img_inj h ?_⟩
    have h1 : it p (q + 1) a = a := hm.back
    have h2 : it p 0 a = a := rfl
    rw [h2] at e
    rw [← e]; exact h1
  | succ k => exact ⟨k, by omega, img_inj h (by exact e)⟩
theorem closed_append {p : List (Int × Int)} {S T : List Int} (h1 : ShutBy p S) (h2 : ShutBy p T) : ShutBy p (S ++ T) := fun x hx => by
  rcases List.mem_append.1 hx with h | h
  · exact List.mem_append.2 (.inl (h1 x h))
  · exact List.mem_append.2 (.inr (h2 x h))
theorem closed_it {p : List (Int × Int)} {S : List Int} (h : ShutBy p S) {a : Int} : ∀ k, it p k a ∈ S → a ∈ S
  | 0, hx => hx
  | k + 1, hx => closed_it h k (h _ hx)
/-- Where the way meets what has been seen: at its end. -/
theorem way_seen {p : List (Int × Int)} (h : permS p = true) {a : Int} {m : Nat} (hm : Per p a m) {S : List Int} (hS : ShutBy p S) (ha : a ∉ S) {j : Nat} (hj : j ≤ m) : it p j a ∈ S ++ way p a j ↔ j = m := by
  constructor
  · intro hx
    rcases List.mem_append.1 hx with h1 | h1
    · exact absurd (closed_it hS j h1) ha
    · obtain ⟨i, hi, e⟩ := way_mem.1 h1
      obtain ⟨d, rfl⟩ : ∃ d, j = i + d := ⟨j - i, by omega⟩
      rw [it_add] at e
      have e2 := (it_inj h i e).symm
      rcases Nat.lt_or_ge d m with h2 | h2
      · exact absurd e2 (hm.first d (by omega) h2)
      · have : i = 0 := by omega
        subst this
        omega
  · rintro rfl
    rw [hm.back]
    exact List.mem_append.2 (.inr (way_mem.2 ⟨0, hm.pos, rfl⟩))
def cycS (p : List (Int × Int)) : List (Int × Int) → List Int → List (List Int)
  | [], _ => []
  | x :: r, S => if x.1 ∈ S then cycS p r S else orb p x.1 :: cycS p r (S ++ orb p x.1)
def cycL (p : List (Int × Int)) : List (List Int) := cycS p p []
theorem cycS_skip {p q : List (Int × Int)} {S : List Int} {k : Nat} (h : k < q.length) (h1 : q[k].1 ∈ S) : cycS p (q.drop k) S = cycS p (q.drop (k + 1)) S := by
  rw [List.drop_eq_getElem_cons h, cycS, if_pos h1]
theorem cycS_take {p q : List (Int × Int)} {S : List Int} {k : Nat} (h : k < q.length) (h1 : q[k].1 ∉ S) : cycS p (q.drop k) S = orb p q[k].1 :: cycS p (q.drop (k + 1)) (S ++ orb p q[k].1) := by
  rw [List.drop_eq_getElem_cons h, cycS, if_neg h1]
theorem cycS_len (p : List (Int × Int)) : ∀ (q : List (Int × Int)) (S : List Int), (cycS p q S).length ≤ q.length
  | [], S => by simp [cycS]
  | x :: q, S => by
    rw [cycS]; split
    · have := cycS_len p q S; simp; omega
    · have := cycS_len p q (S ++ orb p x.1); simp; omega
theorem cycS_mem (p : List (Int × Int)) : ∀ (q : List (Int × Int)) (S : List Int), ∀ l ∈ cycS p q S, ∃ x ∈ q, l = orb p x.1
  | [], S, l, h => by simp [cycS] at h
  | x :: q, S, l, h => by
    rw [cycS] at h; split at h
    · obtain ⟨y, hy, e⟩ := cycS_mem p q S l h; exact ⟨y, by simp [hy], e⟩
    · rcases List.mem_cons.1 h with rfl | h
      · exact ⟨x, by simp, rfl⟩
      · obtain ⟨y, hy, e⟩ := cycS_mem p q _ l h; exact ⟨y, by simp [hy], e⟩
theorem orb_len {p : List (Int × Int)} (h : permS p = true) {a : Int} (ha : a ∈ srcL p) : 0 < (orb p a).length ∧ (orb p a).length ≤ 40 := by
  obtain ⟨m, hm, e⟩ := per_ex h ha
  rw [e, way_len]
  have := hm.pos; have := hm.le; have := permS_len h
  omega
theorem cyc_mem_len {p : List (Int × Int)} (h : permS p = true) {l : List Int} (hl : l ∈ cycL p) : 0 < l.length ∧ l.length ≤ 40 := by
  obtain ⟨x, hx, rfl⟩ := cycS_mem p p [] l hl
  exact orb_len h (List.mem_map.2 ⟨x, hx, rfl⟩)
end Go.Proofs.Ytmeaghkpojiniaa.Base
