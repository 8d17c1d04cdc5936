/- A list of pairs that is a permutation: the model's test and the program's are one. Plain lists, of no program. -/
import Derived.Test.YtmeaghkpojiniaaAsc
import Derived.Test.YtmeaghkpojiniaaCmp0
namespace Go.Proofs.Ytmeaghkpojiniaa.Base
set_option linter.unusedVariables false
set_option linter.unusedSimpArgs false
def srcL (p : List (Int × Int)) : List Int := p.map (·.1)
def tgtL (p : List (Int × Int)) : List Int := p.map (·.2)
def imgL (p : List (Int × Int)) (a : Int) : Int := match p.find? (fun x => x.1 == a) with | some x => x.2 | none => a
def backL (p : List (Int × Int)) (a : Int) : Int := match p.find? (fun x => x.2 == a) with | some x => x.1 | none => a
def gp (p : List (Int × Int)) (i : Nat) : Int × Int := p.getD i (0, 0)
/-- The model's step, the program's, the model's count. -/
def stepS (p : List (Int × Int)) (i : Nat) : Bool := atom (gp p i).1 && !((gp p i).1 == (gp p i).2) && !(decide (0 < i) && decide ((gp p i).1 ≤ (gp p (i - 1)).1))
def stepImp (p : List (Int × Int)) (i : Nat) : Bool := atom (gp p i).1 && atom (gp p i).2 && !((gp p i).1 == (gp p i).2) && !(decide (0 < i) && decide ((gp p i).1 ≤ (gp p (i - 1)).1))
def cntS (p : List (Int × Int)) (i : Nat) : Bool := (tgtL p).count (gp p i).1 == 1
def permS (p : List (Int × Int)) : Bool := decide (p.length ≤ 40) && (allTo (stepS p) p.length && allTo (cntS p) p.length)
def permT (p : List (Int × Int)) : Bool := decide (p.length ≤ 40) && (allTo (stepImp p) p.length && (ascL (tgtL p) == srcL p))
theorem gp_lt {p : List (Int × Int)} {i : Nat} (h : i < p.length) : gp p i = p[i] := by simp [gp, h, List.getD]
theorem src_len (p : List (Int × Int)) : (srcL p).length = p.length := by simp [srcL]
theorem tgt_len (p : List (Int × Int)) : (tgtL p).length = p.length := by simp [tgtL]
/-- The sum over the different members of a list of how often another one holds them. -/
theorem count_sum : ∀ (F T : List Int), F.Nodup → (F.map fun f => T.count f).sum = T.countP (fun x => decide (x ∈ F))
  | [], T, _ => by
    simp
  | f :: F, T, h => by
    rw [List.nodup_cons] at h
    rw [List.map_cons, List.sum_cons, count_sum F T h.2]
    have hf := h.1
    clear h
    induction T with
    | nil => rfl
    | cons t T ih =>
      rw [List.count_cons, List.countP_cons, List.countP_cons]
      by_cases e : t = f
      · subst e
        have h1 : decide (t ∈ F) = false := by simp [hf]
        have h2 : decide (t ∈ t :: F) = true := by simp
        simp only [h1, h2, beq_self_eq_true, if_true, Bool.false_eq_true, if_false]
        omega
      · have h1 : decide (t ∈ f :: F) = decide (t ∈ F) := by simp [e]
        have h2 : (t == f) = false := by simp [e]
        rw [h1, h2]
        simp only [Bool.false_eq_true, if_false]
        omega
theorem src_mem {p : List (Int × Int)} {i : Nat} (h : i < p.length) : p[i].1 ∈ srcL p := List.mem_map.2 ⟨p[i], List.getElem_mem h, rfl⟩
theorem tgt_mem {p : List (Int × Int)} {i : Nat} (h : i < p.length) : p[i].2 ∈ tgtL p := List.mem_map.2 ⟨p[i], List.getElem_mem h, rfl⟩
theorem sum_ones : ∀ (l : List Nat), (∀ x ∈ l, x = 1) → l.sum = l.length
  | [], _ => rfl
  | x :: l, h => by rw [List.sum_cons, sum_ones l (fun y hy => h y (by simp [hy])), h x (by simp), List.length_cons]; omega
theorem ones_of_sum : ∀ (l : List Nat), (∀ x ∈ l, 1 ≤ x) → l.sum = l.length → ∀ x ∈ l, x = 1
  | [], _, _, x, hx => by simp at hx
  | y :: l, h, hs, x, hx => by
    have h1 : l.length ≤ l.sum := by
      clear hs hx
      have h2 : ∀ x ∈ l, 1 ≤ x := fun z hz => h z (by simp [hz])
      clear h
      induction l with
      | nil => simp
      | cons z l ih => rw [List.sum_cons, List.length_cons]; have := h2 z (by simp); have := ih (fun q hq => h2 q (by simp [hq])); omega
    rw [List.sum_cons, List.length_cons] at hs
    have := h y (by simp)
    rcases List.mem_cons.1 hx with rfl | hx
    · omega
    · exact ones_of_sum l (fun z hz => h z (by simp [hz])) (by omega) x hx
theorem src_asc {p : List (Int × Int)} (h : ∀ i, i < p.length → 0 < i → (gp p (i - 1)).1 < (gp p i).1) : Asc (srcL p) := by
  rw [Asc, List.pairwise_iff_getElem]
  have step : ∀ d i, (hi : i + d + 1 < p.length) → (p[i]'(by omega)).1 < (p[i + d + 1]).1 := by
    intro d
    induction d with
    | zero =>
      intro i hi
      have := h (i + 1) (by omega) (by omega)
      rw [Nat.add_sub_cancel, gp_lt (by omega), gp_lt (by omega)] at this
      simpa using this
    | succ d ih =>
      intro i hi
      have h1 := ih i (by omega)
      have h2 := h (i + (d + 1) + 1) (by omega) (by omega)
      rw [Nat.add_sub_cancel, gp_lt (by omega), gp_lt (by omega)] at h2
      have e : i + (d + 1) = i + d + 1 := rfl
      simp only [e] at h2 ⊢
      omega
  intro i j hi hj hij
  simp only [srcL, List.getElem_map]
  obtain ⟨d, rfl⟩ : ∃ d, j = i + d + 1 := ⟨j - i - 1, by omega⟩
  exact step d i (by simpa [srcL] using hj)
theorem asc_nodup {l : List Int} (h : Asc l) : l.Nodup := h.imp (fun hab => by omega)
theorem stepS_facts {p : List (Int × Int)} (h : allTo (stepS p) p.length = true) : ∀ i, i < p.length → atom (gp p i).1 = true ∧ (gp p i).1 ≠ (gp p i).2 ∧ (0 < i → (gp p (i - 1)).1 < (gp p i).1) := by
  intro i hi
  have h1 := (allTo_yes _ _).1 h i hi
  simp only [stepS, Bool.and_eq_true, Bool.not_eq_true', Bool.and_eq_false_iff, decide_eq_false_iff_not, beq_eq_false_iff_ne] at h1
  exact ⟨h1.1.1, h1.1.2, fun h0 => by rcases h1.2 with h2 | h2 <;> omega⟩
theorem stepImp_of {p : List (Int × Int)} {i : Nat} : stepImp p i = (stepS p i && atom (gp p i).2) := by
  unfold stepImp stepS
  cases atom (gp p i).1 <;> cases atom (gp p i).2 <;> simp
theorem permS_sub {p : List (Int × Int)} (h1 : allTo (stepS p) p.length = true) (h2 : allTo (cntS p) p.length = true) : ∀ x, x ∈ srcL p ↔ x ∈ tgtL p := by
  have ha := src_asc (fun i hi h0 => ((stepS_facts h1) i hi).2.2 h0)
  have hc : ∀ f ∈ srcL p, (tgtL p).count f = 1 := by
    intro f hf
    obtain ⟨i, hi, rfl⟩ := List.getElem_of_mem hf
    rw [src_len] at hi
    have := (allTo_yes _ _).1 h2 i hi
    rw [cntS, gp_lt hi, beq_iff_eq] at this
    simpa [srcL] using this
  have hs := count_sum (srcL p) (tgtL p) (asc_nodup ha)
  rw [sum_ones _ (by intro x hx; obtain ⟨f, hf, rfl⟩ := List.mem_map.1 hx; exact hc f hf), List.length_map, src_len, ← tgt_len] at hs
  have hall := List.countP_eq_length.1 hs.symm
  intro x
  constructor
  · intro hx
    have := hc x hx
    exact List.count_pos_iff.1 (by omega)
  · intro hx
    simpa using hall x hx
theorem perm_eq (p : List (Int × Int)) : permT p = permS p := by
  unfold permT permS
  cases h0 : decide (p.length ≤ 40)
  · rfl
  · simp only [Bool.true_and]
    rw [Bool.eq_iff_iff]
    simp only [Bool.and_eq_true, beq_iff_eq]
    constructor
    · rintro ⟨h1, h2⟩
      have hS : allTo (stepS p) p.length = true := (allTo_yes _ _).2 fun i hi => by
        have := (allTo_yes _ _).1 h1 i hi
        rw [stepImp_of, Bool.and_eq_true] at this
        exact this.1
      refine ⟨hS, (allTo_yes _ _).2 fun i hi => ?_⟩
      have ha := src_asc (fun i hi h0 => ((stepS_facts hS) i hi).2.2 h0)
      have hs := count_sum (srcL p) (tgtL p) (asc_nodup ha)
      have hm : ∀ x, x ∈ tgtL p ↔ x ∈ srcL p := fun x => by rw [← h2, ascL_mem]
      rw [List.countP_eq_length.2 (fun x hx => by simpa using (hm x).1 hx), tgt_len, ← src_len] at hs
      have hone := ones_of_sum ((srcL p).map fun f => (tgtL p).count f) (by
        intro x hx
        obtain ⟨f, hf, rfl⟩ := List.mem_map.1 hx
        exact List.count_pos_iff.2 ((hm f).2 hf)) (by rw [hs, List.length_map])
      rw [cntS, gp_lt hi, beq_iff_eq]
      exact hone _ (List.mem_map.2 ⟨p[i].1, src_mem hi, rfl⟩)
    · rintro ⟨h1, h2⟩
      have hm := permS_sub h1 h2
      have hf := stepS_facts h1
      have ha := src_asc (fun i hi h0 => (hf i hi).2.2 h0)
      refine ⟨(allTo_yes _ _).2 fun i hi => ?_, asc_unique _ _ (ascL_asc _) ha fun x => by rw [ascL_mem, hm]⟩
      rw [stepImp_of, Bool.and_eq_true]
      refine ⟨(allTo_yes _ _).1 h1 i hi, ?_⟩
      have : (gp p i).2 ∈ srcL p := (hm _).2 (by rw [gp_lt hi]; exact tgt_mem hi)
      obtain ⟨j, hj, e⟩ := List.getElem_of_mem this
      rw [src_len] at hj
      have h3 := (hf j hj).1
      rw [gp_lt hj] at h3
      rw [← e]
      simpa [srcL] using h3
end Go.Proofs.Ytmeaghkpojiniaa.Base
