/- Two permutations one after the other, where they differ, the inverse. Plain lists, of no program. -/
import Derived.Test.YtmeaghkpojiniaaImg
namespace Go.Proofs.Ytmeaghkpojiniaa.Base
set_option linter.unusedVariables false
set_option linter.unusedSimpArgs false
def bothL (p q : List (Int × Int)) : List Int := ascL (srcL p ++ srcL q)
def compF (p q : List (Int × Int)) (a : Int) : Option (Int × Int) := if imgL p (imgL q a) == a then none else some (a, imgL p (imgL q a))
def compL (p q : List (Int × Int)) : List (Int × Int) := (bothL p q).filterMap (compF p q)
def diffF (p q : List (Int × Int)) (a : Int) : Bool := !(imgL p a == imgL q a)
def diffL (p q : List (Int × Int)) : List Int := (bothL p q).filter (diffF p q)
def invL (p : List (Int × Int)) : List (Int × Int) := p.map fun x => (x.1, backL p x.1)
def swL (p : List (Int × Int)) : List (Int × Int) := p.map fun x => (x.2, x.1)
def movedO (p : List (Int × Int)) : List Int := if permS p = true then srcL p else []
def diffO (p q : List (Int × Int)) : List Int := if permS p = true ∧ permS q = true then diffL p q else []
def compOk (p q : List (Int × Int)) : Bool := permS p && (permS q && decide ((compL p q).length ≤ 40))
def compO (p q : List (Int × Int)) : List (Int × Int) := if compOk p q = true then compL p q else []
def invO (p : List (Int × Int)) : List (Int × Int) := if permS p = true then invL p else []
theorem permS_len {p : List (Int × Int)} (h : permS p = true) : p.length ≤ 40 := by
  simp only [permS, Bool.and_eq_true, decide_eq_true_eq] at h; exact h.1
theorem permS_asc {p : List (Int × Int)} (h : permS p = true) : Asc (srcL p) := by
  simp only [permS, Bool.and_eq_true] at h
  exact src_asc fun i hi h0 => ((stepS_facts h.2.1) i hi).2.2 h0
theorem both_nil {p : List (Int × Int)} (h : permS p = true) : ascL (srcL p ++ srcL []) = srcL p := by
  have : srcL p ++ srcL [] = srcL p := by simp [srcL]
  rw [this]; exact ascL_of_asc (permS_asc h)
theorem both_len (p q : List (Int × Int)) : (bothL p q).length ≤ p.length + q.length := by
  have := ascL_len (srcL p ++ srcL q)
  rw [List.length_append, src_len, src_len] at this
  exact this
theorem diff_len (p q : List (Int × Int)) : (diffL p q).length ≤ p.length + q.length := Nat.le_trans (List.length_filter_le _ _) (both_len p q)
theorem comp_len (p q : List (Int × Int)) : (compL p q).length ≤ p.length + q.length := Nat.le_trans (List.length_filterMap_le _ _) (both_len p q)
theorem take_filter_snoc {α : Type} (f : α → Bool) (l : List α) (k : Nat) (h : k < l.length) : (l.take (k + 1)).filter f = (l.take k).filter f ++ (if f l[k] then [l[k]] else []) := by
  rw [List.take_succ_eq_append_getElem h, List.filter_append]
  simp only [List.filter_cons, List.filter_nil]
theorem take_filterMap_snoc {α β : Type} (f : α → Option β) (l : List α) (k : Nat) (h : k < l.length) : (l.take (k + 1)).filterMap f = (l.take k).filterMap f ++ (f l[k]).toList := by
  rw [List.take_succ_eq_append_getElem h, List.filterMap_append]
  simp only [List.filterMap_cons, List.filterMap_nil]
  cases f l[k] <;> rfl
/-! the inverse -/
abbrev AscP (l : List (Int × Int)) : Prop := l.Pairwise fun x y => x.1 < y.1
theorem ascP_unique : ∀ (l m : List (Int × Int)), AscP l → AscP m → (∀ x, x ∈ l ↔ x ∈ m) → l = m
  | [], [], _, _, _ => rfl
  | [], y :: m, _, _, h => absurd ((h y).2 (by simp)) (by simp)
  | x :: l, [], _, _, h => absurd ((h x).1 (by simp)) (by simp)
  | x :: l, y :: m, hl, hm, h => by
    rw [AscP, List.pairwise_cons] at hl hm
    have e : x = y := by
      rcases List.mem_cons.1 ((h x).1 (by simp)) with h1 | h1
      · exact h1
      · rcases List.mem_cons.1 ((h y).2 (by simp)) with h2 | h2
        · exact h2.symm
        · have := hl.1 y h2; have := hm.1 x h1; omega
    subst e
    rw [ascP_unique l m hl.2 hm.2 fun z => ?_]
    constructor
    · intro hz
      rcases List.mem_cons.1 ((h z).1 (by simp [hz])) with h1 | h1
      · subst h1; have := hl.1 z hz; omega
      · exact h1
    · intro hz
      rcases List.mem_cons.1 ((h z).2 (by simp [hz])) with h1 | h1
      · subst h1; have := hm.1 z hz; omega
      · exact h1
theorem back_mem {p : List (Int × Int)} {a : Int} (h : a ∈ tgtL p) : (backL p a, a) ∈ p := by
  unfold backL
  obtain ⟨x, hx, e⟩ := List.mem_map.1 h
  cases hf : p.find? (fun x => x.2 == a) with
  | none =>
    have := List.find?_eq_none.1 hf x hx
    simp [e] at this
  | some y =>
    have h1 := List.find?_some hf
    have h2 := List.mem_of_find?_eq_some hf
    simp at h1
    rw [← h1]; exact h2
theorem tgt_one {p : List (Int × Int)} (h : permS p = true) {a b c : Int} (h1 : (b, a) ∈ p) (h2 : (c, a) ∈ p) : b = c := by
  simp only [permS, Bool.and_eq_true] at h
  have hm := permS_sub h.2.1 h.2.2
  have ha : a ∈ srcL p := (hm a).2 (List.mem_map.2 ⟨_, h1, rfl⟩)
  obtain ⟨i, hi, e⟩ := List.getElem_of_mem ha
  rw [src_len] at hi
  have hc := (allTo_yes _ _).1 h.2.2 i hi
  rw [cntS, gp_lt hi, beq_iff_eq] at hc
  have e' : p[i].1 = a := by simpa [srcL] using e
  rw [e'] at hc
  have key : ∀ (q : List (Int × Int)), (tgtL q).count a ≤ 1 → (b, a) ∈ q → (c, a) ∈ q → b = c := by
    intro q
    induction q with
    | nil => intro _ h; simp at h
    | cons x q ih =>
      intro hq hb hc'
      simp only [tgtL, List.map_cons, List.count_cons] at hq
      have hin : ∀ z, (z, a) ∈ q → 1 ≤ (List.map (·.2) q).count a := fun z hz => List.count_pos_iff.2 (List.mem_map.2 ⟨_, hz, rfl⟩)
      rcases List.mem_cons.1 hb with h5 | h5 <;> rcases List.mem_cons.1 hc' with h6 | h6
      · rw [← h5] at h6; exact (Prod.mk.inj h6).1.symm
      · subst h5; have := hin c h6; simp at hq; omega
      · subst h6; have := hin b h5; simp at hq; omega
      · exact ih (by simp only [tgtL]; omega) h5 h6
  exact key p (by omega) h1 h2
theorem invL_mem {p : List (Int × Int)} (h : permS p = true) (x : Int × Int) : x ∈ swL p ↔ x ∈ invL p := by
  have hm : ∀ x, x ∈ srcL p ↔ x ∈ tgtL p := by
    simp only [permS, Bool.and_eq_true] at h; exact permS_sub h.2.1 h.2.2
  constructor
  · intro hx
    obtain ⟨y, hy, rfl⟩ := List.mem_map.1 hx
    have h1 : y.2 ∈ srcL p := (hm _).2 (List.mem_map.2 ⟨y, hy, rfl⟩)
    obtain ⟨z, hz, e⟩ := List.mem_map.1 h1
    refine List.mem_map.2 ⟨z, hz, ?_⟩
    have e' : z.1 = y.2 := e
    rw [e']
    have h2 := back_mem ((hm _).1 h1)
    rw [tgt_one h h2 (show (y.1, y.2) ∈ p from hy)]
  · intro hx
    obtain ⟨y, hy, rfl⟩ := List.mem_map.1 hx
    have h1 := back_mem ((hm y.1).1 (List.mem_map.2 ⟨y, hy, rfl⟩))
    exact List.mem_map.2 ⟨_, h1, rfl⟩
theorem invL_asc {p : List (Int × Int)} (h : permS p = true) : AscP (invL p) := by
  have := permS_asc h
  rw [Asc, srcL, List.pairwise_map] at this
  rw [AscP, invL, List.pairwise_map]
  exact this
theorem swL_nodup {p : List (Int × Int)} (h : permS p = true) : ((swL p).map (·.1)).Nodup := by
  have e : (swL p).map (·.1) = tgtL p := by simp [swL, tgtL]
  rw [e]
  simp only [permS, Bool.and_eq_true] at h
  have hm := permS_sub h.2.1 h.2.2
  rw [List.nodup_iff_count]
  intro a
  by_cases ha : a ∈ tgtL p
  · obtain ⟨i, hi, e⟩ := List.getElem_of_mem ((hm a).2 ha)
    rw [src_len] at hi
    have hc := (allTo_yes _ _).1 h.2.2 i hi
    rw [cntS, gp_lt hi, beq_iff_eq] at hc
    have e' : p[i].1 = a := by simpa [srcL] using e
    rw [e'] at hc
    omega
  · rw [List.count_eq_zero.2 ha]; omega
/-- What is sorted by the first numbers, and holds the pairs turned round, is the inverse. -/
theorem inv_of_sorted {p s : List (Int × Int)} (h : permS p = true) (hp : s.Perm (swL p)) (hs : s.Pairwise fun x y => x.1 ≤ y.1) : s = invL p := by
  refine ascP_unique _ _ ?_ (invL_asc h) fun x => by rw [hp.mem_iff, invL_mem h]
  have hn : (s.map (·.1)).Nodup := (hp.map (·.1)).nodup_iff.2 (swL_nodup h)
  rw [List.Nodup, List.pairwise_map] at hn
  exact (hs.and hn).imp fun ⟨h1, h2⟩ => by omega
end Go.Proofs.Ytmeaghkpojiniaa.Base
