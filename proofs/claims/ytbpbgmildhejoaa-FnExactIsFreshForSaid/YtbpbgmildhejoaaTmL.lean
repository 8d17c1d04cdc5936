/- Terms: which are right, their size, their free atoms, all their atoms, their holes; the two ways to each come to one. Plain lists and trees, of no program. -/
import Derived.Test.YtbpbgmildhejoaaPermL
namespace Go.Proofs.Ytbpbgmildhejoaa.Base
set_option linter.unusedVariables false
set_option linter.unusedSimpArgs false
def inR (a lo hi : Int) : Bool := decide (lo ≤ a) && decide (a ≤ hi)
/-- The fields of a term are right, its kids aside. -/
def shapeT (t : Tm) : Bool :=
  if t.op = 1 then atom t.n && (decide (t.perm.length = 0) && decide (t.kids.length = 0))
  else if t.op = 2 then inR t.n 0 11 && (decide (t.perm.length = 0) && decide ((t.kids.length : Int) = Int.tmod t.n 4))
  else if t.op = 3 then atom t.n && (decide (t.perm.length = 0) && decide (t.kids.length = 1))
  else if t.op = 4 then inR t.n 0 9 && (permS t.perm && decide (t.kids.length = 0))
  else false
mutual
def good : Tm → Bool | .mk o n p k => shapeT (.mk o n p k) && goodL k
def goodL : List Tm → Bool | [] => true | t :: ts => good t && goodL ts
end
theorem good_eq (t : Tm) : good t = (shapeT t && goodL t.kids) := by cases t; rfl
theorem goodL_no : ∀ (ts : List Tm) (j : Nat) (h : j < ts.length), good ts[j] = false → goodL ts = false
  | [], j, h, _ => by simp at h
  | t :: ts, 0, _, h => by simp at h; simp [goodL, h]
  | t :: ts, j + 1, h, h' => by simp [goodL, goodL_no ts j (by simpa using h) (by simpa using h')]
theorem goodL_snoc : ∀ (ts : List Tm) (j : Nat) (h : j < ts.length), goodL (ts.take (j + 1)) = (goodL (ts.take j) && good ts[j])
  | [], j, h => by simp at h
  | t :: ts, 0, _ => by simp [goodL]
  | t :: ts, j + 1, h => by simp [goodL, goodL_snoc ts j (by simpa using h), Bool.and_assoc]
theorem goodL_mem : ∀ (ts : List Tm), goodL ts = true → ∀ t ∈ ts, good t = true
  | [], _, t, h => by simp at h
  | x :: ts, h, t, ht => by
    simp only [goodL, Bool.and_eq_true] at h
    rcases List.mem_cons.1 ht with rfl | ht
    · exact h.1
    · exact goodL_mem ts h.2 t ht
mutual
theorem sz_bulk : ∀ (t : Tm), t.sz ≤ t.bulk + 1
  | .mk o n p k => by have := szL_bulk k; simp only [Tm.sz, Tm.bulk]; omega
theorem szL_bulk : ∀ (ts : List Tm), szL ts ≤ bulkL ts
  | [] => by simp [szL, bulkL]
  | t :: ts => by have := sz_bulk t; have := szL_bulk ts; simp only [szL, bulkL]; omega
end
def termT (t : Tm) : Bool := good t && decide (t.sz ≤ 60)
def termL (ts : List Tm) : Bool := goodL ts && decide (szL ts ≤ 60)
mutual
def hasHole : Tm → Bool | .mk o _ _ k => hasHoleL k || o == 4
def hasHoleL : List Tm → Bool | [] => false | t :: ts => hasHole t || hasHoleL ts
end
def groundT (t : Tm) : Bool := termT t && !hasHole t
mutual
/-- The free atoms, in order. -/
def freeL : Tm → List Int | .mk o n _ k => ascL ((if o == 1 then [n] else []) ++ (freeLs k).filter fun a => !(o == 3 && a == n))
def freeLs : List Tm → List Int | [] => [] | t :: ts => freeL t ++ freeLs ts
end
mutual
/-- All atoms, in order; and as they come. -/
def atomsL : Tm → List Int | .mk o n p k => ascL (srcL p ++ (if o == 1 || o == 3 then [n] else []) ++ atomsLs k)
def atomsLs : List Tm → List Int | [] => [] | t :: ts => atomsL t ++ atomsLs ts
end
mutual
def preA : Tm → List Int | .mk o n p k => (if o == 1 || o == 3 then [n] else if o == 4 then srcL p else []) ++ preAs k
def preAs : List Tm → List Int | [] => [] | t :: ts => preA t ++ preAs ts
end
mutual
/-- The holes, in order; and as they come. -/
def holesL : Tm → List Int | .mk o n _ k => if o == 4 then [n] else ascL (holesLs k)
def holesLs : List Tm → List Int | [] => [] | t :: ts => holesL t ++ holesLs ts
end
mutual
def preH : Tm → List Int | .mk o n _ k => (if o == 4 then [n] else []) ++ preHs k
def preHs : List Tm → List Int | [] => [] | t :: ts => preH t ++ preHs ts
end
theorem szL_take_le : ∀ (ts : List Tm) (k : Nat), szL (ts.take k) ≤ szL ts
  | [], k => by simp [szL]
  | t :: ts, 0 => by simp [szL]
  | t :: ts, k + 1 => by have := szL_take_le ts k; simp only [List.take_succ_cons, szL]; omega
theorem szL_good {ts : List Tm} {j : Nat} (h : j < ts.length) : szL (ts.take (j + 1)) = szL (ts.take j) + ts[j].sz := szL_take ts j h
/-! what the shape says -/
theorem shape_cases {t : Tm} (h : shapeT t = true) :
    (t.op = 1 ∧ atom t.n = true ∧ t.perm = [] ∧ t.kids = []) ∨ (t.op = 2 ∧ inR t.n 0 11 = true ∧ t.perm = [] ∧ (t.kids.length : Int) = Int.tmod t.n 4) ∨
    (t.op = 3 ∧ atom t.n = true ∧ t.perm = [] ∧ ∃ x, t.kids = [x]) ∨ (t.op = 4 ∧ inR t.n 0 9 = true ∧ permS t.perm = true ∧ t.kids = []) := by
  unfold shapeT at h
  split at h
  · simp only [Bool.and_eq_true, decide_eq_true_eq, List.length_eq_zero_iff] at h
    exact .inl ⟨by assumption, h.1, h.2.1, h.2.2⟩
  · split at h
    · simp only [Bool.and_eq_true, decide_eq_true_eq, List.length_eq_zero_iff] at h
      exact .inr (.inl ⟨by assumption, h.1, h.2.1, h.2.2⟩)
    · split at h
      · simp only [Bool.and_eq_true, decide_eq_true_eq, List.length_eq_zero_iff, List.length_eq_one_iff] at h
        exact .inr (.inr (.inl ⟨by assumption, h.1, h.2.1, h.2.2⟩))
      · split at h
        · simp only [Bool.and_eq_true, decide_eq_true_eq, List.length_eq_zero_iff] at h
          exact .inr (.inr (.inr ⟨by assumption, h.1, h.2.1, h.2.2⟩))
        · simp at h
theorem ascL_one (n : Int) : ascL [n] = [n] := ascL_of_asc (by simp [Asc])
theorem freeL_eq (t : Tm) : freeL t = ascL ((if t.op == 1 then [t.n] else []) ++ (freeLs t.kids).filter fun a => !(t.op == 3 && a == t.n)) := by cases t; rfl
theorem atomsL_eq (t : Tm) : atomsL t = ascL (srcL t.perm ++ (if t.op == 1 || t.op == 3 then [t.n] else []) ++ atomsLs t.kids) := by cases t; rfl
theorem preA_eq (t : Tm) : preA t = (if t.op == 1 || t.op == 3 then [t.n] else if t.op == 4 then srcL t.perm else []) ++ preAs t.kids := by cases t; rfl
theorem holesL_eq (t : Tm) : holesL t = if t.op == 4 then [t.n] else ascL (holesLs t.kids) := by cases t; rfl
theorem preH_eq (t : Tm) : preH t = (if t.op == 4 then [t.n] else []) ++ preHs t.kids := by cases t; rfl
theorem hasHole_eq (t : Tm) : hasHole t = (hasHoleL t.kids || t.op == 4) := by cases t; rfl
theorem freeL_asc (t : Tm) : Asc (freeL t) := by rw [freeL_eq]; exact ascL_asc _
/-- The program's way to the free atoms of a term that is right. -/
theorem free_one {t : Tm} (h : good t = true) (ho : t.op = 1) : freeL t = [t.n] := by
  rw [good_eq, Bool.and_eq_true] at h
  rcases shape_cases h.1 with ⟨_, _, _, hk⟩ | ⟨h2, _⟩ | ⟨h2, _⟩ | ⟨h2, _⟩
  · rw [freeL_eq, hk, ho]; simp [freeLs, ascL_one]
  all_goals omega
theorem free_bind {t x : Tm} (ho : t.op = 3) (hk : t.kids = [x]) : freeL t = (freeL x).filter fun a => !(a == t.n) := by
  rw [freeL_eq, hk, ho]
  simp only [freeLs, List.append_nil]
  exact asc_unique _ _ (ascL_asc _) (asc_filter (freeL_asc x) _) fun y => by rw [ascL_mem]; simp
theorem free_other {t : Tm} (h1 : t.op ≠ 1) (h3 : t.op ≠ 3) : freeL t = ascL (freeLs t.kids) := by
  rw [freeL_eq]
  have e1 : (t.op == 1) = false := by simp [h1]
  have e3 : (t.op == 3) = false := by simp [h3]
  rw [e1, e3]
  simp only [Bool.false_eq_true, if_false, List.nil_append, Bool.false_and, Bool.not_false]
  rw [List.filter_eq_self.2 (fun _ _ => rfl)]
mutual
theorem atoms_mem : ∀ (t : Tm), good t = true → ∀ x, x ∈ preA t ↔ x ∈ atomsL t
  | .mk o n p k, h, x => by
    rw [good_eq, Bool.and_eq_true] at h
    have ih := atomsLs_mem k h.2 x
    rw [atomsL_eq, ascL_mem, preA_eq]
    rcases shape_cases h.1 with ⟨h2, _, hp, _⟩ | ⟨h2, _, hp, _⟩ | ⟨h2, _, hp, _⟩ | ⟨h2, _, _, _⟩
    all_goals simp only [Tm.op, Tm.perm, Tm.kids, Tm.n] at *
    all_goals subst h2
    · subst hp; simp [srcL, ih]
    · subst hp; simp [srcL, ih]
    · subst hp; simp [srcL, ih]
    · simp [ih]
theorem atomsLs_mem : ∀ (ts : List Tm), goodL ts = true → ∀ x, x ∈ preAs ts ↔ x ∈ atomsLs ts
  | [], _, x => by simp [preAs, atomsLs]
  | t :: ts, h, x => by
    simp only [goodL, Bool.and_eq_true] at h
    simp only [preAs, atomsLs, List.mem_append, atoms_mem t h.1, atomsLs_mem ts h.2]
end
theorem atoms_eq {t : Tm} (h : good t = true) : ascL (preA t) = atomsL t := by
  rw [ascL_congr (atoms_mem t h), ascL_of_asc (by rw [atomsL_eq]; exact ascL_asc _)]
mutual
theorem holes_mem : ∀ (t : Tm), good t = true → ∀ x, x ∈ preH t ↔ x ∈ holesL t
  | .mk o n p k, h, x => by
    rw [good_eq, Bool.and_eq_true] at h
    have ih := holesLs_mem k h.2 x
    rw [holesL_eq, preH_eq]
    rcases shape_cases h.1 with ⟨h2, _, hp, hk⟩ | ⟨h2, _, hp, _⟩ | ⟨h2, _, hp, _⟩ | ⟨h2, _, _, hk⟩
    all_goals simp only [Tm.op, Tm.perm, Tm.kids, Tm.n] at *
    all_goals subst h2
    · simp [ascL_mem, ih]
    · simp [ascL_mem, ih]
    · simp [ascL_mem, ih]
    · subst hk; simp [preHs]
theorem holesLs_mem : ∀ (ts : List Tm), goodL ts = true → ∀ x, x ∈ preHs ts ↔ x ∈ holesLs ts
  | [], _, x => by simp [preHs, holesLs]
  | t :: ts, h, x => by
    simp only [goodL, Bool.and_eq_true] at h
    simp only [preHs, holesLs, List.mem_append, holes_mem t h.1, holesLs_mem ts h.2]
end
theorem holesL_asc (t : Tm) : Asc (holesL t) := by
  rw [holesL_eq]; split
  · simp [Asc]
  · exact ascL_asc _
theorem holes_eq {t : Tm} (h : good t = true) : ascL (preH t) = holesL t := by
  rw [ascL_congr (holes_mem t h), ascL_of_asc (holesL_asc t)]
mutual
theorem preH_nil : ∀ (t : Tm), preH t = [] ↔ hasHole t = false
  | .mk o n p k => by
    have := preHs_nil k
    rw [preH_eq, hasHole_eq]
    simp only [Tm.op, Tm.kids, List.append_eq_nil_iff, this, Bool.or_eq_false_iff]
    by_cases e : o = 4
    · simp [e]
    · simp [e]
theorem preHs_nil : ∀ (ts : List Tm), preHs ts = [] ↔ hasHoleL ts = false
  | [] => by simp [preHs, hasHoleL]
  | t :: ts => by simp [preHs, hasHoleL, preH_nil t, preHs_nil ts]
end
theorem ascL_nil (l : List Int) : ascL l = [] ↔ l = [] := by
  constructor
  · intro h
    rw [List.eq_nil_iff_forall_not_mem]
    intro x hx
    have := (ascL_mem l x).2 hx
    rw [h] at this
    simp at this
  · rintro rfl; rfl
theorem ground_eq {t : Tm} (h : good t = true) : decide ((ascL (preH t)).length = 0) = !hasHole t := by
  rw [Bool.eq_iff_iff, decide_eq_true_eq, List.length_eq_zero_iff, ascL_nil, preH_nil]; simp
end Go.Proofs.Ytbpbgmildhejoaa.Base
