/- The swaps of a list of cycles. Plain lists, of no program. -/
import Derived.Test.YtmeaghkpojiniaaOrdL
namespace Go.Proofs.Ytmeaghkpojiniaa.Base
set_option linter.unusedVariables false
set_option linter.unusedSimpArgs false
/-- The first swaps of a cycle. -/
def swk (l : List Int) (n : Nat) : List (Int × Int) := (List.range n).map fun i => (l.getD i 0, l.getD (i + 1) 0)
def swk1 (l : List Int) : List (Int × Int) := swk l (l.length - 1)
def swapsL (ls : List (List Int)) : List (Int × Int) := ls.flatMap swk1
theorem swk_succ (l : List Int) (n : Nat) (h : n + 1 < l.length) : swk l (n + 1) = swk l n ++ [(l[n], l[n + 1])] := by
  simp [swk, List.range_succ, List.getD, List.getElem?_eq_getElem h, List.getElem?_eq_getElem (show n < l.length by omega)]
theorem swk_len (l : List Int) (n : Nat) : (swk l n).length = n := by simp [swk]
theorem swapsL_snoc (ls : List (List Int)) (k : Nat) (h : k < ls.length) : swapsL (ls.take (k + 1)) = swapsL (ls.take k) ++ swk1 ls[k] := by
  rw [List.take_succ_eq_append_getElem h, swapsL, List.flatMap_append]; simp [swapsL]
theorem swapsL_le : ∀ (ls : List (List Int)), (swapsL ls).length ≤ lenSum ls
  | [] => by simp [swapsL]
  | l :: ls => by
    have := swapsL_le ls
    have e : swapsL (l :: ls) = swk1 l ++ swapsL ls := rfl
    rw [e, List.length_append, swk1, swk_len]
    simp only [lenSum, List.map_cons, List.sum_cons] at this ⊢
    omega
theorem swapsL_take (ls : List (List Int)) (k : Nat) : (swapsL (ls.take k)).length ≤ lenSum ls := Nat.le_trans (swapsL_le _) (lenSum_take ls k)
def swapsO (p : List (Int × Int)) : List (Int × Int) := if permS p = true then swapsL (cycL p) else []
theorem swapsO_len (p : List (Int × Int)) : (swapsO p).length ≤ 1000000 := by
  unfold swapsO
  split
  · rename_i h; have := swapsL_le (cycL p); have := cyc_sum h; omega
  · simp
end Go.Proofs.Ytmeaghkpojiniaa.Base
