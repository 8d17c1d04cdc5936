/- append of a list that reads, at whatever place, onto a row of the call's own. Of no program. -/
import Derived.Test.YtmeaghkpojiniaaMark
import Derived.Laws.AppendOwnNone
namespace Go.Proofs.Ytmeaghkpojiniaa.Base
open Go.RowKit
set_option linter.unusedVariables false
set_option linter.unusedSimpArgs false
/-- A slice without a place is the nil one. -/
def Nz (v : Value) : Prop := ∀ n c, v = .slice none n c → c = 0
theorem owns_nz {w : World} {base : Nat} {e : TypeId} {size n : Nat} {v : Value} {xs : List Value} (h : w.ownsRow base e size v n xs) : Nz v := by
  intro m c hv
  rcases h.2 with ⟨h1, _⟩ | ⟨g, cap, cur, h1, _⟩
  · rw [hv] at h1; cases h1; rfl
  · rw [hv] at h1; cases h1
theorem Sl.none_ {α : Type} {K : World → α → List Value → Prop} {sz : Nat} {w : World} {n c : Nat} {xs : List α} (h : Sl K sz w (.slice none n c) xs) : xs = [] ∧ n = 0 := by
  obtain ⟨A, c', e, h1, h2, h3⟩ := h
  simp at e
  obtain ⟨rfl, rfl, rfl⟩ := e
  cases xs with
  | nil => exact ⟨rfl, rfl⟩
  | cons x xs => obtain ⟨ad, cs, h4, _⟩ := h3 0 (by simp); cases h4
section
variable {P : Program} {w : World} {ops : Array Oper} {rest : List Oper} {o : Oper} {a : Act} {Q : Exit → Act → World → Prop}
theorem wpList_appI {t e : TypeId} (T : SlTy P t e 1 8) (base : Nat) (v : Value) (xs : List Int) (hown : OwI e w base v xs) (vy : Value) (ys : List Int) (hy : SlI w vy ys) (hz : Nz vy) (hb : xs.length + ys.length ≤ 17592186044416) (hbase : base ≤ w.heap.size)
    (s x : Operand) (hgd : o.guard = none) (ho : o.op = .call { callee := .builtin .append, args := #[s, x], argTypes := #[t, t] }) (hs : a.eval s = v) (hx : a.eval x = vy)
    (h : ∀ v' w', OwI e w' base v' (xs ++ ys) → w.grownBy w' v.ownBlock → wpList P ops Q rest (a.put o.dst v') w') : wpList P ops Q (o :: rest) a w := by
  obtain ⟨i, z, hi, h0, h2, h3, h4⟩ := T.info
  obtain ⟨A, c, rfl⟩ := hy.slice
  cases A with
  | none =>
    obtain ⟨rfl, _⟩ := hy.none_
    obtain rfl := hz _ _ rfl
    exact wpList_append_own_none hgd s x t ho base e i 1 T.ht hi v xs.length (cI xs) hs hown hx (h v w (by simpa using hown) ⟨rfl, rfl, rfl, Nat.le_refl _, fun _ _ _ => rfl⟩)
  | some ad =>
    refine wpList_append_own_at w hgd s x t ho base e i z 1 8 T.ht hi h0 h2 h3 h4 (by omega) v xs.length (cI xs) hs hown ad ys.length c (cI ys) hx (by simp [cI]) (fun j u hu => ?_) (fun u hu => ?_) (by unfold maxLen; omega) (by omega) hbase (fun v' w' h5 h6 _ _ => h v' w' ?_ h6)
    · obtain ⟨A', c', e', _, _, hr⟩ := hy
      simp at e'
      obtain ⟨rfl, rfl⟩ := e'
      have hj : j < ys.length := by have := (List.getElem?_eq_some_iff.1 hu).1; simpa [cI] using this
      obtain ⟨ad', ea, hc⟩ := hr.atI hj
      obtain rfl := Option.some.inj ea
      simp [cI, hj] at hu
      subst hu
      exact hc
    · simp [cI] at hu
      obtain ⟨y, _, rfl⟩ := hu
      rfl
    · simpa [OwI, cI] using h5
end
end Go.Proofs.Ytmeaghkpojiniaa.Base
