/- A list of lists of numbers of one's own: its row, the rows in it, the blocks they lie in. Of no program. -/
import Derived.Test.YtmeaghkpojiniaaCyc
import Derived.Test.YtmeaghkpojiniaaApp
import Derived.Test.YtmeaghkpojiniaaDiff
namespace Go.Proofs.Ytmeaghkpojiniaa.Base
open Go.RowKit
set_option linter.unusedVariables false
set_option linter.unusedSimpArgs false
def OIs (E T : TypeId) (w : World) (ls : List (List Int)) (v : Value) (F : List Nat) : Prop :=
  ∃ vs : List Value, w.ownsRow 0 T 1 v ls.length vs ∧ vs.length = ls.length ∧ (∀ (j : Nat) (u : Value) (l : List Int), vs[j]? = some u → ls[j]? = some l → OwI E w 0 u l) ∧ F = blk v ++ vs.flatMap blk
theorem OIs.lt {E T : TypeId} {w : World} {ls : List (List Int)} {v : Value} {F : List Nat} (h : OIs E T w ls v F) : ∀ g ∈ F, g < w.heap.size := by
  obtain ⟨vs, hr, hl, ha, rfl⟩ := h
  intro g hg
  rcases List.mem_append.1 hg with hg | hg
  · exact (owns_blk_lt hr g hg).2
  · obtain ⟨u, hu, hg⟩ := List.mem_flatMap.1 hg
    obtain ⟨j, hj, rfl⟩ := List.getElem_of_mem hu
    exact (owns_blk_lt (ha j _ _ (List.getElem?_eq_getElem hj) (List.getElem?_eq_getElem (by omega))) g hg).2
theorem OIs.same_ {E T : TypeId} {w w1 : World} {ls : List (List Int)} {v : Value} {F : List Nat} (h : OIs E T w ls v F) (hb : ∀ g ∈ F, w1.heap[g]? = w.heap[g]?) : OIs E T w1 ls v F := by
  obtain ⟨vs, hr, hl, ha, rfl⟩ := h
  exact ⟨vs, owns_same hr fun g hg => hb g (List.mem_append.2 (.inl hg)), hl, fun j u l hu hl' => owns_same (ha j u l hu hl') fun g hg => hb g (List.mem_append.2 (.inr (List.mem_flatMap.2 ⟨u, List.mem_of_getElem? hu, hg⟩))), rfl⟩
theorem OIs.keep {E T : TypeId} {w w1 : World} {ls : List (List Int)} {v : Value} {F : List Nat} (h : OIs E T w ls v F) (hb : Below w.heap.size w w1) : OIs E T w1 ls v F := h.same_ fun g hg => hb.block g (h.lt g hg)
theorem OIs.off {E T : TypeId} {w w1 : World} {ls : List (List Int)} {v : Value} {F G : List Nat} (h : OIs E T w ls v F) (hb : Off G w w1) (hd : ∀ g ∈ F, g ∉ G) : OIs E T w1 ls v F := h.same_ fun g hg => hb.block g (h.lt g hg) (hd g hg)
theorem OIs.slice {E T : TypeId} {w : World} {ls : List (List Int)} {v : Value} {F : List Nat} (h : OIs E T w ls v F) : ∃ A c, v = .slice A ls.length c := by obtain ⟨vs, hr, _⟩ := h; exact owns_slice hr
theorem OIs.nil {E T : TypeId} {w : World} : OIs E T w [] (.slice none 0 0) [] := ⟨[], World.ownsRow_nil _ _ _ _, rfl, fun j u l h => by simp at h, by simp [blk, Value.ownBlock]⟩
/-- An element, its slice. -/
theorem OIs.at_ {E T : TypeId} {w : World} {ls : List (List Int)} {A : Option Addr} {n c : Nat} {F : List Nat} (h : OIs E T w ls (.slice A n c) F) (hb : ∀ l ∈ ls, l.length ≤ 17592186044416) {j : Nat} (hj : j < ls.length) :
    ∃ ad A' c', A = some ad ∧ w.cell? (ad.add j) = some (.slice A' ls[j].length c') ∧ SlI w (.slice A' ls[j].length c') ls[j] ∧ OwI E w 0 (.slice A' ls[j].length c') ls[j] ∧ ∀ g ∈ blk (.slice A' ls[j].length c'), g ∈ F := by
  obtain ⟨vs, hr, hl, ha, rfl⟩ := h
  have hj' : j < vs.length := by omega
  have ho := ha j _ _ (List.getElem?_eq_getElem hj') (List.getElem?_eq_getElem hj)
  obtain ⟨A', c', e⟩ := owns_slice ho
  obtain ⟨A2, c2, e2, _, _, h3⟩ := owns_shape hr
  simp at e2
  obtain ⟨rfl, _, _⟩ := e2
  obtain ⟨ad, ea, hc⟩ := h3 j _ (List.getElem?_eq_getElem hj')
  refine ⟨ad, A', c', ea, by rw [hc, e], ?_, e ▸ ho, fun g hg => List.mem_append.2 (.inr (List.mem_flatMap.2 ⟨vs[j], List.getElem_mem hj', by rw [e]; exact hg⟩))⟩
  rw [← e]
  exact OwI.sl ho (hb _ (List.getElem_mem hj))
section
variable {P : Program} {w : World} {ops : Array Oper} {rest : List Oper} {o : Oper} {a : Act} {Q : Exit → Act → World → Prop}
theorem wpList_appJ {t e : TypeId} (T : SlTy P t e 1 8) (base : Nat) (v : Value) (xs : List Int) (hown : OwI e w base v xs) (vy : Value) (ys : List Int) (hy : SlI w vy ys) (hz : Nz vy) (hb : xs.length + ys.length ≤ 17592186044416) (hbase : base ≤ w.heap.size)
    (s x : Operand) (hgd : o.guard = none) (ho : o.op = .call { callee := .builtin .append, args := #[s, x], argTypes := #[t, t] }) (hs : a.eval s = v) (hx : a.eval x = vy)
    (h : ∀ v' w', OwI e w' base v' (xs ++ ys) → w.grownBy w' v.ownBlock → (v'.ownBlock = v.ownBlock ∨ v'.ownBlock = some w.heap.size) → wpList P ops Q rest (a.put o.dst v') w') : wpList P ops Q (o :: rest) a w := by
  obtain ⟨i, z, hi, h0, h2, h3, h4⟩ := T.info
  obtain ⟨A, c, rfl⟩ := hy.slice
  cases A with
  | none =>
    obtain ⟨rfl, _⟩ := hy.none_
    obtain rfl := hz _ _ rfl
    exact wpList_append_own_none hgd s x t ho base e i 1 T.ht hi v xs.length (cI xs) hs hown hx (h v w (by simpa using hown) ⟨rfl, rfl, rfl, Nat.le_refl _, fun _ _ _ => rfl⟩ (.inl rfl))
  | some ad =>
    refine wpList_append_own_at w hgd s x t ho base e i z 1 8 T.ht hi h0 h2 h3 h4 (by omega) v xs.length (cI xs) hs hown ad ys.length c (cI ys) hx (by simp [cI]) (fun j u hu => ?_) (fun u hu => ?_) (by unfold maxLen; omega) (by omega) hbase (fun v' w' h5 h6 _ h7 => h v' w' ?_ h6 h7)
    · obtain ⟨A', c', e', _, _, hr⟩ := hy
      simp at e'
      obtain ⟨rfl, rfl⟩ := e'
      have hj : j < ys.length := by have := (List.getElem?_eq_some_iff.1 hu).1; simpa [cI] using this
      obtain ⟨ad', ea, hc⟩ := hr.atI hj
      obtain rfl := Option.some.inj ea
      simp [cI, hj] at hu
      subst hu
      exact hc
    · simp [cI] at hu
      obtain ⟨y, _, rfl⟩ := hu
      rfl
    · simpa [OwI, cI] using h5
end
theorem blk_nodup (v : Value) : (blk v).Nodup := by unfold blk; cases v.ownBlock <;> simp
/-- One more list behind. -/
theorem OIs.snoc {E T : TypeId} {W w5 : World} {ls : List (List Int)} {v v' r : Value} {vs : List Value} {l : List Int} {B n' : Nat} (hr : W.ownsRow 0 T 1 v ls.length vs) (hl : vs.length = ls.length) (ha : ∀ (j : Nat) (u : Value) (l : List Int), vs[j]? = some u → ls[j]? = some l → OwI E W 0 u l)
    (hn : (blk v ++ vs.flatMap blk).Nodup) (hB : ∀ g ∈ blk v ++ vs.flatMap blk, B ≤ g) (hrw : OwI E W 0 r l) (hrB : ∀ g ∈ blk r, B ≤ g) (hd : ∀ g ∈ blk r, g ∉ blk v ++ vs.flatMap blk) (hW : B ≤ W.heap.size)
    (h5 : w5.ownsRow 0 T 1 v' n' (vs ++ [r])) (hn' : n' = ls.length + 1) (hg : W.grownBy w5 v.ownBlock) (hat : v'.ownBlock = v.ownBlock ∨ v'.ownBlock = some W.heap.size) :
    OIs E T w5 (ls ++ [l]) v' (blk v' ++ (vs ++ [r]).flatMap blk) ∧ (blk v' ++ (vs ++ [r]).flatMap blk).Nodup ∧ (∀ g ∈ blk v' ++ (vs ++ [r]).flatMap blk, B ≤ g) ∧ ∀ g ∈ blk v' ++ (vs ++ [r]).flatMap blk, g ∈ blk v ++ vs.flatMap blk ∨ g ∈ blk r ∨ g = W.heap.size := by
  subst hn'
  rw [List.nodup_append] at hn
  have hold : OIs E T W ls v (blk v ++ vs.flatMap blk) := ⟨vs, hr, hl, ha, rfl⟩
  have hvv : ∀ g ∈ blk v', g ∈ blk v ∨ g = W.heap.size := fun g hg => by
    rcases hat with h | h
    · exact .inl (by rw [blk, h] at hg; exact hg)
    · exact .inr (by rw [blk, h] at hg; simpa using hg)
  have hsub : ∀ g ∈ blk v' ++ (vs ++ [r]).flatMap blk, g ∈ blk v ++ vs.flatMap blk ∨ g ∈ blk r ∨ g = W.heap.size := fun g hg => by
    rw [List.flatMap_append] at hg
    rcases List.mem_append.1 hg with hg | hg
    · rcases hvv g hg with h | h
      · exact .inl (List.mem_append.2 (.inl h))
      · exact .inr (.inr h)
    · rcases List.mem_append.1 hg with hg | hg
      · exact .inl (List.mem_append.2 (.inr hg))
      · exact .inr (.inl (by simpa using hg))
  refine ⟨⟨vs ++ [r], by simpa using h5, by simp [hl], fun j u m hu hm => ?_, rfl⟩, ?_, fun g hg => ?_, hsub⟩
  · rcases Nat.lt_or_ge j ls.length with hj | hj
    · rw [List.getElem?_append_left (by omega)] at hu hm
      refine owns_beside (ha j u m hu hm) hg fun g h1 h2 => ?_
      exact hn.2.2 g h1 g (List.mem_flatMap.2 ⟨u, List.mem_of_getElem? hu, h2⟩) rfl
    · rw [List.getElem?_append_right (by omega)] at hu hm
      have hj1 : j = ls.length := by
        rcases Nat.lt_or_ge j (ls.length + 1) with h | h
        · omega
        · rw [List.getElem?_eq_none (by simp; omega)] at hm; cases hm
      subst hj1
      simp [hl] at hu hm
      subst hu hm
      exact owns_beside hrw hg fun g h1 h2 => hd g h2 (List.mem_append.2 (.inl h1))
  · rw [List.flatMap_append, List.nodup_append, List.nodup_append]
    refine ⟨blk_nodup _, ⟨hn.2.1, by simpa using blk_nodup r, fun a h1 b h2 e => ?_⟩, fun a h1 b h2 e => ?_⟩
    · subst e
      exact hd a (by simpa using h2) (List.mem_append.2 (.inr h1))
    · subst e
      rcases List.mem_append.1 h2 with h2 | h2
      · rcases hvv a h1 with h | h
        · exact hn.2.2 a h a h2 rfl
        · have := hold.lt a (List.mem_append.2 (.inr h2)); omega
      · have h2' : a ∈ blk r := by simpa using h2
        rcases hvv a h1 with h | h
        · exact hd a h2' (List.mem_append.2 (.inl h))
        · have := (owns_blk_lt hrw a h2').2; omega
  · rcases hsub g hg with h | h | h
    · exact hB g h
    · exact hrB g h
    · omega
end Go.Proofs.Ytmeaghkpojiniaa.Base
