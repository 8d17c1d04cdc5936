/- A map of the call's own from numbers to truth, as the list of what was put. Of no program. -/
import Derived.Test.YtmeaghkpojiniaaBase
import Derived.Maps.Own
import Derived.Maps.Keyed
import Derived.Maps.Views
import Derived.Maps.OwnSet
namespace Go.Proofs.Ytmeaghkpojiniaa.Base
open Go.RowKit Go.Maps
set_option linter.unusedVariables false
set_option linter.unusedSimpArgs false
def hasI (xs : List Int) (x : Int) : Bool := decide (x ∈ xs)
def wfI (x : Int) : Prop := (Lit.int .i64 x).wf = true
theorem wfI_of {x : Int} (h0 : -9223372036854775808 ≤ x) (h1 : x ≤ 9223372036854775807) : wfI x := by
  simp [wfI, Lit.wf, IntKind.min, IntKind.max, IntKind.signed, IntKind.bits]; omega
def SetI (P : Program) (K E : TypeId) (w : World) (b n : Nat) (xs : List Int) : Prop :=
  ∃ D : DataW Unit, w.ownsMap P K (plainElem P E) b n D ∧ IsMap D ∧ ∀ x, wfI x → D.atKey (.int .i64 x) (.lit (.bool false)) = .lit (.bool (hasI xs x))
section
variable {P : Program} {K E t : TypeId} {w : World} {b n : Nat} {xs : List Int}
theorem SetI.made : SetI P K E (w.alloc (.map #[] 0)) w.heap.size 0 [] := ⟨.map [], World.ownsMap_made w P K _, isMap_empty, fun x _ => by simp [DataW.atKey, hasI]⟩
theorem key_int (hk : P.underlying K = some (.int .i64)) {x : Int} (hx : wfI x) : keyOf P K (.int .i64 x) = some (.int .i64 x) := by
  simp [keyOf, mapKey, hk]; exact hx
theorem SetI.look (h : SetI P K E w b n xs) (hk : P.underlying K = some (.int .i64)) (he : P.underlying E = some .bool) (ht : P.underlying t = some (.map K E)) (hz : (zeroValue E).run P w = .ok (.bool false) w) {x : Int} (hx : wfI x) :
    (Instr.lookup t (.map (some b)) (.int .i64 x) false).run P w = .ok (.bool (hasI xs x)) w := by
  obtain ⟨D, ho, _, hat⟩ := h
  obtain ⟨v, ps, hrun, hv⟩ := ho.lookup (int_keyed hk) ht hz (plainElem_bool he false) (key_int hk hx)
  rw [hat x hx] at hv
  unfold plainElem at hv
  rw [he] at hv
  cases v <;> simp at hv
  rw [hrun, hv.1]
theorem SetI.put (h : SetI P K E w b n xs) (hk : P.underlying K = some (.int .i64)) (he : P.underlying E = some .bool) (ht : P.underlying t = some (.map K E)) (hn : n < maxLen) {x : Int} (hx : wfI x) :
    ∃ w', (Instr.mapUpdate t (.map (some b)) (.int .i64 x) (.bool true)).run P w = .ok () w' ∧ SetI P K E w' b (n + 1) (xs ++ [x]) ∧ w.grownBy w' (some b) := by
  obtain ⟨D, ho, hm, hat⟩ := h
  obtain ⟨w', hrun, ho', hg⟩ := ho.update (int_keyed hk) ht hn (key_int hk hx) (plainElem_bool he true)
  refine ⟨w', hrun, ⟨_, ho', World.ownsMap.isMap ho', fun y hy => ?_⟩, hg⟩
  by_cases e : y = x
  · subst e
    rw [atKey_put_same hm ((int_keyed hk).key (key_int hk hx))]
    simp [hasI]
  · rw [atKey_put_other (by simpa using e), hat y hy]
    simp [hasI, e]
theorem SetI.keep {w1 : World} (h : SetI P K E w b n xs) (hb : Below w.heap.size w w1) : SetI P K E w1 b n xs := by
  obtain ⟨D, ho, r⟩ := h
  exact ⟨D, ho.kept (row := none) ⟨hb.os, hb.tape, hb.output, hb.size, fun i hi _ => hb.block i hi⟩ (by simp), r⟩
end
theorem upTo_succ {xs : List Int} {k : Nat} (h : ∀ c : Nat, c < k → (c : Int) ∈ xs) (h1 : hasI xs k = true) : ∀ c : Nat, c < k + 1 → (c : Int) ∈ xs := by
  intro c hc
  rcases Nat.lt_or_ge c k with h2 | h2
  · exact h c h2
  · obtain rfl : c = k := by omega
    simpa [hasI] using h1
/-- The least number from nought to 999 that a list lacks. -/
def LF (xs : List Int) (r : Int) : Prop := (∃ a : Nat, r = a ∧ a < 1000 ∧ (a : Int) ∉ xs ∧ ∀ c : Nat, c < a → (c : Int) ∈ xs) ∨ (r = -1 ∧ ∀ c : Nat, c < 1000 → (c : Int) ∈ xs)
theorem LF.unique {xs : List Int} {r s : Int} (h : LF xs r) (k : LF xs s) : r = s := by
  rcases h with ⟨a, rfl, h1, h2, h3⟩ | ⟨rfl, h1⟩ <;> rcases k with ⟨b, rfl, k1, k2, k3⟩ | ⟨rfl, k1⟩
  · rcases Nat.lt_trichotomy a b with h | h | h
    · exact absurd (k3 a h) h2
    · rw [h]
    · exact absurd (h3 b h) k2
  · exact absurd (k1 a h1) h2
  · exact absurd (h1 b k1) k2
  · rfl
end Go.Proofs.Ytmeaghkpojiniaa.Base
