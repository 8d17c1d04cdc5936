/- A test at each of the first numbers; plain, of no program. -/
import Derived.Test.YtmeaghkpojiniaaAtom
namespace Go.Proofs.Ytmeaghkpojiniaa.Base
def allTo (s : Nat → Bool) : Nat → Bool | 0 => true | n + 1 => allTo s n && s n
theorem allTo_no (s : Nat → Bool) : ∀ (n k : Nat), k < n → s k = false → allTo s n = false
  | 0, k, h, _ => by omega
  | n + 1, k, h, hs => by
    rcases Nat.lt_or_ge k n with h1 | h1
    · simp [allTo, allTo_no s n k h1 hs]
    · obtain rfl : k = n := by omega
      simp [allTo, hs]
theorem allTo_yes (s : Nat → Bool) : ∀ (n : Nat), allTo s n = true ↔ ∀ k, k < n → s k = true
  | 0 => by simp [allTo]
  | n + 1 => by
    simp only [allTo, Bool.and_eq_true, allTo_yes s n]
    exact ⟨fun h k hk => (Nat.lt_or_ge k n).elim (fun h1 => h.1 k h1) (fun h1 => (show k = n by omega) ▸ h.2), fun h => ⟨fun k hk => h k (by omega), h n (by omega)⟩⟩
end Go.Proofs.Ytmeaghkpojiniaa.Base
