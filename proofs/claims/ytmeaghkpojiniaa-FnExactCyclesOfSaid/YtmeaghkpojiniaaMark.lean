/- Contracts: marking a result of one's own, and reading the marks again. -/
import Derived.Test.YtmeaghkpojiniaaConv
namespace Go.Proofs.Ytmeaghkpojiniaa.Base
open Go.RowKit
set_option linter.unusedVariables false
set_option linter.unusedSimpArgs false
/-- All old blocks stand, but some. -/
structure Off (F : List Nat) (w w' : World) : Prop where
  os : w'.os = w.os
  tape : w'.tape = w.tape
  output : w'.output = w.output
  size : w.heap.size ≤ w'.heap.size
  block : ∀ g, g < w.heap.size → g ∉ F → w'.heap[g]? = w.heap[g]?
theorem Off.refl (F : List Nat) (w : World) : Off F w w := ⟨rfl, rfl, rfl, Nat.le_refl _, fun _ _ _ => rfl⟩
theorem Off.trans {F : List Nat} {a b c : World} (h : Off F a b) (k : Off F b c) : Off F a c :=
  ⟨k.os.trans h.os, k.tape.trans h.tape, k.output.trans h.output, Nat.le_trans h.size k.size, fun g hg hn => (k.block g (Nat.lt_of_lt_of_le hg h.size) hn).trans (h.block g hg hn)⟩
theorem Off.mono {F F' : List Nat} {a b : World} (h : Off F a b) (hF : ∀ g ∈ F, g ∈ F') : Off F' a b := ⟨h.os, h.tape, h.output, h.size, fun g hg hn => h.block g hg fun h' => hn (hF g h')⟩
theorem Off.of {F : List Nat} {a b : World} (h : Below a.heap.size a b) : Off F a b := ⟨h.os, h.tape, h.output, h.size, fun g hg _ => h.block g hg⟩
theorem Off.setCell {F : List Nat} {a b : World} (h : Off F a b) {p : Addr} (hp : p.block ∈ F) (u : Value) : Off F a (b.setCell p u) :=
  h.trans ⟨rfl, rfl, rfl, by simp [World.setCell], fun g _ hn => Below.heap_setCell _ _ _ _ (fun e => hn (e ▸ hp))⟩
theorem Off.below {F : List Nat} {a b : World} {B : Nat} (h : Off F a b) (hF : ∀ g ∈ F, B ≤ g) (hB : B ≤ a.heap.size) : Below B a b :=
  ⟨h.os, h.tape, h.output, h.size, fun g hg => h.block g (Nat.lt_of_lt_of_le hg hB) fun h' => by have := hF g h'; omega⟩
theorem owns_off {F : List Nat} {w w1 : World} {base : Nat} {e : TypeId} {size n : Nat} {v : Value} {xs : List Value} (h : w.ownsRow base e size v n xs) (ho : Off F w w1) (hd : ∀ g ∈ blk v, g ∉ F) : w1.ownsRow base e size v n xs :=
  owns_same h fun g hg => ho.block g (owns_blk_lt h g hg).2 (hd g hg)
/-- An older row and a newer one lie apart. -/
theorem owns_apart {w w1 : World} {base base1 : Nat} {e e1 : TypeId} {size size1 n n1 : Nat} {v v1 : Value} {xs xs1 : List Value} (h : w.ownsRow base e size v n xs) (h1 : w1.ownsRow base1 e1 size1 v1 n1 xs1) (hb : w.heap.size ≤ base1) : ∀ g ∈ blk v, g ∉ blk v1 := by
  intro g hg hg1
  have := (owns_blk_lt h g hg).2
  have := (owns_blk_lt h1 g hg1).1
  omega
theorem owns_apart' {w w1 : World} {base base1 : Nat} {e e1 : TypeId} {size size1 n n1 : Nat} {v v1 : Value} {xs xs1 : List Value} (h : w.ownsRow base e size v n xs) (h1 : w1.ownsRow base1 e1 size1 v1 n1 xs1) (hb : w.heap.size ≤ base1) : ∀ g ∈ blk v1, g ∉ blk v :=
  fun g h1' h2 => owns_apart h h1 hb g h2 h1'
theorem blk_mem {g n c : Nat} : g ∈ blk (.slice (some ⟨g, 0, none⟩) n c) := by simp [blk, Value.ownBlock]
def mkP (k : Int) (n : Nat) : List (Int × Int) := (List.range n).map fun i : Nat => (k + 2 * (i : Int), k + 2 * (i : Int) + 1)
def mkI (k : Int) (n : Nat) : List Int := (List.range n).map fun i : Nat => k + (i : Int)
@[simp] theorem mkP_len (k : Int) (n : Nat) : (mkP k n).length = n := by simp [mkP]
@[simp] theorem mkI_len (k : Int) (n : Nat) : (mkI k n).length = n := by simp [mkI]
theorem mkP_get (k : Int) (n j : Nat) (h : j < (mkP k n).length) : (mkP k n)[j] = (k + 2 * (j : Int), k + 2 * (j : Int) + 1) := by simp [mkP]
theorem mkI_get (k : Int) (n j : Nat) (h : j < (mkI k n).length) : (mkI k n)[j] = k + (j : Int) := by simp [mkI]
theorem mkP_succ (k : Int) (n : Nat) : mkP k (n + 1) = mkP k n ++ [(k + 2 * (n : Int), k + 2 * (n : Int) + 1)] := by simp [mkP, List.range_succ]
theorem mkI_succ (k : Int) (n : Nat) : mkI k (n + 1) = mkI k n ++ [k + (n : Int)] := by simp [mkI, List.range_succ]
theorem mark_set {α : Type} (ms xs : List α) (j : Nat) (x : α) (hm : ms.length = j) (h : j < xs.length) : (ms ++ xs.drop j).set j x = (ms ++ [x]) ++ xs.drop (j + 1) := by
  have e : (xs.drop j).set 0 x = x :: xs.drop (j + 1) := by rw [List.drop_eq_getElem_cons h]; rfl
  rw [List.set_append_right _ _ (by omega), hm, Nat.sub_self, e]; simp
theorem own_some {w : World} {base : Nat} {e : TypeId} {size n c : Nat} {A : Option Addr} {xs : List Value} (h : w.ownsRow base e size (.slice A n c) n xs) (hn : 0 < n) : ∃ g, A = some ⟨g, 0, none⟩ ∧ base ≤ g := by
  rcases h.2 with ⟨h1, h2⟩ | ⟨g, cap, cur, h1, h2, _⟩
  · omega
  · simp at h1; exact ⟨g, h1.1, h2⟩
theorem bcellB {B : Nat} {W w1 : World} (hb : Below B W w1) : (∀ b o, b < B → w1.cell? ⟨b, o, none⟩ = W.cell? ⟨b, o, none⟩) ∧ (∀ b o, b < B → w1.frozen? ⟨b, o, none⟩ = W.frozen? ⟨b, o, none⟩) :=
  ⟨fun b o h => hb.cell (p := ⟨b, o, none⟩) h, fun b o h => hb.frozen (p := ⟨b, o, none⟩) h⟩
theorem OwP.keep {E : TypeId} {w w1 : World} {B : Nat} {v : Value} {xs : List (Int × Int)} (h : OwP E w B v xs) (hb : Below w.heap.size w w1) : OwP E w1 B v xs := owns_below h hb
theorem OwI.keep {E : TypeId} {w w1 : World} {B : Nat} {v : Value} {xs : List Int} (h : OwI E w B v xs) (hb : Below w.heap.size w w1) : OwI E w1 B v xs := owns_below h hb
theorem beq_rfl_ {α : Type} [BEq α] [LawfulBEq α] (x : α) : (x == x) = true := by simp
theorem bne_rfl_ {α : Type} [BEq α] [LawfulBEq α] (x : α) : (x != x) = false := by simp
end Go.Proofs.Ytmeaghkpojiniaa.Base
namespace Go.Proofs.Ytmeaghkpojiniaa.Cx
open Go.RowKit Base
set_option linter.unusedVariables false
set_option linter.unusedSimpArgs false
set_option maxHeartbeats 1600000 in
theorem markPairG (E : TypeId) (B : Nat) (w : World) (v : Value) (xs : List (Int × Int)) (k : Int) (h : OwP E w B v xs) (hB : B ≤ w.heap.size) (hl : xs.length * 2 ≤ 17592186044416) (h0 : 0 ≤ k) (h1 : k ≤ 1152921504606846976) :
    Calls Try.prog 25 #[v, .int .i64 k] w fun e w' => e = .returned (.int .i64 (k + 2 * (xs.length : Int))) ∧ OwP E w' B v (mkP k xs.length) ∧ Below B w w' ∧ Off (blk v) w w' := by
  obtain ⟨A, c, rfl, hc, _⟩ := owns_shape h
  go_enter Try.func25, Try.ntmps25
  go_wp2
  go_loopg [1, 5] (xs.length + 1) (fun n v1 v5 wr => ∃ j : Nat, n + j = xs.length + 1 ∧ j ≤ xs.length ∧ v5 = .int .i64 j ∧ v1 = .int .i64 (k + 2 * (j : Int)) ∧ Hid (wr.ownsRow B E 2 (.slice A xs.length c) xs.length (cP (mkP k j ++ xs.drop j))) ∧ Hid (Below B w wr) ∧ Hid (Off (blk (.slice A xs.length c)) w wr))
  case atStart => exact ⟨0, by omega, by omega, rfl, by simp, by simpa [Hid, mkP] using h, Below.refl _ _, Off.refl _ _⟩
  case round =>
    obtain ⟨j, hn, hk, rfl, rfl, hown, hbw, hof⟩ := hrel
    by_cases hlt : j < xs.length
    · have ho := hown.out
      obtain ⟨g, rfl, hg⟩ := own_some ho (by omega)
      obtain ⟨z0, e0, f0⟩ := own_at ho (j * 2) (by omega)
      obtain ⟨z1, e1, f1⟩ := own_at ho (j * 2 + 1) (by omega)
      have g0 : (0 : Int) ≤ (j : Int) := by omega
      have g1 : (j : Int) < (xs.length : Int) := by omega
      have ho5 := ((ho.stored (j * 2) (.int .i64 (k + 2 * (j : Int)))).1.stored (j * 2 + 1) (.int .i64 (k + 2 * (j : Int) + 1))).1
      rw [cP_set _ j (k + 2 * (j : Int), k + 2 * (j : Int) + 1) (by simp; omega), mark_set _ _ j _ (by simp) hlt, ← mkP_succ] at ho5
      have HO := Lib.hid ho5
      clear ho ho5
      go_wp2
      go_roundg (gk - 1)
      case measure => omega
      case rel => exact ⟨j + 1, by omega, by omega, by go_num, by go_num, HO.out, Below.setCell (Below.setCell hbw.out hg _) hg _, Off.setCell (Off.setCell hof.out blk_mem _) blk_mem _⟩
    · obtain rfl : j = xs.length := by omega
      go_wp2
      go_ret
      exact ⟨rfl, by have := hown.out; simpa [OwP] using this, hbw.out, hof.out⟩
theorem markPairS (E : TypeId) (B : Nat) (w : World) (v : Value) (xs : List (Int × Int)) (k : Int) (h : OwP E w B v xs) (hB : B ≤ w.heap.size) (hl : xs.length * 2 ≤ 17592186044416) (h0 : 0 ≤ k) (h1 : k ≤ 1152921504606846976) :
    Calls Try.prog 25 #[v, .int .i64 k] w fun e w' => e = .returned (.int .i64 (k + 2 * (xs.length : Int))) ∧ OwP E w' B v (mkP k xs.length) ∧ Below B w w' :=
  (markPairG E B w v xs k h hB hl h0 h1).mono fun e w' h => ⟨h.1, h.2.1, h.2.2.1⟩
set_option maxHeartbeats 1600000 in
theorem heldPairS (w : World) (v : Value) (n : Nat) (k : Int) (h : SlP w v (mkP k n)) (h0 : 0 ≤ k) (h1 : k ≤ 1152921504606846976) :
    Calls Try.prog 32 #[v, .int .i64 k] w fun e w' => e = .returned (.int .i64 (k + 2 * (n : Int))) ∧ Below w.heap.size w w' := by
  obtain ⟨A, c, rfl, hc, hl, hr⟩ := h
  rw [mkP_len] at hc hl ⊢
  go_enter Try.func32, Try.ntmps32
  go_wp2
  go_loopg [1, 5] (n + 1) (fun m v1 v5 wr => ∃ j : Nat, m + j = n + 1 ∧ j ≤ n ∧ v5 = .int .i64 j ∧ v1 = .int .i64 (k + 2 * (j : Int)) ∧ Hid (Below w.heap.size w wr))
  case atStart => exact ⟨0, by omega, by omega, rfl, by simp, Below.refl _ _⟩
  case round =>
    obtain ⟨j, hn, hk, rfl, rfl, hbw⟩ := hrel
    have hBw := hbw.out
    clear hbw
    by_cases hlt : j < n
    · obtain ⟨ad, rfl, c0, c1⟩ := (hr.below KP.mono hBw).atP (j := j) (by simp; omega)
      rw [mkP_get] at c0 c1
      have g0 : (0 : Int) ≤ (j : Int) := by omega
      have g1 : (j : Int) < (n : Int) := by omega
      go_wp2
      go_roundg (gk - 1)
      case measure => omega
      case rel => exact ⟨j + 1, by omega, by omega, by go_num, by go_num, hBw⟩
    · obtain rfl : j = n := by omega
      go_wp2
      go_ret
      exact ⟨rfl, hBw⟩
set_option maxHeartbeats 1600000 in
theorem markIntG (E : TypeId) (B : Nat) (w : World) (v : Value) (xs : List Int) (k : Int) (h : OwI E w B v xs) (hB : B ≤ w.heap.size) (hl : xs.length ≤ 17592186044416) (h0 : 0 ≤ k) (h1 : k ≤ 1152921504606846976) :
    Calls Try.prog 26 #[v, .int .i64 k] w fun e w' => e = .returned (.int .i64 (k + (xs.length : Int))) ∧ OwI E w' B v (mkI k xs.length) ∧ Below B w w' ∧ Off (blk v) w w' := by
  obtain ⟨A, c, rfl, hc, _⟩ := owns_shape h
  go_enter Try.func26, Try.ntmps26
  go_wp2
  go_loopg [1, 5] (xs.length + 1) (fun n v1 v5 wr => ∃ j : Nat, n + j = xs.length + 1 ∧ j ≤ xs.length ∧ v5 = .int .i64 j ∧ v1 = .int .i64 (k + (j : Int)) ∧ Hid (wr.ownsRow B E 1 (.slice A xs.length c) xs.length (cI (mkI k j ++ xs.drop j))) ∧ Hid (Below B w wr) ∧ Hid (Off (blk (.slice A xs.length c)) w wr))
  case atStart => exact ⟨0, by omega, by omega, rfl, by simp, by simpa [Hid, mkI] using h, Below.refl _ _, Off.refl _ _⟩
  case round =>
    obtain ⟨j, hn, hk, rfl, rfl, hown, hbw, hof⟩ := hrel
    by_cases hlt : j < xs.length
    · have ho := hown.out
      obtain ⟨g, rfl, hg⟩ := own_some ho (by omega)
      obtain ⟨z0, e0, f0⟩ := own_at ho j (by omega)
      have g0 : (0 : Int) ≤ (j : Int) := by omega
      have g1 : (j : Int) < (xs.length : Int) := by omega
      have ho5 := (ho.stored j (.int .i64 (k + (j : Int)))).1
      rw [cI_set _ j (k + (j : Int)), mark_set _ _ j _ (by simp) hlt, ← mkI_succ] at ho5
      have HO := Lib.hid ho5
      clear ho ho5
      go_wp2
      go_roundg (gk - 1)
      case measure => omega
      case rel => exact ⟨j + 1, by omega, by omega, by go_num, by go_num, HO.out, Below.setCell hbw.out hg _, Off.setCell hof.out blk_mem _⟩
    · obtain rfl : j = xs.length := by omega
      go_wp2
      go_ret
      exact ⟨rfl, by have := hown.out; simpa [OwI] using this, hbw.out, hof.out⟩
set_option maxHeartbeats 1600000 in
theorem heldIntS (w : World) (v : Value) (n : Nat) (k : Int) (h : SlI w v (mkI k n)) (h0 : 0 ≤ k) (h1 : k ≤ 1152921504606846976) :
    Calls Try.prog 27 #[v, .int .i64 k] w fun e w' => e = .returned (.int .i64 (k + (n : Int))) ∧ Below w.heap.size w w' := by
  obtain ⟨A, c, rfl, hc, hl, hr⟩ := h
  rw [mkI_len] at hc hl ⊢
  go_enter Try.func27, Try.ntmps27
  go_wp2
  go_loopg [1, 5] (n + 1) (fun m v1 v5 wr => ∃ j : Nat, m + j = n + 1 ∧ j ≤ n ∧ v5 = .int .i64 j ∧ v1 = .int .i64 (k + (j : Int)) ∧ Hid (Below w.heap.size w wr))
  case atStart => exact ⟨0, by omega, by omega, rfl, by simp, Below.refl _ _⟩
  case round =>
    obtain ⟨j, hn, hk, rfl, rfl, hbw⟩ := hrel
    have hBw := hbw.out
    clear hbw
    by_cases hlt : j < n
    · obtain ⟨ad, rfl, c0⟩ := (hr.below KI.mono hBw).atI (j := j) (by simp; omega)
      rw [mkI_get] at c0
      have g0 : (0 : Int) ≤ (j : Int) := by omega
      have g1 : (j : Int) < (n : Int) := by omega
      go_wp2
      go_roundg (gk - 1)
      case measure => omega
      case rel => exact ⟨j + 1, by omega, by omega, by go_num, by go_num, hBw⟩
    · obtain rfl : j = n := by omega
      go_wp2
      go_ret
      exact ⟨rfl, hBw⟩
end Go.Proofs.Ytmeaghkpojiniaa.Cx
