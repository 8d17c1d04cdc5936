/- Contracts: two terms are the same, the program's way: EqualFunc over SameTerms, which calls it. -/
import Derived.Test.YtlkhiddimplnjaaEqp
namespace Go.Proofs.Ytlkhiddimplnjaa.Cx
open Go.RowKit Base
set_option linter.unusedVariables false
set_option linter.unusedSimpArgs false
attribute [local go_sem] cell_alloc_some
set_option maxHeartbeats 1600000 in
theorem equalFunc_of (N : Nat) (ih : ∀ (s t : Tm) (vs vt : Value) (w : World), s.sz ≤ N → VT w vs s → VT w vt t → Calls Try.prog 28 #[vs, vt] w fun e w' => e = .returned (.bool (s.same t)) ∧ Below w.heap.size w w')
    (xs ys : List Tm) (va vb : Value) (w : World) (hN : ∀ j (h : j < xs.length), xs[j].sz ≤ N) (ha : SlT w va xs) (hb : SlT w vb ys) :
    Calls Try.prog 48 #[va, vb, .func (.func 28) #[] #[]] w fun e w' => e = .returned (.bool (sameL xs ys)) ∧ Below w.heap.size w w' := by
  have IH := Lib.hid ih
  clear ih
  obtain ⟨A, c, rfl, hc, hl, hr⟩ := ha
  obtain ⟨A', c', rfl, hc', hl', hr'⟩ := hb
  by_cases hlen : xs.length = ys.length
  · have b1 : (xs.length != ys.length) = false := by simp [hlen]
    have b2 : ((xs.length : Int) != (ys.length : Int)) = false := by simp [hlen]
    have HL := Lib.hid hlen
    clear hlen
    go_enter Try.func48, Try.ntmps48
    go_wp2
    go_loopg [7, 8, 9, 17] (xs.length + 1) (fun n v7 v8 v9 v17 wr => ∃ k : Nat, n + k = xs.length + 1 ∧ k ≤ xs.length ∧ v17 = .int .i64 k ∧ Hid (sameL (xs.take k) (ys.take k) = true) ∧ Hid (Below w.heap.size w wr))
    case atStart => exact ⟨0, by omega, by omega, rfl, by simp [Hid, sameL], Below.refl _ _⟩
    case round =>
      obtain ⟨k, hn, hk, rfl, hq, hB⟩ := hrel
      have hBw := hB.out
      clear hB
      by_cases hlt : k < xs.length
      · have hlt' : k < ys.length := by have := HL.out; omega
        obtain ⟨ad, p1, k1, rfl, hp1, hq1, c0, c1, c2, c3⟩ := (hr.below KT.mono hBw).atT hlt
        obtain ⟨ad', p2, k2, rfl, hp2, hq2, d0, d1, d2, d3⟩ := (hr'.below KT.mono hBw).atT hlt'
        have g0 : (0 : Int) ≤ (k : Int) := by omega
        have g1 : (k : Int) < (xs.length : Int) := by omega
        have g2 : (k : Int) < (ys.length : Int) := by omega
        obtain ⟨P1, n1, rfl⟩ := hp1.slice
        obtain ⟨P2, n2, rfl⟩ := hp2.slice
        obtain ⟨Q1, m1, rfl⟩ := hq1.slice
        obtain ⟨Q2, m2, rfl⟩ := hq2.slice
        cases h5 : xs[k].same ys[k]
        all_goals
          go_wp2_with (go_at_call 28; refine (IH.out xs[k] ys[k] _ _ _ (hN k hlt) ⟨_, _, rfl, hp1.below KP.mono bl, hq1.below KT.mono bl⟩ ⟨_, _, rfl, hp2.below KP.mono bl, hq2.below KT.mono bl⟩).mono ?_; rintro e w4 ⟨rfl, hb4⟩; have hB4 : Below w.heap.size w w4 := bStep bl hb4)
        · go_ret
          exact ⟨ret_bool (by symm; exact sameL_no _ _ k hlt hlt' h5), hB4⟩
        · go_roundg (gk - 1)
          case measure => omega
          case rel => exact ⟨k + 1, by omega, by omega, by go_num, by unfold Hid; rw [sameL_take _ _ k hlt hlt', hq.out, h5]; rfl, hB4⟩
      · obtain rfl : k = xs.length := by omega
        go_wp2
        go_ret
        exact ⟨ret_bool (by symm; have h6 := hq.out; rw [List.take_length, List.take_of_length_le (by have := HL.out; omega)] at h6; exact h6), hBw⟩
  · have b1 : (xs.length != ys.length) = true := by simp [hlen]
    have b2 : ((xs.length : Int) != (ys.length : Int)) = true := by simp; omega
    have HL := Lib.hid hlen
    clear hlen
    go_enter Try.func48, Try.ntmps48
    go_wp2
    go_ret
    exact ⟨ret_bool (sameL_len _ _ HL.out).symm, Below.refl _ _⟩

set_option maxHeartbeats 3200000 in
theorem implSame (N : Nat) : ∀ (s t : Tm) (vs vt : Value) (w : World), s.sz ≤ N → VT w vs s → VT w vt t →
    Calls Try.prog 28 #[vs, vt] w fun e w' => e = .returned (.bool (s.same t)) ∧ Below w.heap.size w w' := by
  induction N with
  | zero => intro s t vs vt w h; have := s.sz_pos; omega
  | succ N ih =>
    intro s t vs vt w hN hs ht
    have hS := equalFunc_of N ih
    clear ih
    obtain ⟨vp, vk, rfl, hp, hk⟩ := hs
    obtain ⟨vp', vk', rfl, hp', hk'⟩ := ht
    have hkids : ∀ j (h : j < s.kids.length), s.kids[j].sz ≤ N := fun j h => by have := s.kid_sz j h; omega
    have HK := Lib.hid hkids
    clear hkids
    have HS := Lib.hid hS
    clear hS
    have key := Lib.hid (Tm.same_eq s t)
    by_cases e1 : s.op = t.op
    · have b1 : (s.op == t.op) = true := by simp [e1]
      have E1 := Lib.hid e1
      clear e1
      by_cases e2 : s.n = t.n
      · have b2 : (s.n == t.n) = true := by simp [e2]
        have E2 := Lib.hid e2
        clear e2
        cases e3 : s.perm == t.perm
        · go_enter Try.func28, Try.ntmps28
          go_wp2_with (go_at_call 47; refine (equalPair _ _ _ _ _ (hp.below KP.mono bl) (hp'.below KP.mono bl)).mono ?_; rintro e w2 ⟨rfl, hb2⟩; have hB2 : Below w.heap.size w w2 := bStep bl hb2)
          go_ret
          exact ⟨ret_bool (by rw [key.out, e3]; simp), hB2⟩
        · cases e4 : sameL s.kids t.kids
          all_goals
            go_enter Try.func28, Try.ntmps28
            go_wp2_with (first | (go_at_call 47; refine (equalPair _ _ _ _ _ (hp.below KP.mono bl) (hp'.below KP.mono bl)).mono ?_; rintro e w2 ⟨rfl, hb2⟩; have hB2 : Below w.heap.size w w2 := bStep bl hb2; obtain ⟨hc2, hf2⟩ := bcell hb2) | (go_at_call 48; refine (HS.out _ _ _ _ _ HK.out (hk.below KT.mono hB2) (hk'.below KT.mono hB2)).mono ?_; rintro e w3 ⟨rfl, hb3⟩; have hB3 : Below w.heap.size w w3 := bStep hB2 hb3))
            go_ret
            exact ⟨ret_bool (by rw [key.out, e3, e4, E1.out, E2.out]; simp), hB3⟩
      · have b2 : (s.n == t.n) = false := by simp [e2]
        have E2 := Lib.hid e2
        clear e2
        go_enter Try.func28, Try.ntmps28
        go_wp2
        go_ret
        exact ⟨ret_bool (by rw [key.out]; simp [E2.out]), bl⟩
    · have b1 : (s.op == t.op) = false := by simp [e1]
      have E1 := Lib.hid e1
      clear e1
      go_enter Try.func28, Try.ntmps28
      go_wp2
      go_ret
      exact ⟨ret_bool (by rw [key.out]; simp [E1.out]), bl⟩
end Go.Proofs.Ytlkhiddimplnjaa.Cx
