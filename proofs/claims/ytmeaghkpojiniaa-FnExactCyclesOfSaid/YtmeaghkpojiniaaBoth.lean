/- Contracts: the atoms that two lists of pairs move, in order, the model's way. -/
import Derived.Test.YtmeaghkpojiniaaIns
import Derived.Test.YtmeaghkpojiniaaImg
namespace Go.Proofs.Ytmeaghkpojiniaa.Base
theorem insAll_snoc (l a : List Int) (n : Int) : insAll l (a ++ [n]) = insI (insAll l a) n := by simp [insAll, List.foldl_append]
theorem srcL_snoc' (xs : List (Int × Int)) (k : Nat) (h : k < xs.length) : srcL (xs.take (k + 1)) = srcL (xs.take k) ++ [xs[k].1] := by rw [take_snoc xs k h, srcL, List.map_append]; rfl
theorem insAll_take_len (l : List Int) (xs : List (Int × Int)) (k : Nat) : (insAll l (srcL (xs.take k))).length ≤ l.length + xs.length := by
  have := insAll_len (srcL (xs.take k)) l
  rw [src_len, List.length_take] at this
  omega
end Go.Proofs.Ytmeaghkpojiniaa.Base
namespace Go.Proofs.Ytmeaghkpojiniaa.Cx
open Go.RowKit Base
set_option linter.unusedVariables false
set_option linter.unusedSimpArgs false
set_option maxRecDepth 100000
set_option maxHeartbeats 1600000
theorem l1Atoms (w : World) (vp vq : Value) (p q : List (Int × Int)) (hp : SlP w vp p) (hq : SlP w vq q) (hlp : p.length ≤ 274877906944) (hlq : q.length ≤ 274877906944) :
    Calls Try.prog 58 #[vp, vq] w fun e w' => ∃ r, e = .returned r ∧ OwI 3 w' w.heap.size r (ascL (srcL p ++ srcL q)) ∧ Below w.heap.size w w' := by
  obtain ⟨A, c, rfl, hc, hl, hr⟩ := hp
  obtain ⟨A', c', rfl, hc', hl', hr'⟩ := hq
  go_enter Try.func58, Try.ntmps58
  go_wp2
  go_loopg [5, 6] (p.length + 1) (fun n v5 v6 wr => ∃ k : Nat, n + k = p.length + 1 ∧ k ≤ p.length ∧ v6 = .int .i64 k ∧ Hid (OwI 3 wr w.heap.size v5 (insAll [] (srcL (p.take k)))) ∧ Hid (Below w.heap.size w wr))
  case atStart => exact ⟨0, by omega, by omega, rfl, ownsI_empty _ _ _ _ (Nat.le_refl _) (heap_alloc_new w _), bl⟩
  case round =>
    obtain ⟨k, hn, hk, rfl, hown, hB⟩ := hrel
    have hBw := hB.out
    clear hB
    by_cases hlt : k < p.length
    · obtain ⟨ad, rfl, c0, c1⟩ := (hr.below KP.mono hBw).atP hlt
      have g0 : (0 : Int) ≤ (k : Int) := by omega
      have g1 : (k : Int) < (p.length : Int) := by omega
      go_wp2_with fail
      refine (l1Insert 3 w.heap.size rfl _ _ _ p[k].1 (OwI.keep hown.out bl) (show Below w.heap.size w _ from bl).size (by have := insAll_take_len [] p k; simp at this; omega)).mono ?_
      rintro e w1 ⟨r1, rfl, ho1, hb1⟩
      obtain ⟨hc1, hf1⟩ := bcell hb1
      have hB1 : Below w.heap.size w w1 := bStep bl hb1
      have hp1 := Stp.mk hb1
      have hs1 := hb1.size
      try simp only [World.size_alloc, World.size_setCell, World.size_drew, World.heap_drewN] at hs1
      try simp only [World.size_drew, World.heap_drewN, World.cell?_drew, World.frozen?_drew, World.cell?_drewN, World.frozen?_drewN] at hc1 hf1
      go_wp2
      go_roundg (gk - 1)
      case measure => omega
      case rel => exact ⟨k + 1, by omega, by omega, by go_num, by unfold Hid; rw [srcL_snoc' p k hlt, insAll_snoc]; exact ho1, bl⟩
    · obtain rfl : k = p.length := by omega
      rw [List.take_length] at hown
      have fl := insAll_len (srcL p) []
      rw [src_len] at fl
      have FL := Lib.hid fl
      clear fl
      go_wp2
      go_loopg [5, 7] (q.length + 1) (fun n v5 v7 wq => ∃ k : Nat, n + k = q.length + 1 ∧ k ≤ q.length ∧ v7 = .int .i64 k ∧ Hid (OwI 3 wq w.heap.size v5 (insAll (insAll [] (srcL p)) (srcL (q.take k)))) ∧ Hid (Below w.heap.size w wq))
      case atStart => exact ⟨0, by omega, by omega, rfl, hown.out, bl⟩
      case round =>
        obtain ⟨k, hn2, hk2, rfl, hown2, hB2⟩ := hrel
        have hBq := hB2.out
        clear hB2
        by_cases hlt2 : k < q.length
        · obtain ⟨ad, rfl, c0, c1⟩ := (hr'.below KP.mono hBq).atP hlt2
          have g0 : (0 : Int) ≤ (k : Int) := by omega
          have g1 : (k : Int) < (q.length : Int) := by omega
          go_wp2_with fail
          refine (l1Insert 3 w.heap.size rfl _ _ _ q[k].1 (OwI.keep hown2.out bl) (show Below w.heap.size w _ from bl).size (by have := insAll_take_len (insAll [] (srcL p)) q k; have := FL.out; simp at this; omega)).mono ?_
          rintro e w1 ⟨r1, rfl, ho1, hb1⟩
          obtain ⟨hc1, hf1⟩ := bcell hb1
          have hB1 : Below w.heap.size w w1 := bStep bl hb1
          have hp1 := Stp.mk hb1
          have hs1 := hb1.size
          try simp only [World.size_alloc, World.size_setCell, World.size_drew, World.heap_drewN] at hs1
          try simp only [World.size_drew, World.heap_drewN, World.cell?_drew, World.frozen?_drew, World.cell?_drewN, World.frozen?_drewN] at hc1 hf1
          go_wp2
          go_roundg (gk - 1)
          case measure => omega
          case rel => exact ⟨k + 1, by omega, by omega, by go_num, by unfold Hid; rw [srcL_snoc' q k hlt2, insAll_snoc]; exact ho1, bl⟩
        · obtain rfl : k = q.length := by omega
          go_wp2
          go_ret
          exact ⟨_, rfl, by have := hown2.out; rw [List.take_length, insAll_append] at this; exact this, hBq⟩
end Go.Proofs.Ytmeaghkpojiniaa.Cx
