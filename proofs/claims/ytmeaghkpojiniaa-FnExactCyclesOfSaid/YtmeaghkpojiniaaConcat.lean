/- Contracts: the sources of a list of pairs; lists of numbers joined; the different numbers of lists, in order. -/
import Derived.Test.YtmeaghkpojiniaaApp
import Derived.Test.YtmeaghkpojiniaaSort
import Derived.Test.YtmeaghkpojiniaaPermL
import Derived.Test.YtmeaghkpojiniaaRegion
import Derived.Deep.LoopGhost
import Derived.Shelf.Spec.SlicesGrow
namespace Go.Proofs.Ytmeaghkpojiniaa.Base
open Go.RowKit
theorem srcL_snoc (xs : List (Int × Int)) (k : Nat) (h : k < xs.length) : srcL (xs.take (k + 1)) = srcL (xs.take k) ++ [xs[k].1] := by rw [take_snoc xs k h, srcL, List.map_append]; rfl
theorem tgtL_snoc (xs : List (Int × Int)) (k : Nat) (h : k < xs.length) : tgtL (xs.take (k + 1)) = tgtL (xs.take k) ++ [xs[k].2] := by rw [take_snoc xs k h, tgtL, List.map_append]; rfl
/-- A list of lists: each place holds a slice that reads. -/
def KL (w : World) (x : Value × List Int) (cs : List Value) : Prop := cs = [x.1] ∧ SlI w x.1 x.2 ∧ Nz x.1
theorem KL.mono : Mono KL := fun _ _ _ _ hb h => ⟨h.1, h.2.1.below KI.mono hb, h.2.2⟩
def cat (ls : List (Value × List Int)) : List Int := ls.flatMap (·.2)
theorem cat_snoc (ls : List (Value × List Int)) (k : Nat) (h : k < ls.length) : cat (ls.take (k + 1)) = cat (ls.take k) ++ ls[k].2 := by
  rw [take_snoc ls k h, cat, List.flatMap_append]; simp [cat]
theorem cat_le (ls : List (Value × List Int)) (k : Nat) : (cat (ls.take k)).length ≤ (cat ls).length := by
  have : cat ls = cat (ls.take k) ++ cat (ls.drop k) := by rw [cat, cat, cat, ← List.flatMap_append, List.take_append_drop]
  rw [this, List.length_append]; omega
end Go.Proofs.Ytmeaghkpojiniaa.Base
namespace Go.Proofs.Ytmeaghkpojiniaa.Cx
open Go.RowKit Base
set_option linter.unusedVariables false
set_option linter.unusedSimpArgs false
set_option maxRecDepth 100000
set_option maxHeartbeats 1600000
theorem sources (w : World) (v : Value) (xs : List (Int × Int)) (h : SlP w v xs) : Calls Try.prog 54 #[v] w fun e w' => ∃ r, e = .returned r ∧ OwI 3 w' w.heap.size r (srcL xs) ∧ Below w.heap.size w w' := by
  obtain ⟨A, c, rfl, hc, hl, hr⟩ := h
  go_enter Try.func54, Try.ntmps54
  go_wp2
  go_loopg [3, 5, 8] (xs.length + 1) (fun n v3 v5 v8 wr => ∃ k : Nat, n + k = xs.length + 1 ∧ k ≤ xs.length ∧ v8 = .int .i64 k ∧ Hid (OwI 3 wr w.heap.size v3 (srcL (xs.take k))) ∧ Hid (Below w.heap.size w wr))
  case atStart => exact ⟨0, by omega, by omega, rfl, World.ownsRow_nil _ _ _ _, Below.refl _ _⟩
  case round =>
    obtain ⟨k, hn, hk, rfl, hown, hB⟩ := hrel
    have hBw := hB.out
    clear hB
    by_cases hlt : k < xs.length
    · obtain ⟨ad, rfl, c0, c1⟩ := (hr.below KP.mono hBw).atP hlt
      have g0 : (0 : Int) ≤ (k : Int) := by omega
      have g1 : (k : Int) < (xs.length : Int) := by omega
      have fl : (srcL (xs.take k)).length = k := by rw [src_len]; simp; omega
      have FL := Lib.hid fl
      clear fl
      have hlu := hBw.size
      have hW0 : Below wr.heap.size wr ((wr.alloc (.cells #[.int .i64 xs[k].1, .int .i64 xs[k].2] 51)).alloc (.cells #[.int .i64 xs[k].1] 3)) := bAlloc (bAlloc (Below.refl _ _) _) _
      have hown1 := owns_below hown.out hW0
      have hnew : ((wr.alloc (.cells #[.int .i64 xs[k].1, .int .i64 xs[k].2] 51)).alloc (.cells #[.int .i64 xs[k].1] 3)).heap[wr.heap.size + 1]? = some (.cells #[.int .i64 xs[k].1] 3 (0, 0)) := by
        have := heap_alloc_new (wr.alloc (.cells #[.int .i64 xs[k].1, .int .i64 xs[k].2] 51)) (.cells #[.int .i64 xs[k].1] 3)
        simpa using this
      have hsz : w.heap.size ≤ ((wr.alloc (.cells #[.int .i64 xs[k].1, .int .i64 xs[k].2] 51)).alloc (.cells #[.int .i64 xs[k].1] 3)).heap.size := by simp; omega
      have HW0 := Lib.hid hW0
      have HOW := Lib.hid hown1
      have HNEW := Lib.hid hnew
      have HSZ := Lib.hid hsz
      clear hW0 hown1 hnew hsz hlu
      go_wp2_with (at_builtin; refine Hid.out ?_)
      refine Lib.hid ?_
      refine wpList_app ty_ints w.heap.size u3 _ _ HOW.out (wr.heap.size + 1) 1 [.int .i64 xs[k].1] HNEW.out rfl (by simp [Value.oneCell']) (by rw [FL.out]; omega) (by rw [FL.out]; omega) HSZ.out (.tmp 12) (.tmp 15) rfl rfl rfl rfl ?_
      intro v' w2 hown2 hgrow hat
      have hO : Hid (OwI 3 w2 w.heap.size v' (srcL (xs.take (k + 1)))) := by
        unfold Hid
        rw [srcL_snoc xs k hlt]
        simpa [cI, OwI] using hown2
      have hB2 : Hid (Below w.heap.size w w2) := bOwn (bStep hBw HW0.out) HOW.out hgrow HSZ.out
      clear hown2 hgrow hat
      go_wp2
      go_roundg (gk - 1)
      case measure => omega
      case rel => exact ⟨k + 1, by omega, by omega, by go_num, hO, hB2⟩
    · obtain rfl : k = xs.length := by omega
      go_wp2
      go_ret
      exact ⟨_, rfl, by have := hown.out; rwa [List.take_length] at this, hBw⟩
theorem growNil (w : World) (n : Nat) (hn : n ≤ 17592186044416) : Calls Try.prog 83 #[.slice none 0 0, .int .i64 n] w fun e w' => ∃ r, e = .returned r ∧ OwI 3 w' w.heap.size r [] ∧ Below w.heap.size w w' := by
  by_cases h0 : n = 0
  · subst h0
    refine (Any8.slices_Grow_room Try.growI none 0 0 0 w (by omega) (by omega) (by omega) (by omega)).mono ?_
    rintro e w' ⟨rfl, rfl⟩
    exact ⟨_, rfl, World.ownsRow_nil _ _ _ _, Below.refl _ _⟩
  · have hi := info_int
    cases hI : Try.prog.info? 3 with
    | none => rw [hI] at hi; simp at hi
    | some i =>
      rw [hI] at hi
      simp at hi
      refine (Any8.slices_Grow_grow Try.growI i (.int .i64 0) hI hi.1 (by rw [hi.2.1]; omega) none 0 0 n [] w (by omega) (by omega) (by rw [hi.2.2]; omega) (by omega) (by simp) (fun _ => rfl) (fun a h => by cases h)).mono ?_
      rintro e w' ⟨rfl, rfl⟩
      have hge := grownCap_ge w (0 + n) 0 (Try.growI_ren.t 25)
      refine ⟨_, rfl, ⟨by simp [cI], .inr ⟨w.heap.size, _, _, rfl, Nat.le_refl _, heap_alloc_new w.drew _, Nat.zero_le _, grownCap_le_maxLen w (0 + n) 0 _ (by unfold maxLen; omega), ?_, by simp [cI]⟩⟩, bl⟩
      have hz : (Value.int IntKind.i64 0).cells.size = 1 := rfl
      simp only [Array.size_append, size_zeroCells, hz, List.size_toArray, List.length_nil]
      omega
theorem concatInts (w : World) (v : Value) (ls : List (Value × List Int)) (h : Sl KL 1 w v ls) (hb : (cat ls).length ≤ 17592186044416) : Calls Try.prog 71 #[v] w fun e w' => ∃ r, e = .returned r ∧ OwI 3 w' w.heap.size r (cat ls) ∧ Below w.heap.size w w' := by
  obtain ⟨A, c, rfl, hc, hl, hr⟩ := h
  go_enter Try.func71, Try.ntmps71
  go_wp2
  go_loopg [3, 5, 11] (ls.length + 1) (fun n v3 v5 v11 wr => ∃ k : Nat, n + k = ls.length + 1 ∧ k ≤ ls.length ∧ v11 = .int .i64 k ∧ v3 = .int .i64 ((cat (ls.take k)).length : Nat) ∧ Hid (Below w.heap.size w wr))
  case atStart => exact ⟨0, by omega, by omega, rfl, rfl, Below.refl _ _⟩
  case round =>
    obtain ⟨k, hn, hk, rfl, rfl, hB⟩ := hrel
    have hBw := hB.out
    clear hB
    by_cases hlt : k < ls.length
    · obtain ⟨ad, cs, rfl, ⟨rfl, hx, hnz⟩, hat⟩ := (hr.below KL.mono hBw) k hlt
      have c0 := hat.c0
      have g0 : (0 : Int) ≤ (k : Int) := by omega
      have g1 : (k : Int) < (ls.length : Int) := by omega
      have cl := cat_le ls (k + 1)
      have cs := cat_snoc ls k hlt
      have cn : (cat (ls.take (k + 1))).length = (cat (ls.take k)).length + ls[k].2.length := by rw [cs, List.length_append]
      have CN := Lib.hid cn
      obtain ⟨A', c', e'⟩ := hx.slice
      rw [e', Nat.mul_one] at c0
      rw [cn] at cl
      have n1 : decide (((cat (ls.take k)).length : Int) + (ls[k].2.length : Int) < 0) = false := by simp; omega
      clear cs cn hat hx hnz
      go_wp2
      go_roundg (gk - 1)
      case measure => omega
      case rel => exact ⟨k + 1, by omega, by omega, by go_num, by rw [CN.out]; go_num, bl⟩
    · obtain rfl : k = ls.length := by omega
      rw [List.take_length]
      go_wp2_with fail
      refine (growNil _ (cat ls).length hb).mono ?_
      rintro e w1 ⟨r1, rfl, ho1, hb1⟩
      obtain ⟨hc1, hf1⟩ := bcell hb1
      have hB1 : Below w.heap.size w w1 := bStep bl hb1
      have hp1 := Stp.mk hb1
      have hs1 := hb1.size
      try simp only [World.size_alloc, World.size_setCell, World.size_drew, World.heap_drewN] at hs1
      try simp only [World.size_drew, World.heap_drewN, World.cell?_drew, World.frozen?_drew, World.cell?_drewN, World.frozen?_drewN] at hc1 hf1
      go_wp2
      go_loopg [6, 8, 27] (ls.length + 1) (fun n v6 v8 v27 wq => ∃ k : Nat, n + k = ls.length + 1 ∧ k ≤ ls.length ∧ v27 = .int .i64 k ∧ Hid (OwI 3 wq w.heap.size v6 (cat (ls.take k))) ∧ Hid (Below w.heap.size w wq))
      case atStart => exact ⟨0, by omega, by omega, rfl, owns_lower ho1 hBw.size, bl⟩
      case round =>
        obtain ⟨k, hn2, hk2, rfl, hown, hB2⟩ := hrel
        have hBq := hB2.out
        clear hB2
        by_cases hlt2 : k < ls.length
        · obtain ⟨ad, cs, rfl, ⟨rfl, hx, hnz⟩, hat⟩ := (hr.below KL.mono hBq) k hlt2
          have c0 := hat.c0
          rw [Nat.mul_one] at c0
          have g0 : (0 : Int) ≤ (k : Int) := by omega
          have g1 : (k : Int) < (ls.length : Int) := by omega
          have cl := cat_le ls (k + 1)
          have cs := cat_snoc ls k hlt2
          rw [cs, List.length_append] at cl
          have CS := Lib.hid cs
          have HX := Lib.hid hx
          have HNZ := Lib.hid hnz
          have HT := Lib.hid hBq.size
          obtain ⟨A', c', e'⟩ := hx.slice
          have c1 := c0
          rw [e'] at c1
          clear cs hat hx hnz c0
          go_wp2_with (at_builtin; refine Hid.out ?_)
          refine Lib.hid ?_
          refine wpList_appI ty_ints w.heap.size u6 _ hown.out ls[k].1 _ HX.out HNZ.out (by omega) HT.out (.tmp 31) (.tmp 32) rfl rfl rfl (by rw [e']; rfl) ?_
          intro v' w2 ho2 hg2
          have hO : Hid (OwI 3 w2 w.heap.size v' (cat (ls.take (k + 1)))) := by unfold Hid; rw [CS.out]; exact ho2
          have hB3 : Hid (Below w.heap.size w w2) := bOwn hBq hown.out hg2 HT.out
          clear ho2 hg2
          go_wp2
          go_roundg (gk - 1)
          case measure => omega
          case rel => exact ⟨k + 1, by omega, by omega, by go_num, hO, hB3⟩
        · obtain rfl : k = ls.length := by omega
          go_wp2
          go_ret
          exact ⟨_, rfl, by have := hown.out; rwa [List.take_length] at this, hBq⟩
end Go.Proofs.Ytmeaghkpojiniaa.Cx
