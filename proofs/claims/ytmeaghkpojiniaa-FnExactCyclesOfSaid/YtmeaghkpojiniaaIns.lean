/- Contracts: a copy of a list of numbers; a number put into an ascending list; the atoms that two lists of pairs move. -/
import Derived.Test.YtmeaghkpojiniaaApp
import Derived.Test.YtmeaghkpojiniaaInts
import Derived.Test.YtmeaghkpojiniaaPermL
import Derived.Deep.LoopGhost
namespace Go.Proofs.Ytmeaghkpojiniaa.Base
open Go.RowKit
theorem SlI.take_ {w : World} {A : Option Addr} {n c : Nat} {xs : List Int} (h : SlI w (.slice A n c) xs) (k : Nat) (hk : k ≤ xs.length) : SlI w (.slice A k c) (xs.take k) := by
  obtain ⟨A', c', e, h1, h2, hr⟩ := h
  simp at e
  obtain ⟨rfl, rfl, rfl⟩ := e
  refine ⟨A, c, by rw [List.length_take, Nat.min_eq_left hk], by rw [List.length_take]; omega, by rw [List.length_take]; omega, fun j hj => ?_⟩
  rw [List.length_take] at hj
  obtain ⟨ad, cs, e, q, a⟩ := hr j (by omega)
  exact ⟨ad, cs, e, by rw [List.getElem_take]; exact q, a⟩
theorem SlI.drop_ {w : World} {A : Option Addr} {n c : Nat} {xs : List Int} (h : SlI w (.slice A n c) xs) (k : Nat) (hk : k ≤ xs.length) : SlI w (.slice (if c = k then A else A.map (·.add k)) (xs.length - k) (c - k)) (xs.drop k) := by
  obtain ⟨A', c', e, h1, h2, hr⟩ := h
  simp at e
  obtain ⟨rfl, rfl, rfl⟩ := e
  refine ⟨_, _, by rw [List.length_drop], by rw [List.length_drop]; omega, by rw [List.length_drop]; omega, fun j hj => ?_⟩
  rw [List.length_drop] at hj
  obtain ⟨ad, cs, e, q, a⟩ := hr (k + j) (by omega)
  refine ⟨ad.add k, cs, ?_, by rw [List.getElem_drop]; exact q, ?_⟩
  · rw [if_neg (by omega), e]; rfl
  · rw [add_add]; simpa [Nat.add_mul] using a
theorem Nz.drop_ {A : Option Addr} {n c : Nat} (h : Nz (.slice A n c)) (k m : Nat) : Nz (.slice (if c = k then A else A.map (·.add k)) m (c - k)) := by
  intro n' c' e
  simp at e
  obtain ⟨e1, _, rfl⟩ := e
  split at e1
  · omega
  · cases A with
    | none => have := h n c rfl; omega
    | some a => simp at e1
theorem ownsI_empty (w : World) (E : TypeId) (g B : Nat) (hB : B ≤ g) (h : w.heap[g]? = some (.cells #[] E (0, 0))) : OwI E w B (.slice (some ⟨g, 0, none⟩) 0 0) [] :=
  ⟨rfl, .inr ⟨g, 0, #[], rfl, hB, h, Nat.le_refl _, by unfold maxLen; omega, rfl, by simp [cI]⟩⟩
end Go.Proofs.Ytmeaghkpojiniaa.Base
namespace Go.Proofs.Ytmeaghkpojiniaa.Cx
open Go.RowKit Base
set_option linter.unusedVariables false
set_option linter.unusedSimpArgs false
set_option maxRecDepth 100000
set_option maxHeartbeats 1600000
theorem l1Copy (w : World) (v : Value) (xs : List Int) (h : SlI w v xs) (hz : Nz v) : Calls Try.prog 86 #[v] w fun e w' => ∃ r, e = .returned r ∧ OwI 3 w' w.heap.size r xs ∧ Below w.heap.size w w' := by
  have h0 := h
  obtain ⟨A, c, rfl, hc, hl, hr⟩ := h
  have H0 := Lib.hid h0
  have HZ := Lib.hid hz
  have HL := Lib.hid hl
  clear h0 hz
  go_enter Try.func86, Try.ntmps86
  go_wp2_with (at_builtin; refine Hid.out ?_)
  refine Lib.hid ?_
  refine wpList_appI ty_ints w.heap.size _ _ (ownsI_empty (w.alloc (Obj.cells #[] 3)) 3 w.heap.size w.heap.size (Nat.le_refl _) (heap_alloc_new w _)) _ _ (H0.out.below KI.mono bl) HZ.out (by simp; have := HL.out; omega) (by simp) (.tmp 3) (.tmp 4) rfl rfl rfl rfl ?_
  intro v' w4 ho4 hg4
  have hO : Hid (OwI 3 w4 w.heap.size v' xs) := by unfold Hid; simpa using ho4
  have hB : Hid (Below w.heap.size w w4) := bGrown bl hg4 (by simp) (fun k hk => by simp [Value.ownBlock] at hk; omega)
  clear ho4 hg4
  go_wp2
  go_ret
  exact ⟨_, rfl, hO.out, hB.out⟩
theorem l1Insert (E : TypeId) (B : Nat) (hE : E = 3) (w : World) (v : Value) (xs : List Int) (n : Int) (h : OwI E w B v xs) (hB0 : B ≤ w.heap.size) (hl0 : xs.length ≤ 1099511627776) :
    Calls Try.prog 74 #[v, .int .i64 n] w fun e w' => ∃ r, e = .returned r ∧ OwI E w' B r (insI xs n) ∧ Below w.heap.size w w' := by
  subst hE
  cases hh : hasI xs n
  · have hn : n ∉ xs := by simpa [hasI] using hh
    have hsl : SlI w v xs := h.sl (by omega)
    have HS := Lib.hid hsl
    have HN := Lib.hid hn
    have HZ := Lib.hid (owns_nz h)
    obtain ⟨A, c, rfl, hc, hl, hr⟩ := hsl
    clear hn
    go_enter Try.func74, Try.ntmps74
    go_wp2_with fail
    refine (l1Has _ _ xs n (HS.out.below KI.mono bl)).mono ?_
    rintro e w1 ⟨rfl, hb1⟩
    obtain ⟨hc1, hf1⟩ := bcell hb1
    have hB1 : Below w.heap.size w w1 := bStep bl hb1
    have hp1 := Stp.mk hb1
    have hs1 := hb1.size
    try simp only [World.size_alloc, World.size_setCell, World.size_drew, World.heap_drewN] at hs1
    try simp only [World.size_drew, World.heap_drewN, World.cell?_drew, World.frozen?_drew, World.cell?_drewN, World.frozen?_drewN] at hc1 hf1
    go_wp2
    go_loopg [5] (xs.length + 1) (fun m v5 wr => ∃ k : Nat, m = k + 1 ∧ k ≤ xs.length ∧ v5 = .int .i64 k ∧ Hid (insPos xs n xs.length = insPos xs n k) ∧ Hid (Below w.heap.size w wr))
    case atStart => exact ⟨xs.length, rfl, by omega, rfl, rfl, bl⟩
    case round =>
      obtain ⟨k, hm, hk, rfl, hq, hB⟩ := hrel
      have hBw := hB.out
      clear hB
      by_cases h0 : k = 0
      · have z0 : decide ((0 : Int) < (k : Int)) = false := by simp; omega
        have z0n : decide (0 < k) = false := by simp; omega
        have hp : insPos xs n xs.length = k := by rw [hq.out]; subst h0; rfl
        have HP := Lib.hid hp
        clear hp h0
        have HD := Lib.hid (SlI.drop_ HS.out k (by omega))
        have HDZ := Lib.hid (Nz.drop_ HZ.out k (xs.length - k))
        go_wp2_with fail
        refine (l1Copy _ _ (xs.take k) (SlI.take_ (HS.out.below KI.mono bl) k (by omega)) (fun n' c' e => by simp at e; obtain ⟨e1, _, e3⟩ := e; subst e1 e3; exact HZ.out _ _ rfl)).mono ?_
        rintro e w2 ⟨r2, rfl, ho2, hb2⟩
        obtain ⟨hc2, hf2⟩ := bcell hb2
        have hB2 : Below w.heap.size w w2 := bStep bl hb2
        have hp2 := Stp.mk hb2
        have hs2 := hb2.size
        try simp only [World.size_alloc, World.size_setCell, World.size_drew, World.heap_drewN] at hs2
        try simp only [World.size_drew, World.heap_drewN, World.cell?_drew, World.frozen?_drew, World.cell?_drewN, World.frozen?_drewN] at hc2 hf2
        have tl : (xs.take k).length ≤ 1099511627776 := by rw [List.length_take]; omega
        go_wp2_with (at_builtin; refine Hid.out ?_)
        refine Lib.hid ?_
        have ho2' : OwI 3 (w2.alloc (.cells #[.int .i64 n] 3)) wr.heap.size r2 (xs.take k) := OwI.keep ho2 bl
        have hs2' : wr.heap.size ≤ (w2.alloc (.cells #[.int .i64 n] 3)).heap.size := by simp; omega
        refine wpList_app ty_ints wr.heap.size r2 _ _ ho2' w2.heap.size 1 [.int .i64 n] (heap_alloc_new w2 _) rfl (by simp [Value.oneCell']) (by omega) (by omega) hs2' (.tmp 29) (.tmp 31) rfl rfl rfl rfl ?_
        intro v3 w3 ho3 hg3 _
        have hO3 : OwI 3 w3 wr.heap.size v3 (xs.take k ++ [n]) := by simpa [cI, OwI] using ho3
        have hp3 : Stp wr w3 := bOwn (bl) ho2' hg3 hs2'
        clear ho3 hg3 ho2' hs2' ho2
        have HO3 := Lib.hid hO3
        clear hO3
        go_wp2_with (at_builtin; refine Hid.out ?_)
        all_goals
          refine Lib.hid ?_
          have hs3 : wr.heap.size ≤ w3.heap.size := hp3.size
          have hd := HD.out
          have hdz := HDZ.out
          first | (rw [if_pos (show c = k by assumption), (show c = k by assumption), Nat.sub_self] at hd hdz) | rw [if_neg (show ¬ c = k by assumption)] at hd hdz
          refine wpList_appI ty_ints wr.heap.size v3 _ HO3.out _ _ (hd.below KI.mono bl) hdz (by simp; omega) hs3 (.tmp 33) (.tmp 36) rfl rfl rfl rfl ?_
          intro v4 w4 ho4 hg4
          have hp4 : Stp wr w4 := bOwn (bl) HO3.out hg4 hs3
          have HO4 := Lib.hid ho4
          clear ho4 hg4
          go_wp2
          go_ret
          refine ⟨_, rfl, ?_, bl⟩
          have e := HO4.out
          rw [List.append_assoc] at e
          unfold insI
          rw [if_neg HN.out, HP.out]
          exact owns_lower e (Nat.le_trans hB0 hBw.size)
      · obtain ⟨q, rfl⟩ : ∃ q, k = q + 1 := ⟨k - 1, by omega⟩
        obtain ⟨ad, rfl, c0⟩ := (hr.below KI.mono hBw).atI (j := q) (by omega)
        have z0 : (0 : Int) < (q : Int) + 1 := by omega
        have z1 : (q : Int) + 1 - 1 = (q : Int) := by omega
        have z2 : (0 : Int) ≤ (q : Int) := by omega
        have z3 : (q : Int) < (xs.length : Int) := by omega
        have gd : xs.getD q 0 = xs[q] := by rw [List.getD_eq_getElem?_getD, List.getElem?_eq_getElem (by omega), Option.getD_some]
        have st : insPos xs n (q + 1) = if n < xs[q] then insPos xs n q else q + 1 := by rw [insPos, gd]
        cases hL : decide (n < xs[q])
        · have hp : insPos xs n xs.length = q + 1 := by rw [hq.out, st, if_neg (by simpa using hL)]
          have HP := Lib.hid hp
          clear hp st gd
          have HD := Lib.hid (SlI.drop_ HS.out (q + 1) (by omega))
          have HDZ := Lib.hid (Nz.drop_ HZ.out (q + 1) (xs.length - (q + 1)))
          go_wp2_with fail
          refine (l1Copy _ _ (xs.take (q + 1)) (SlI.take_ (HS.out.below KI.mono bl) (q + 1) (by omega)) (fun n' c' e => by simp at e)).mono ?_
          rintro e w2 ⟨r2, rfl, ho2, hb2⟩
          obtain ⟨hc2, hf2⟩ := bcell hb2
          have hB2 : Below w.heap.size w w2 := bStep bl hb2
          have hp2 := Stp.mk hb2
          have hs2 := hb2.size
          try simp only [World.size_alloc, World.size_setCell, World.size_drew, World.heap_drewN] at hs2
          try simp only [World.size_drew, World.heap_drewN, World.cell?_drew, World.frozen?_drew, World.cell?_drewN, World.frozen?_drewN] at hc2 hf2
          have tl : (xs.take (q + 1)).length ≤ 1099511627776 := by rw [List.length_take]; omega
          go_wp2_with (at_builtin; refine Hid.out ?_)
          refine Lib.hid ?_
          have ho2' : OwI 3 (w2.alloc (.cells #[.int .i64 n] 3)) wr.heap.size r2 (xs.take (q + 1)) := OwI.keep ho2 bl
          have hs2' : wr.heap.size ≤ (w2.alloc (.cells #[.int .i64 n] 3)).heap.size := by simp; omega
          refine wpList_app ty_ints wr.heap.size r2 _ _ ho2' w2.heap.size 1 [.int .i64 n] (heap_alloc_new w2 _) rfl (by simp [Value.oneCell']) (by omega) (by omega) hs2' (.tmp 29) (.tmp 31) rfl rfl rfl rfl ?_
          intro v3 w3 ho3 hg3 _
          have hO3 : OwI 3 w3 wr.heap.size v3 (xs.take (q + 1) ++ [n]) := by simpa [cI, OwI] using ho3
          have hp3 : Stp wr w3 := bOwn (bl) ho2' hg3 hs2'
          clear ho3 hg3 ho2' hs2' ho2
          have HO3 := Lib.hid hO3
          clear hO3
          go_wp2_with (at_builtin; refine Hid.out ?_)
          all_goals
            refine Lib.hid ?_
            have hs3 : wr.heap.size ≤ w3.heap.size := hp3.size
            have hd := HD.out
            have hdz := HDZ.out
            first | (rw [if_pos (show c = q + 1 by assumption), (show c = q + 1 by assumption), Nat.sub_self] at hd hdz) | rw [if_neg (show ¬ c = q + 1 by assumption)] at hd hdz
            refine wpList_appI ty_ints wr.heap.size v3 _ HO3.out _ _ (hd.below KI.mono bl) hdz (by simp; omega) hs3 (.tmp 33) (.tmp 36) rfl rfl rfl rfl ?_
            intro v4 w4 ho4 hg4
            have hp4 : Stp wr w4 := bOwn (bl) HO3.out hg4 hs3
            have HO4 := Lib.hid ho4
            clear ho4 hg4
            go_wp2
            go_ret
            refine ⟨_, rfl, ?_, bl⟩
            have e := HO4.out
            rw [List.append_assoc] at e
            unfold insI
            rw [if_neg HN.out, HP.out]
            exact owns_lower e (Nat.le_trans hB0 hBw.size)
        · have hp : insPos xs n xs.length = insPos xs n q := by rw [hq.out, st, if_pos (by simpa using hL)]
          have HP := Lib.hid hp
          clear hp st gd
          go_wp2
          go_roundg (gk - 1)
          case measure => omega
          case rel => exact ⟨q, by omega, by omega, by go_num, HP.out, bl⟩
  · have hn : n ∈ xs := by simpa [hasI] using hh
    have HN := Lib.hid hn
    have hsl : SlI w v xs := h.sl (by omega)
    go_enter Try.func74, Try.ntmps74
    go_wp2_with fail
    refine (l1Has _ _ xs n (hsl.below KI.mono bl)).mono ?_
    rintro e w1 ⟨rfl, hb1⟩
    obtain ⟨hc1, hf1⟩ := bcell hb1
    have hB1 : Below w.heap.size w w1 := bStep bl hb1
    have hp1 := Stp.mk hb1
    have hs1 := hb1.size
    try simp only [World.size_alloc, World.size_setCell, World.size_drew, World.heap_drewN] at hs1
    try simp only [World.size_drew, World.heap_drewN, World.cell?_drew, World.frozen?_drew, World.cell?_drewN, World.frozen?_drewN] at hc1 hf1
    go_wp2
    go_ret
    exact ⟨_, rfl, by unfold insI; rw [if_pos HN.out]; exact OwI.keep h bl, bl⟩
end Go.Proofs.Ytmeaghkpojiniaa.Cx
