/- Contract: the order of a permutation, the program's way. -/
import Derived.Test.YtmeaghkpojiniaaOrd
namespace Go.Proofs.Ytmeaghkpojiniaa.Cx
open Go.RowKit Base
set_option linter.unusedVariables false
set_option linter.unusedSimpArgs false
set_option maxRecDepth 100000
set_option maxHeartbeats 6400000
theorem implOrder (w : World) (v : Value) (xs : List (Int × Int)) (h : SlP w v xs) : Calls Try.prog 29 #[v] w fun e w' => e = .returned (.int .i64 (orderO xs)) ∧ Below w.heap.size w w' := by
  cases hP : permS xs
  · go_enter Try.func29, Try.ntmps29
    go_wp2_with fail
    refine (implIsPerm _ v xs (h.below KP.mono bl)).mono ?_
    rintro e w1 ⟨rfl, hb1⟩
    obtain ⟨hc1, hf1⟩ := bcell hb1
    have hB1 : Below w.heap.size w w1 := bStep bl hb1
    have hp1 := Stp.mk hb1
    have hs1 := hb1.size
    try simp only [World.size_alloc, World.size_setCell, World.size_drew, World.heap_drewN] at hs1
    try simp only [World.size_drew, World.heap_drewN, World.cell?_drew, World.frozen?_drew, World.cell?_drewN, World.frozen?_drewN] at hc1 hf1
    go_wp2
    go_ret
    exact ⟨ret_int (by simp [orderO, hP]), bl⟩
  · have hcl : ∀ l ∈ cycL xs, 0 < l.length ∧ l.length ≤ 40 := fun l hl => cyc_mem_len hP hl
    have hsm := lcmF_small (fun l hl => (hcl l hl).1) (cyc_sum hP)
    have HO := Lib.hid (show orderO xs = (lcmF (cycL xs) : Int) by simp [orderO, hP])
    have HC := Lib.hid (show cyclesO xs = cycL xs by simp [cyclesO, hP])
    have hcn : (cycL xs).length ≤ 40 := Nat.le_trans (cycS_len xs xs []) (permS_len hP)
    generalize hX : cycL xs = X at hcl hsm hcn
    have HX := Lib.hid hX
    have HCL := Lib.hid hcl
    have HSM := Lib.hid hsm
    clear hX hcl hsm
    go_enter Try.func29, Try.ntmps29
    go_wp2_with fail
    refine (implIsPerm _ v xs (h.below KP.mono bl)).mono ?_
    rintro e w1 ⟨rfl, hb1⟩
    obtain ⟨hc1, hf1⟩ := bcell hb1
    have hB1 : Below w.heap.size w w1 := bStep bl hb1
    have hp1 := Stp.mk hb1
    have hs1 := hb1.size
    try simp only [World.size_alloc, World.size_setCell, World.size_drew, World.heap_drewN] at hs1
    try simp only [World.size_drew, World.heap_drewN, World.cell?_drew, World.frozen?_drew, World.cell?_drewN, World.frozen?_drewN] at hc1 hf1
    go_wp2_with fail
    refine (implCycles _ v xs (h.below KP.mono bl)).mono ?_
    rintro e w2 ⟨r2, F, rfl, ho2, hn2, hF2, hb2⟩
    obtain ⟨hc2, hf2⟩ := bcell hb2
    have hB2 : Below w.heap.size w w2 := bStep bl hb2
    have hp2 := Stp.mk hb2
    have hs2 := hb2.size
    try simp only [World.size_alloc, World.size_setCell, World.size_drew, World.heap_drewN] at hs2
    try simp only [World.size_drew, World.heap_drewN, World.cell?_drew, World.frozen?_drew, World.cell?_drewN, World.frozen?_drewN] at hc2 hf2
    rw [HC.out, HX.out] at ho2
    obtain ⟨A2, c2, rfl⟩ := ho2.slice
    have HO2 := Lib.hid ho2
    clear ho2 hn2 hF2 hP
    go_wp2
    go_loopg [3, 5, 12] (X.length + 1) (fun n v3 v5 v12 wr => ∃ k : Nat, ∃ N : Nat, n + k = X.length + 1 ∧ k ≤ X.length ∧ v12 = .int .i64 k ∧ v3 = .int .i64 (N : Int) ∧ 0 < N ∧ N ≤ 1099511627776 ∧ Hid (N = lcmF (X.take k)) ∧ Hid (Below w2.heap.size w2 wr))
    case atStart => exact ⟨0, 1, by omega, by omega, rfl, rfl, by omega, by omega, rfl, Below.refl _ _⟩
    case round =>
      obtain ⟨k, N, hn0, hk, rfl, rfl, hN0, hN1, hN, hB⟩ := hrel
      have hpr := Stp.mk hB.out
      by_cases hlt : k < X.length
      · obtain ⟨ad, A3, c3, rfl, k0, _, _, _⟩ := (HO2.out.keep hB.out).at_ (fun l hl => by have := HCL.out l hl; omega) hlt
        have hl0 := (HCL.out X[k] (List.getElem_mem hlt)).1
        have hl1 := (HCL.out X[k] (List.getElem_mem hlt)).2
        have g0 : (0 : Int) ≤ (k : Int) := by omega
        have g1 : (k : Int) < (X.length : Int) := by omega
        have SN := Lib.hid (lcmF_snoc X k hlt)
        have hs := HSM.out (k + 1)
        generalize hL : X[k].length = L at *
        have hg0 : 0 < Nat.gcd N L := Nat.gcd_pos_of_pos_left _ hN0
        have hglc := gcd_lcm N L
        generalize hG : Nat.gcd N L = G at hg0 hglc
        have HG := Lib.hid hG
        have hq1 : N / G ≤ N := Nat.div_le_self _ _
        have hlq : N / G * L = lcmF (X.take (k + 1)) := by rw [SN.out, ← hN.out]; exact hglc
        rw [← hlq] at hs
        have hqi : (N : Int) / (G : Int) = ((N / G : Nat) : Int) := (Int.natCast_ediv N G).symm
        generalize hq : N / G = q at hq1 hlq hs hqi
        have hmi : (q : Int) * (L : Int) = ((q * L : Nat) : Int) := (Int.natCast_mul _ _).symm
        generalize hp : q * L = R at hlq hs hmi
        have HLQ := Lib.hid hlq
        have hGn : ¬ G = 0 := by omega
        have hwr0 : ∀ q : Nat, q ≤ 1099511627776 → wrap64 (q : Int) = (q : Int) := fun q hq => by unfold wrap64; omega
        have HW1 := Lib.hid (hwr0 q (by omega))
        have HW2 := Lib.hid (hwr0 R hs.2)
        have HQI := Lib.hid hqi
        have HMI := Lib.hid hmi
        clear hG hglc hlq hwr0 hq hp hqi hmi
        go_wp2_with fail
        refine (gcdN _ N L (by omega) (by omega)).mono ?_
        rintro e w3 ⟨rfl, hb3⟩
        obtain ⟨hc3, hf3⟩ := bcell hb3
        have hB3 : Below w.heap.size w w3 := bStep bl hb3
        have hp3 := Stp.mk hb3
        have hs3 := hb3.size
        try simp only [World.size_alloc, World.size_setCell, World.size_drew, World.heap_drewN] at hs3
        try simp only [World.size_drew, World.heap_drewN, World.cell?_drew, World.frozen?_drew, World.cell?_drewN, World.frozen?_drewN] at hc3 hf3
        rw [HG.out]
        go_wp2
        go_roundg (gk - 1)
        case measure => omega
        case rel => exact ⟨k + 1, R, by omega, by omega, by go_num, by rw [HQI.out, HW1.out, HMI.out, HW2.out], hs.1, hs.2, HLQ.out, bl⟩
      · obtain rfl : k = X.length := by omega
        rw [List.take_length] at hN
        go_wp2
        go_ret
        exact ⟨ret_int (by rw [HO.out, HX.out, hN.out]), bl⟩
end Go.Proofs.Ytmeaghkpojiniaa.Cx
