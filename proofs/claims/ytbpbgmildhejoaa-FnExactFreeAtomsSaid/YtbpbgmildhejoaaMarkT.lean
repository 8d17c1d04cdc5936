/- Contracts: marking a term of one's own, and reading the marks again. -/
import Derived.Test.YtbpbgmildhejoaaMark
import Derived.Test.YtbpbgmildhejoaaTerm
namespace Go.Proofs.Ytbpbgmildhejoaa.Base
open Go.RowKit
set_option linter.unusedVariables false
set_option linter.unusedSimpArgs false
theorem Off.cell {F : List Nat} {w w' : World} (h : Off F w w') {p : Addr} (hp : p.block < w.heap.size) (hn : p.block ∉ F) : w'.cell? p = w.cell? p := World.cell?_of_block (w := w) (h.block p.block hp hn)
theorem Off.frozen {F : List Nat} {w w' : World} (h : Off F w w') {p : Addr} (hp : p.block < w.heap.size) (hn : p.block ∉ F) : w'.frozen? p = w.frozen? p := World.frozen?_of_block (w := w) (h.block p.block hp hn)
mutual
/-- A term in a list with its marks: its own numbers too. -/
def rel1 : Tm → Int → Tm | .mk o n p ks, k => .mk k (k + 1) (mkP (k + 2) p.length) (relTs ks (k + 2 + 2 * p.length))
def relTs : List Tm → Int → List Tm | [], _ => [] | t :: ts, k => rel1 t k :: relTs ts (k + 2 + 2 * t.bulk)
end
theorem mk_op (o n : Int) (p : List (Int × Int)) (k : List Tm) : (Tm.mk o n p k).op = o := rfl
theorem mk_n (o n : Int) (p : List (Int × Int)) (k : List Tm) : (Tm.mk o n p k).n = n := rfl
theorem mk_perm (o n : Int) (p : List (Int × Int)) (k : List Tm) : (Tm.mk o n p k).perm = p := rfl
theorem mk_kids (o n : Int) (p : List (Int × Int)) (k : List Tm) : (Tm.mk o n p k).kids = k := rfl
def relT (t : Tm) (k : Int) : Tm := .mk t.op t.n (mkP k t.perm.length) (relTs t.kids (k + 2 * t.perm.length))
theorem relTs_len : ∀ (ts : List Tm) (k : Int), (relTs ts k).length = ts.length
  | [], _ => by simp [relTs]
  | t :: ts, k => by simp [relTs, relTs_len ts]
theorem relTs_append : ∀ (as' bs : List Tm) (k : Int), relTs (as' ++ bs) k = relTs as' k ++ relTs bs (k + 2 * bulkL as')
  | [], bs, k => by simp [relTs, bulkL]
  | a :: as', bs, k => by
    simp only [List.cons_append, relTs, relTs_append as' bs, bulkL]
    congr 3
    omega
theorem relTs_snoc (ts : List Tm) (j : Nat) (h : j < ts.length) (k : Int) : relTs (ts.take (j + 1)) k = relTs (ts.take j) k ++ [rel1 ts[j] (k + 2 * bulkL (ts.take j))] := by
  rw [take_snoc ts j h, relTs_append]; simp [relTs]
theorem relTs_get : ∀ (ts : List Tm) (k : Int) (j : Nat) (h : j < ts.length) (h' : j < (relTs ts k).length), (relTs ts k)[j] = rel1 ts[j] (k + 2 * bulkL (ts.take j))
  | [], k, j, h, _ => by simp at h
  | t :: ts, k, 0, h, h' => by simp [relTs, bulkL]
  | t :: ts, k, j + 1, h, h' => by
    have e : (relTs (t :: ts) k)[j + 1] = (relTs ts (k + 2 + 2 * t.bulk))[j]'(by rw [relTs_len]; simpa using h) := by simp [relTs]
    rw [e, relTs_get ts _ j (by simpa using h)]
    simp only [List.getElem_cons_succ, List.take_succ_cons, bulkL]
    congr 1
    omega
mutual
theorem rel1_bulk : ∀ (t : Tm) (k : Int), (rel1 t k).bulk = t.bulk
  | .mk o n p ks, k => by simp [rel1, Tm.bulk, relTs_bulk ks]
theorem relTs_bulk : ∀ (ts : List Tm) (k : Int), bulkL (relTs ts k) = bulkL ts
  | [], k => by simp [relTs, bulkL]
  | t :: ts, k => by simp [relTs, bulkL, rel1_bulk t, relTs_bulk ts]
end
theorem relT_bulk (t : Tm) (k : Int) : (relT t k).bulk = t.bulk := by cases t; simp [relT, Tm.bulk, relTs_bulk, Tm.perm, Tm.kids]
theorem rel1_eq (t : Tm) (k : Int) : rel1 t k = .mk k (k + 1) (mkP (k + 2) t.perm.length) (relTs t.kids (k + 2 + 2 * t.perm.length)) := by cases t; rfl
theorem foot_apart {Fs : Nat → List Nat} : ∀ {n : Nat}, (footOf Fs n).Nodup → ∀ i j, i < n → j < n → i ≠ j → ∀ x ∈ Fs i, x ∉ Fs j
  | 0, _, i, j, hi, _, _ => by omega
  | n + 1, h, i, j, hi, hj, hij => by
    rw [footOf_succ, List.nodup_append] at h
    intro x hx hx'
    by_cases e : i = n
    · subst e
      exact h.2.2 x (mem_footOf.2 ⟨j, by omega, hx'⟩) x hx rfl
    · by_cases e' : j = n
      · subst e'
        exact h.2.2 x (mem_footOf.2 ⟨i, by omega, hx⟩) x hx' rfl
      · exact foot_apart h.1 i j (by omega) (by omega) hij x hx hx'
theorem foot_nodup {Fs : Nat → List Nat} : ∀ {n : Nat}, (footOf Fs n).Nodup → ∀ i, i < n → (Fs i).Nodup
  | 0, _, i, hi => by omega
  | n + 1, h, i, hi => by
    rw [footOf_succ, List.nodup_append] at h
    by_cases e : i = n
    · subst e; exact h.2.1
    · exact foot_nodup h.1 i (by omega)
theorem rowOf_set2 {css : Nat → List Value} {x y c2 c3 : Value} (a b : Value) (j : Nat) (hj : css j = [x, y, c2, c3]) : ∀ (n : Nat), (∀ i, i < n → (css i).length = 4) → j < n →
    ((rowOf css n).set (j * 4) a).set (j * 4 + 1) b = rowOf (fun i => if i = j then [a, b, c2, c3] else css i) n
  | 0, _, h => by omega
  | n + 1, hl, h => by
    have hn := rowOf_len (css := css) (n := n) (sz := 4) (fun i hi => hl i (by omega))
    rw [rowOf_succ, rowOf_succ]
    by_cases e : j = n
    · subst e
      rw [List.set_append_right _ _ (by omega), hn, Nat.sub_self, hj, List.set_append_right _ _ (by omega), hn, Nat.add_sub_cancel_left]
      simp only [if_pos, List.set_cons_zero, List.set_cons_succ]
      congr 1
      exact rowOf_congr fun i hi => by rw [if_neg (by omega)]
    · have h2 : j * 4 + 1 < n * 4 := by have : (j + 1) * 4 ≤ n * 4 := Nat.mul_le_mul_right _ (by omega); omega
      rw [List.set_append_left _ _ (by omega), List.set_append_left _ _ (by simp; omega), rowOf_set2 a b j hj n (fun i hi => hl i (by omega)) (by omega), if_neg (by omega)]
/-- An element of a list of one's own terms: its cells, what hangs on them. -/
theorem OTs.at_ {tP tT : TypeId} {w : World} {ts : List Tm} {v : Value} {F : List Nat} (h : OTs tP tT w ts v F) (hF : F.Nodup) {j : Nat} (hj : j < ts.length) :
    ∃ g c vp vk G, v = .slice (some ⟨g, 0, none⟩) ts.length c ∧ g ∈ F ∧ g < w.heap.size ∧ g ∉ blk vp ++ G ∧ (∀ x ∈ blk vp ++ G, x ∈ F) ∧ (blk vp ++ G).Nodup ∧ w.ownsRow 0 tP 2 vp ts[j].perm.length (cP ts[j].perm) ∧ OTs tP tT w ts[j].kids vk G ∧
      w.cell? ⟨g, j * 4, none⟩ = some (.int .i64 ts[j].op) ∧ w.cell? ⟨g, j * 4 + 1, none⟩ = some (.int .i64 ts[j].n) ∧ w.cell? ⟨g, j * 4 + 2, none⟩ = some vp ∧ w.cell? ⟨g, j * 4 + 3, none⟩ = some vk ∧ (∀ o, w.frozen? ⟨g, o, none⟩ = false) ∧
      ∀ (a b : Int) (p' : List (Int × Int)) (ks' : List Tm) (w' : World), Off (blk vp ++ G) ((w.setCell ⟨g, j * 4, none⟩ (.int .i64 a)).setCell ⟨g, j * 4 + 1, none⟩ (.int .i64 b)) w' → w'.ownsRow 0 tP 2 vp p'.length (cP p') → OTs tP tT w' ks' vk G → OTs tP tT w' (ts.set j (.mk a b p' ks')) v F := by
  obtain ⟨css, Fs, hr, ho, rfl⟩ := h
  obtain ⟨A, c, rfl⟩ := owns_slice hr
  obtain ⟨g, rfl, _⟩ := own_some hr (by omega)
  have hgF : g ∈ blk (.slice (some ⟨g, 0, none⟩) ts.length c) := blk_mem
  obtain ⟨vp, vk, G, ecs, eF, hp, hk⟩ := (ho j hj).parts
  rw [List.nodup_append] at hF
  have hl : ∀ i, i < ts.length → (css i).length = 4 := fun i hi => (ho i hi).len
  have hsub : ∀ x ∈ Fs j, x ∈ footOf Fs ts.length := fun x hx => mem_footOf.2 ⟨j, hj, hx⟩
  have hgn : g ∉ Fs j := fun hx => hF.2.2 g hgF g (hsub g hx) rfl
  have get : ∀ i u, i < 4 → (css j)[i]? = some u → w.cell? ⟨g, j * 4 + i, none⟩ = some u := fun i u hi hu => by
    rw [hr.cellAt (j * 4 + i) (by have : (j + 1) * 4 ≤ ts.length * 4 := Nat.mul_le_mul_right _ hj; omega)]
    exact rowOf_get hl j i u hj hu
  refine ⟨g, c, vp, vk, G, rfl, List.mem_append.2 (.inl hgF), (owns_blk_lt hr g hgF).2, eF ▸ hgn, fun x hx => List.mem_append.2 (.inr (hsub x (eF ▸ hx))), eF ▸ foot_nodup hF.2.1 j hj, hp, hk,
    get 0 _ (by omega) (by rw [ecs]; rfl), get 1 _ (by omega) (by rw [ecs]; rfl), get 2 _ (by omega) (by rw [ecs]; rfl), get 3 _ (by omega) (by rw [ecs]; rfl), fun o => hr.frozenAt o, ?_⟩
  intro a b p' ks' w' hoff hp' hk'
  have hset := rowOf_set2 (.int .i64 a) (.int .i64 b) j ecs ts.length hl hj
  have hx : ∀ x ∈ blk (.slice (some ⟨g, 0, none⟩) ts.length c), x = g := fun x hx => by simpa [blk, Value.ownBlock] using hx
  refine ⟨fun i => if i = j then [.int .i64 a, .int .i64 b, vp, vk] else css i, Fs, ?_, fun i hi => ?_, by rw [List.length_set]⟩
  · have h1 := ((hr.stored (j * 4) (.int .i64 a)).1.stored (j * 4 + 1) (.int .i64 b)).1
    rw [hset] at h1
    rw [List.length_set]
    exact owns_off h1 hoff fun x hx1 hx2 => hgn (eF ▸ (hx x hx1 ▸ hx2))
  · rw [List.length_set] at hi
    by_cases e : i = j
    · subst e
      simp only [if_pos, List.getElem_set_self]
      rw [eF]
      exact OT.build hp' hk'
    · rw [List.getElem_set_ne (Ne.symm e)]
      simp only [if_neg e]
      refine (ho i hi).same_ fun x hx1 => ?_
      have hxg : x ≠ g := fun e' => hF.2.2 g hgF x (mem_footOf.2 ⟨i, hi, hx1⟩) e'.symm
      have hxG : x ∉ blk vp ++ G := eF ▸ foot_apart hF.2.1 i j hi hj e x hx1
      rw [hoff.block x (by simpa [World.setCell] using (ho i hi).lt x hx1) hxG, setCell_other _ _ _ _ _ hxg, setCell_other _ _ _ _ _ hxg]
/-- A term's value of one's own, and the blocks it lies in. -/
def OwTF (tP tT : TypeId) (w : World) (v : Value) (t : Tm) (F : List Nat) : Prop := ∃ vp vk, v = .agg #[.int .i64 t.op, .int .i64 t.n, vp, vk] ∧ OT tP tT w t [.int .i64 t.op, .int .i64 t.n, vp, vk] F ∧ F.Nodup
theorem OwT.foot {tP tT : TypeId} {w : World} {B : Nat} {v : Value} {t : Tm} (h : OwT tP tT w B v t) : ∃ F, OwTF tP tT w v t F ∧ ∀ g ∈ F, B ≤ g := by
  obtain ⟨vp, vk, F, e, ho, hn, hB⟩ := h
  exact ⟨F, ⟨vp, vk, e, ho, hn⟩, hB⟩
theorem OwTF.own {tP tT : TypeId} {w : World} {B : Nat} {v : Value} {t : Tm} {F : List Nat} (h : OwTF tP tT w v t F) (hB : ∀ g ∈ F, B ≤ g) : OwT tP tT w B v t := by
  obtain ⟨vp, vk, e, ho, hn⟩ := h
  exact ⟨vp, vk, F, e, ho, hn, hB⟩
theorem OwTF.lt {tP tT : TypeId} {w : World} {v : Value} {t : Tm} {F : List Nat} (h : OwTF tP tT w v t F) : ∀ g ∈ F, g < w.heap.size := by
  obtain ⟨vp, vk, e, ho, hn⟩ := h
  exact ho.lt
theorem OwTF.keep {tP tT : TypeId} {w w1 : World} {v : Value} {t : Tm} {F : List Nat} (h : OwTF tP tT w v t F) (hb : Below w.heap.size w w1) : OwTF tP tT w1 v t F := by
  obtain ⟨vp, vk, e, ho, hn⟩ := h
  exact ⟨vp, vk, e, ho.keep hb, hn⟩
theorem OwTF.off {tP tT : TypeId} {w w1 : World} {v : Value} {t : Tm} {F G : List Nat} (h : OwTF tP tT w v t F) (hb : Off G w w1) (hd : ∀ g ∈ F, g ∉ G) : OwTF tP tT w1 v t F := by
  obtain ⟨vp, vk, e, ho, hn⟩ := h
  exact ⟨vp, vk, e, ho.same_ fun g hg => hb.block g (ho.lt g hg) (hd g hg), hn⟩
theorem OwTF.vt {tP tT : TypeId} {w : World} {v : Value} {t : Tm} {F : List Nat} (h : OwTF tP tT w v t F) (hb : t.bulk ≤ 1099511627776) : VT w v t := (h.own (B := 0) fun _ _ => Nat.zero_le _).vt hb
end Go.Proofs.Ytbpbgmildhejoaa.Base
namespace Go.Proofs.Ytbpbgmildhejoaa.Cx
open Go.RowKit Base
set_option linter.unusedVariables false
set_option linter.unusedSimpArgs false
set_option maxHeartbeats 3200000 in
theorem markTermS (N : Nat) : ∀ (ts : List Tm) (v : Value) (F : List Nat) (k : Int) (w : World), szL ts < N → OTs 90 31 w ts v F → F.Nodup → bulkL ts ≤ 1099511627776 → 0 ≤ k → k + 2 * (bulkL ts : Int) ≤ 1152921504606846976 →
    Calls Try.prog 68 #[v, .int .i64 k] w fun e w' => e = .returned (.int .i64 (k + 2 * (bulkL ts : Int))) ∧ OTs 90 31 w' (relTs ts k) v F ∧ Off F w w' := by
  induction N with
  | zero => intro ts v F k w hN; omega
  | succ N ih =>
    intro ts v F k w hN h hF hb h0 h1
    have IH := Lib.hid ih
    clear ih
    have hlen := bulkL_len ts
    obtain ⟨A, c, rfl⟩ := h.slice
    have H := Lib.hid h
    have HF := Lib.hid hF
    have HN := Lib.hid hN
    have HB := Lib.hid hb
    clear h hF hN hb
    go_enter Try.func68, Try.ntmps68
    go_wp2
    go_loopg [1, 5] (ts.length + 1) (fun n v1 v5 wr => ∃ j : Nat, ∃ m : Int, n + j = ts.length + 1 ∧ j ≤ ts.length ∧ v5 = .int .i64 j ∧ v1 = .int .i64 m ∧ 0 ≤ m ∧ Hid (m = k + 2 * (bulkL (ts.take j) : Int)) ∧ Hid (OTs 90 31 wr (relTs (ts.take j) k ++ ts.drop j) (.slice A ts.length c) F) ∧ Hid (Off F w wr))
    case atStart => exact ⟨0, k, by omega, by omega, rfl, rfl, by omega, by simp [Hid, bulkL], by simpa [Hid, relTs] using H.out, Off.refl _ _⟩
    case round =>
      obtain ⟨j, m, hn, hk, rfl, rfl, hm0, hm, hown, hof⟩ := hrel
      have xl : (relTs (ts.take j) k ++ ts.drop j).length = ts.length := by simp [relTs_len]; omega
      have XL := Lib.hid xl
      clear xl
      by_cases hlt : j < ts.length
      · have ej : (relTs (ts.take j) k ++ ts.drop j)[j]'(by rw [XL.out]; exact hlt) = ts[j] := by
          rw [List.getElem_append_right (by simp [relTs_len]; omega)]
          simp [relTs_len, Nat.min_eq_left hk]
        obtain ⟨g, c', vp, vk, G, ev, hgF, hgl, hgn, hsub, hnd, hp, hks, c0, c1, c2, c3, hfr, hput⟩ := hown.out.at_ HF.out (j := j) (by rw [XL.out]; exact hlt)
        rw [ej] at hp hks c0 c1
        injection ev with e1 e2 e3
        subst e1 e3
        clear e2 ej
        have tk := bulkL_take ts j hlt
        have rm := bulkL_room ts (j + 1) hlt
        have hkb : ts[j].bulk = ts[j].perm.length + bulkL ts[j].kids := by cases ts[j]; rfl
        have hm1 := hm.out
        have u1 : m + 2 + 2 * (ts[j].perm.length : Int) + 2 * (bulkL ts[j].kids : Int) ≤ 1152921504606846976 := by omega
        have u2 : ts[j].perm.length ≤ 1099511627776 := by have := HB.out; omega
        have u3 : bulkL ts[j].kids ≤ 1099511627776 := by have := HB.out; omega
        have u4 : k + 2 * (bulkL (ts.take (j + 1)) : Int) = m + 2 + 2 * (ts[j].perm.length : Int) + 2 * (bulkL ts[j].kids : Int) := by omega
        have U4 := Lib.hid u4
        have TK := Lib.hid tk
        have nk : szL ts[j].kids < N := by
          have h2 := szL_mem ts j hlt
          have h3 : ts[j].sz = szL ts[j].kids + 1 := by cases ts[j]; rfl
          have := HN.out
          omega
        have NK := Lib.hid nk
        have HPUT := Lib.hid hput
        have HND := Lib.hid hnd
        have HSUB := Lib.hid hsub
        have HGN := Lib.hid hgn
        have hvp : g ∉ blk vp := fun h => hgn (List.mem_append.2 (.inl h))
        have hvn : ∀ x ∈ blk vp, x ≠ g := fun x hx e => hvp (by rw [← e]; exact hx)
        have hG : g ∉ G := fun h => hgn (List.mem_append.2 (.inr h))
        obtain ⟨Ap, cp, rfl⟩ := owns_slice hp
        obtain ⟨Ak, ck, rfl⟩ := hks.slice
        clear tk rm hkb hm1 u4 nk hput hnd hsub hgn
        have g0 : (0 : Int) ≤ (j : Int) := by omega
        have g1 : (j : Int) < (ts.length : Int) := by omega
        have f0 := hfr (j * 4)
        have f1 := hfr (j * 4 + 1)
        go_wp2_with fail
        refine (markPairG 90 0 _ _ ts[j].perm _ (owns_same hp fun x hx => by rw [setCell_other _ _ _ _ _ (hvn x hx), setCell_other _ _ _ _ _ (hvn x hx)]) (Nat.zero_le _) (by omega) (by omega) (by omega)).mono ?_
        rintro e w2 ⟨rfl, hp2, _, ho2⟩
        have d3 : w2.cell? ⟨g, j * 4 + 3, none⟩ = some (.slice Ak ts[j].kids.length ck) := by
          rw [ho2.cell (by simpa [World.setCell] using hgl) hvp]
          simp [go_sem, c3]
        have hs2 := ho2.size
        have OFF2 := Lib.hid ho2
        have HKS := Lib.hid hks
        have HP2 := Lib.hid hp2
        clear ho2 hks hp2
        go_wp2_with fail
        refine (IH.out ts[j].kids _ G _ _ NK.out (HKS.out.same_ fun x hx => ?_) (List.nodup_append.1 HND.out).2.1 u3 (by omega) (by omega)).mono ?_
        · have hxg : x ≠ g := fun e => hG (by rw [← e]; exact hx)
          rw [OFF2.out.block x (by simpa [World.setCell] using HKS.out.lt x hx) (fun h' => (List.nodup_append.1 HND.out).2.2 x h' x hx rfl), setCell_other _ _ _ _ _ hxg, setCell_other _ _ _ _ _ hxg]
        rintro e w3 ⟨rfl, hk3, ho3⟩
        have hO : Hid (OTs 90 31 w3 (relTs (ts.take (j + 1)) k ++ ts.drop (j + 1)) (.slice (some ⟨g, 0, none⟩) ts.length c) F) := by
          have h5 := HPUT.out m (m + 1) _ _ w3 ((OFF2.out.mono fun x hx => List.mem_append.2 (.inl hx)).trans (ho3.mono fun x hx => List.mem_append.2 (.inr hx))) (owns_off HP2.out ho3 fun x hx hx' => (List.nodup_append.1 HND.out).2.2 x hx x hx' rfl) hk3
          rw [mark_set _ _ j _ (by simp [relTs_len]; omega) hlt] at h5
          unfold Hid
          rw [relTs_snoc ts j hlt, rel1_eq, ← hm.out]
          have q1 : m + 1 + 1 = m + 2 := by omega
          simpa [q1] using h5
        have hF3 : Hid (Off F w w3) := (((hof.out.setCell hgF _).setCell hgF _).trans (OFF2.out.mono fun x hx => HSUB.out x (List.mem_append.2 (.inl hx)))).trans (ho3.mono fun x hx => HSUB.out x (List.mem_append.2 (.inr hx)))
        clear hk3 ho3
        go_wp2
        go_roundg (gk - 1)
        case measure => omega
        case rel => exact ⟨j + 1, _, by omega, by omega, by go_num, rfl, by omega, by unfold Hid; rw [U4.out]; omega, hO, hF3⟩
      · obtain rfl : j = ts.length := by omega
        go_wp2
        go_ret
        exact ⟨ret_int (by rw [hm.out, List.take_length]), by have := hown.out; simpa [Hid] using this, hof.out⟩
set_option maxHeartbeats 3200000 in
theorem markTerm (t : Tm) (v : Value) (F : List Nat) (k : Int) (w : World) (h : OwTF 90 31 w v t F) (hb : t.bulk ≤ 1099511627776) (h0 : 0 ≤ k) (h1 : k + 2 * (t.bulk : Int) ≤ 1152921504606846976) :
    Calls Try.prog 30 #[v, .int .i64 k] w fun e w' => e = .returned (.int .i64 (k + 2 * (t.bulk : Int))) ∧ OwTF 90 31 w' v (relT t k) F ∧ Off F w w' := by
  obtain ⟨vp, vk, rfl, ho, hn⟩ := h
  obtain ⟨vp', vk', G, ecs, rfl, hp, hk⟩ := ho.parts
  simp only [List.cons.injEq, and_true] at ecs
  obtain ⟨_, _, rfl, rfl⟩ := ecs
  have hkb : t.bulk = t.perm.length + bulkL t.kids := by cases t; rfl
  have u2 : t.perm.length ≤ 1099511627776 := by omega
  have u3 : bulkL t.kids ≤ 1099511627776 := by omega
  have u4 : k + 2 * (t.perm.length : Int) + 2 * (bulkL t.kids : Int) ≤ 1152921504606846976 := by omega
  have HN := Lib.hid (List.nodup_append.1 hn)
  have HKB := Lib.hid hkb
  have hplt := owns_blk_lt hp
  have HPLT := Lib.hid hplt
  have HN0 := Lib.hid hn
  obtain ⟨Ap, cp, rfl⟩ := owns_slice hp
  obtain ⟨Ak, ck, rfl⟩ := hk.slice
  have HK := Lib.hid hk
  clear hn hkb hplt hk ho hb h1
  go_enter Try.func30, Try.ntmps30
  go_wp2_with fail
  refine (markPairG 90 0 _ _ t.perm _ (owns_below hp bl) (Nat.zero_le _) (by omega) (by omega) (by omega)).mono ?_
  rintro e w2 ⟨rfl, hp2, _, ho2⟩
  have hwn : w.heap.size ∉ blk (.slice Ap t.perm.length cp) := fun h => by have := (HPLT.out _ h).2; omega
  have d3 : w2.cell? ⟨w.heap.size, 3, none⟩ = some (.slice Ak t.kids.length ck) := by
    rw [ho2.cell (by simp) hwn]
    simp [go_sem]
  have hs2 := ho2.size
  simp only [World.size_alloc] at hs2
  have OFF2 := Lib.hid ho2
  have HP2 := Lib.hid hp2
  clear ho2 hp2
  go_wp2_with fail
  refine (markTermS _ t.kids _ G _ _ (Nat.lt_succ_self _) (HK.out.same_ fun x hx => ?_) HN.out.2.1 u3 (by omega) (by omega)).mono ?_
  · rw [OFF2.out.block x (by have := HK.out.lt x hx; simp; omega) (fun h' => HN.out.2.2 x h' x hx rfl)]
    exact Below.heap_alloc _ _ _ (HK.out.lt x hx)
  rintro e w3 ⟨rfl, hk3, ho3⟩
  go_wp2
  go_ret
  refine ⟨ret_int (by rw [HKB.out]; omega), ⟨_, _, rfl, OT.build (owns_off HP2.out ho3 fun x hx hx' => HN.out.2.2 x hx x hx' rfl) hk3, HN0.out⟩, ?_⟩
  exact (Off.of (bAlloc (Below.refl _ _) _)).trans ((OFF2.out.mono fun x hx => List.mem_append.2 (.inl hx)).trans (ho3.mono fun x hx => List.mem_append.2 (.inr hx)))
theorem markTermG (t : Tm) (v : Value) (F : List Nat) (k : Int) (w : World) (B : Nat) (h : OwTF 90 31 w v t F) (hF : ∀ g ∈ F, B ≤ g) (hB : B ≤ w.heap.size) (hb : t.bulk ≤ 1099511627776) (h0 : 0 ≤ k) (h1 : k + 2 * (t.bulk : Int) ≤ 1152921504606846976) :
    Calls Try.prog 30 #[v, .int .i64 k] w fun e w' => e = .returned (.int .i64 (k + 2 * (t.bulk : Int))) ∧ OwTF 90 31 w' v (relT t k) F ∧ Below B w w' ∧ Off F w w' :=
  (markTerm t v F k w h hb h0 h1).mono fun e w' h => ⟨h.1, h.2.1, h.2.2.below hF hB, h.2.2⟩
set_option maxHeartbeats 3200000 in
theorem heldTermS (N : Nat) : ∀ (ts : List Tm) (v : Value) (k : Int) (w : World), szL ts < N → SlT w v (relTs ts k) → bulkL ts ≤ 1099511627776 → 0 ≤ k → k + 2 * (bulkL ts : Int) ≤ 1152921504606846976 →
    Calls Try.prog 86 #[v, .int .i64 k] w fun e w' => e = .returned (.int .i64 (k + 2 * (bulkL ts : Int))) ∧ Below w.heap.size w w' := by
  induction N with
  | zero => intro ts v k w hN; omega
  | succ N ih =>
    intro ts v k w hN h hb h0 h1
    have IH := Lib.hid ih
    clear ih
    have hlen := bulkL_len ts
    obtain ⟨A, c, rfl, hc, hl, hr⟩ := h
    rw [relTs_len] at hc hl ⊢
    have HN := Lib.hid hN
    have HB := Lib.hid hb
    clear hN hb
    go_enter Try.func86, Try.ntmps86
    go_wp2
    go_loopg [1, 5] (ts.length + 1) (fun n v1 v5 wr => ∃ j : Nat, ∃ m : Int, n + j = ts.length + 1 ∧ j ≤ ts.length ∧ v5 = .int .i64 j ∧ v1 = .int .i64 m ∧ 0 ≤ m ∧ Hid (m = k + 2 * (bulkL (ts.take j) : Int)) ∧ Hid (Below w.heap.size w wr))
    case atStart => exact ⟨0, k, by omega, by omega, rfl, rfl, by omega, by simp [Hid, bulkL], Below.refl _ _⟩
    case round =>
      obtain ⟨j, m, hn, hk, rfl, rfl, hm0, hm, hB⟩ := hrel
      have hBw := hB.out
      clear hB
      by_cases hlt : j < ts.length
      · obtain ⟨ad, p1, k1, rfl, hp1, hq1, c0, c1, c2, c3⟩ := (hr.below KT.mono hBw).atT (j := j) (by rw [relTs_len]; exact hlt)
        rw [relTs_get ts k j hlt, rel1_eq, ← hm.out] at hp1 hq1 c0 c1
        simp only [mk_perm, mk_kids, mk_op, mk_n] at hp1 hq1 c0 c1
        have tk := bulkL_take ts j hlt
        have rm := bulkL_room ts (j + 1) hlt
        have hkb : ts[j].bulk = ts[j].perm.length + bulkL ts[j].kids := by cases ts[j]; rfl
        have hm1 := hm.out
        have u1 : m + 2 + 2 * (ts[j].perm.length : Int) + 2 * (bulkL ts[j].kids : Int) ≤ 1152921504606846976 := by omega
        have u3 : bulkL ts[j].kids ≤ 1099511627776 := by have := HB.out; omega
        have u4 : k + 2 * (bulkL (ts.take (j + 1)) : Int) = m + 2 + 2 * (ts[j].perm.length : Int) + 2 * (bulkL ts[j].kids : Int) := by omega
        have U4 := Lib.hid u4
        have nk : szL ts[j].kids < N := by
          have h2 := szL_mem ts j hlt
          have h3 : ts[j].sz = szL ts[j].kids + 1 := by cases ts[j]; rfl
          have := HN.out
          omega
        have NK := Lib.hid nk
        clear tk rm hkb hm1 u4 nk
        have n0 := bne_rfl_ m
        have n1 := bne_rfl_ (m + 1)
        have q1 : m + 1 + 1 = m + 2 := by omega
        have n2 : ¬ m + 2 + 2 * (ts[j].perm.length : Int) < 0 := by omega
        have n3 : ¬ m + 2 + 2 * (ts[j].perm.length : Int) + 2 * (bulkL ts[j].kids : Int) < 0 := by omega
        have g0 : (0 : Int) ≤ (j : Int) := by omega
        have g1 : (j : Int) < (ts.length : Int) := by omega
        go_wp2_with fail
        refine (heldPairS _ p1 ts[j].perm.length (m + 2) (hp1.below KP.mono bl) (by omega) (by omega)).mono ?_
        rintro e w2 ⟨rfl, hb2⟩
        obtain ⟨hc2, hf2⟩ := bcell hb2
        have hB2 : Below w.heap.size w w2 := bStep bl hb2
        have hp2 := Stp.mk hb2
        have hs2 := hb2.size
        try simp only [World.size_alloc, World.size_setCell, World.size_drew, World.heap_drewN] at hs2
        try simp only [World.size_drew, World.heap_drewN, World.cell?_drew, World.frozen?_drew, World.cell?_drewN, World.frozen?_drewN] at hc2 hf2
        have c3_2 := bCell (w := wr) (bStep bl hb2) c3
        go_wp2_with fail
        refine (IH.out ts[j].kids k1 (m + 2 + 2 * (ts[j].perm.length : Int)) _ NK.out (hq1.below KT.mono bl) u3 (by omega) (by omega)).mono ?_
        rintro e w3 ⟨rfl, hb3⟩
        obtain ⟨hc3, hf3⟩ := bcell hb3
        have hB3 : Below w.heap.size w w3 := bStep bl hb3
        have hp3 := Stp.mk hb3
        have hs3 := hb3.size
        try simp only [World.size_alloc, World.size_setCell, World.size_drew, World.heap_drewN] at hs3
        try simp only [World.size_drew, World.heap_drewN, World.cell?_drew, World.frozen?_drew, World.cell?_drewN, World.frozen?_drewN] at hc3 hf3
        go_wp2
        go_roundg (gk - 1)
        case measure => omega
        case rel => exact ⟨j + 1, _, by omega, by omega, by go_num, rfl, by omega, by unfold Hid; rw [U4.out], bl⟩
      · obtain rfl : j = ts.length := by omega
        go_wp2
        go_ret
        exact ⟨ret_int (by rw [hm.out, List.take_length]), hBw⟩
set_option maxHeartbeats 3200000 in
theorem heldTerm (t : Tm) (v : Value) (k : Int) (w : World) (h : VT w v (relT t k)) (hb : t.bulk ≤ 1099511627776) (h0 : 0 ≤ k) (h1 : k + 2 * (t.bulk : Int) ≤ 1152921504606846976) :
    Calls Try.prog 45 #[v, .int .i64 k] w fun e w' => e = .returned (.int .i64 (k + 2 * (t.bulk : Int))) ∧ Below w.heap.size w w' := by
  obtain ⟨vp, vk, rfl, hp, hk⟩ := h
  simp only [relT, mk_perm, mk_kids, mk_op, mk_n] at hp hk ⊢
  have hkb : t.bulk = t.perm.length + bulkL t.kids := by cases t; rfl
  have u3 : bulkL t.kids ≤ 1099511627776 := by omega
  have u4 : k + 2 * (t.perm.length : Int) + 2 * (bulkL t.kids : Int) ≤ 1152921504606846976 := by omega
  have HKB := Lib.hid hkb
  clear hkb hb h1
  have n2 : ¬ k + 2 * (t.perm.length : Int) < 0 := by omega
  have n3 : ¬ k + 2 * (t.perm.length : Int) + 2 * (bulkL t.kids : Int) < 0 := by omega
  obtain ⟨Ap, cp, rfl⟩ := hp.slice
  obtain ⟨Ak, ck, rfl⟩ := hk.slice
  simp only [mkP_len, relTs_len] at hp hk ⊢
  go_enter Try.func45, Try.ntmps45
  go_wp2_with fail
  refine (heldPairS _ _ t.perm.length k (hp.below KP.mono bl) (by omega) (by omega)).mono ?_
  rintro e w2 ⟨rfl, hb2⟩
  obtain ⟨hc2, hf2⟩ := bcell hb2
  have hB2 : Below w.heap.size w w2 := bStep bl hb2
  have hp2 := Stp.mk hb2
  have hs2 := hb2.size
  try simp only [World.size_alloc, World.size_setCell, World.size_drew, World.heap_drewN] at hs2
  try simp only [World.size_drew, World.heap_drewN, World.cell?_drew, World.frozen?_drew, World.cell?_drewN, World.frozen?_drewN] at hc2 hf2
  have hz2_0 : w.heap.size < w2.heap.size := by omega
  go_wp2_with fail
  refine (heldTermS _ t.kids _ (k + 2 * (t.perm.length : Int)) _ (Nat.lt_succ_self _) (hk.below KT.mono bl) u3 (by omega) (by omega)).mono ?_
  rintro e w3 ⟨rfl, hb3⟩
  obtain ⟨hc3, hf3⟩ := bcell hb3
  have hB3 : Below w.heap.size w w3 := bStep bl hb3
  have hp3 := Stp.mk hb3
  have hs3 := hb3.size
  try simp only [World.size_alloc, World.size_setCell, World.size_drew, World.heap_drewN] at hs3
  try simp only [World.size_drew, World.heap_drewN, World.cell?_drew, World.frozen?_drew, World.cell?_drewN, World.frozen?_drewN] at hc3 hf3
  go_wp2
  go_ret
  exact ⟨ret_int (by rw [HKB.out]; omega), bl⟩
end Go.Proofs.Ytbpbgmildhejoaa.Cx
