/- Memory words of my own: a slice that reads as a list, trees of terms, and rows that the call owns. Nothing here speaks of the program. -/
import Derived.WalkKit
import Derived.Deep.Draws
import Derived.Maps.AppendAt
import Derived.Lib.Hide
namespace Go.Proofs.Ytmeaghkpojiniaa.Base
open Go.RowKit
set_option linter.unusedVariables false
set_option linter.unusedSimpArgs false

theorem ret_bool {a b : Bool} (h : a = b) : Ending.returned (.bool a) = Ending.returned (.bool b) := by rw [h]
theorem ret_int {k : IntKind} {a b : Int} (h : a = b) : Ending.returned (.int k a) = Ending.returned (.int k b) := by rw [h]

/-! ### worlds -/
theorem add_block (a : Addr) (n : Nat) : (a.add n).block = a.block := by unfold Addr.add; split <;> rfl
theorem add_add (a : Addr) (i j : Nat) : (a.add i).add j = a.add (i + j) := by
  unfold Addr.add
  by_cases hi : i = 0 <;> by_cases hj : j = 0 <;> simp [hi, hj, Nat.add_assoc]
theorem add_succ (a : Addr) (j : Nat) : a.add (j + 1) = ⟨a.block, a.off + (j + 1), none⟩ := by unfold Addr.add; rw [if_neg (by omega)]
theorem add_zero (a : Addr) : a.add 0 = a := by unfold Addr.add; rw [if_pos rfl]

theorem bDrewN {B : Nat} {w W : World} (h : Below B w W) (n : Nat) : Below B w (W.drewN n) := ⟨h.os, h.tape, h.output, h.size, h.block⟩
theorem bAlloc {w W : World} (h : Below w.heap.size w W) (o : Obj) : Below w.heap.size w (W.alloc o) := h.alloc h.size o
theorem bThen {B : Nat} {w w1 w2 : World} (h : Below B w w1) (hB : B ≤ w1.heap.size) (k : Below w1.heap.size w1 w2) : Below B w w2 :=
  h.trans ⟨k.os, k.tape, k.output, k.size, fun i hi => k.block i (Nat.lt_of_lt_of_le hi hB)⟩
theorem bStep {w w1 w2 : World} (h : Below w.heap.size w w1) (k : Below w1.heap.size w1 w2) : Below w.heap.size w w2 := bThen h h.size k
theorem bCell {w w1 : World} (h : Below w.heap.size w w1) {a : Addr} {v : Value} (hc : w.cell? a = some v) : w1.cell? a = some v := (h.cell (World.block_lt_of_cell? w a hc)).trans hc

/-- A step of the walk: the world that a call leaves stands over the one it was called in. -/
def Stp (w w1 : World) : Prop := Below w.heap.size w w1
theorem Stp.mk {w w1 : World} (h : Below w.heap.size w w1) : Stp w w1 := h
theorem bStp {w w1 w2 : World} (h : Below w.heap.size w w1) (k : Stp w1 w2) : Below w.heap.size w w2 := bStep h k
/-- Old memory stands: found by looking. -/
theorem bl {w W : World} (h : Below w.heap.size w W := by repeat (first | with_reducible exact Below.refl _ _ | with_reducible assumption | apply bAlloc | apply Below.drew | apply bDrewN | refine bStp ?_ (by with_reducible assumption))) : Below w.heap.size w W := h

/-- A cell that is there stays where a block is laid behind it: a rule for a text that asks for it. -/
theorem cell_alloc_some {w : World} {a : Addr} {o : Obj} (h : (w.cell? a).isSome = true) : (w.alloc o).cell? a = w.cell? a := by
  obtain ⟨v, hv⟩ := Option.isSome_iff_exists.1 h
  exact World.cell?_alloc_lt w o a (World.block_lt_of_cell? w a hv)

/-! ### cells that are read -/
/-- The cells 'cs' stand at the address. -/
def At (w : World) (a : Addr) (cs : List Value) : Prop := ∀ j u, cs[j]? = some u → w.cell? (a.add j) = some u
theorem At.below {w w1 : World} {a : Addr} {cs : List Value} (h : At w a cs) (hb : Below w.heap.size w w1) : At w1 a cs := fun j u hu => bCell hb (h j u hu)
theorem At.c0 {w : World} {a : Addr} {u0 : Value} {cs : List Value} (h : At w a (u0 :: cs)) : w.cell? a = some u0 := by have := h 0 u0 rfl; rwa [add_zero] at this
theorem At.c1 {w : World} {a : Addr} {u0 u1 : Value} {cs : List Value} (h : At w a (u0 :: u1 :: cs)) : w.cell? ⟨a.block, a.off + 1, none⟩ = some u1 := by have := h 1 u1 rfl; rwa [add_succ] at this
theorem At.c2 {w : World} {a : Addr} {u0 u1 u2 : Value} {cs : List Value} (h : At w a (u0 :: u1 :: u2 :: cs)) : w.cell? ⟨a.block, a.off + 2, none⟩ = some u2 := by have := h 2 u2 rfl; rwa [add_succ] at this
theorem At.c3 {w : World} {a : Addr} {u0 u1 u2 u3 : Value} {cs : List Value} (h : At w a (u0 :: u1 :: u2 :: u3 :: cs)) : w.cell? ⟨a.block, a.off + 3, none⟩ = some u3 := by have := h 3 u3 rfl; rwa [add_succ] at this

/-- 'A' is the base of a row whose places hold the list's elements, each as 'K' says, 'sz' cells wide. -/
def Row {α : Type} (K : World → α → List Value → Prop) (sz : Nat) (w : World) (A : Option Addr) (xs : List α) : Prop :=
  ∀ j (h : j < xs.length), ∃ ad cs, A = some ad ∧ K w xs[j] cs ∧ At w (ad.add (j * sz)) cs
/-- A slice's value that reads as a list. -/
def Sl {α : Type} (K : World → α → List Value → Prop) (sz : Nat) (w : World) (v : Value) (xs : List α) : Prop :=
  ∃ A c, v = .slice A xs.length c ∧ xs.length ≤ c ∧ xs.length * sz ≤ 17592186044416 ∧ Row K sz w A xs
/-- The meaning stays while old memory stays. -/
def Mono {α : Type} (K : World → α → List Value → Prop) : Prop := ∀ (w w1 : World) (x : α) (cs : List Value), Below w.heap.size w w1 → K w x cs → K w1 x cs
theorem Row.below {α : Type} {K : World → α → List Value → Prop} (hK : Mono K) {sz : Nat} {w w1 : World} {A : Option Addr} {xs : List α} (h : Row K sz w A xs) (hb : Below w.heap.size w w1) : Row K sz w1 A xs := by
  intro j hj
  obtain ⟨ad, cs, e, k, a⟩ := h j hj
  exact ⟨ad, cs, e, hK _ _ _ _ hb k, a.below hb⟩
theorem Sl.below {α : Type} {K : World → α → List Value → Prop} (hK : Mono K) {sz : Nat} {w w1 : World} {v : Value} {xs : List α} (h : Sl K sz w v xs) (hb : Below w.heap.size w w1) : Sl K sz w1 v xs := by
  obtain ⟨A, c, e, h1, h2, h3⟩ := h
  exact ⟨A, c, e, h1, h2, h3.below hK hb⟩
theorem Sl.len {α : Type} {K : World → α → List Value → Prop} {sz : Nat} {w : World} {v : Value} {xs : List α} (h : Sl K sz w v xs) : xs.length * sz ≤ 17592186044416 := by obtain ⟨A, c, e, h1, h2, h3⟩ := h; exact h2
theorem Sl.slice {α : Type} {K : World → α → List Value → Prop} {sz : Nat} {w : World} {v : Value} {xs : List α} (h : Sl K sz w v xs) : ∃ A c, v = .slice A xs.length c := by obtain ⟨A, c, e, h1, h2, h3⟩ := h; exact ⟨A, c, e⟩
theorem Sl.nil {α : Type} {K : World → α → List Value → Prop} {sz : Nat} {w : World} {A : Option Addr} {c : Nat} : Sl K sz w (.slice A 0 c) ([] : List α) :=
  ⟨A, c, rfl, Nat.zero_le _, by simp, fun j h => absurd h (by simp)⟩

/-- What an element of one cell, of two cells holds. -/
def KI (w : World) (x : Int) (cs : List Value) : Prop := cs = [.int .i64 x]
def KP (w : World) (x : Int × Int) (cs : List Value) : Prop := cs = [.int .i64 x.1, .int .i64 x.2]
theorem KI.mono : Mono KI := fun _ _ _ _ _ h => h
theorem KP.mono : Mono KP := fun _ _ _ _ _ h => h
abbrev SlI (w : World) (v : Value) (xs : List Int) : Prop := Sl KI 1 w v xs
abbrev SlP (w : World) (v : Value) (xs : List (Int × Int)) : Prop := Sl KP 2 w v xs
theorem Row.atI {w : World} {A : Option Addr} {xs : List Int} (h : Row KI 1 w A xs) {j : Nat} (hj : j < xs.length) : ∃ ad, A = some ad ∧ w.cell? (ad.add j) = some (.int .i64 xs[j]) := by
  obtain ⟨ad, cs, e, k, a⟩ := h j hj
  cases k
  rw [Nat.mul_one] at a
  exact ⟨ad, e, a.c0⟩
theorem Row.atP {w : World} {A : Option Addr} {xs : List (Int × Int)} (h : Row KP 2 w A xs) {j : Nat} (hj : j < xs.length) :
    ∃ ad, A = some ad ∧ w.cell? (ad.add (j * 2)) = some (.int .i64 xs[j].1) ∧ w.cell? ⟨(ad.add (j * 2)).block, (ad.add (j * 2)).off + 1, none⟩ = some (.int .i64 xs[j].2) := by
  obtain ⟨ad, cs, e, k, a⟩ := h j hj
  cases k
  exact ⟨ad, e, a.c0, a.c1⟩

/-! ### terms -/
inductive Tm where
  | mk (op n : Int) (perm : List (Int × Int)) (kids : List Tm)
def Tm.op : Tm → Int | .mk o _ _ _ => o
def Tm.n : Tm → Int | .mk _ n _ _ => n
def Tm.perm : Tm → List (Int × Int) | .mk _ _ p _ => p
def Tm.kids : Tm → List Tm | .mk _ _ _ k => k
def z : Tm := .mk 0 0 [] []

mutual
/-- The number of nodes. -/
def Tm.sz : Tm → Nat | .mk _ _ _ k => szL k + 1
def szL : List Tm → Nat | [] => 0 | t :: ts => t.sz + szL ts
end
theorem szL_mem : ∀ (ts : List Tm) (j : Nat) (h : j < ts.length), ts[j].sz ≤ szL ts
  | [], j, h => by simp at h
  | t :: ts, 0, _ => by simp [szL]
  | t :: ts, j + 1, h => by have := szL_mem ts j (by simpa using h); simp [szL]; omega
theorem Tm.kid_sz (t : Tm) (j : Nat) (h : j < t.kids.length) : t.kids[j].sz < t.sz := by
  cases t with
  | mk o n p k => have := szL_mem k j h; simp only [Tm.sz, Tm.kids]; omega
theorem Tm.sz_pos (t : Tm) : 0 < t.sz := by cases t; simp [Tm.sz]
theorem szL_len : ∀ (ts : List Tm), ts.length ≤ szL ts
  | [] => by simp [szL]
  | t :: ts => by have := szL_len ts; have := t.sz_pos; simp [szL]; omega
theorem szL_take : ∀ (ts : List Tm) (k : Nat) (h : k < ts.length), szL (ts.take (k + 1)) = szL (ts.take k) + ts[k].sz
  | [], k, h => by simp at h
  | t :: ts, 0, _ => by simp [szL]
  | t :: ts, k + 1, h => by have := szL_take ts k (by simpa using h); simp [szL, this]; omega
mutual
/-- What the laws count: pairs and kids. -/
def Tm.bulk : Tm → Nat | .mk _ _ p k => p.length + bulkL k
def bulkL : List Tm → Nat | [] => 0 | t :: ts => t.bulk + bulkL ts + 1
end
/-- What is left of a size. -/
def szr (l : Int) (b : Nat) : Int := if (b : Int) ≤ l then l - b else -1
theorem szr_add {l : Int} {a b : Nat} (h : (a : Int) ≤ l) : szr (l - a) b = szr l (a + b) := by
  unfold szr
  by_cases h1 : (b : Int) ≤ l - a
  · rw [if_pos h1, if_pos (by omega)]; omega
  · rw [if_neg h1, if_neg (by omega)]
theorem szr_no {l : Int} {a b : Nat} (h : ¬ (a : Int) ≤ l) : szr l (a + b) = -1 := by unfold szr; rw [if_neg (by omega)]
theorem bulkL_take : ∀ (ts : List Tm) (k : Nat) (h : k < ts.length), bulkL (ts.take (k + 1)) = bulkL (ts.take k) + ts[k].bulk + 1
  | [], k, h => by simp at h
  | t :: ts, 0, _ => by simp [bulkL]
  | t :: ts, k + 1, h => by have := bulkL_take ts k (by simpa using h); simp [bulkL, this]; omega
theorem bulkL_len : ∀ (ts : List Tm), ts.length ≤ bulkL ts
  | [] => by simp [bulkL]
  | t :: ts => by have := bulkL_len ts; simp [bulkL]; omega
theorem bulkL_mem : ∀ (ts : List Tm) (j : Nat) (h : j < ts.length), ts[j].bulk < bulkL ts
  | [], j, h => by simp at h
  | t :: ts, 0, _ => by simp [bulkL]; omega
  | t :: ts, j + 1, h => by have := bulkL_mem ts j (by simpa using h); simp [bulkL]; omega
theorem Tm.kid_bulk (t : Tm) (j : Nat) (h : j < t.kids.length) : t.kids[j].bulk < t.bulk := by
  cases t with
  | mk o n p k => have := bulkL_mem k j h; simp only [Tm.bulk, Tm.kids]; omega
theorem Tm.bulk_perm (t : Tm) : t.perm.length ≤ t.bulk := by cases t; simp [Tm.bulk, Tm.perm]
theorem Tm.bulk_kids (t : Tm) : t.kids.length ≤ t.bulk := by cases t with | mk o n p k => have := bulkL_len k; simp only [Tm.bulk, Tm.kids]; omega

mutual
/-- Are two terms the same? -/
def Tm.same : Tm → Tm → Bool | .mk o n p k, .mk o' n' p' k' => o == o' && n == n' && p == p' && sameL k k'
def sameL : List Tm → List Tm → Bool | [], [] => true | a :: as, b :: bs => a.same b && sameL as bs | _, _ => false
end
theorem Tm.same_eq (s t : Tm) : s.same t = (s.op == t.op && s.n == t.n && s.perm == t.perm && sameL s.kids t.kids) := by cases s; cases t; rfl
theorem sameL_len : ∀ (as bs : List Tm), as.length ≠ bs.length → sameL as bs = false
  | [], [], h => absurd rfl h
  | [], _ :: _, _ => rfl
  | _ :: _, [], _ => rfl
  | a :: as, b :: bs, h => by simp [sameL, sameL_len as bs (by simpa using h)]
theorem sameL_take : ∀ (as bs : List Tm) (k : Nat) (h : k < as.length) (h' : k < bs.length), sameL (as.take (k + 1)) (bs.take (k + 1)) = (sameL (as.take k) (bs.take k) && as[k].same bs[k])
  | [], _, k, h, _ => by simp at h
  | _ :: _, [], k, _, h => by simp at h
  | a :: as, b :: bs, 0, _, _ => by simp [sameL]
  | a :: as, b :: bs, k + 1, h, h' => by
    have := sameL_take as bs k (by simpa using h) (by simpa using h')
    simp [sameL, this, Bool.and_assoc]
theorem sameL_no : ∀ (as bs : List Tm) (k : Nat) (h : k < as.length) (h' : k < bs.length), as[k].same bs[k] = false → sameL as bs = false
  | [], _, k, h, _, _ => by simp at h
  | _ :: _, [], k, _, h, _ => by simp at h
  | a :: as, b :: bs, 0, _, _, h => by simp at h; simp [sameL, h]
  | a :: as, b :: bs, k + 1, h, h', hs => by
    have := sameL_no as bs k (by simpa using h) (by simpa using h') (by simpa using hs)
    simp [sameL, this]
mutual
theorem Tm.same_iff : ∀ (s t : Tm), s.same t = true ↔ s = t
  | .mk o n p k, .mk o' n' p' k' => by
    have := sameL_iff k k'
    simp [Tm.same, this, and_assoc]
theorem sameL_iff : ∀ (as bs : List Tm), sameL as bs = true ↔ as = bs
  | [], [] => by simp [sameL]
  | [], _ :: _ => by simp [sameL]
  | _ :: _, [] => by simp [sameL]
  | a :: as, b :: bs => by
    have h1 := Tm.same_iff a b
    have h2 := sameL_iff as bs
    simp [sameL, h1, h2]
end

/-- A term's four cells. -/
inductive KT (w : World) : Tm → List Value → Prop
  | mk {op n : Int} {p : List (Int × Int)} {ks : List Tm} {vp : Value} {A : Option Addr} {c : Nat} (css : Nat → List Value) (hp : SlP w vp p) (h1 : ks.length ≤ c) (h2 : ks.length * 4 ≤ 17592186044416)
      (hA : ∀ j, j < ks.length → ∃ ad, A = some ad ∧ At w (ad.add (j * 4)) (css j)) (hk : ∀ j (h : j < ks.length), KT w ks[j] (css j)) :
      KT w (.mk op n p ks) [.int .i64 op, .int .i64 n, vp, .slice A ks.length c]
abbrev SlT (w : World) (v : Value) (xs : List Tm) : Prop := Sl KT 4 w v xs
theorem KT.open_ {w : World} {t : Tm} {cs : List Value} (h : KT w t cs) : ∃ vp vk, cs = [.int .i64 t.op, .int .i64 t.n, vp, vk] ∧ SlP w vp t.perm ∧ SlT w vk t.kids := by
  cases h with
  | mk css hp h1 h2 hA hk => exact ⟨_, _, rfl, hp, _, _, rfl, h1, h2, fun j hj => by
      obtain ⟨ad, e, a⟩ := hA j hj
      exact ⟨ad, css j, e, hk j hj, a⟩⟩
theorem KT.close {w : World} {op n : Int} {p : List (Int × Int)} {ks : List Tm} {vp vk : Value} (hp : SlP w vp p) (hk : SlT w vk ks) : KT w (.mk op n p ks) [.int .i64 op, .int .i64 n, vp, vk] := by
  obtain ⟨A, c, rfl, h1, h2, hr⟩ := hk
  exact KT.mk (fun j => if h : j < ks.length then (hr j h).choose_spec.choose else []) hp h1 h2
    (fun j hj => by simp only [hj, dif_pos]; exact ⟨(hr j hj).choose, (hr j hj).choose_spec.choose_spec.1, (hr j hj).choose_spec.choose_spec.2.2⟩)
    (fun j hj => by simp only [hj, dif_pos]; exact (hr j hj).choose_spec.choose_spec.2.1)
theorem KT.mono : Mono KT := by
  intro w w1 t cs hb h
  induction h with
  | mk css hp h1 h2 hA hk ih => exact KT.mk css (hp.below KP.mono hb) h1 h2 (fun j hj => by obtain ⟨ad, e, a⟩ := hA j hj; exact ⟨ad, e, a.below hb⟩) ih
/-- A term as a value. -/
def VT (w : World) (v : Value) (t : Tm) : Prop := ∃ vp vk, v = .agg #[.int .i64 t.op, .int .i64 t.n, vp, vk] ∧ SlP w vp t.perm ∧ SlT w vk t.kids
theorem VT.below {w w1 : World} {v : Value} {t : Tm} (h : VT w v t) (hb : Below w.heap.size w w1) : VT w1 v t := by
  obtain ⟨vp, vk, e, hp, hk⟩ := h
  exact ⟨vp, vk, e, hp.below KP.mono hb, hk.below KT.mono hb⟩
theorem KT.of_VT {w : World} {vp vk : Value} {t : Tm} (h : VT w (.agg #[.int .i64 t.op, .int .i64 t.n, vp, vk]) t) : KT w t [.int .i64 t.op, .int .i64 t.n, vp, vk] := by
  obtain ⟨vp', vk', e, hp, hk⟩ := h
  simp at e
  obtain ⟨rfl, rfl⟩ := e
  cases t
  exact KT.close hp hk
/-- An element of a list of terms: its address, its four cells, and what stands behind them. -/
theorem Row.atT {w : World} {A : Option Addr} {xs : List Tm} (h : Row KT 4 w A xs) {j : Nat} (hj : j < xs.length) :
    ∃ ad vp vk, A = some ad ∧ SlP w vp xs[j].perm ∧ SlT w vk xs[j].kids ∧ w.cell? (ad.add (j * 4)) = some (.int .i64 xs[j].op) ∧ w.cell? ⟨(ad.add (j * 4)).block, (ad.add (j * 4)).off + 1, none⟩ = some (.int .i64 xs[j].n) ∧
      w.cell? ⟨(ad.add (j * 4)).block, (ad.add (j * 4)).off + 2, none⟩ = some vp ∧ w.cell? ⟨(ad.add (j * 4)).block, (ad.add (j * 4)).off + 3, none⟩ = some vk := by
  obtain ⟨ad, cs, e, k, a⟩ := h j hj
  obtain ⟨vp, vk, rfl, hp, hk⟩ := k.open_
  exact ⟨ad, vp, vk, e, hp, hk, a.c0, a.c1, a.c2, a.c3⟩

/-! ### rows that the call owns -/
def cI (xs : List Int) : List Value := xs.map (Value.int .i64)
def cP (xs : List (Int × Int)) : List Value := xs.flatMap fun x => [.int .i64 x.1, .int .i64 x.2]
theorem cI_len (xs : List Int) : (cI xs).length = xs.length := by simp [cI]
theorem cP_len (xs : List (Int × Int)) : (cP xs).length = xs.length * 2 := by
  induction xs with
  | nil => rfl
  | cons x p ih => simp [cP] at ih ⊢; omega
theorem cI_append (xs ys : List Int) : cI (xs ++ ys) = cI xs ++ cI ys := by simp [cI]
theorem cP_append (xs ys : List (Int × Int)) : cP (xs ++ ys) = cP xs ++ cP ys := by simp [cP]
theorem cP_get : ∀ (xs : List (Int × Int)) (j : Nat) (h : j < xs.length), (cP xs)[j * 2]? = some (.int .i64 xs[j].1) ∧ (cP xs)[j * 2 + 1]? = some (.int .i64 xs[j].2)
  | [], j, h => by simp at h
  | x :: xs, 0, _ => by simp [cP]
  | x :: xs, j + 1, h => by
    have := cP_get xs j (by simpa using h)
    have e : cP (x :: xs) = .int .i64 x.1 :: .int .i64 x.2 :: cP xs := rfl
    rw [e, show (j + 1) * 2 = j * 2 + 1 + 1 from by omega, show j * 2 + 1 + 1 + 1 = j * 2 + 1 + 1 + 1 from rfl]
    simpa using this
theorem take_snoc {α : Type} (xs : List α) (k : Nat) (h : k < xs.length) : xs.take (k + 1) = xs.take k ++ [xs[k]] := List.take_succ_eq_append_getElem h

/-- A slice type's facts. -/
structure SlTy (P : Program) (t e : TypeId) (size bytes : Nat) : Prop where
  ht : P.underlying t = some (.slice e)
  info : ∃ i z, P.info? e = some i ∧ i.zero = some z ∧ i.size = size ∧ i.bytes = bytes ∧ z.cells.size = size
  pos : 0 < size
theorem SlTy.of {P : Program} {t e : TypeId} {size bytes : Nat} {z : Value} (ht : P.underlying t = some (.slice e)) (h : (P.info? e).map (fun i => (i.zero, i.size, i.bytes)) = some (some z, size, bytes)) (hz : z.cells.size = size) (hp : 0 < size) : SlTy P t e size bytes := by
  obtain ⟨i, hi, h0, h1, h2⟩ := info_parts h
  exact ⟨ht, ⟨i, z, hi, h0, h1, h2, hz⟩, hp⟩

theorem cP_set : ∀ (xs : List (Int × Int)) (j : Nat) (x : Int × Int), j < xs.length → ((cP xs).set (j * 2) (.int .i64 x.1)).set (j * 2 + 1) (.int .i64 x.2) = cP (xs.set j x)
  | [], j, x, h => by simp at h
  | y :: xs, 0, x, _ => by simp [cP]
  | y :: xs, j + 1, x, h => by
    have := cP_set xs j x (by simpa using h)
    have e : ∀ (z : Int × Int) r, cP (z :: r) = .int .i64 z.1 :: .int .i64 z.2 :: cP r := fun _ _ => rfl
    rw [e, List.set_cons_succ, e, show (j + 1) * 2 = (j * 2 + 1) + 1 from by omega, List.set_cons_succ, List.set_cons_succ, List.set_cons_succ, show j * 2 + 1 + 1 = (j * 2 + 1) + 1 from rfl, List.set_cons_succ, this]
theorem cI_set (xs : List Int) (j : Nat) (x : Int) : (cI xs).set j (.int .i64 x) = cI (xs.set j x) := by simp [cI, List.map_set]
theorem cP_zeros (n : Nat) : (madeCells #[.int .i64 0, .int .i64 0] (n * 2)).toList = cP (List.replicate n (0, 0)) := by
  apply List.ext_getElem?
  intro i
  by_cases h : i < n * 2
  · have h2 : i / 2 < (List.replicate n ((0 : Int), (0 : Int))).length := by simp; omega
    obtain ⟨g0, g1⟩ := cP_get (List.replicate n (0, 0)) (i / 2) h2
    have hm : i % 2 < 2 := Nat.mod_lt _ (by omega)
    have e1 : (madeCells #[.int .i64 0, .int .i64 0] (n * 2)).toList[i]? = some (.int .i64 0) := by
      simp only [madeCells, Array.toList_map, Array.toList_range, List.getElem?_map, List.getElem?_range h, Option.map_some]
      rcases (by omega : i % 2 = 0 ∨ i % 2 = 1) with e | e <;> simp [e]
    rw [e1]
    rcases (by omega : i = i / 2 * 2 ∨ i = i / 2 * 2 + 1) with e | e
    · rw [e, g0]; simp
    · rw [e, g1]; simp
  · have l1 : (madeCells #[.int .i64 0, .int .i64 0] (n * 2)).toList.length ≤ i := by simp [madeCells]; omega
    have l2 : (cP (List.replicate n ((0 : Int), (0 : Int)))).length ≤ i := by rw [cP_len]; simp; omega
    rw [List.getElem?_eq_none l1, List.getElem?_eq_none l2]
theorem cI_zeros (n : Nat) : (madeCells #[.int .i64 0] n).toList = cI (List.replicate n 0) := by
  rw [toList_madeCells_one]; simp [cI]
theorem cont_set {α : Type} (ps : List α) (k : Nat) (z : α) (h : k < ps.length) : (ps.take k ++ List.replicate (ps.length - k) z).set k ps[k] = ps.take (k + 1) ++ List.replicate (ps.length - (k + 1)) z := by
  have e : ps.length - k = ps.length - (k + 1) + 1 := by omega
  rw [take_snoc ps k h, e, List.replicate_succ, List.set_append_right _ _ (by simp; omega), List.append_assoc]
  simp [List.length_take, Nat.min_eq_left (Nat.le_of_lt h), -List.take_append_getElem]
/-- make([]T, n), n a length. -/
theorem SlTy.make {P : Program} {t e : TypeId} {size bytes : Nat} (T : SlTy P t e size bytes) (zs : Array Value) (hz : ∀ i z, P.info? e = some i → i.zero = some z → z.cells = zs) (n : Nat) (hn : n * bytes ≤ 281474976710656) (hm : n ≤ 9223372036854775807) :
    ∀ W : World, (Instr.makeSlice t (.int .i64 (n : Int)) (.int .i64 (n : Int))).run P W = .ok (.slice (some ⟨W.heap.size, 0, none⟩) n n) (W.alloc (.cells (madeCells zs (n * size)) e)) := by
  intro W
  obtain ⟨i, z, hi, h0, h1, h2, h3⟩ := T.info
  have hb : (i.bytes : Int) * (n : Int) ≤ 281474976710656 := by
    rw [h2]
    have : ((n * bytes : Nat) : Int) ≤ 281474976710656 := by omega
    rw [Int.natCast_mul, Int.mul_comm] at this
    exact this
  have := run_make (P := P) W t e i z T.ht hi h0 .i64 .i64 n n (by omega) (Int.le_refl _) hb (by omega)
  simpa [hz i z hi h0, h1] using this

abbrev OwI (E : TypeId) (w : World) (base : Nat) (v : Value) (xs : List Int) : Prop := w.ownsRow base E 1 v xs.length (cI xs)
abbrev OwP (E : TypeId) (w : World) (base : Nat) (v : Value) (xs : List (Int × Int)) : Prop := w.ownsRow base E 2 v xs.length (cP xs)

theorem owns_below {w w1 : World} {base : Nat} {e : TypeId} {size n : Nat} {v : Value} {xs : List Value} (h : w.ownsRow base e size v n xs) (hb : Below w.heap.size w w1) : w1.ownsRow base e size v n xs :=
  h.kept (row := none) ⟨hb.os, hb.tape, hb.output, hb.size, fun i hi _ => hb.block i hi⟩ (by cases v.ownBlock <;> simp)
theorem owns_drew {w : World} {base : Nat} {e : TypeId} {size n : Nat} {v : Value} {xs : List Value} (h : w.ownsRow base e size v n xs) : w.drew.ownsRow base e size v n xs := h
theorem owns_drewN {w : World} {base : Nat} {e : TypeId} {size n : Nat} {v : Value} {xs : List Value} (h : w.ownsRow base e size v n xs) (k : Nat) : (w.drewN k).ownsRow base e size v n xs := h
theorem owns_lower {w : World} {base base' : Nat} {e : TypeId} {size n : Nat} {v : Value} {xs : List Value} (h : w.ownsRow base e size v n xs) (hb : base' ≤ base) : w.ownsRow base' e size v n xs := by
  refine ⟨h.1, ?_⟩
  rcases h.2 with h2 | ⟨g, cap, cur, e1, hg, r⟩
  · exact .inl h2
  · exact .inr ⟨g, cap, cur, e1, by omega, r⟩
theorem owns_shape {w : World} {base : Nat} {e : TypeId} {size n : Nat} {v : Value} {xs : List Value} (h : w.ownsRow base e size v n xs) :
    ∃ A c, v = .slice A n c ∧ n ≤ c ∧ n ≤ 9223372036854775807 ∧ ∀ j u, xs[j]? = some u → ∃ ad, A = some ad ∧ w.cell? (ad.add j) = some u := by
  have hc := fun g => h.cells (g := g)
  rcases h.2 with ⟨rfl, rfl⟩ | ⟨g, cap, cur, rfl, _, _, h1, h2, _⟩
  · refine ⟨none, 0, rfl, Nat.le_refl _, by omega, fun j u hu => ?_⟩
    have : xs = [] := List.eq_nil_of_length_eq_zero (by simpa using h.1)
    subst this
    simp at hu
  · refine ⟨_, cap, rfl, h1, by unfold maxLen at h2; omega, fun j u hu => ⟨_, rfl, hc g rfl j u hu⟩⟩
theorem OwI.sl {E : TypeId} {w : World} {base : Nat} {v : Value} {xs : List Int} (h : OwI E w base v xs) (hl : xs.length ≤ 17592186044416) : SlI w v xs := by
  obtain ⟨A, c, e, h1, _, h3⟩ := owns_shape h
  refine ⟨A, c, e, h1, by omega, fun j hj => ?_⟩
  obtain ⟨ad, ea, hc⟩ := h3 j (.int .i64 xs[j]) (by simp [cI, hj])
  exact ⟨ad, _, ea, rfl, fun i u hu => by
    match i, hu with
    | 0, hu => simp at hu; subst hu; rw [add_add]; simpa using hc⟩
theorem OwP.sl {E : TypeId} {w : World} {base : Nat} {v : Value} {xs : List (Int × Int)} (h : OwP E w base v xs) (hl : xs.length * 2 ≤ 17592186044416) : SlP w v xs := by
  obtain ⟨A, c, e, h1, _, h3⟩ := owns_shape h
  refine ⟨A, c, e, h1, hl, fun j hj => ?_⟩
  obtain ⟨g0, g1⟩ := cP_get xs j hj
  obtain ⟨ad, ea, hc⟩ := h3 _ _ g0
  obtain ⟨ad', ea', hc'⟩ := h3 _ _ g1
  obtain rfl : ad = ad' := Option.some.inj (ea.symm.trans ea')
  exact ⟨ad, _, ea, rfl, fun i u hu => by
    match i, hu with
    | 0, hu => simp at hu; subst hu; rw [add_add]; simpa using hc
    | 1, hu => simp at hu; subst hu; rw [add_add]; simpa using hc'⟩

theorem own_at {w : World} {base : Nat} {e : TypeId} {size g n c : Nat} {xs : List Value} (h : w.ownsRow base e size (.slice (some ⟨g, 0, none⟩) n c) n xs) (j : Nat) (hj : j < n * size) : ∃ u, w.cell? ⟨g, j, none⟩ = some u ∧ w.frozen? ⟨g, j, none⟩ = false := by
  refine ⟨xs[j]'(by rw [h.1]; exact hj), ?_, h.frozenAt j⟩
  rw [h.cellAt j hj]
  exact List.getElem?_eq_getElem _

theorem owns_slice {w : World} {base : Nat} {e : TypeId} {size n : Nat} {v : Value} {xs : List Value} (h : w.ownsRow base e size v n xs) : ∃ A c, v = .slice A n c := by obtain ⟨A, c, e, _⟩ := owns_shape h; exact ⟨A, c, e⟩
/-! ### append onto a row of the call's own, what is appended standing in the newest block -/
section
variable {P : Program} {w : World} {ops : Array Oper} {rest : List Oper} {o : Oper} {a : Act} {Q : Exit → Act → World → Prop}
theorem wpList_app {t e : TypeId} {size bytes : Nat} (T : SlTy P t e size bytes) (base : Nat) (v : Value) (n : Nat) (xs : List Value) (hown : w.ownsRow base e size v n xs) (g m : Nat) (news : List Value) (hg : w.heap[g]? = some (.cells news.toArray e (0, 0)))
    (hl : news.length = m * size) (h1 : ∀ u ∈ news, u.oneCell' = true) (hb : (n + m) * bytes ≤ 140737488355328) (hn : n + m ≤ 9223372036854775807) (hbase : base ≤ w.heap.size)
    (s x : Operand) (hgd : o.guard = none) (ho : o.op = .call { callee := .builtin .append, args := #[s, x], argTypes := #[t, t] }) (hs : a.eval s = v) (hx : a.eval x = .slice (some ⟨g, 0, none⟩) m m)
    (h : ∀ v' w', w'.ownsRow base e size v' (n + m) (xs ++ news) → w.grownBy w' v.ownBlock → (v'.ownBlock = v.ownBlock ∨ v'.ownBlock = some w.heap.size) → wpList P ops Q rest (a.put o.dst v') w') : wpList P ops Q (o :: rest) a w := by
  obtain ⟨i, z, hi, h0, h2, h3, h4⟩ := T.info
  refine wpList_append_own_at w hgd s x t ho base e i z size bytes T.ht hi h0 h2 h3 h4 T.pos v n xs hs hown ⟨g, 0, none⟩ m m news hx hl ?_ h1 (by unfold maxLen; omega) hb hbase (fun v' w' a b _ c => h v' w' a b c)
  intro j u hu
  have : (⟨g, 0, none⟩ : Addr).add j = ⟨g, j, none⟩ := by unfold Addr.add; split <;> simp_all
  rw [this, cell_of_row w g j _ e (0, 0) hg]
  simpa using hu
end
theorem bGrown {B : Nat} {w W W2 : World} {row : Option Nat} (h : Below B w W) (hg : W.grownBy W2 row) (hB : B ≤ W.heap.size) (hr : ∀ k, row = some k → B ≤ k) : Below B w W2 := h.grown hg hB hr
theorem bOwn {B : Nat} {w W W2 : World} {e : TypeId} {size n : Nat} {v : Value} {xs : List Value} (h : Below B w W) (ho : W.ownsRow B e size v n xs) (hg : W.grownBy W2 v.ownBlock) (hB : B ≤ W.heap.size) : Below B w W2 := h.grown hg hB fun k hk => (ho.lt k hk).1

/-! ### a term that the call owns, with the blocks it lies in -/
def blk (v : Value) : List Nat := v.ownBlock.toList
/-- The cells of the first n elements. -/
def rowOf (css : Nat → List Value) (n : Nat) : List Value := (List.range n).flatMap css
def footOf (Fs : Nat → List Nat) (n : Nat) : List Nat := (List.range n).flatMap Fs
inductive OT (tP tT : TypeId) (w : World) : Tm → List Value → List Nat → Prop
  | mk {op n : Int} {p : List (Int × Int)} {ks : List Tm} {vp vk : Value} (css : Nat → List Value) (Fs : Nat → List Nat) (hp : w.ownsRow 0 tP 2 vp p.length (cP p)) (hk : w.ownsRow 0 tT 4 vk ks.length (rowOf css ks.length))
      (hc : ∀ j (h : j < ks.length), OT tP tT w ks[j] (css j) (Fs j)) : OT tP tT w (.mk op n p ks) [.int .i64 op, .int .i64 n, vp, vk] (blk vp ++ (blk vk ++ footOf Fs ks.length))
theorem OT.len {tP tT : TypeId} {w : World} {t : Tm} {cs : List Value} {F : List Nat} (h : OT tP tT w t cs F) : cs.length = 4 := by cases h; rfl
theorem OT.one {tP tT : TypeId} {w : World} {t : Tm} {cs : List Value} {F : List Nat} (h : OT tP tT w t cs F) : ∀ u ∈ cs, u.oneCell' = true := by
  cases h with
  | mk css Fs hp hk hc =>
    obtain ⟨A, c, rfl, _⟩ := owns_shape hp
    obtain ⟨A', c', rfl, _⟩ := owns_shape hk
    simp [Value.oneCell']
theorem OT.open_ {tP tT : TypeId} {w : World} {t : Tm} {cs : List Value} {F : List Nat} (h : OT tP tT w t cs F) :
    ∃ vp vk css Fs, cs = [.int .i64 t.op, .int .i64 t.n, vp, vk] ∧ F = blk vp ++ (blk vk ++ footOf Fs t.kids.length) ∧ w.ownsRow 0 tP 2 vp t.perm.length (cP t.perm) ∧ w.ownsRow 0 tT 4 vk t.kids.length (rowOf css t.kids.length) ∧
      ∀ j (h : j < t.kids.length), OT tP tT w t.kids[j] (css j) (Fs j) := by
  cases h with
  | mk css Fs hp hk hc => exact ⟨_, _, css, Fs, rfl, rfl, hp, hk, hc⟩
theorem owns_same {w w1 : World} {base : Nat} {e : TypeId} {size n : Nat} {v : Value} {xs : List Value} (h : w.ownsRow base e size v n xs) (hb : ∀ g ∈ blk v, w1.heap[g]? = w.heap[g]?) : w1.ownsRow base e size v n xs := by
  refine ⟨h.1, ?_⟩
  rcases h.2 with h2 | ⟨g, cap, cur, e1, hg, hh, r⟩
  · exact .inl h2
  · subst e1
    exact .inr ⟨g, cap, cur, rfl, hg, by rw [hb g (by simp [blk, Value.ownBlock])]; exact hh, r⟩
theorem owns_blk_lt {w : World} {base : Nat} {e : TypeId} {size n : Nat} {v : Value} {xs : List Value} (h : w.ownsRow base e size v n xs) : ∀ g ∈ blk v, base ≤ g ∧ g < w.heap.size := by
  intro g hg
  simp only [blk, Option.mem_toList] at hg
  exact h.lt g hg
theorem mem_footOf {Fs : Nat → List Nat} {n g : Nat} : g ∈ footOf Fs n ↔ ∃ j, j < n ∧ g ∈ Fs j := by simp [footOf, List.mem_flatMap]
theorem OT.same_ {tP tT : TypeId} {w w1 : World} {t : Tm} {cs : List Value} {F : List Nat} (h : OT tP tT w t cs F) : (∀ g ∈ F, w1.heap[g]? = w.heap[g]?) → OT tP tT w1 t cs F := by
  induction h with
  | mk css Fs hp hk hc ih =>
    intro hb
    refine .mk css Fs (owns_same hp fun g hg => hb g (by simp [hg])) (owns_same hk fun g hg => hb g (by simp [hg])) fun j hj => ih j hj fun g hg => hb g ?_
    simp only [List.mem_append, mem_footOf]
    exact .inr (.inr ⟨j, hj, hg⟩)
theorem OT.lt {tP tT : TypeId} {w : World} {t : Tm} {cs : List Value} {F : List Nat} (h : OT tP tT w t cs F) : ∀ g ∈ F, g < w.heap.size := by
  induction h with
  | mk css Fs hp hk hc ih =>
    intro g hg
    simp only [List.mem_append, mem_footOf] at hg
    rcases hg with hg | hg | ⟨j, hj, hg⟩
    · exact (owns_blk_lt hp g hg).2
    · exact (owns_blk_lt hk g hg).2
    · exact ih j hj g hg
theorem OT.keep {tP tT : TypeId} {w w1 : World} {t : Tm} {cs : List Value} {F : List Nat} (h : OT tP tT w t cs F) (hb : Below w.heap.size w w1) : OT tP tT w1 t cs F :=
  h.same_ fun g hg => hb.block g (h.lt g hg)
theorem rowOf_succ (css : Nat → List Value) (n : Nat) : rowOf css (n + 1) = rowOf css n ++ css n := by simp [rowOf, List.range_succ]
theorem footOf_succ (Fs : Nat → List Nat) (n : Nat) : footOf Fs (n + 1) = footOf Fs n ++ Fs n := by simp [footOf, List.range_succ]
theorem rowOf_congr {css css' : Nat → List Value} {n : Nat} (h : ∀ j, j < n → css j = css' j) : rowOf css n = rowOf css' n := by
  induction n with
  | zero => rfl
  | succ n ih => rw [rowOf_succ, rowOf_succ, ih (fun j hj => h j (by omega)), h n (by omega)]
theorem footOf_congr {Fs Fs' : Nat → List Nat} {n : Nat} (h : ∀ j, j < n → Fs j = Fs' j) : footOf Fs n = footOf Fs' n := by
  induction n with
  | zero => rfl
  | succ n ih => rw [footOf_succ, footOf_succ, ih (fun j hj => h j (by omega)), h n (by omega)]
theorem rowOf_len {css : Nat → List Value} {n sz : Nat} (h : ∀ j, j < n → (css j).length = sz) : (rowOf css n).length = n * sz := by
  induction n with
  | zero => simp [rowOf]
  | succ n ih => rw [rowOf_succ, List.length_append, ih (fun j hj => h j (by omega)), h n (by omega)]; rw [Nat.add_mul]; omega
theorem rowOf_get {css : Nat → List Value} {sz : Nat} : ∀ {n : Nat}, (∀ j, j < n → (css j).length = sz) → ∀ j i u, j < n → (css j)[i]? = some u → (rowOf css n)[j * sz + i]? = some u
  | 0, _, j, i, u, hj, _ => by omega
  | n + 1, h, j, i, u, hj, hu => by
    have hi : i < sz := by
      have h1 := h j hj
      have := (List.getElem?_eq_some_iff.1 hu).1
      omega
    have hl := rowOf_len (css := css) (n := n) (sz := sz) (fun j hj => h j (by omega))
    rw [rowOf_succ]
    by_cases e : j = n
    · subst e
      rw [List.getElem?_append_right (by omega), hl]
      simpa using hu
    · have : j * sz + i < (rowOf css n).length := by
        rw [hl]
        have : (j + 1) * sz ≤ n * sz := Nat.mul_le_mul_right _ (by omega)
        rw [Nat.add_mul] at this
        omega
      rw [List.getElem?_append_left this]
      exact rowOf_get (fun j hj => h j (by omega)) j i u (by omega) hu
/-- What is owned reads. -/
theorem OT.reads {tP tT : TypeId} {w : World} {t : Tm} {cs : List Value} {F : List Nat} (h : OT tP tT w t cs F) : t.bulk ≤ 1099511627776 → KT w t cs := by
  induction h with
  | @mk op n p ks vp vk css Fs hp hk hc ih =>
    intro hb
    have hbp := Tm.bulk_perm (.mk op n p ks)
    have hbk := Tm.bulk_kids (.mk op n p ks)
    simp only [Tm.perm, Tm.kids] at hbp hbk
    obtain ⟨A, c, rfl, h1, _, h3⟩ := owns_shape hk
    refine KT.mk css (OwP.sl (hp) (by omega)) h1 (by omega) (fun j hj => ?_) (fun j hj => ih j hj (by have := Tm.kid_bulk (.mk op n p ks) j hj; simp only [Tm.kids] at this; omega))
    have hl : ∀ i, i < ks.length → (css i).length = 4 := fun i hi => (hc i hi).len
    have h0 : (css j)[0]? = some ((css j)[0]'(by rw [hl j hj]; omega)) := List.getElem?_eq_getElem _
    obtain ⟨ad, ea, _⟩ := h3 _ _ (rowOf_get hl j 0 _ hj h0)
    refine ⟨ad, ea, fun i u hu => ?_⟩
    obtain ⟨ad', ea', hcell⟩ := h3 _ _ (rowOf_get hl j i u hj hu)
    obtain rfl : ad = ad' := Option.some.inj (ea.symm.trans ea')
    rw [add_add]
    exact hcell
/-- A term's value, all its own from block B on. -/
def OwT (tP tT : TypeId) (w : World) (B : Nat) (v : Value) (t : Tm) : Prop := ∃ vp vk F, v = .agg #[.int .i64 t.op, .int .i64 t.n, vp, vk] ∧ OT tP tT w t [.int .i64 t.op, .int .i64 t.n, vp, vk] F ∧ F.Nodup ∧ ∀ g ∈ F, B ≤ g
theorem OwT.below {tP tT : TypeId} {w w1 : World} {B : Nat} {v : Value} {t : Tm} (h : OwT tP tT w B v t) (hb : Below w.heap.size w w1) : OwT tP tT w1 B v t := by
  obtain ⟨vp, vk, F, e, ho, hn, hB⟩ := h
  exact ⟨vp, vk, F, e, ho.keep hb, hn, hB⟩
theorem OwT.lower {tP tT : TypeId} {w : World} {B B' : Nat} {v : Value} {t : Tm} (h : OwT tP tT w B v t) (hb : B' ≤ B) : OwT tP tT w B' v t := by
  obtain ⟨vp, vk, F, e, ho, hn, hB⟩ := h
  exact ⟨vp, vk, F, e, ho, hn, fun g hg => Nat.le_trans hb (hB g hg)⟩
theorem OwT.vt {tP tT : TypeId} {w : World} {B : Nat} {v : Value} {t : Tm} (h : OwT tP tT w B v t) (hb : t.bulk ≤ 1099511627776) : VT w v t := by
  obtain ⟨vp, vk, F, e, ho, hn, hB⟩ := h
  obtain ⟨vp', vk', e', hp, hk⟩ := (ho.reads hb).open_
  simp at e'
  obtain ⟨rfl, rfl⟩ := e'
  exact ⟨_, _, e, hp, hk⟩
/-- A list of terms, owned: the slice's value, the blocks it lies in. -/
def OTs (tP tT : TypeId) (w : World) (ts : List Tm) (v : Value) (F : List Nat) : Prop := ∃ css Fs, w.ownsRow 0 tT 4 v ts.length (rowOf css ts.length) ∧ (∀ j (h : j < ts.length), OT tP tT w ts[j] (css j) (Fs j)) ∧ F = blk v ++ footOf Fs ts.length
def OwTs (tP tT : TypeId) (w : World) (B : Nat) (v : Value) (ts : List Tm) : Prop := ∃ F, OTs tP tT w ts v F ∧ F.Nodup ∧ ∀ g ∈ F, B ≤ g
theorem OTs.lt {tP tT : TypeId} {w : World} {ts : List Tm} {v : Value} {F : List Nat} (h : OTs tP tT w ts v F) : ∀ g ∈ F, g < w.heap.size := by
  obtain ⟨css, Fs, hr, ho, rfl⟩ := h
  intro g hg
  simp only [List.mem_append, mem_footOf] at hg
  rcases hg with hg | ⟨j, hj, hg⟩
  · exact (owns_blk_lt hr g hg).2
  · exact (ho j hj).lt g hg
theorem OTs.same_ {tP tT : TypeId} {w w1 : World} {ts : List Tm} {v : Value} {F : List Nat} (h : OTs tP tT w ts v F) (hb : ∀ g ∈ F, w1.heap[g]? = w.heap[g]?) : OTs tP tT w1 ts v F := by
  obtain ⟨css, Fs, hr, ho, rfl⟩ := h
  exact ⟨css, Fs, owns_same hr fun g hg => hb g (by simp [hg]), fun j hj => (ho j hj).same_ fun g hg => hb g (by simp only [List.mem_append, mem_footOf]; exact .inr ⟨j, hj, hg⟩), rfl⟩
theorem OTs.keep {tP tT : TypeId} {w w1 : World} {ts : List Tm} {v : Value} {F : List Nat} (h : OTs tP tT w ts v F) (hb : Below w.heap.size w w1) : OTs tP tT w1 ts v F :=
  h.same_ fun g hg => hb.block g (h.lt g hg)
theorem OTs.slice {tP tT : TypeId} {w : World} {ts : List Tm} {v : Value} {F : List Nat} (h : OTs tP tT w ts v F) : ∃ A c, v = .slice A ts.length c := by obtain ⟨css, Fs, hr, _⟩ := h; exact owns_slice hr
theorem OwTs.slice {tP tT : TypeId} {w : World} {B : Nat} {ts : List Tm} {v : Value} (h : OwTs tP tT w B v ts) : ∃ A c, v = .slice A ts.length c := by obtain ⟨F, ho, _⟩ := h; exact ho.slice
theorem OT.slices {tP tT : TypeId} {w : World} {t : Tm} {c0 c1 vp vk : Value} {F : List Nat} (h : OT tP tT w t [c0, c1, vp, vk] F) : ∃ A c A' c', vp = .slice A t.perm.length c ∧ vk = .slice A' t.kids.length c' := by
  obtain ⟨vp', vk', css, Fs, e, _, h1, h2, _⟩ := h.open_
  simp only [List.cons.injEq, and_true] at e
  obtain ⟨_, _, rfl, rfl⟩ := e
  obtain ⟨A, c, rfl⟩ := owns_slice h1
  obtain ⟨A', c', rfl⟩ := owns_slice h2
  exact ⟨A, c, A', c', rfl, rfl⟩
theorem OwTs.keep {tP tT : TypeId} {w w1 : World} {B : Nat} {v : Value} {ts : List Tm} (h : OwTs tP tT w B v ts) (hb : Below w.heap.size w w1) : OwTs tP tT w1 B v ts := by
  obtain ⟨F, ho, hn, hB⟩ := h
  exact ⟨F, ho.keep hb, hn, hB⟩
theorem OwTs.lower {tP tT : TypeId} {w : World} {B B' : Nat} {v : Value} {ts : List Tm} (h : OwTs tP tT w B v ts) (hb : B' ≤ B) : OwTs tP tT w B' v ts := by
  obtain ⟨F, ho, hn, hB⟩ := h
  exact ⟨F, ho, hn, fun g hg => Nat.le_trans hb (hB g hg)⟩
theorem OTs.nil {tP tT : TypeId} {w : World} : OTs tP tT w [] (.slice none 0 0) [] := ⟨fun _ => [], fun _ => [], World.ownsRow_nil _ _ _ _, fun j h => by simp at h, by simp [blk, Value.ownBlock, footOf]⟩
theorem OwTs.nil {tP tT : TypeId} {w : World} {B : Nat} : OwTs tP tT w B (.slice none 0 0) [] := ⟨[], OTs.nil, List.nodup_nil, fun g h => by simp at h⟩
theorem OT.build {tP tT : TypeId} {w : World} {op n : Int} {p : List (Int × Int)} {ks : List Tm} {vp vk : Value} {F : List Nat} (hp : w.ownsRow 0 tP 2 vp p.length (cP p)) (hk : OTs tP tT w ks vk F) : OT tP tT w (.mk op n p ks) [.int .i64 op, .int .i64 n, vp, vk] (blk vp ++ F) := by
  obtain ⟨css, Fs, hr, ho, rfl⟩ := hk
  exact .mk css Fs hp hr ho
theorem OT.parts {tP tT : TypeId} {w : World} {t : Tm} {cs : List Value} {F : List Nat} (h : OT tP tT w t cs F) : ∃ vp vk G, cs = [.int .i64 t.op, .int .i64 t.n, vp, vk] ∧ F = blk vp ++ G ∧ w.ownsRow 0 tP 2 vp t.perm.length (cP t.perm) ∧ OTs tP tT w t.kids vk G := by
  obtain ⟨vp, vk, css, Fs, e, e2, h1, h2, h3⟩ := h.open_
  exact ⟨vp, vk, _, e, e2, h1, css, Fs, h2, h3, rfl⟩
theorem OwT.build {tP tT : TypeId} {w : World} {B : Nat} {op n : Int} {p : List (Int × Int)} {ks : List Tm} {vp vk : Value} (hp : w.ownsRow B tP 2 vp p.length (cP p)) {F : List Nat} (ho : OTs tP tT w ks vk F) (hn : F.Nodup) (hB : ∀ g ∈ F, B ≤ g) (hd : ∀ g ∈ blk vp, g ∉ F) : OwT tP tT w B (.agg #[.int .i64 op, .int .i64 n, vp, vk]) (.mk op n p ks) := by
  refine ⟨vp, vk, _, rfl, OT.build (owns_lower hp (Nat.zero_le _)) ho, ?_, ?_⟩
  · rw [List.nodup_append]
    refine ⟨?_, hn, fun a ha b hb e => hd a ha (e ▸ hb)⟩
    unfold blk; cases vp.ownBlock <;> simp
  · intro g hg
    rcases List.mem_append.1 hg with hg | hg
    · exact (owns_blk_lt hp g hg).1
    · exact hB g hg
/-- A row of terms whose first k elements are laid. -/
def LaidTs (tP tT : TypeId) (w : World) (B g : Nat) (ts : List Tm) (k : Nat) : Prop := ∃ css Fs, w.ownsRow B tT 4 (.slice (some ⟨g, 0, none⟩) ts.length ts.length) ts.length (rowOf css k ++ (List.replicate (ts.length - k) [Value.int .i64 0, .int .i64 0, .slice none 0 0, .slice none 0 0]).flatten) ∧
  (∀ j (h : j < ts.length), j < k → OT tP tT w ts[j] (css j) (Fs j)) ∧ (g :: footOf Fs k).Nodup ∧ ∀ g' ∈ footOf Fs k, B ≤ g'
theorem set4 (xs : List Value) (k : Nat) (hx : xs.length = k * 4) (z0 z1 z2 z3 c0 c1 c2 c3 : Value) (rest : List Value) :
    ((((xs ++ z0 :: z1 :: z2 :: z3 :: rest).set (k * 4) c0).set (k * 4 + 1) c1).set (k * 4 + 2) c2).set (k * 4 + 3) c3 = (xs ++ [c0, c1, c2, c3]) ++ rest := by
  rw [List.set_append_right _ _ (by omega), List.set_append_right _ _ (by omega), List.set_append_right _ _ (by omega), List.set_append_right _ _ (by omega)]
  rw [show k * 4 - xs.length = 0 from by omega, show k * 4 + 1 - xs.length = 1 from by omega, show k * 4 + 2 - xs.length = 2 from by omega, show k * 4 + 3 - xs.length = 3 from by omega]
  simp
theorem setCell_other (w : World) (g o k : Nat) (u : Value) (h : k ≠ g) : (w.setCell ⟨g, o, none⟩ u).heap[k]? = w.heap[k]? := Below.heap_setCell w ⟨g, o, none⟩ u k h
theorem LaidTs.step {tP tT : TypeId} {wr w4 : World} {B g : Nat} {ts : List Tm} {k : Nat} {c0 c1 c2 c3 : Value} {F : List Nat} (h : LaidTs tP tT wr B g ts k) (hb : Below wr.heap.size wr w4) (hk : k < ts.length) (ho : OT tP tT w4 ts[k] [c0, c1, c2, c3] F) (hn : F.Nodup)
    (hF : ∀ g' ∈ F, wr.heap.size ≤ g') (hg : g < wr.heap.size) (hB : B ≤ g) :
    LaidTs tP tT ((((w4.setCell ⟨g, k * 4, none⟩ c0).setCell ⟨g, k * 4 + 1, none⟩ c1).setCell ⟨g, k * 4 + 2, none⟩ c2).setCell ⟨g, k * 4 + 3, none⟩ c3) B g ts (k + 1) := by
  obtain ⟨css, Fs, hr, hc, hnd, hBF⟩ := h
  have hlt : ∀ g' ∈ footOf Fs k, g' < wr.heap.size := fun g' hg' => by
    obtain ⟨j, hj, hg'⟩ := mem_footOf.1 hg'
    exact (hc j (by omega) hj).lt g' hg'
  have heap : ∀ g', g' ≠ g → ((((w4.setCell ⟨g, k * 4, none⟩ c0).setCell ⟨g, k * 4 + 1, none⟩ c1).setCell ⟨g, k * 4 + 2, none⟩ c2).setCell ⟨g, k * 4 + 3, none⟩ c3).heap[g']? = w4.heap[g']? := fun g' h' => by
    rw [setCell_other _ _ _ _ _ h', setCell_other _ _ _ _ _ h', setCell_other _ _ _ _ _ h', setCell_other _ _ _ _ _ h']
  have hl : (rowOf css k).length = k * 4 := rowOf_len fun j hj => (hc j (by omega) hj).len
  have e1 : rowOf (fun j => if j = k then [c0, c1, c2, c3] else css j) (k + 1) = rowOf css k ++ [c0, c1, c2, c3] := by
    rw [rowOf_succ]
    congr 1
    · exact rowOf_congr fun j hj => by simp; omega
    · simp
  have e2 : footOf (fun j => if j = k then F else Fs j) (k + 1) = footOf Fs k ++ F := by
    rw [footOf_succ]
    congr 1
    · exact footOf_congr fun j hj => by simp; omega
    · simp
  have hnd' := List.nodup_cons.1 hnd
  refine ⟨fun j => if j = k then [c0, c1, c2, c3] else css j, fun j => if j = k then F else Fs j, ?_, fun j hj hjk => ?_, ?_, ?_⟩
  · have h1 := ((((owns_below hr hb).stored (k * 4) c0).1.stored (k * 4 + 1) c1).1.stored (k * 4 + 2) c2).1.stored (k * 4 + 3) c3
    have h2 := h1.1
    rw [show ts.length - k = ts.length - (k + 1) + 1 from by omega, List.replicate_succ, List.flatten_cons] at h2
    rw [show ([Value.int .i64 0, .int .i64 0, .slice none 0 0, .slice none 0 0] ++ (List.replicate (ts.length - (k + 1)) [Value.int .i64 0, .int .i64 0, .slice none 0 0, .slice none 0 0]).flatten) = Value.int .i64 0 :: .int .i64 0 :: .slice none 0 0 :: .slice none 0 0 :: (List.replicate (ts.length - (k + 1)) [Value.int .i64 0, .int .i64 0, .slice none 0 0, .slice none 0 0]).flatten from rfl, set4 _ _ hl] at h2
    rw [e1]
    exact h2
  · by_cases e : j = k
    · subst e
      simp only [if_pos]
      exact ho.same_ fun g' hg' => heap g' (by have := hF g' hg'; omega)
    · simp only [if_neg e]
      refine ((hc j hj (by omega)).keep hb).same_ fun g' hg' => heap g' ?_
      rintro rfl
      exact hnd'.1 (mem_footOf.2 ⟨j, by omega, hg'⟩)
  · rw [e2]
    refine List.nodup_cons.2 ⟨fun hm => ?_, List.nodup_append.2 ⟨hnd'.2, hn, fun a ha b hb' e => ?_⟩⟩
    · rcases List.mem_append.1 hm with hm | hm
      · exact hnd'.1 hm
      · have := hF _ hm; omega
    · have := hlt a ha; have := hF b hb'; omega
  · rw [e2]
    intro g' hg'
    rcases List.mem_append.1 hg' with hg' | hg'
    · exact hBF g' hg'
    · have := hF g' hg'; omega
theorem LaidTs.done {tP tT : TypeId} {w : World} {B g : Nat} {ts : List Tm} (h : LaidTs tP tT w B g ts ts.length) (hB : B ≤ g) : OwTs tP tT w B (.slice (some ⟨g, 0, none⟩) ts.length ts.length) ts := by
  obtain ⟨css, Fs, hr, hc, hnd, hBF⟩ := h
  refine ⟨g :: footOf Fs ts.length, ⟨css, Fs, owns_lower (by simpa using hr) (Nat.zero_le _), fun j hj => hc j hj hj, rfl⟩, hnd, fun g' hg' => ?_⟩
  rcases List.mem_cons.1 hg' with rfl | hg'
  · exact hB
  · exact hBF g' hg'
theorem cT_zeros (n : Nat) : (madeCells #[.int .i64 0, .int .i64 0, .slice none 0 0, .slice none 0 0] (n * 4)).toList = (List.replicate n [Value.int .i64 0, .int .i64 0, .slice none 0 0, .slice none 0 0]).flatten := by
  induction n with
  | zero => simp [madeCells]
  | succ n ih =>
    rw [List.replicate_succ', List.flatten_append, ← ih]
    simp only [madeCells, Array.toList_map, Array.toList_range, show (n + 1) * 4 = n * 4 + 1 + 1 + 1 + 1 from by omega, List.range_succ, List.map_append, List.append_assoc]
    congr 1
    have e0 : n * 4 % 4 = 0 := by omega
    have e1 : (n * 4 + 1) % 4 = 1 := by omega
    have e2 : (n * 4 + 1 + 1) % 4 = 2 := by omega
    have e3 : (n * 4 + 1 + 1 + 1) % 4 = 3 := by omega
    simp [e0, e1, e2, e3]
theorem LaidTs.made {tP tT : TypeId} {w : World} {ts : List Tm} (hn : ts.length * 4 ≤ 17592186044416) : LaidTs tP tT (w.alloc (.cells (madeCells #[.int .i64 0, .int .i64 0, .slice none 0 0, .slice none 0 0] (ts.length * 4)) tT)) w.heap.size w.heap.size ts 0 := by
  refine ⟨fun _ => [], fun _ => [], ?_, fun j hj h0 => by omega, by simp [footOf], by simp [footOf]⟩
  have := World.ownsRow_lit (w := w) (base := w.heap.size) (e := tT) (size := 4) (madeCells #[.int .i64 0, .int .i64 0, .slice none 0 0, .slice none 0 0] (ts.length * 4)) ts.length (Nat.le_refl _) (by unfold maxLen; omega) (size_madeCells _ _)
  rw [cT_zeros] at this
  simpa [rowOf] using this
theorem LaidTs.at_ {tP tT : TypeId} {w : World} {B g : Nat} {ts : List Tm} {k : Nat} (h : LaidTs tP tT w B g ts k) {w4 : World} (hb : Below w.heap.size w w4) (hk : k < ts.length) (i : Nat) (hi : i < 4) : ∃ u, w4.cell? ⟨g, k * 4 + i, none⟩ = some u ∧ w4.frozen? ⟨g, k * 4 + i, none⟩ = false := by
  obtain ⟨css, Fs, hr, _⟩ := h
  exact own_at (owns_below hr hb) _ (by have : (k + 1) * 4 ≤ ts.length * 4 := Nat.mul_le_mul_right _ hk; omega)
theorem LaidTs.lt {tP tT : TypeId} {w : World} {B g : Nat} {ts : List Tm} {k : Nat} (h : LaidTs tP tT w B g ts k) : g < w.heap.size := by
  obtain ⟨css, Fs, hr, _⟩ := h
  exact (hr.lt g rfl).2
end Go.Proofs.Ytmeaghkpojiniaa.Base
