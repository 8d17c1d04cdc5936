/- A region that draws its order, walked once: its light operations (reads, arithmetic) first, each in every world in which old memory stands; its heavy ones (calls, new blocks) one after the other as the edges force them; then a forced tail. A theorem about the model, of no program. -/
import Derived.WalkKit
import Derived.Deep.RegionHeld3
import Derived.Lib.QuietBelow
import Derived.Deep.QuietTactic
import Derived.BigQuiet
import Derived.StillTail
namespace Go.Proofs.Ytmeaghkpojiniaa.Base
open Go.RowKit Go.Sort
set_option linter.unusedVariables false
set_option linter.unusedSimpArgs false

/-- The worlds in which all that 'w' held stands. -/
def Cls (w : World) : World → Prop := fun W => ∃ p : Regrown, W = grow (redrawn w p.d) p.os
theorem Cls.of_below {w W : World} (h : Below w.heap.size w W) : Cls w W := regrown_of_below h
theorem Cls.below {w W : World} (h : Cls w W) : Below w.heap.size w W := by obtain ⟨p, rfl⟩ := h; exact below_regrown w p.d p.os
theorem Cls.self (w : World) : Cls w w := Cls.of_below (Below.refl _ _)
theorem Cls.step {w w1 w2 : World} (h : Cls w w1) (k : Cls w1 w2) : Cls w w2 :=
  Cls.of_below (h.below.trans ⟨k.below.os, k.below.tape, k.below.output, k.below.size, fun i hi => k.below.block i (Nat.lt_of_lt_of_le hi h.below.size)⟩)

theorem clsCell {w : World} {a : Addr} {v : Value} (h : w.cell? a = some v) : ∀ (d : Nat) (os : Array Obj), (grow (redrawn w d) os).cell? a = some v := fun d os => cell_regrown h d os
@[simp, go_sem] theorem redrawn_drew (w : World) (d : Nat) : redrawn w.drew d = redrawn w d := rfl
@[simp, go_sem] theorem redrawn_drewN (w : World) (n d : Nat) : redrawn (w.drewN n) d = redrawn w d := rfl

@[go_sem] theorem cls_lt {W : World} {a : Addr} {d : Nat} {os : Array Obj} (h : a.block < W.heap.size) : (grow (redrawn W d) os).cell? a = W.cell? a := (below_regrown W d os).cell h
theorem bcell {W w1 : World} (hb : Below W.heap.size W w1) : (∀ b o, b < W.heap.size → w1.cell? ⟨b, o, none⟩ = W.cell? ⟨b, o, none⟩) ∧ (∀ b o, b < W.heap.size → w1.frozen? ⟨b, o, none⟩ = W.frozen? ⟨b, o, none⟩) :=
  ⟨fun b o h => hb.cell (p := ⟨b, o, none⟩) h, fun b o h => hb.frozen (p := ⟨b, o, none⟩) h⟩

/-- Exits other than the normal one are not. -/
def nrm (K : Act → World → Prop) : Exit → Act → World → Prop
  | .normal, a, w => K a w
  | _, _, _ => False
theorem nrm_mk {K : Act → World → Prop} {a : Act} {w : World} (h : K a w) : nrm K .normal a w := h

/-- Operations that yield a value and write nothing. -/
def lightB (o : Oper) : Bool :=
  match o.op with
  | .move _ | .assign _ | .pick .. | .load .. | .binOp .. | .unOp .. | .convert .. | .slice .. | .fieldAddr .. | .field .. | .indexAddr .. | .index .. | .build .. | .extract .. | .lookup .. => true
  | .call { callee := .builtin b, .. } => (match b with | .len | .cap | .min | .max => true | _ => false)
  | _ => false

theorem run_value {P : Program} {s : Sem Value} {x : Next} {w w' : World} (h : Sem.run P (do pure (Next.value (← s))) w = .ok x w') : ∃ v, x = .value v := by
  rw [Sem.run_bind] at h
  cases hs : s.run P w with
  | ok v w1 => rw [hs] at h; simp [Result.andThen] at h; exact ⟨v, h.1.symm⟩
  | halt y w1 => rw [hs] at h; simp [Result.andThen] at h

theorem light_value {P : Program} {ρ : Operand → Value} {o : Oper} {x : Next} {w w' : World} (hl : lightB o = true) (h : (execOp ρ o).run P w = .ok x w') : ∃ v, x = .value v := by
  obtain ⟨dst, op, ty, pos, after, guard⟩ := o
  cases op <;> simp only [lightB] at hl <;> try (exact absurd hl (by decide))
  case move y => simp [execOp] at h; exact ⟨_, h.1.symm⟩
  case assign y => simp [execOp] at h; exact ⟨_, h.1.symm⟩
  case pick c y z => 
    simp only [execOp] at h
    rw [Sem.run_bind] at h
    cases hs : (asBool (ρ c)).run P w with
    | ok v w1 => rw [hs] at h; simp [Result.andThen] at h; exact ⟨_, h.1.symm⟩
    | halt y w1 => rw [hs] at h; simp [Result.andThen] at h
  case call c =>
    obtain ⟨callee, args, argTypes⟩ := c
    cases callee <;> simp at hl
    rename_i b
    cases b <;> simp at hl <;> exact run_value h
  all_goals exact run_value h

section
variable {P : Program} {ops : Array Oper} {Q : Exit → Act → World → Prop} {md : Region.Mode} {S : World → Prop} {D : Nat → Bool}

/-- Number j waits, by a road of bound edges of at most n steps, for number i. -/
def reach (md : Region.Mode) (ops : Array Oper) : Nat → Nat → Nat → Bool
  | 0, _, _ => false
  | n + 1, j, i =>
    match ops[j]? with
    | some oj => oj.after.any fun e => Region.binds md e && (e.on == i || reach md ops n e.on i)
    | none => false

/-- What is listed is closed under what it waits for. -/
def Closed (md : Region.Mode) (ops : Array Oper) (listed : Array Bool) : Prop :=
  ∀ (j : Nat) (oj : Oper), ops[j]? = some oj → listed.getD j false = true → ∀ e ∈ oj.after, Region.binds md e = true → listed.getD e.on false = true

theorem Closed.set {listed : Array Bool} {i : Nat} (h : Closed md ops listed) (hi : i ∈ Region.ready md ops listed) : Closed md ops (listed.setIfInBounds i true) := by
  obtain ⟨_, oi, hoi, hall⟩ := mem_ready.1 hi
  have up : ∀ k, listed.getD k false = true → (listed.setIfInBounds i true).getD k false = true := fun k hk => by
    by_cases hik : i = k
    · subst hik
      have : i < listed.size := by
        rcases Nat.lt_or_ge i listed.size with h' | h'
        · exact h'
        · simp [Array.getElem?_eq_none h'] at hk
      simp [this]
    · rw [getD_set_ne false hik]; exact hk
  intro j oj hj hl e he hb
  by_cases hij : i = j
  · subst hij
    obtain rfl : oj = oi := Option.some.inj (hj.symm.trans hoi)
    exact up _ (hall e he hb)
  · rw [getD_set_ne false hij] at hl
    exact up _ (h j oj hj hl e he hb)

theorem Closed.reach {listed : Array Bool} (h : Closed md ops listed) : ∀ (n j i : Nat), reach md ops n j i = true → listed.getD j false = true → listed.getD i false = true
  | 0, _, _, hr, _ => by simp [Base.reach] at hr
  | n + 1, j, i, hr, hl => by
    simp only [Base.reach] at hr
    split at hr
    · rename_i oj hj
      obtain ⟨e, he, hb⟩ := Array.any_eq_true'.1 hr
      simp only [Bool.and_eq_true, Bool.or_eq_true, beq_iff_eq] at hb
      have h1 := h j oj hj hl e he hb.1
      rcases hb.2 with h2 | h2
      · rw [← h2]; exact h1
      · exact h.reach n e.on i h2 h1
    · cases hr

theorem Closed.ready_reach {listed : Array Bool} (h : Closed md ops listed) {n j i : Nat} (hj : j ∈ Region.ready md ops listed) (hr : Base.reach md ops n j i = true) : listed.getD i false = true := by
  obtain ⟨_, oj, hoj, hall⟩ := mem_ready.1 hj
  cases n with
  | zero => simp [Base.reach] at hr
  | succ n =>
    simp only [Base.reach, hoj] at hr
    obtain ⟨e, he, hb⟩ := Array.any_eq_true'.1 hr
    simp only [Bool.and_eq_true, Bool.or_eq_true, beq_iff_eq] at hb
    have h1 := hall e he hb.1
    rcases hb.2 with h2 | h2
    · rw [← h2]; exact h1
    · exact h.reach n e.on i h2 h1

/-- Whatever order is picked from here on; behind each operation that is none of the tail's, S holds. -/
def wpAnyR (P : Program) (md : Region.Mode) (ops : Array Oper) (Q : Exit → Act → World → Prop) (D : Nat → Bool) (S : World → Prop) : Nat → Array Bool → Act → World → Prop
  | 0, listed, a, w => Region.ready md ops listed = [] ∧ Q .normal a w
  | fuel + 1, listed, a, w =>
    (Region.ready md ops listed = [] → Q .normal a w) ∧
    ∀ i ∈ Region.ready md ops listed, wpOp P ops Q i (fun a' w' => (D i = false → S w') ∧ wpAnyR P md ops Q D S fuel (listed.setIfInBounds i true) a' w') a w

theorem wpAny_of_R : ∀ (fuel : Nat) (listed : Array Bool) (a : Act) (w : World), wpAnyR P md ops Q D S fuel listed a w → wpAny P md ops Q fuel listed a w
  | 0, _, _, _, h => h
  | fuel + 1, _, _, _, h => ⟨h.1, fun i hi => wpOp_mono (fun a' w' h' => wpAny_of_R fuel _ a' w' h'.2) (h.2 i hi)⟩

theorem wpAnyR_mono {S' : World → Prop} (hS : ∀ w, S' w → S w) : ∀ (fuel : Nat) (listed : Array Bool) (a : Act) (w : World), wpAnyR P md ops Q D S' fuel listed a w → wpAnyR P md ops Q D S fuel listed a w
  | 0, _, _, _, h => h
  | fuel + 1, _, _, _, h => ⟨h.1, fun i hi => wpOp_mono (fun a' w' h' => ⟨fun hd => hS _ (h'.1 hd), wpAnyR_mono hS fuel _ a' w' h'.2⟩) (h.2 i hi)⟩

theorem wpAnyR_first {i n : Nat} {oi : Oper} {v : Value} (hi : ops[i]? = some oi) (hsel : ∀ (j : Nat) (o : Oper) cs b, ops[j]? = some o → o.op ≠ .select cs b)
    (hQ : ∀ c a w, Q (.panic c) (a.put oi.dst v) w → Q (.panic c) a w) (hD : ∀ j, D j = true → reach md ops n j i = true) :
    ∀ (fuel : Nat) (listed : Array Bool) (a : Act) (w : World), Closed md ops listed →
      (∀ j oj, ops[j]? = some oj → j ≠ i → listed.getD j true = false → (∀ e ∈ oj.after, Region.binds md e = true → e.on ≠ i) → oi.apart ops oj = true) →
      i ∈ Region.ready md ops listed → YieldsIf P ops S oi v a → S w →
      wpAnyR P md ops Q D S fuel (listed.setIfInBounds i true) (a.put oi.dst v) w → wpAnyR P md ops Q D S (fuel + 1) listed a w := by
  have noD : ∀ {listed : Array Bool} {j : Nat}, Closed md ops listed → i ∈ Region.ready md ops listed → j ∈ Region.ready md ops listed → D j = false := fun {listed j} hc hi' hj => by
    cases hd : D j with
    | false => rfl
    | true =>
      have h1 := hc.ready_reach hj (hD j hd)
      have h0 := (mem_ready.1 hi').1
      rcases Nat.lt_or_ge i listed.size with h' | h'
      · simp [h'] at h0 h1; rw [h0] at h1; cases h1
      · simp [Array.getElem?_eq_none h'] at h1
  intro fuel
  induction fuel with
  | zero =>
    intro listed a w hc _ hr hy hS H
    refine ⟨fun h => (by rw [h] at hr; cases hr), fun j hj => ?_⟩
    by_cases hji : j = i
    · subst hji; exact hy.wpOp hi hS ⟨fun _ => hS, H⟩
    · have := ready_mono hj hji
      rw [H.1] at this
      cases this
  | succ fuel ih =>
    intro listed a w hc hfree hr hy hS H
    refine ⟨fun h => (by rw [h] at hr; cases hr), fun j hj => ?_⟩
    by_cases hji : j = i
    · subst hji; exact hy.wpOp hi hS ⟨fun _ => hS, H⟩
    · have h1 := H.2 j (ready_mono hj hji)
      have hdj := noD hc hr hj
      obtain ⟨hjun, oj, hoj, hall⟩ := mem_ready.1 hj
      have hnot : ∀ e ∈ oj.after, Region.binds md e = true → e.on ≠ i := fun e he hb heq => by
        have h1 := hall e he hb
        have h0 := (mem_ready.1 hr).1
        rw [heq] at h1
        rcases Nat.lt_or_ge i listed.size with h' | h'
        · simp [h'] at h0 h1; rw [h0] at h1; cases h1
        · simp [Array.getElem?_eq_none h'] at h1
      have h2 := wpOp_putIf hoj (hfree j oj hoj hji hjun hnot) (fun cs b => hsel i oi cs b hi) (fun cs b => hsel j oj cs b hoj) hQ hy h1
      have hfree' : ∀ k ok, ops[k]? = some ok → k ≠ i → (listed.setIfInBounds j true).getD k true = false →
          (∀ e ∈ ok.after, Region.binds md e = true → e.on ≠ i) → oi.apart ops ok = true := fun k ok hk hki hun hno => by
        refine hfree k ok hk hki ?_ hno
        by_cases hjk : j = k
        · subst hjk; exact hjun
        · rw [getD_set_ne true hjk] at hun; exact hun
      refine wpOp_mono (fun a' w' h3 => ⟨fun _ => h3.2.1 hdj, ih (listed.setIfInBounds j true) a' w' (hc.set hj) hfree' (ready_mono hr (Ne.symm hji)) h3.1 (h3.2.1 hdj) ?_⟩) h2
      rw [Array.setIfInBounds_comm _ _ hji]
      exact h3.2.2

theorem opWp_mono {o : Oper} {a : Act} {w : World} {K K' : Act → World → Prop} {Q Q' : Exit → Act → World → Prop} (h : ∀ a w, K a w → K' a w) (hp : ∀ c a w, Q (.panic c) a w → Q' (.panic c) a w) (ho : ∀ a w, Q .outgrown a w → Q' .outgrown a w)
    (hh : o.wp P a w K Q) : o.wp P a w K' Q' := by
  unfold Oper.wp at *
  generalize (execOp a.eval o).run P w = r at *
  cases r with
  | ok n w' =>
    cases n <;> simp only [Oper.upon] at hh ⊢ <;>
      first
        | exact h _ _ hh
        | exact Calls.mono hh (fun e w'' he => by cases e <;> first | exact h _ _ he | exact hp _ _ _ he | (obtain ⟨a, w, hl⟩ := he; exact ⟨a, w, ho _ _ hl⟩))
        | exact Rows.mono hh (fun _ _ he => h _ _ he)
  | halt x w' => cases x <;> simp only [Oper.upon] at hh ⊢ <;> first | exact hp _ _ _ hh | exact hh

/-- One heavy operation alone. -/
theorem wpOp_of_list {i : Nat} {o : Oper} (hi : ops[i]? = some o) {K K' : Act → World → Prop} {a : Act} {w : World} (h : wpList P ops (nrm K) [o] a w) (hk : ∀ a' w', K a' w' → K' a' w') : wpOp P ops Q i K' a w := by
  unfold wpOp
  simp only [hi]
  unfold wpList at h
  split
  · rename_i hw
    simp only [hw, if_true] at h
    rcases h with h | ⟨_, a', w', hl⟩
    · exact .inl (opWp_mono (fun a' w' h' => hk a' w' h') (fun _ _ _ h' => (h' : False).elim) (fun _ _ h' => (h' : False).elim) h)
    · exact hl.elim
  · rename_i hw
    simp only [hw] at h
    exact hk _ _ h
end

/-! ### The plan: light operations, one heavy one, and so on; light ones; a forced tail -/
abbrev Plan := List (List Nat × Nat) × List Nat × List Nat

def consAt (o : Option Oper) (l : List Oper) : List Oper := match o with | some x => x :: l | none => l
def opsAt (ops : List Oper) : List Nat → List Oper
  | [] => []
  | i :: is => consAt ops[i]? (opsAt ops is)
theorem consAt_some (x : Oper) (l : List Oper) : consAt (some x) l = x :: l := rfl
def setAll (listed : Array Bool) (is : List Nat) : Array Bool := is.foldl (fun l i => l.setIfInBounds i true) listed

/-- The light operations may be taken, one after the other; the number of operations left. -/
def lightsOk (md : Region.Mode) (ops : Array Oper) (fin : List Nat) : List Nat → Array Bool → Bool
  | [], _ => true
  | i :: is, listed => ((ops[i]?).map lightB).getD false && (Region.ready md ops listed).contains i && Region.free md ops listed i && (fin.all fun j => reach md ops ops.size j i) && lightsOk md ops fin is (listed.setIfInBounds i true)
def finOk (md : Region.Mode) (ops : Array Oper) : List Nat → Array Bool → Bool
  | [], listed => Region.ready md ops listed == []
  | i :: is, listed => (ops[i]?).isSome && Region.ready md ops listed == [i] && finOk md ops is (listed.setIfInBounds i true)
def segsOk (md : Region.Mode) (ops : Array Oper) (fin ls : List Nat) : List (List Nat × Nat) → Array Bool → Bool
  | [], listed => lightsOk md ops fin ls listed && finOk md ops fin (setAll listed ls)
  | (l, h) :: rest, listed => lightsOk md ops fin l listed && (ops[h]?).isSome && !fin.contains h && Region.ready md ops (setAll listed l) == [h] && segsOk md ops fin ls rest ((setAll listed l).setIfInBounds h true)
def planOk (md : Region.Mode) (ops : Array Oper) (p : Plan) : Bool :=
  Region.noSelect ops && segsOk md ops p.2.2 p.2.1 p.1 (Array.replicate ops.size false) && decide ((p.1.map fun x => x.1.length + 1).sum + p.2.1.length + p.2.2.length = ops.size)

def wpSegs (P : Program) (opsL : List Oper) (K : Act → World → Prop) (ls fin : List Nat) : List (List Nat × Nat) → Act → World → Prop
  | [], a, w => wpQuiet P opsL.toArray (fun W => ∃ p : Regrown, W = grow (redrawn w p.d) p.os) (fun a' => wpList P opsL.toArray (nrm K) (opsAt opsL fin) a' w) (opsAt opsL ls) a
  | (l, h) :: rest, a, w => wpQuiet P opsL.toArray (fun W => ∃ p : Regrown, W = grow (redrawn w p.d) p.os) (fun a' => wpList P opsL.toArray (nrm fun a'' w' => Below w.heap.size w w' ∧ wpSegs P opsL K ls fin rest a'' w') (opsAt opsL [h]) a' w) (opsAt opsL l) a

section
variable {P : Program} {opsL : List Oper} {Q : Exit → Act → World → Prop} {md : Region.Mode} {fin : List Nat}

theorem fin_sound (hQ : ∀ c a w, ¬ Q (.panic c) a w) {S : World → Prop} : ∀ (is : List Nat) (listed : Array Bool) (a : Act) (w : World), (∀ i ∈ is, i ∈ fin) → finOk md opsL.toArray is listed = true →
    wpList P opsL.toArray (nrm fun a w => Q .normal a w) (opsAt opsL is) a w → wpAnyR P md opsL.toArray Q (fun j => fin.contains j) S is.length listed a w
  | [], listed, a, w, _, hok, h => ⟨by simpa [finOk] using hok, h⟩
  | i :: is, listed, a, w, hin, hok, h => by
    simp only [finOk, Bool.and_eq_true] at hok
    obtain ⟨⟨ho, hr⟩, hok'⟩ := hok
    have hr' : Region.ready md opsL.toArray listed = [i] := by simpa using hr
    obtain ⟨o, hoi⟩ := Option.isSome_iff_exists.1 ho
    have hoi' : opsL[i]? = some o := by simpa using hoi
    refine ⟨(fun h0 => by rw [hr'] at h0; cases h0), fun j hj => ?_⟩
    rw [hr'] at hj
    obtain rfl : j = i := by simpa using hj
    have e : opsAt opsL (j :: is) = o :: opsAt opsL is := by simp [opsAt, consAt, hoi']
    rw [e] at h
    have hd : fin.contains j = true := by simpa using hin j (by simp)
    unfold wpOp
    simp only [hoi]
    unfold wpList at h
    have next : ∀ a' w', wpList P opsL.toArray (nrm fun a w => Q .normal a w) (opsAt opsL is) a' w' → (fin.contains j = false → S w') ∧ wpAnyR P md opsL.toArray Q (fun j => fin.contains j) S is.length (listed.setIfInBounds j true) a' w' :=
      fun a' w' h' => ⟨(fun h0 => by rw [hd] at h0; cases h0), fin_sound hQ is _ a' w' (fun k hk => hin k (by simp [hk])) hok' h'⟩
    split
    · rename_i hw
      simp only [hw, if_true] at h
      rcases h with h | ⟨_, a', w', hl⟩
      · exact .inl (opWp_mono next (fun _ _ _ h' => (h' : False).elim) (fun _ _ h' => (h' : False).elim) h)
      · exact hl.elim
    · rename_i hw
      simp only [hw] at h
      exact next _ _ h

theorem closed_setAll : ∀ (is : List Nat) (listed : Array Bool), Closed md opsL.toArray listed → lightsOk md opsL.toArray fin is listed = true → Closed md opsL.toArray (setAll listed is)
  | [], _, h, _ => h
  | i :: is, listed, h, hok => by
    simp only [lightsOk, Bool.and_eq_true] at hok
    exact closed_setAll is _ (h.set (by simpa using hok.1.1.1.2)) hok.2

theorem lights_sound (hsel : Region.noSelect opsL.toArray = true) (hQ : ∀ c a w, ¬ Q (.panic c) a w) {n : Nat} : ∀ (is : List Nat) (listed : Array Bool) (a : Act) (w : World) (K : Act → Prop), Closed md opsL.toArray listed → lightsOk md opsL.toArray fin is listed = true →
    wpQuiet P opsL.toArray (Cls w) K (opsAt opsL is) a → (∀ a', K a' → wpAnyR P md opsL.toArray Q (fun j => fin.contains j) (Cls w) n (setAll listed is) a' w) →
    wpAnyR P md opsL.toArray Q (fun j => fin.contains j) (Cls w) (is.length + n) listed a w
  | [], listed, a, w, K, _, _, h, hk => by simpa [setAll] using hk a h
  | i :: is, listed, a, w, K, hc, hok, h, hk => by
    simp only [lightsOk, Bool.and_eq_true] at hok
    obtain ⟨⟨⟨⟨hl, hr⟩, hf⟩, hfin⟩, hok'⟩ := hok
    cases hoi : opsL.toArray[i]? with
    | none => simp [hoi] at hl
    | some o =>
      have hl' : lightB o = true := by simpa [hoi] using hl
      have hoi' : opsL[i]? = some o := by simpa using hoi
      have e : opsAt opsL (i :: is) = o :: opsAt opsL is := by simp [opsAt, consAt, hoi']
      rw [e] at h
      have hr' : i ∈ Region.ready md opsL.toArray listed := by simpa using hr
      have hst : qOp P opsL.toArray (Cls w) i (wpQuiet P opsL.toArray (Cls w) K (opsAt opsL is)) a := by unfold qOp; simp only [hoi]; exact h
      obtain ⟨v, hy, hK⟩ := yieldsIn_of_qOp hoi hst
      have hy' : YieldsIf P opsL.toArray (Cls w) o v a := by
        rcases hy with ⟨hw, hv⟩ | ⟨hw, hv⟩
        · refine .inl ⟨hw, fun W hW => ?_⟩
          have h1 := hv W hW
          unfold Oper.quietAt at h1
          cases hx : (execOp a.eval o).run P W with
          | halt y W' => rw [hx] at h1; exact h1.elim
          | ok x W' =>
            obtain ⟨u, rfl⟩ := light_value hl' hx
            rw [hx] at h1
            obtain ⟨rfl, rfl⟩ := h1
            rfl
        · exact .inr ⟨hw, hv⟩
      have hD : ∀ j, fin.contains j = true → reach md opsL.toArray opsL.toArray.size j i = true := fun j hj => by
        simp only [List.all_eq_true] at hfin
        exact hfin j (by simpa using hj)
      have := lights_sound hsel hQ (n := n) is (listed.setIfInBounds i true) (a.put o.dst v) w K (hc.set hr') hok' hK hk
      have e2 : (i :: is).length + n = is.length + n + 1 := by simp; omega
      rw [e2]
      exact wpAnyR_first hoi (Region.noSelect_spec hsel) (fun c a w h => (hQ _ _ _ h).elim) hD _ listed a w hc (Region.free_spec hoi hf) hr' hy' (Cls.self w) this

theorem segs_sound (hsel : Region.noSelect opsL.toArray = true) (hQ : ∀ c a w, ¬ Q (.panic c) a w) (ls : List Nat) : ∀ (segs : List (List Nat × Nat)) (listed : Array Bool) (a : Act) (w : World), Closed md opsL.toArray listed → segsOk md opsL.toArray fin ls segs listed = true →
    wpSegs P opsL (fun a w => Q .normal a w) ls fin segs a w →
    wpAnyR P md opsL.toArray Q (fun j => fin.contains j) (Cls w) ((segs.map fun x => x.1.length + 1).sum + ls.length + fin.length) listed a w
  | [], listed, a, w, hc, hok, h => by
    simp only [segsOk, Bool.and_eq_true] at hok
    have := lights_sound (n := fin.length) hsel hQ ls listed a w _ hc hok.1 h (fun a' h' => fin_sound hQ fin _ a' w (fun _ hi => hi) hok.2 h')
    simpa using this
  | (l, h) :: rest, listed, a, w, hc, hok, hh => by
    simp only [segsOk, Bool.and_eq_true] at hok
    obtain ⟨⟨⟨⟨hl, ho⟩, hnf⟩, hr⟩, hok'⟩ := hok
    obtain ⟨o, hoi⟩ := Option.isSome_iff_exists.1 ho
    have hoi' : opsL[h]? = some o := by simpa using hoi
    have hr' : Region.ready md opsL.toArray (setAll listed l) = [h] := by simpa using hr
    have hcl := closed_setAll l listed hc hl
    have := lights_sound (n := (rest.map fun x => x.1.length + 1).sum + ls.length + fin.length + 1) hsel hQ l listed a w _ hc hl hh (fun a' h' => by
      refine ⟨(fun h0 => by rw [hr'] at h0; cases h0), fun j hj => ?_⟩
      have hj' := hj
      rw [hr'] at hj'
      obtain rfl : j = h := by simpa using hj'
      have e : opsAt opsL [j] = [o] := by simp [opsAt, consAt, hoi']
      rw [e] at h'
      refine wpOp_of_list hoi h' fun a'' w' ⟨hb, hn⟩ => ⟨fun _ => Cls.of_below hb, ?_⟩
      exact wpAnyR_mono (fun W hW => (Cls.of_below hb).step hW) _ _ _ _ (segs_sound hsel hQ ls rest _ a'' w' (hcl.set hj) hok' hn))
    have e : ((((l, h) :: rest).map fun x => x.1.length + 1).sum + ls.length + fin.length) = l.length + ((rest.map fun x => x.1.length + 1).sum + ls.length + fin.length + 1) := by simp; omega
    rw [e]
    exact this

/-- A REGION THAT DRAWS ITS ORDER, BY A PLAN. -/
theorem wp_region_plan (p : Plan) {id : Nat} {Q : Exit → Act → World → Prop} {a : Act} {w : World} (hm : P.follows .mixedOrders = true) (hp : planOk .any opsL.toArray p = true)
    (h : wpSegs P opsL (fun a w => Q .normal a w) p.2.1 p.2.2 p.1 a w.drew) : (Code.region id opsL.toArray true).wp P Q a w := by
  refine wp_region_noPanic (wp_region_any hm ?_)
  simp only [planOk, Bool.and_eq_true, decide_eq_true_eq] at hp
  obtain ⟨⟨hs, hok⟩, hn⟩ := hp
  have h' : wpSegs P opsL (fun a w => NoPanic Q .normal a w) p.2.1 p.2.2 p.1 a w.drew := h
  have := segs_sound (Q := NoPanic Q) hs (fun _ _ _ h => (h : False).elim) p.2.1 p.1 (Array.replicate opsL.toArray.size false) a w.drew (fun j oj _ hl => by rw [getD_replicate_false] at hl; cases hl) hok h'
  rw [hn] at this
  exact wpAny_of_R _ _ _ _ this
end
end Go.Proofs.Ytmeaghkpojiniaa.Base
