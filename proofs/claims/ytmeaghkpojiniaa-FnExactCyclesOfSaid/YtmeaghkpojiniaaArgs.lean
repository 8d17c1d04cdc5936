/- The arguments of a law, opened: what each kind of argument reads as; what stands behind a call. -/
import Derived.Test.YtmeaghkpojiniaaRows
import Derived.Test.YtmeaghkpojiniaaOpen
import Derived.ProofKit
import Derived.OpenShut
import Derived.ShutString
import Derived.ChangeOld
import Derived.Below
import Derived.Carry
import Derived.WideShapes
namespace Go.Proofs.Ytmeaghkpojiniaa.Base
open Go.RowKit Go.Deep Go.WideShapes
set_option linter.unusedVariables false
set_option linter.unusedSimpArgs false
section
variable {H : Type} {enc : TypeId × Value → H} {P : Program} {w : World} {base b0 : Nat} {spare : Nat → Bool} {held : Bool}
theorem okWide_slice_ {t e : TypeId} {v : Value} (ht : P.underlying t = some (.slice e)) (h : Value.okWide P w .any b0 t v) : v.cells.toList = [v] := by
  simp only [Value.okWide, ht, Cell.okWide] at h
  cases v <;> simp_all [Cell.ok, Value.cells]
theorem argSl {α : Type} {K : World → α → List Value → Prop} {sz : Nat} {t e : TypeId} {v : Value} {d : DataW H} {ps : List MemPlace} (ht : P.underlying t = some (.slice e)) (hv : Value.okWide P w .any b0 t v) (h : DataW.Trod enc P w base spare held t v d ps) (hw : Fits P t d)
    (op : ∀ (fuel : Nat) (cs : List Value) (x : DataW H × List MemPlace), DataW.trod enc P w base spare held fuel t cs = some x → Fits P t x.1 → ∃ v xs, cs = [v] ∧ Sl K sz w v xs) : ∃ xs, Sl K sz w v xs := by
  obtain ⟨fuel, hf⟩ := h
  obtain ⟨v', xs, e, hs⟩ := op _ _ _ hf hw
  rw [okWide_slice_ ht hv] at e
  simp at e
  exact ⟨xs, e ▸ hs⟩
theorem argT {tT : TypeId} {fs : Array Field} {v : Value} {d : DataW H} {ps : List MemPlace} (he : P.underlying tT = some (.struct fs)) (hv : Value.okWide P w .any b0 tT v) (h : DataW.Trod enc P w base spare held tT v d ps) (hw : Fits P tT d)
    (op : ∀ (fuel : Nat) (cs : List Value) (x : DataW H × List MemPlace), DataW.trod enc P w base spare held fuel tT cs = some x → Fits P tT x.1 → ∃ t, KT w t cs) : ∃ t, VT w v t := by
  obtain ⟨fuel, hf⟩ := h
  obtain ⟨t, hk⟩ := op _ _ _ hf hw
  simp only [Value.okWide, he] at hv
  obtain ⟨cs, rfl, _, _⟩ := hv
  obtain ⟨vp, vk, e, hp, hk⟩ := hk.open_
  refine ⟨t, vp, vk, ?_, hp, hk⟩
  have : cs.toList = [.int .i64 t.op, .int .i64 t.n, vp, vk] := e
  rw [show cs = cs.toList.toArray by simp, this]
theorem fits_of {ts : List TypeId} {ds : List (DataW H)} (h : (DataW.weightsEach P ts ds).all (· ≤ reachBytes) = true) {j : Nat} {t : TypeId} {d : DataW H} (ht : ts[j]? = some t) (hd : ds[j]? = some d) : Fits P t d := by
  intro n hn
  have h1 := (List.all_eq_true.1 h) n (weights_each_mem ht hd n hn)
  exact of_decide_eq_true h1
end
set_option maxRecDepth 100000
theorem own : ownKnob Try.prog.godebug = none := by kernel_rfl
theorem laidOut : laidOutB Try.prog = true := by kernel_rfl
section
variable {H : Type} {enc : TypeId × Value → H} {w : World} {base b0 : Nat} {spare : Nat → Bool} {held : Bool} {v : Value} {d : DataW H} {ps : List MemPlace}
theorem rd_Pairs (hv : Value.okWide Try.prog w .any b0 22 v) (h : DataW.Trod enc Try.prog w base spare held 22 v d ps) (hw : Fits Try.prog 22 d) : ∃ xs, SlP w v xs :=
  argSl Try.underlying22 hv h hw fun _ _ _ h' hw' => open_P Try.underlying22 Try.underlying57 Try.underlying3 Try.underlying3 (by kernel_rfl) (by kernel_rfl) (by kernel_rfl) h' hw'
theorem rd_ints (hv : Value.okWide Try.prog w .any b0 31 v) (h : DataW.Trod enc Try.prog w base spare held 31 v d ps) (hw : Fits Try.prog 31 d) : ∃ xs, SlI w v xs ∧ ∀ x ∈ xs, (Lit.int .i64 x).wf = true := by
  obtain ⟨xs, A, c, e, h1, h2, h3⟩ := argSl (K := fun w x cs => KI w x cs ∧ (Lit.int .i64 x).wf = true) (sz := 1) Try.underlying31 hv h hw fun _ _ _ h' hw' => open_row _ Try.underlying31 (by kernel_rfl) (by kernel_rfl : Try.prog.bytesOf 3 = 8) (by omega) (fun n _ cs' y hy _ => by obtain ⟨m, rfl, _, hm⟩ := DataW.trod_int Try.underlying3 hy; exact ⟨m, rfl, hm⟩) h' hw'
  refine ⟨xs, ⟨A, c, e, h1, h2, fun j hj => ?_⟩, fun x hx => ?_⟩
  · obtain ⟨ad, cs, e, hk, ha⟩ := h3 j hj
    exact ⟨ad, cs, e, hk.1, ha⟩
  · obtain ⟨j, hj, rfl⟩ := List.getElem_of_mem hx
    obtain ⟨ad, cs, e, hk, ha⟩ := h3 j hj
    exact hk.2
end
end Go.Proofs.Ytmeaghkpojiniaa.Base
