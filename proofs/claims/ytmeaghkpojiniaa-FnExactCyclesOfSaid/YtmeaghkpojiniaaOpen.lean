/- How the arguments of a law, as the row's data have them, read: lists of numbers, of pairs, terms. Of no program. -/
import Derived.Test.YtmeaghkpojiniaaBase
import Derived.ChangeArms
import Derived.SizedLaws
import Derived.Deep.Fields
namespace Go.Proofs.Ytmeaghkpojiniaa.Base
open Go.RowKit Go.Deep
set_option linter.unusedVariables false
section
variable {H : Type} {enc : TypeId × Value → H} {P : Program} {w : World} {base : Nat} {spare : Nat → Bool} {held : Bool}

def Fits (P : Program) (t : TypeId) (d : DataW H) : Prop := ∀ n ∈ d.weights P t, n ≤ 140737488351232

theorem weights_all_mem {e : TypeId} : ∀ {l : List (DataW H)} {d : DataW H}, d ∈ l → ∀ n ∈ d.weights P e, n ∈ DataW.weightsAll P e l
  | x :: l, d, hd, n, hn => by
    simp only [DataW.weightsAll, List.mem_append]
    rcases List.mem_cons.1 hd with rfl | hd
    · exact .inl hn
    · exact .inr (weights_all_mem hd n hn)

theorem open_row {α : Type} (K : World → α → List Value → Prop) {sz bytes : Nat} {t e : TypeId} (ht : P.underlying t = some (.slice e)) (hc : P.cellsOf e = sz) (hby : P.bytesOf e = bytes) (hsz : sz * 8 ≤ bytes) {fuel : Nat} {cs : List Value} {x : DataW H × List MemPlace}
    (elem : ∀ n, n < fuel → ∀ (cs' : List Value) (y : DataW H × List MemPlace), DataW.trod enc P w base spare held n e cs' = some y → Fits P e y.1 → ∃ a, K w a cs')
    (h : DataW.trod enc P w base spare held fuel t cs = some x) (hw : Fits P t x.1) : ∃ v xs, cs = [v] ∧ Sl K sz w v xs := by
  rcases DataW.trod_slice ht h with ⟨rfl, rfl⟩ | ⟨a, len, cap, elems, rest, n, hf, rfl, rfl, hb, hl, hm, hlen, hel, hsp, hns⟩
  · exact ⟨_, [], rfl, Sl.nil⟩
  · have hfit := hw ((elems.map (·.1)).length * bytes + (rest.map (·.1)).length * bytes) (by simp [DataW.weights, ht, hby, Nat.add_mul])
    have hel' : ∀ i (hi : i < len), ∃ cs' a', w.cells? base (a.add (i * sz)) sz = some cs' ∧ K w a' cs' := fun i hi => by
      have h1 := hel i hi
      rw [hc] at h1
      rw [List.getElem?_eq_getElem (by omega)] at h1
      cases hcs : w.cells? base (a.add (i * sz)) sz with
      | none => rw [hcs] at h1; simp at h1
      | some cs' =>
        rw [hcs] at h1
        simp only [Option.bind_some] at h1
        obtain ⟨a', ha'⟩ := elem n (by omega) cs' _ h1 (fun m hm => hw m (by
          simp only [DataW.weights, ht, List.mem_cons, List.mem_append]
          exact .inr (.inl (weights_all_mem (List.mem_map_of_mem (List.getElem_mem (by omega))) m hm))))
        exact ⟨cs', a', rfl, ha'⟩
    have hlb : len * bytes ≤ 140737488351232 := by simp only [List.length_map] at hfit; rw [hlen] at hfit; omega
    have hls : len * sz * 8 ≤ len * bytes := by rw [Nat.mul_assoc]; exact Nat.mul_le_mul_left _ hsz
    obtain ⟨xs, hxs⟩ : ∃ xs : List α, xs.length = len ∧ ∀ i (hi : i < len) (hi' : i < xs.length), ∃ cs', w.cells? base (a.add (i * sz)) sz = some cs' ∧ K w xs[i] cs' := by
      refine ⟨List.ofFn fun i : Fin len => (hel' i.1 i.2).choose_spec.choose, by simp, fun i hi hi' => ⟨(hel' i hi).choose, (hel' i hi).choose_spec.choose_spec.1, ?_⟩⟩
      rw [List.getElem_ofFn]
      exact (hel' i hi).choose_spec.choose_spec.2
    refine ⟨_, xs, rfl, some a, cap, by rw [hxs.1], by omega, by rw [hxs.1]; omega, fun j hj => ?_⟩
    obtain ⟨cs', hcs, hk⟩ := hxs.2 j (by omega) hj
    obtain ⟨_, hcl, hat⟩ := World.cells?_some hcs
    refine ⟨a, cs', rfl, hk, fun i u hu => ?_⟩
    have hi := (List.getElem?_eq_some_iff.1 hu).1
    rw [hat i (by omega)]
    exact hu

theorem open_I {t e : TypeId} (ht : P.underlying t = some (.slice e)) (he : P.underlying e = some (.int .i64)) (hc : P.cellsOf e = 1) (hby : P.bytesOf e = 8) {fuel : Nat} {cs : List Value} {x : DataW H × List MemPlace}
    (h : DataW.trod enc P w base spare held fuel t cs = some x) (hw : Fits P t x.1) : ∃ v xs, cs = [v] ∧ SlI w v xs :=
  open_row KI ht hc hby (by omega) (fun n _ cs' y hy _ => by obtain ⟨m, rfl, _⟩ := DataW.trod_int he hy; exact ⟨m, rfl⟩) h hw

theorem open_two {e : TypeId} {f0 f1 : Field} (he : P.underlying e = some (.struct #[f0, f1])) (h0 : P.underlying f0.type = some (.int .i64)) (h1 : P.underlying f1.type = some (.int .i64)) (hone : oneCellFields P #[f0, f1] = true) (hc : P.cellsOf e = 2) {n : Nat} {cs : List Value} {y : DataW H × List MemPlace}
    (hy : DataW.trod enc P w base spare held n e cs = some y) : ∃ p : Int × Int, KP w p cs := by
  obtain ⟨ys, m, rfl, rfl, hl, hyl, hf⟩ := DataW.trod_struct he hy
  rw [hc] at hl
  match cs, hl with
  | [c0, c1], _ =>
    obtain ⟨o0, k0⟩ := hone_of hone 0 f0 rfl
    obtain ⟨o1, k1⟩ := hone_of hone 1 f1 rfl
    have g0 := hf 0 f0 rfl
    have g1 := hf 1 f1 rfl
    rw [o0, k0] at g0
    rw [o1, k1] at g1
    have hl2 : ys.length = 2 := hyl
    rw [List.getElem?_eq_getElem (by omega)] at g0 g1
    obtain ⟨a, ea, _⟩ := DataW.trod_int h0 g0
    obtain ⟨b, eb, _⟩ := DataW.trod_int h1 g1
    simp at ea eb
    exact ⟨(a, b), by simp [KP, ea, eb]⟩
theorem open_P {t e : TypeId} {f0 f1 : Field} (ht : P.underlying t = some (.slice e)) (he : P.underlying e = some (.struct #[f0, f1])) (h0 : P.underlying f0.type = some (.int .i64)) (h1 : P.underlying f1.type = some (.int .i64)) (hone : oneCellFields P #[f0, f1] = true) (hc : P.cellsOf e = 2) (hby : P.bytesOf e = 16)
    {fuel : Nat} {cs : List Value} {x : DataW H × List MemPlace} (h : DataW.trod enc P w base spare held fuel t cs = some x) (hw : Fits P t x.1) : ∃ v xs, cs = [v] ∧ SlP w v xs :=
  open_row KP ht hc hby (by omega) (fun n _ cs' y hy _ => open_two he h0 h1 hone hc hy) h hw

theorem weights_each_mem {ts : List TypeId} {l : List (DataW H)} {j : Nat} {t : TypeId} {d : DataW H} (ht : ts[j]? = some t) (hd : l[j]? = some d) : ∀ n ∈ d.weights P t, n ∈ DataW.weightsEach P ts l := DataW.weights_mem_each ht hd

/-- A term: op, n, a list of pairs, a list of terms. -/
theorem open_T {tT tTs tP tPs : TypeId} {g0 g1 g2 g3 f0 f1 : Field} (he : P.underlying tT = some (.struct #[g0, g1, g2, g3])) (i0 : P.underlying g0.type = some (.int .i64)) (i1 : P.underlying g1.type = some (.int .i64)) (e2 : g2.type = tPs) (e3 : g3.type = tTs) (hone : oneCellFields P #[g0, g1, g2, g3] = true) (hc : P.cellsOf tT = 4) (hby : P.bytesOf tT = 64)
    (hts : P.underlying tTs = some (.slice tT)) (htp : P.underlying tPs = some (.slice tP)) (hp : P.underlying tP = some (.struct #[f0, f1])) (h0 : P.underlying f0.type = some (.int .i64)) (h1 : P.underlying f1.type = some (.int .i64)) (hone2 : oneCellFields P #[f0, f1] = true) (hcp : P.cellsOf tP = 2) (hbp : P.bytesOf tP = 16) :
    ∀ (fuel : Nat) (cs : List Value) (x : DataW H × List MemPlace), DataW.trod enc P w base spare held fuel tT cs = some x → Fits P tT x.1 → ∃ t, KT w t cs := by
  intro fuel
  induction fuel using Nat.strongRecOn with
  | _ fuel ih =>
    intro cs x h hw
    obtain ⟨ys, m, rfl, rfl, hl, hyl, hf⟩ := DataW.trod_struct he h
    rw [hc] at hl
    match cs, hl with
    | [c0, c1, c2, c3], _ =>
      obtain ⟨o0, k0⟩ := hone_of hone 0 g0 rfl
      obtain ⟨o1, k1⟩ := hone_of hone 1 g1 rfl
      obtain ⟨o2, k2⟩ := hone_of hone 2 g2 rfl
      obtain ⟨o3, k3⟩ := hone_of hone 3 g3 rfl
      have q0 := hf 0 g0 rfl
      have q1 := hf 1 g1 rfl
      have q2 := hf 2 g2 rfl
      have q3 := hf 3 g3 rfl
      rw [o0, k0] at q0
      rw [o1, k1] at q1
      rw [o2, k2, e2] at q2
      rw [o3, k3, e3] at q3
      have hl2 : ys.length = 4 := hyl
      rw [List.getElem?_eq_getElem (by omega)] at q0 q1 q2 q3
      obtain ⟨a, ea, _⟩ := DataW.trod_int i0 q0
      obtain ⟨b, eb, _⟩ := DataW.trod_int i1 q1
      have fits : ∀ (j : Nat) (hj : j < ys.length) (t : TypeId), (#[g0, g1, g2, g3].toList.map (·.type))[j]? = some t → Fits P t ys[j].1 := fun j hj t ht n hn => hw n (by
        simp only [DataW.weights, he]
        exact weights_each_mem ht (by simp [hj]) n hn)
      obtain ⟨vp, p, ep, hvp⟩ := open_P htp hp h0 h1 hone2 hcp hbp q2 (fits 2 (by omega) tPs (by simp [e2]))
      obtain ⟨vk, ks, ek, hvk⟩ := open_row KT hts hc hby (by omega) (fun n hn cs' y hy hfy => ih n (by omega) cs' y hy hfy) q3 (fits 3 (by omega) tTs (by simp [e3]))
      simp at ea eb ep ek
      obtain rfl := ea
      obtain rfl := eb
      obtain rfl := ep
      obtain rfl := ek
      exact ⟨.mk a b p ks, KT.close hvp hvk⟩
end
end Go.Proofs.Ytmeaghkpojiniaa.Base
