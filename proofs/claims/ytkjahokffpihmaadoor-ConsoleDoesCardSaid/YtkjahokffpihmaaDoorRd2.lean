/- A region that draws its order: the invariant's way, and what has run bears all that it is bound to. -/
import Derived.Test.YtkjahokffpihmaaDoorRd
namespace Go.Proofs.YtkjahokffpihmaaDoor
open Go.RowKit
section
variable {F : Fence} {n : Nat} {P : Program} {ops : Array Oper} {Q : Exit → Act → World → Prop} {md : Region.Mode}
/-- Of what has run, all that it is bound to has run. -/
def Closed (md : Region.Mode) (ops : Array Oper) (L : Array Bool) : Prop := ∀ (i : Nat) (o : Oper), ops[i]? = some o → L.getD i false = true → ∀ e ∈ o.after, Region.binds md e = true → L.getD e.on false = true
def marks (md : Region.Mode) : List Edge → List Bool → List Bool
  | [], s => s
  | e :: es, s => marks md es (if Region.binds md e then s.set e.on true else s)
/-- All that the marked ones are bound to, marked. -/
def closeDown (md : Region.Mode) (ops : Array Oper) : Nat → List Bool → List Bool
  | 0, s => s
  | k + 1, s => closeDown md ops k (if s.getD k false then (match ops[k]? with | none => s | some o => marks md o.after.toList s) else s)
def needs (md : Region.Mode) (ops : Array Oper) (i j : Nat) : Bool := (closeDown md ops ops.size ((List.replicate ops.size false).set i true)).getD j false
theorem getD_set_true {s : List Bool} {i j : Nat} (h : (s.set i true).getD j false = true) : s.getD j false = true ∨ i = j := by
  by_cases hij : i = j
  · exact .inr hij
  · left
    rw [List.getD_eq_getElem?_getD, List.getElem?_set_ne hij] at h
    rw [List.getD_eq_getElem?_getD]
    exact h
theorem marks_sub {L : Array Bool} : ∀ (es : List Edge) (s : List Bool), (∀ j, s.getD j false = true → L.getD j false = true) → (∀ e ∈ es, Region.binds md e = true → L.getD e.on false = true) → ∀ j, (marks md es s).getD j false = true → L.getD j false = true := by
  intro es
  induction es with
  | nil => intro s hs _ j hj; exact hs j hj
  | cons e es ih =>
    intro s hs he j hj
    refine ih _ (fun j hj => ?_) (fun e' h' => he e' (List.mem_cons_of_mem _ h')) j hj
    split at hj
    · rename_i hb
      rcases getD_set_true hj with h | rfl
      · exact hs j h
      · exact he e (List.mem_cons_self ..) hb
    · exact hs j hj
theorem closeDown_sub {L : Array Bool} (hc : Closed md ops L) : ∀ (k : Nat) (s : List Bool), (∀ j, s.getD j false = true → L.getD j false = true) → ∀ j, (closeDown md ops k s).getD j false = true → L.getD j false = true := by
  intro k
  induction k with
  | zero => intro s hs j hj; exact hs j hj
  | succ k ih =>
    intro s hs j hj
    rw [closeDown] at hj
    refine ih _ (fun j hj => ?_) j hj
    split at hj
    · rename_i hk
      cases ho : ops[k]? with
      | none => rw [ho] at hj; exact hs j hj
      | some o =>
        rw [ho] at hj
        exact marks_sub _ s hs (fun e he hb => hc k o ho (hs k hk) e (by simpa using he) hb) j hj
    · exact hs j hj
theorem Closed.needs {L : Array Bool} (hc : Closed md ops L) {i j : Nat} (hn : needs md ops i j = true) (hi : L.getD i false = true) : L.getD j false = true := by
  refine closeDown_sub hc _ _ (fun k hk => ?_) j hn
  rcases getD_set_true hk with h | rfl
  · have : (List.replicate ops.size false).getD k false = false := by
      rw [List.getD_eq_getElem?_getD, List.getElem?_replicate]
      split <;> rfl
    rw [this] at h
    cases h
  · exact hi
/-- What has not run, of what another one is bound to: then that has not run either. -/
theorem Closed.off {L : Array Bool} (hc : Closed md ops L) {i j : Nat} (hn : Go.Proofs.YtkjahokffpihmaaDoor.needs md ops i j = true) (hj : L.getD j true = false) : L.getD i false = false := by
  cases hi : L.getD i false with
  | false => rfl
  | true =>
    have := hc.needs hn hi
    by_cases hl : j < L.size
    · simp [Array.getD, hl] at this hj
      rw [this] at hj
      cases hj
    · simp [Array.getD, hl] at this
theorem Closed.set_ {L : Array Bool} (hc : Closed md ops L) {i : Nat} {o : Oper} (ho : ops[i]? = some o) (hi : i < L.size) (hp : ∀ e ∈ o.after, Region.binds md e = true → L.getD e.on false = true) : Closed md ops (L.setIfInBounds i true) := by
  have up : ∀ j, L.getD j false = true → (L.setIfInBounds i true).getD j false = true := by
    intro j hj
    by_cases hl : j < L.size
    · simp [Array.getD, hl] at hj ⊢
      rw [Array.getElem_setIfInBounds]
      split
      · rfl
      · exact hj
    · simp [Array.getD, hl] at hj
  intro k o' ho' hk e he hb
  by_cases hki : k = i
  · subst hki
    rw [ho] at ho'
    injection ho' with ho'
    subst ho'
    exact up _ (hp e he hb)
  · refine up _ (hc k o' ho' ?_ e he hb)
    by_cases hl : k < L.size
    · simp [Array.getD, hl] at hk ⊢
      rw [Array.getElem_setIfInBounds hl, if_neg (Ne.symm hki)] at hk
      exact hk
    · simp [Array.getD, hl] at hk
theorem wpIn_region_inv2 {id : Nat} {a : Act} {w : World} (hm : P.follows .mixedOrders = true) (ht : topo .any ops = true) (Φ : Array Bool → Act → World → Prop)
    (h0 : Φ (Array.replicate ops.size false) a w.drew)
    (hstep : ∀ (L : Array Bool) (a : Act) (w : World) (i : Nat) (o : Oper), L.size = ops.size → ops[i]? = some o → L.getD i true = false → (∀ e ∈ o.after, Region.binds .any e = true → L.getD e.on false = true) → Closed .any ops L → Φ L a w → wpOpIn F n P ops Q i (Φ (L.setIfInBounds i true)) a w)
    (hend : ∀ a w, Φ (Array.replicate ops.size true) a w → Q .normal a w) : (Code.region id ops true).wpIn F n P Q a w := by
  refine wpIn_region_inv hm ht (fun L a w => Φ L a w ∧ Closed .any ops L) ⟨h0, ?_⟩ ?_ (fun a w h => hend a w h.1)
  · intro i o _ hi
    simp [Array.getD] at hi
  · intro L a w i o hs ho hf hp ⟨hΦ, hc⟩
    have hi : i < L.size := by rw [hs]; exact (Array.getElem?_eq_some_iff.1 ho).1
    exact wpOpIn_mono (fun a w h => ⟨h, hc.set_ ho hi hp⟩) (hstep L a w i o hs ho hf hp hc hΦ)
end
end Go.Proofs.YtkjahokffpihmaaDoor
