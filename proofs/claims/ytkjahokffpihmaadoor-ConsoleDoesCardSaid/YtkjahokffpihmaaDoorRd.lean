/- A region that draws its order, whatever the fence (in a round of a range over a function too): an invariant that each operation keeps, over which ones have run. -/
import Derived.OrdersIn
import Derived.WalkKit
import Derived.OwnWalkIn
import Derived.TacticsInMore
namespace Go.Proofs.YtkjahokffpihmaaDoor
open Go.RowKit

section
variable {F : Fence} {n : Nat} {P : Program} {ops : Array Oper} {Q : Exit → Act → World → Prop} {md : Region.Mode}

/-- Each operation is bound behind elder ones alone. -/
def topo (md : Region.Mode) (ops : Array Oper) : Bool := ops.toList.zipIdx.all fun (o, i) => o.after.toList.all fun e => !Region.binds md e || decide (e.on < i)
theorem topo_at (h : topo md ops = true) {i : Nat} {o : Oper} (ho : ops[i]? = some o) {e : Edge} (he : e ∈ o.after) (hb : Region.binds md e = true) : e.on < i := by
  unfold topo at h
  rw [List.all_eq_true] at h
  have h1 := h (o, i) (by
    rw [List.mem_zipIdx_iff_getElem?]
    simpa using ho)
  simp only [List.all_eq_true] at h1
  have h2 := h1 e (by simpa using he)
  simpa [hb] using h2
theorem ready_nil_all (ht : topo md ops = true) {L : Array Bool} (hs : L.size = ops.size) (hr : Region.ready md ops L = []) : L = Array.replicate ops.size true := by
  have key : ∀ i, i < ops.size → L.getD i true = true := by
    intro i
    induction i using Nat.strongRecOn with
    | _ i ih =>
      intro hi
      cases hf : L.getD i true with
      | true => rfl
      | false =>
        exfalso
        have : i ∈ Region.ready md ops L := mem_ready.2 ⟨hf, ops[i], by simp [hi], fun e he hb => by
          have hlt := topo_at ht (show ops[i]? = some ops[i] by simp [hi]) he hb
          have := ih e.on hlt (by omega)
          have hl : e.on < L.size := by omega
          simpa [Array.getD, hl] using this⟩
        rw [hr] at this
        cases this
  apply Array.ext
  · simpa using hs
  · intro i h1 h2
    have := key i (by omega)
    simpa [Array.getD, h1] using this
theorem count_set {L : List Bool} {i : Nat} (h : L[i]? = some false) : (L.set i true).count false + 1 = L.count false := by
  induction L generalizing i with
  | nil => simp at h
  | cons b L ih =>
    cases i with
    | zero => simp at h; subst h; simp
    | succ i =>
      simp at h
      have := ih h
      simp [List.count_cons]
      omega
theorem wpAnyIn_inv (ht : topo md ops = true) (Φ : Array Bool → Act → World → Prop)
    (hstep : ∀ (L : Array Bool) (a : Act) (w : World) (i : Nat) (o : Oper), L.size = ops.size → ops[i]? = some o → L.getD i true = false → (∀ e ∈ o.after, Region.binds md e = true → L.getD e.on false = true) → Φ L a w → wpOpIn F n P ops Q i (Φ (L.setIfInBounds i true)) a w)
    (hend : ∀ a w, Φ (Array.replicate ops.size true) a w → Q .normal a w) :
    ∀ (fuel : Nat) (L : Array Bool) (a : Act) (w : World), L.size = ops.size → L.toList.count false ≤ fuel → Φ L a w → wpAnyIn F n P md ops Q fuel L a w := by
  have hn : ∀ L a w, L.size = ops.size → Φ L a w → Region.ready md ops L = [] → Q .normal a w := fun L a w hs hΦ hr => by
    rw [ready_nil_all ht hs hr] at hΦ
    exact hend a w hΦ
  intro fuel
  induction fuel with
  | zero =>
    intro L a w hs hc hΦ
    have hr : Region.ready md ops L = [] := by
      rw [List.eq_nil_iff_forall_not_mem]
      intro i hi
      obtain ⟨hf, o, ho, -⟩ := mem_ready.1 hi
      have hlt : i < L.size := by rw [hs]; exact (Array.getElem?_eq_some_iff.1 ho).1
      have : false ∈ L.toList := by
        rw [List.mem_iff_getElem?]
        exact ⟨i, by simp [Array.getD, hlt] at hf; simp [hlt, hf]⟩
      have h2 := List.count_pos_iff.2 this
      omega
    exact ⟨hr, hn L a w hs hΦ hr⟩
  | succ fuel ih =>
    intro L a w hs hc hΦ
    refine ⟨hn L a w hs hΦ, fun i hi => ?_⟩
    obtain ⟨hf, o, ho, hp⟩ := mem_ready.1 hi
    have hlt : i < L.size := by rw [hs]; exact (Array.getElem?_eq_some_iff.1 ho).1
    refine wpOpIn_mono (fun a w h => ih _ a w (by simpa using hs) ?_ h) (hstep L a w i o hs ho hf hp hΦ)
    have h1 : L.toList[i]? = some false := by simp [Array.getD, hlt] at hf; simp [hlt, hf]
    have h2 := count_set h1
    simp only [Array.toList_setIfInBounds]
    omega
theorem wpIn_region_inv {id : Nat} {a : Act} {w : World} (hm : P.follows .mixedOrders = true) (ht : topo .any ops = true) (Φ : Array Bool → Act → World → Prop)
    (h0 : Φ (Array.replicate ops.size false) a w.drew)
    (hstep : ∀ (L : Array Bool) (a : Act) (w : World) (i : Nat) (o : Oper), L.size = ops.size → ops[i]? = some o → L.getD i true = false → (∀ e ∈ o.after, Region.binds .any e = true → L.getD e.on false = true) → Φ L a w → wpOpIn F n P ops Q i (Φ (L.setIfInBounds i true)) a w)
    (hend : ∀ a w, Φ (Array.replicate ops.size true) a w → Q .normal a w) : (Code.region id ops true).wpIn F n P Q a w :=
  wpIn_region_any hm (wpAnyIn_inv ht Φ hstep hend _ _ _ _ (by simp) (by simp) h0)
end
end Go.Proofs.YtkjahokffpihmaaDoor
