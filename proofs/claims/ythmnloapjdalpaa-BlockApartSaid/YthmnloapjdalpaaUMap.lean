/- The map of what is unsafe: which sector, which text. -/
import Derived.Test.YthmnloapjdalpaaDk
import Derived.Test.YthmnloapjdalpaaRows
import Derived.Maps.StringElems
import Derived.Maps.OwnOps
import Derived.Lib.Hide
namespace Go.Proofs.Ythmnloapjdalpaa
open Go.RowKit Go.Maps
set_option linter.unusedVariables false
theorem law3 : Keyed Try.prog 3 := int_keyed Try.underlying3
theorem zero9 (w : World) : (zeroValue 9).run Try.prog w = .ok (.string ⟨#[]⟩) w := by kernel_rfl
theorem plain9 {H : Type} : plainElem (H := H) Try.prog 9 (.string ⟨#[]⟩) = some (.lit (.string (⟨#[]⟩ : ByteArray).data.toList), []) := plainElem_string Try.underlying9 (Nat.zero_le _)
theorem wfk {k : Nat} (h : k ≤ 4096) : (Lit.int .i64 (k : Int)).wf = true := by
  refine WalkArith.wf_i64 ?_
  omega
theorem keyk {k : Nat} (h : k ≤ 4096) : keyOf Try.prog 3 (.int .i64 (k : Int)) = some (.int .i64 (k : Int)) := keyOf_int_mk Try.underlying3 (wfk h)
theorem list_string {s t : ByteArray} (h : s.data.toList = t.data.toList) : s = t := by
  obtain ⟨⟨s⟩⟩ := s
  obtain ⟨⟨t⟩⟩ := t
  exact congrArg _ (congrArg _ h)
/-- Block m is the map of what is unsafe. -/
def UMap (w : World) (m n : Nat) (u : Nat → Option ByteArray) : Prop :=
  n ≤ 4096 ∧ ∃ D : DataW Unit, w.ownsMap Try.prog 3 (plainElem Try.prog 9) m n D ∧ (∀ kl, Maps.has D kl = true → ∃ k, k < n ∧ kl = .int .i64 (k : Int)) ∧
    (∀ k, Maps.has D (.int .i64 ((k : Nat) : Int)) = (u k).isSome) ∧ ∀ k t, u k = some t → t.size ≤ maxLen ∧ ∀ z, D.atKey (.int .i64 ((k : Nat) : Int)) z = .lit (.string t.data.toList)
theorem UMap.lt {w : World} {m n : Nat} {u : Nat → Option ByteArray} (h : UMap w m n u) : m < w.heap.size := by
  obtain ⟨hn, D, ho, -⟩ := h
  exact ho.lt
theorem UMap.fr {w w' : World} {S : List Nat} {m n : Nat} {u : Nat → Option ByteArray} (h : UMap w m n u) (hf : Fr S w w') (hm : m ∉ S) : UMap w' m n u := by
  obtain ⟨hn, D, ho, h1⟩ := h
  refine ⟨hn, D, ?_, h1⟩
  have hb := hf.block m ho.lt hm
  obtain ⟨es, clock, hb0, r⟩ := ho
  exact ⟨es, clock, hb.trans hb0, r⟩
theorem UMap.drewN {w : World} {m n : Nat} {u : Nat → Option ByteArray} (h : UMap w m n u) (j : Nat) : UMap (w.drewN j) m n u := h.fr (S := []) ((Fr.refl [] w).drewN j) (by simp)
theorem UMap.not_cells {w : World} {m n : Nat} {u : Nat → Option ByteArray} (h : UMap w m n u) {cs : Array Value} {t : TypeId} {mk : Nat × Nat} : w.heap[m]? ≠ some (.cells cs t mk) := by
  obtain ⟨hn, D, ⟨es, clock, hb, -⟩, -⟩ := h
  rw [hb]
  intro e
  cases e
theorem UMap.made {w : World} {n : Nat} (hn : n ≤ 4096) : UMap (w.alloc (.map #[] 0)) w.heap.size n (fun _ => none) :=
  ⟨hn, .map [], (World.ownsMap_made w _ 3 _).mono (Nat.zero_le _), fun kl h => (by cases h), fun k => rfl, fun k t h => (by cases h)⟩
open Classical in
/-- Keys that differ, all below n, are n at most. -/
theorem few_keys : ∀ (n : Nat) (l : List Lit), l.Pairwise (fun a b => a ≠ b) → (∀ a ∈ l, ∃ k, k < n ∧ a = .int .i64 ((k : Nat) : Int)) → l.length ≤ n
  | 0, [], _, _ => Nat.le_refl _
  | 0, a :: l, _, h => by
    obtain ⟨k, hk, -⟩ := h a (by simp)
    omega
  | n + 1, l, hp, h => by
    have h1 := few_keys n (l.filter fun a => !decide (a = .int .i64 ((n : Nat) : Int))) (hp.filter _) (fun a ha => by
      obtain ⟨ha1, ha2⟩ := List.mem_filter.1 ha
      obtain ⟨k, hk, rfl⟩ := h a ha1
      refine ⟨k, ?_, rfl⟩
      by_cases e : k = n
      · subst e
        simp at ha2
      · omega)
    have h2 : ∀ (l : List Lit) (x : Lit), l.Pairwise (fun a b => a ≠ b) → l.length ≤ (l.filter fun a => !decide (a = x)).length + 1 := by
      intro l x hp
      induction l with
      | nil => simp
      | cons a l ih =>
        obtain ⟨p1, p2⟩ := List.pairwise_cons.1 hp
        by_cases e : a = x
        · subst e
          have h3 : (l.filter fun b => !decide (b = a)) = l := List.filter_eq_self.2 (fun b hb => by
            have := p1 b hb
            simp [Ne.symm this])
          rw [List.filter_cons]
          simp [h3]
        · have := ih p2
          rw [List.filter_cons]
          simp [e]
          exact this
    have := h2 l (.int .i64 ((n : Nat) : Int)) hp
    omega
theorem size_few {w : World} {b n m : Nat} {D : DataW Unit} (h : w.ownsMap Try.prog 3 (plainElem Try.prog 9) b m D) (hk : ∀ kl, Maps.has D kl = true → ∃ k, k < n ∧ kl = .int .i64 (k : Int)) : w.ownsMap Try.prog 3 (plainElem Try.prog 9) b n D := by
  obtain ⟨es, hD, hp, hkl⟩ := h.entries law3
  have h1 := few_keys n (es.map (·.1)) (by
    rw [List.pairwise_map]
    exact hp) (fun a ha => by
    obtain ⟨p, hp1, rfl⟩ := List.mem_map.1 ha
    refine hk p.1 ?_
    rw [hD]
    exact List.any_eq_true.2 ⟨p, hp1, WideAt.sameKey_self (hkl p hp1)⟩)
  rw [List.length_map] at h1
  obtain ⟨ms, clock, hb, F, hs, hD'⟩ := h
  refine ⟨ms, clock, hb, F, ?_, hD'⟩
  rw [hD] at hD'
  injection hD' with e
  rw [e, length_sorted, List.length_map] at h1
  simpa using h1
theorem lit_ne {j k : Nat} (h : j ≠ k) : (Lit.int .i64 (j : Int)) ≠ .int .i64 (k : Int) := by
  intro e
  injection e with _ e
  omega
theorem keyLit (k : Int) : WideAt.IsKeyLit (.int .i64 k) := by trivial
theorem UMap.put {w : World} {m n : Nat} {u : Nat → Option ByteArray} (h : UMap w m n u) (T : TypeId) (hT : Try.prog.underlying T = some (.map 3 9)) {k : Nat} (hk : k < n) {t : ByteArray} (ht : t.size ≤ maxLen) :
    ∃ w', (Instr.mapUpdate T (.map (some m)) (.int .i64 (k : Int)) (.string t)).run Try.prog w = .ok () w' ∧ UMap w' m n (fun j => if j = k then some t else u j) ∧ Fr [m] w w' := by
  obtain ⟨hn, D, ho, h1, h2, h3⟩ := h
  obtain ⟨w', hr, ho', ht'⟩ := ho.store law3 hT (by unfold maxLen; omega) (keyk (by omega : k ≤ 4096)) (plainElem_string Try.underlying9 ht)
  have hD := ho.isMap
  have hkeys : ∀ kl, Maps.has (D.put (.int .i64 (k : Int)) (.lit (.string t.data.toList))) kl = true → ∃ k, k < n ∧ kl = .int .i64 (k : Int) := by
    intro kl hkl
    by_cases e : kl = .int .i64 (k : Int)
    · exact ⟨k, hk, e⟩
    · rw [has_put_other e] at hkl
      exact h1 kl hkl
  refine ⟨w', hr, ⟨hn, _, size_few ho' hkeys, hkeys, fun j => ?_, fun j s hj => ?_⟩, ?_⟩
  · by_cases e : j = k
    · subst e
      rw [has_put_same hD (keyLit _)]
      simp
    · rw [has_put_other (lit_ne e), h2 j]
      simp only [if_neg e]
  · by_cases e : j = k
    · subst e
      simp only [if_pos] at hj
      injection hj with hj
      subst hj
      exact ⟨ht, fun z => atKey_put_same hD (keyLit _) _ _⟩
    · simp only [if_neg e] at hj
      obtain ⟨a, b⟩ := h3 j s hj
      exact ⟨a, fun z => by rw [atKey_put_other (lit_ne e)]; exact b z⟩
  · exact Fr.of_grown ht'.grown (fun i hi => by cases hi; simp)
theorem UMap.del {w : World} {m n : Nat} {u : Nat → Option ByteArray} (h : UMap w m n u) (T : TypeId) (hT : Try.prog.underlying T = some (.map 3 9)) {k : Nat} (hk : k < n) (ty : TypeId) :
    ∃ w', (Builtin.delete_ #[T, 3] ty #[.map (some m), .int .i64 (k : Int)]).run Try.prog w = .ok (.tuple #[]) w' ∧ UMap w' m n (fun j => if j = k then none else u j) ∧ Fr [m] w w' := by
  obtain ⟨hn, D, ho, h1, h2, h3⟩ := h
  obtain ⟨w', hr, ho', ht'⟩ := ho.drop law3 hT (keyk (by omega : k ≤ 4096)) ty
  refine ⟨w', hr, ⟨hn, _, ho', fun kl hkl => ?_, fun j => ?_, fun j s hj => ?_⟩, ?_⟩
  · by_cases e : kl = .int .i64 (k : Int)
    · exact ⟨k, hk, e⟩
    · rw [has_del_other e] at hkl
      exact h1 kl hkl
  · by_cases e : j = k
    · subst e
      rw [has_del_same]
      simp
    · rw [has_del_other (lit_ne e), h2 j]
      simp only [if_neg e]
  · by_cases e : j = k
    · subst e
      simp only [if_pos] at hj
      cases hj
    · simp only [if_neg e] at hj
      obtain ⟨a, b⟩ := h3 j s hj
      exact ⟨a, fun z => by rw [atKey_del_other (lit_ne e)]; exact b z⟩
  · exact Fr.of_grown ht'.grown (fun i hi => by cases hi; simp)
theorem UMap.look_some {w : World} {m n : Nat} {u : Nat → Option ByteArray} (h : UMap w m n u) (T : TypeId) (hT : Try.prog.underlying T = some (.map 3 9)) {k : Nat} {t : ByteArray} (hk : u k = some t) :
    (Instr.lookup T (.map (some m)) (.int .i64 (k : Int)) true).run Try.prog w = .ok (.tuple #[.string t, .bool true]) w := by
  obtain ⟨hn, D, ho, h1, h2, h3⟩ := h
  have hh : Maps.has D (.int .i64 ((k : Nat) : Int)) = true := by rw [h2, hk]; rfl
  obtain ⟨k', hk', he⟩ := h1 _ hh
  have he := (Lit.int.inj he).2
  have hk4 : k ≤ 4096 := by omega
  have hz9 := plain9 (H := Unit)
  have hkk := keyk hk4
  obtain ⟨v, ps, hr, hv⟩ := ho.look_ok law3 hT (zero9 w) hz9 hkk
  obtain ⟨s, rfl, hs, hw⟩ := plainElem_string_inv Try.underlying9 hv
  have h4 := (h3 k t hk).2 (.lit (.string (⟨#[]⟩ : ByteArray).data.toList))
  have h5 := congrArg Prod.fst hs
  simp only at h5
  rw [h4] at h5
  have h5 := Lit.string.inj (DataW.lit.inj h5)
  rw [hr, hh, list_string h5]
theorem UMap.look_none {w : World} {m n : Nat} {u : Nat → Option ByteArray} (h : UMap w m n u) (T : TypeId) (hT : Try.prog.underlying T = some (.map 3 9)) {k : Nat} (hkn : k < n) (hk : u k = none) :
    (Instr.lookup T (.map (some m)) (.int .i64 (k : Int)) true).run Try.prog w = .ok (.tuple #[.string ⟨#[]⟩, .bool false]) w := by
  obtain ⟨hn, D, ho, h1, h2, h3⟩ := h
  have hh : Maps.has D (.int .i64 ((k : Nat) : Int)) = false := by rw [h2, hk]; rfl
  have hk4 : k ≤ 4096 := by omega
  have hz9 := plain9 (H := Unit)
  have hkk := keyk hk4
  obtain ⟨v, ps, hr, hv⟩ := ho.look_ok law3 hT (zero9 w) hz9 hkk
  obtain ⟨s, rfl, hs, hw⟩ := plainElem_string_inv Try.underlying9 hv
  rw [atKey_of_not_has hh] at hs
  have h5 := congrArg Prod.fst hs
  simp only at h5
  have h5 := Lit.string.inj (DataW.lit.inj h5)
  have h6 : (⟨#[]⟩ : ByteArray) = s := list_string h5
  rw [hr, hh, ← h6]
end Go.Proofs.Ythmnloapjdalpaa
