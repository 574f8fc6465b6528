/- A map of labels to places that the call made; a Builder kept by what leaves the old blocks alone. -/
import Derived.Test.YtjijhjdemkgpgaaGreatDoorI18
import Derived.Test.YtjijhjdemkgpgaaGreatDoorA1
import Derived.Test.YtjijhjdemkgpgaaGreatDoorA2
import Derived.Maps.StringElems
import Derived.Maps.OwnOps
import Derived.StringKeys
namespace Go.Proofs.YtjijhjdemkgpgaaGreatDoor
open Go.RowKit Go.Maps
set_option linter.unusedVariables false
set_option linter.unusedSimpArgs false
set_option maxRecDepth 100000
theorem law9 : Keyed Tryz.prog 9 := string_keyed Tryz.underlying9
theorem zero3 (w : World) : (zeroValue 3).run Tryz.prog w = .ok (.int .i64 0) w := by kernel_rfl
theorem plain3 {H : Type} {a : Int} (h : (Lit.int .i64 a).wf = true) : plainElem (H := H) Tryz.prog 3 (.int .i64 a) = some (.lit (.int .i64 a), []) := plainElem_int Tryz.underlying3 h
theorem wfk {k : Nat} (h : k ≤ 1000000) : (Lit.int .i64 (k : Int)).wf = true := by
  refine WalkArith.wf_i64 ?_
  omega
/-- Block m is a map whose keys and values are those of pl. -/
def PMap (w : World) (m : Nat) (pl : Pl) : Prop :=
  ∃ D : DataW Unit, w.ownsMap Tryz.prog 9 (plainElem Tryz.prog 3) m pl.length D ∧ (∀ l, Maps.has D (.string l) = (findP pl l).isSome) ∧ ∀ l a, findP pl l = some a → ∀ z, D.atKey (.string l) z = .lit (.int .i64 (a : Int))
theorem PMap.lt {w : World} {m : Nat} {pl : Pl} (h : PMap w m pl) : m < w.heap.size := by
  obtain ⟨D, ho, -⟩ := h
  exact ho.lt
theorem PMap.fr {w w' : World} {S : List Nat} {m : Nat} {pl : Pl} (h : PMap w m pl) (hf : Fr S w w') (hm : m ∉ S) : PMap w' m pl := by
  obtain ⟨D, ho, h1⟩ := h
  refine ⟨D, ?_, h1⟩
  have hb := hf.block m ho.lt hm
  obtain ⟨es, clock, hb0, r⟩ := ho
  exact ⟨es, clock, hb.trans hb0, r⟩
theorem PMap.made {w : World} : PMap (w.alloc (.map #[] 0)) w.heap.size [] :=
  ⟨.map [], (World.ownsMap_made w _ 9 _), fun l => rfl, fun l a h => by cases h⟩
theorem keyLitS (l : List UInt8) : WideAt.IsKeyLit (.string l) := by trivial
theorem litS_ne {l l' : List UInt8} (h : l' ≠ l) : (Lit.string l') ≠ .string l := by
  intro e
  injection e with e
  exact h e
theorem PMap.put {w : World} {m : Nat} {pl : Pl} (h : PMap w m pl) (hn : pl.length ≤ 1000000) (l : List UInt8) (hl : l.length ≤ 1000000) {a : Nat} (ha : a ≤ 1000000) :
    ∃ w', (Instr.mapUpdate 53 (.map (some m)) (.string ⟨l.toArray⟩) (.int .i64 (a : Int))).run Tryz.prog w = .ok () w' ∧ PMap w' m ((l, a) :: pl) ∧ Fr [m] w w' := by
  obtain ⟨D, ho, h1, h2⟩ := h
  have hk : keyOf Tryz.prog 9 (.string ⟨l.toArray⟩) = some (.string l) := _root_.Go.WideMaps.keyOf_string_mk Tryz.underlying9 (s := ⟨l.toArray⟩) (by show l.length ≤ maxLen; unfold maxLen; omega)
  obtain ⟨w', hr, ho', ht'⟩ := ho.store law9 Tryz.underlying53 (by unfold maxLen; omega) hk (plain3 (wfk ha))
  have hD := ho.isMap
  refine ⟨w', hr, ⟨_, ho', fun l' => ?_, fun l' b hb z => ?_⟩, ?_⟩
  · rw [findP_cons]
    by_cases e : l = l'
    · subst e
      rw [has_put_same hD (keyLitS _), if_pos rfl]
      rfl
    · rw [has_put_other (litS_ne (Ne.symm e)), h1, if_neg e]
  · rw [findP_cons] at hb
    by_cases e : l = l'
    · subst e
      rw [if_pos rfl] at hb
      injection hb with hb
      rw [atKey_put_same hD (keyLitS _), hb]
    · rw [if_neg e] at hb
      rw [atKey_put_other (litS_ne (Ne.symm e))]
      exact h2 l' b hb z
  · exact Fr.of_grown ht'.grown (fun i hi => by cases hi; simp)
theorem PMap.look {w : World} {m : Nat} {pl : Pl} (h : PMap w m pl) (l : List UInt8) (hl : l.length ≤ 1000000) :
    (Instr.lookup 53 (.map (some m)) (.string ⟨l.toArray⟩) true).run Tryz.prog w = .ok (.tuple #[.int .i64 (((findP pl l).getD 0 : Nat) : Int), .bool (findP pl l).isSome]) w := by
  obtain ⟨D, ho, h1, h2⟩ := h
  have hk : keyOf Tryz.prog 9 (.string ⟨l.toArray⟩) = some (.string l) := _root_.Go.WideMaps.keyOf_string_mk Tryz.underlying9 (s := ⟨l.toArray⟩) (by show l.length ≤ maxLen; unfold maxLen; omega)
  have hz := plain3 (H := Unit) (a := 0) (by decide)
  obtain ⟨v, ps, hr, hv⟩ := ho.look_ok law9 Tryz.underlying53 (zero3 w) hz hk
  obtain ⟨s, rfl, hs, hw⟩ := plainElem_int_inv Tryz.underlying3 hv
  rw [hr, h1]
  cases hf : findP pl l with
  | none =>
    rw [atKey_of_not_has (by rw [h1, hf]; rfl)] at hs
    have h5 := congrArg Prod.fst hs
    simp only at h5
    have h5 := (Lit.int.inj (DataW.lit.inj h5)).2
    rw [← h5]
    rfl
  | some a =>
    rw [h2 l a hf] at hs
    have h5 := congrArg Prod.fst hs
    simp only at h5
    have h5 := (Lit.int.inj (DataW.lit.inj h5)).2
    rw [← h5]
    rfl
abbrev Bld (w : World) (b : Nat) (out : List UInt8) : Prop := Lib.IsBuilder 60 5 b b (Lib.byteCells out) w
theorem BuilderAt.fr {T e : TypeId} {B b : Nat} {p : Value} {bs : List Value} {w w' : World} (h : Lib.BuilderAt T e B b p bs w) (hf : Fr [] w w') : Lib.BuilderAt T e B b p bs w' := by
  obtain ⟨hB, v, hb, ho, hne⟩ := h
  have hlt : b < w.heap.size := (Array.getElem?_eq_some_iff.1 hb).1
  refine ⟨hB, v, (hf.block b hlt (by simp)).trans hb, ?_, hne⟩
  exact own_fr ho hf (by simp)
theorem Bld.fr {w w' : World} {b : Nat} {out : List UInt8} (h : Bld w b out) (hf : Fr [] w w') : Bld w' b out := by
  rcases h with h | h
  · exact Or.inl (BuilderAt.fr h hf)
  · exact Or.inr (BuilderAt.fr h hf)
end Go.Proofs.YtjijhjdemkgpgaaGreatDoor
