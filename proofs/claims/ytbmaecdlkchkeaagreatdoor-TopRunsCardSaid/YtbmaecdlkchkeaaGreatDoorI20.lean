/- strings.Builder: copyCheck, WriteString, of this program. A map of labels to places that the call made; a Builder kept by what leaves the old blocks alone. -/
import Derived.Test.YtbmaecdlkchkeaaGreatDoorLib2
import Derived.Test.YtbmaecdlkchkeaaGreatDoorSh
import Derived.Lib.AppendStr
import Derived.Lib.UnsafeStr
import Derived.Laws.Externs
import Derived.Test.YtbmaecdlkchkeaaGreatDoorLb
import Derived.Maps.StringElems
import Derived.Maps.OwnOps
import Derived.StringKeys
namespace Go.Proofs.YtbmaecdlkchkeaaGreatDoor
open Go.RowKit
set_option linter.unusedVariables false
set_option linter.unusedSimpArgs false
set_option maxRecDepth 100000
theorem lies_builder : True := trivial
theorem copyCheck_used (b : Nat) (w : World) (h0 : w.cell? ⟨b, 0, none⟩ = some (.pointer (some ⟨b, 0, none⟩))) : Calls Tryz.prog 55 #[.pointer (some ⟨b, 0, none⟩)] w fun e w' => e = .returned (.tuple #[]) ∧ w' = w := by
  obtain ⟨j, hj, _⟩ := Option.map_eq_some_iff.1 Tryz.Builder_Extra_169.sizeBuilder
  go_enter Tryz.func55, Tryz.ntmps55
  go_wp2
  rw [Lib.run_neq_ptr_same w _ Tryz.underlying63 hj]
  go_wp2
  go_end0
  exact ⟨rfl, rfl⟩
theorem copyCheck_fresh (b : Nat) (w : World) (h0 : w.cell? ⟨b, 0, none⟩ = some (.pointer none)) (hsh : w.shape? b = some (66, 2)) (hfz : w.frozen? ⟨b, 0, none⟩ = false) : Calls Tryz.prog 55 #[.pointer (some ⟨b, 0, none⟩)] w fun e w' => e = .returned (.tuple #[]) ∧ w' = w.setCell ⟨b, 0, none⟩ (.pointer (some ⟨b, 0, none⟩)) := by
  obtain ⟨j, hj, hjs⟩ := Option.map_eq_some_iff.1 Tryz.Builder_Extra_169.sizeBuilder
  go_enter Tryz.func55, Tryz.ntmps55
  go_wp2
  rw [Lib.run_to_unsafe w ⟨b, 0, none⟩ Tryz.underlying63 Tryz.underlying146 hj (by rw [hjs]; decide) hsh (Nat.zero_lt_succ 1)]
  simp only [Result.andThen]
  rw [Oper.upon_value]
  go_wp2
  rw [run_callFunc_extern Tryz.func94 (by kernel_rfl) (by kernel_rfl) (by kernel_rfl) (e := Extern.AbiNoEscape.same) (by kernel_rfl)]
  rw [Lib.run_noEscape]
  simp only [Result.andThen]
  rw [Oper.upon_value]
  go_wp2
  rw [Lib.run_from_unsafe w ⟨b, 0, none⟩ Tryz.underlying146 Tryz.underlying63 hj hsh Tryz.Builder_Extra_169.liesBuilder]
  simp only [Result.andThen]
  rw [Oper.upon_value]
  go_wp2
  go_end0
  exact ⟨rfl, rfl⟩
theorem copyCheck_any (B b : Nat) (bs : List Value) (w : World) (h : Lib.IsBuilder 66 5 B b bs w) : Calls Tryz.prog 55 #[.pointer (some ⟨b, 0, none⟩)] w fun e w' => e = .returned (.tuple #[]) ∧ (Lib.BuilderAt 66 5 B b (.pointer (some ⟨b, 0, none⟩)) bs w' ∧ Below B w w') := by
  rcases h with h | h
  · refine (copyCheck_fresh b w h.cell0 h.shape h.frozen0).mono ?_
    rintro e w' ⟨rfl, rfl⟩
    exact ⟨rfl, h.used _, (Below.refl B w).setCell (p := ⟨b, 0, none⟩) h.1 _⟩
  · refine (copyCheck_used b w h.cell0).mono ?_
    rintro e w' ⟨rfl, rfl⟩
    exact ⟨rfl, h, Below.refl B _⟩
set_option maxHeartbeats 2000000 in
theorem WriteString_any (B b : Nat) (bs : List Value) (s : ByteArray) (w : World) (h : Lib.IsBuilder 66 5 B b bs w) (hlen : bs.length + s.size ≤ 140737488355328) (hBw : B ≤ w.heap.size) :
    Calls Tryz.prog 23 #[.pointer (some ⟨b, 0, none⟩), .string s] w fun e w' => e = .returned (.tuple #[.int .i64 s.size, .nilIface]) ∧ (Lib.BuilderAt 66 5 B b (.pointer (some ⟨b, 0, none⟩)) (bs ++ Lib.strCells s) w' ∧ Below B w w') := by
  obtain ⟨i0, hi, hz0, hz1, hz2⟩ := info_parts Tryz.Builder_Extra_169.infoByte
  have HC := Lib.hid (copyCheck_any B b bs w h)
  clear h
  go_enter Tryz.func23, Tryz.ntmps23
  go_wp2_with (go_at_call 55; refine HC.out.mono ?_)
  rintro e w1 ⟨rfl, h1, hb1⟩
  obtain ⟨hB, v, hbk, hown, hne⟩ := h1
  have c0 : w1.cell? ⟨b, 0, none⟩ = some (.pointer (some ⟨b, 0, none⟩)) := by rw [Lib.cell_of_heap hbk]; rfl
  have c1 : w1.cell? ⟨b, 1, none⟩ = some v := by rw [Lib.cell_of_heap hbk]; rfl
  go_wp2_with (at_builtin; refine Lib.wpList_append_own_string _ rfl _ _ 64 9 rfl B 5 i0 Tryz.underlying64 Tryz.underlying9 hi hz0 hz1 hz2 _ _ _ rfl hown s rfl ?c3 ?c4 ?c5 ?_)
  case c3 => unfold maxLen; omega
  case c4 => omega
  case c5 => have := hb1.size; omega
  intro v' w2 hown' hgrow _
  have hlt : b < w1.heap.size := by
    rcases Nat.lt_or_ge b w1.heap.size with h' | h'
    · exact h'
    · simp [Array.getElem?_eq_none h'] at hbk
  have hb2 : w2.heap[b]? = some (.cells #[.pointer (some ⟨b, 0, none⟩), v] 66 (0, 0)) := by
    rw [hgrow.block b hlt (fun e => hne e.symm)]
    exact hbk
  have d0 : w2.cell? ⟨b, 0, none⟩ = some (.pointer (some ⟨b, 0, none⟩)) := by rw [Lib.cell_of_heap hb2]; rfl
  have d1 : w2.cell? ⟨b, 1, none⟩ = some v := by rw [Lib.cell_of_heap hb2]; rfl
  have f1 : w2.frozen? ⟨b, 1, none⟩ = false := Lib.frozen_of_heap hb2 1
  obtain ⟨ao, n', cap, rfl⟩ : ∃ ao n' cap, v' = .slice ao n' cap := by
    rcases hown'.2 with ⟨hv, _⟩ | ⟨g, cap, cur, hv, _⟩
    · exact ⟨_, _, _, hv⟩
    · exact ⟨_, _, _, hv⟩
  go_wp2
  go_ret2
  refine ⟨rfl, ?_, ?_⟩
  · exact Lib.BuilderAt.put (T := 66) (e := 5) hB hb2 (bs' := bs ++ Lib.strCells s) (by simpa [Lib.strCells_length] using hown') (by decide)
  · exact (hb1.grown hgrow (by have := hb1.size; omega) (fun k hk => (hown.lt k hk).1)).setCell (p := ⟨b, 1, none⟩) hB _
end Go.Proofs.YtbmaecdlkchkeaaGreatDoor
namespace Go.Proofs.YtbmaecdlkchkeaaGreatDoor
open Go.RowKit Go.Maps
set_option linter.unusedVariables false
set_option linter.unusedSimpArgs false
set_option maxRecDepth 100000
theorem law9 : Keyed Tryz.prog 9 := string_keyed Tryz.underlying9
theorem zero3 (w : World) : (zeroValue 3).run Tryz.prog w = .ok (.int .i64 0) w := by kernel_rfl
theorem plain3 {H : Type} {a : Int} (h : (Lit.int .i64 a).wf = true) : plainElem (H := H) Tryz.prog 3 (.int .i64 a) = some (.lit (.int .i64 a), []) := plainElem_int Tryz.underlying3 h
theorem wfk {k : Nat} (h : k ≤ 1000000) : (Lit.int .i64 (k : Int)).wf = true := by
  refine WalkArith.wf_i64 ?_
  omega
/-- Block m is a map whose keys and values are those of pl. -/
def PMap (w : World) (m : Nat) (pl : Pl) : Prop :=
  ∃ D : DataW Unit, w.ownsMap Tryz.prog 9 (plainElem Tryz.prog 3) m pl.length D ∧ (∀ l, Maps.has D (.string l) = (findP pl l).isSome) ∧ ∀ l a, findP pl l = some a → ∀ z, D.atKey (.string l) z = .lit (.int .i64 (a : Int))
theorem PMap.lt {w : World} {m : Nat} {pl : Pl} (h : PMap w m pl) : m < w.heap.size := by
  obtain ⟨D, ho, -⟩ := h
  exact ho.lt
theorem PMap.fr {w w' : World} {S : List Nat} {m : Nat} {pl : Pl} (h : PMap w m pl) (hf : Fr S w w') (hm : m ∉ S) : PMap w' m pl := by
  obtain ⟨D, ho, h1⟩ := h
  refine ⟨D, ?_, h1⟩
  have hb := hf.block m ho.lt hm
  obtain ⟨es, clock, hb0, r⟩ := ho
  exact ⟨es, clock, hb.trans hb0, r⟩
theorem PMap.made {w : World} : PMap (w.alloc (.map #[] 0)) w.heap.size [] :=
  ⟨.map [], (World.ownsMap_made w _ 9 _), fun l => rfl, fun l a h => by cases h⟩
theorem keyLitS (l : List UInt8) : WideAt.IsKeyLit (.string l) := by trivial
theorem litS_ne {l l' : List UInt8} (h : l' ≠ l) : (Lit.string l') ≠ .string l := by
  intro e
  injection e with e
  exact h e
theorem PMap.put {w : World} {m : Nat} {pl : Pl} (h : PMap w m pl) (hn : pl.length ≤ 1000000) (l : List UInt8) (hl : l.length ≤ 1000000) {a : Nat} (ha : a ≤ 1000000) :
    ∃ w', (Instr.mapUpdate 53 (.map (some m)) (.string ⟨l.toArray⟩) (.int .i64 (a : Int))).run Tryz.prog w = .ok () w' ∧ PMap w' m ((l, a) :: pl) ∧ Fr [m] w w' := by
  obtain ⟨D, ho, h1, h2⟩ := h
  have hk : keyOf Tryz.prog 9 (.string ⟨l.toArray⟩) = some (.string l) := _root_.Go.WideMaps.keyOf_string_mk Tryz.underlying9 (s := ⟨l.toArray⟩) (by show l.length ≤ maxLen; unfold maxLen; omega)
  obtain ⟨w', hr, ho', ht'⟩ := ho.store law9 Tryz.underlying53 (by unfold maxLen; omega) hk (plain3 (wfk ha))
  have hD := ho.isMap
  refine ⟨w', hr, ⟨_, ho', fun l' => ?_, fun l' b hb z => ?_⟩, ?_⟩
  · rw [findP_cons]
    by_cases e : l = l'
    · subst e
      rw [has_put_same hD (keyLitS _), if_pos rfl]
      rfl
    · rw [has_put_other (litS_ne (Ne.symm e)), h1, if_neg e]
  · rw [findP_cons] at hb
    by_cases e : l = l'
    · subst e
      rw [if_pos rfl] at hb
      injection hb with hb
      rw [atKey_put_same hD (keyLitS _), hb]
    · rw [if_neg e] at hb
      rw [atKey_put_other (litS_ne (Ne.symm e))]
      exact h2 l' b hb z
  · exact Fr.of_grown ht'.grown (fun i hi => by cases hi; simp)
theorem PMap.look {w : World} {m : Nat} {pl : Pl} (h : PMap w m pl) (l : List UInt8) (hl : l.length ≤ 1000000) :
    (Instr.lookup 53 (.map (some m)) (.string ⟨l.toArray⟩) true).run Tryz.prog w = .ok (.tuple #[.int .i64 (((findP pl l).getD 0 : Nat) : Int), .bool (findP pl l).isSome]) w := by
  obtain ⟨D, ho, h1, h2⟩ := h
  have hk : keyOf Tryz.prog 9 (.string ⟨l.toArray⟩) = some (.string l) := _root_.Go.WideMaps.keyOf_string_mk Tryz.underlying9 (s := ⟨l.toArray⟩) (by show l.length ≤ maxLen; unfold maxLen; omega)
  have hz := plain3 (H := Unit) (a := 0) (by decide)
  obtain ⟨v, ps, hr, hv⟩ := ho.look_ok law9 Tryz.underlying53 (zero3 w) hz hk
  obtain ⟨s, rfl, hs, hw⟩ := plainElem_int_inv Tryz.underlying3 hv
  rw [hr, h1]
  cases hf : findP pl l with
  | none =>
    rw [atKey_of_not_has (by rw [h1, hf]; rfl)] at hs
    have h5 := congrArg Prod.fst hs
    simp only at h5
    have h5 := (Lit.int.inj (DataW.lit.inj h5)).2
    rw [← h5]
    rfl
  | some a =>
    rw [h2 l a hf] at hs
    have h5 := congrArg Prod.fst hs
    simp only at h5
    have h5 := (Lit.int.inj (DataW.lit.inj h5)).2
    rw [← h5]
    rfl
abbrev Bld (w : World) (b : Nat) (out : List UInt8) : Prop := Lib.IsBuilder 66 5 b b (Lib.byteCells out) w
theorem BuilderAt.fr {T e : TypeId} {B b : Nat} {p : Value} {bs : List Value} {w w' : World} (h : Lib.BuilderAt T e B b p bs w) (hf : Fr [] w w') : Lib.BuilderAt T e B b p bs w' := by
  obtain ⟨hB, v, hb, ho, hne⟩ := h
  have hlt : b < w.heap.size := (Array.getElem?_eq_some_iff.1 hb).1
  refine ⟨hB, v, (hf.block b hlt (by simp)).trans hb, ?_, hne⟩
  exact own_fr ho hf (by simp)
theorem Bld.fr {w w' : World} {b : Nat} {out : List UInt8} (h : Bld w b out) (hf : Fr [] w w') : Bld w' b out := by
  rcases h with h | h
  · exact Or.inl (BuilderAt.fr h hf)
  · exact Or.inr (BuilderAt.fr h hf)
end Go.Proofs.YtbmaecdlkchkeaaGreatDoor
