/- The reference's disk: Arm, Write. -/
import Derived.Test.YthmnloapjdalpaaK4
import Derived.Laws.OwnMore
namespace Go.Proofs.Ythmnloapjdalpaa
open Go.RowKit
set_option linter.unusedVariables false
set_option linter.unusedSimpArgs false
section
variable {P : Program}
theorem run_append_none_any {w : World} (base : Nat) (t ty e : TypeId) (i : TypeInfo) (size cp : Nat) (ht : P.underlying t = some (.slice e)) (hi : P.info? e = some i)
    (v : Value) (n : Nat) (xs : List Value) (hown : w.ownsRow base e size v n xs) :
    (Builtin.append_ #[t, t] ty #[v, .slice none 0 cp]).run P w = .ok v w := by
  rcases hown.2 with ⟨rfl, rfl⟩ | ⟨g, cap, cur, rfl, _, _, hnc, _⟩
  · simp [Builtin.append_, run_underlying ht, sizeOf, typeInfo, hi, Builtin.lenOf, Builtin.firstCells]
  · simp [Builtin.append_, run_underlying ht, sizeOf, typeInfo, hi, Builtin.lenOf, Builtin.firstCells, hnc, storeCells]
/-- append, of numbers that lie anywhere. -/
theorem wpList_append_zw (w : World) {ops : Array Oper} {rest : List Oper} {o : Oper} {a : Act} {Q : Exit → Act → World → Prop} (hgd : o.guard = none) (s x : Operand) (t : TypeId)
    (ho : o.op = .call { callee := .builtin .append, args := #[s, x], argTypes := #[t, t] })
    (base : Nat) (i : TypeInfo) (z : Value) (ht : P.underlying t = some (.slice 3)) (hi : P.info? 3 = some i) (hz : i.zero = some z)
    (hsize : i.size = 1) (hby : i.bytes = 8) (hzs : z.cells.size = 1)
    (v : Value) (n : Nat) (xs : List Value) (hs : a.eval s = v) (hown : w.ownsRow base 3 1 v n xs)
    (A : Option Addr) (m cap : Nat) (l : List Int) (hx : a.eval x = .slice A m cap) (hl : Zw w (.slice A m cap) l)
    (h63 : n + m ≤ maxLen) (hbytes : (n + m) * 8 ≤ 140737488355328) (hbase : base ≤ w.heap.size)
    (h : ∀ v' w', w'.ownsRow base 3 1 v' (n + m) (xs ++ ints l) → w.grownBy w' v.ownBlock → wpList P ops Q rest (a.put o.dst v') w') : wpList P ops Q (o :: rest) a w := by
  obtain ⟨hm, -, -⟩ := hl.len
  cases A with
  | none =>
    have h0 : l = [] := by
      obtain ⟨A', cap', e1, -, -, e4, -⟩ := hl
      injection e1 with e1 _ _
      exact e4 e1.symm
    subst h0
    have hm0 : m = 0 := hm
    subst hm0
    refine wpList_plain hgd fun K hK => ?_
    have hrun := run_append_none_any (P := P) (w := w) base t o.type 3 i 1 cap ht hi v n xs hown
    unfold Oper.wp
    simp [execOp, ho, resolve, invoke, builtin, hs, hx, hrun, Result.andThen]
    exact hK _ _ (h v w (by simpa [ints] using hown) ⟨rfl, rfl, rfl, Nat.le_refl _, fun _ _ _ => rfl⟩)
  | some ad =>
    exact wpList_append_own w hgd s x t ho base 3 i z 1 8 ht hi hz hsize hby hzs (by omega) v n xs hs hown _ m cap (ints l) hx (by rw [ints_len, hm, Nat.mul_one]) hl.news (ints_one l) h63 hbytes hbase fun v' w' a b _ => h v' w' a b
end
theorem Fr.own' {S : List Nat} {w0 w w' : World} {base : Nat} {e : TypeId} {size : Nat} {v : Value} {n : Nat} {xs : List Value} (h : Fr S w0 w) (hb : w0.heap.size ≤ base) (ho : w.ownsRow base e size v n xs) (hg : w.grownBy w' v.ownBlock) : Fr S w0 w' :=
  h.step (Fr.of_own hg) (fun k hk => .inr (Nat.le_trans hb (own_blk ho k hk).1))
set_option maxRecDepth 100000 in
theorem rArm_any (q : Nat) (d : Dk) (x : Int) (A : Option Addr) (n cap : Nat) (l : List Int) (w : World) (h : RD w q d) (hz : Zw w (.slice A n cap) l) (hfar : ∀ (j : Nat) (y : Int), l[j]? = some y → ∀ g o, A = some ⟨g, o, none⟩ → g ≠ q) (hb8 : n * 8 ≤ 140737488355328) (hx : x ≤ 9223372036854775807) :
    Calls Try.prog 82 #[ptr q, .int .i64 x, .slice A n cap] w fun e w' => e = .returned (.int .i64 (d.armE x)) ∧ RTurn q w (d.armS x l) w' := by
  obtain ⟨i0, hi0, hz0, hz1, hz2⟩ := info3 Try.info3
  obtain ⟨A0, cap0, cv, L, hb, hl, ha, hc, hA⟩ := h.form
  have c3 := hb.cell 3
  have c1 := hb.cell 1
  simp at c3 c1
  have HR := Lib.hid (RTurn.refl h)
  cases hd : d.dead with
  | true =>
    have E1 := Lib.hid (show d.armE x = 2 by unfold Dk.armE; rw [hd]; rfl)
    have E2 := Lib.hid (show d.armS x l = d by unfold Dk.armS; rw [E1.out]; rfl)
    rw [E1.out, E2.out]
    rw [hd] at c3
    clear h hz hb hl ha hc hA hd c1
    go_enter Try.func82, Try.ntmps82
    go_wp2
    go_ret
    exact ⟨rfl, HR.out⟩
  | false =>
    rw [hd] at c3
    by_cases hx0 : x < 0
    · have E1 := Lib.hid (show d.armE x = 1 by unfold Dk.armE; rw [hd, if_neg (by simp), if_pos hx0])
      have E2 := Lib.hid (show d.armS x l = d by unfold Dk.armS; rw [E1.out]; rfl)
      rw [E1.out, E2.out]
      clear h hz hb hl ha hc hA hd c1
      go_enter Try.func82, Try.ntmps82
      go_wp2
      go_ret
      exact ⟨rfl, HR.out⟩
    · have E1 := Lib.hid (show d.armE x = 0 by unfold Dk.armE; rw [hd, if_neg (by simp), if_neg hx0])
      have E2 := Lib.hid (show d.armS x l = { d with armed := x, ch := l } by unfold Dk.armS; rw [E1.out]; rfl)
      rw [E1.out, E2.out]
      obtain ⟨hn, hnc, hcm⟩ := hz.len
      have f1 := hb.frozen 1
      have hf1 : Fr [q] w ((w.setCell ⟨q, 1, none⟩ (.int .i64 x)).alloc (.cells #[] 3)) := ((Fr.refl [q] w).setCell (.inl (by simp)) _).alloc _
      have Hb1 := Lib.hid (((hb.set_ 1 (.int .i64 x)).alloc (.cells #[] 3)))
      have HZ := Lib.hid (show Zw ((w.setCell ⟨q, 1, none⟩ (.int .i64 x)).alloc (.cells #[] 3)) (.slice A n cap) l from by
        obtain ⟨A', cap', h1, h2, h3, h4, h5⟩ := hz
        refine ⟨A', cap', h1, h2, h3, h4, fun j y hj => ?_⟩
        obtain ⟨g, o, e1, e2, e3⟩ := h5 j y hj
        refine ⟨g, o, e1, by simp; omega, hf1.cell_some e3 ?_⟩
        simp
        exact hfar j y hj g o (by injection h1 with hA' _ _; rw [hA']; exact e1))
      have hm0 := World.ownsRow_made (base := w.heap.size) (e := 3) (size := 1) (w.setCell ⟨q, 1, none⟩ (.int .i64 x)) #[] 0 (by simp) (by simp [maxLen]) (by simp)
      have hsc : (w.setCell ⟨q, 1, none⟩ (.int .i64 x)).heap.size = w.heap.size := World.size_setCell _ _ _
      rw [show (Value.slice (some ⟨(w.setCell ⟨q, 1, none⟩ (.int .i64 x)).heap.size, 0, none⟩) 0 0) = .slice (some ⟨w.heap.size, 0, none⟩) 0 0 by rw [hsc]] at hm0
      have Hm0 := Lib.hid hm0
      have Hsc := Lib.hid (Nat.le_of_eq hsc)
      have Hf1 := Lib.hid ((Fr.refl [q] w).setCell (p := ⟨q, 1, none⟩) (.inl (by simp)) (.int .i64 x))
      have HE := Lib.hid (fun W v' (ho : W.ownsRow w.heap.size 3 1 v' n (ints l)) (hf : Fr [] (w.setCell ⟨q, 1, none⟩ (.int .i64 x)) W) =>
        (show RTurn q w { d with armed := x, ch := l } (W.setCell ⟨q, 2, none⟩ v') ∧ W.frozen? ⟨q, 2, none⟩ = false ∧ W.cell? ⟨q, 2, none⟩ = some cv from by
          have hb2 := (hb.set_ 1 (.int .i64 x)).fr hf (by simp)
          have hfw : Fr [q] w (W.setCell ⟨q, 2, none⟩ v') := (Hf1.out.trans (hf.mono (fun j hj => by cases hj))).setCell (.inl (by simp)) _
          have hzs : Zs W v' l := Zs.of_own ho hn
          have hb3 := hb2.set_ 2 v'
          refine ⟨⟨⟨⟨h.ok.n1, h.ok.n2, h.ok.un, by show 0 ≤ x; omega, hx⟩, _, v', L, hb3, (hl.fr hfw (hb.noO (by decide))), ha.to rfl rfl rfl, hzs.fr (S := [q]) ((Fr.refl [q] W).setCell (.inl (by simp)) _) ?_⟩, hfw⟩, hb2.frozen 2, by rw [hb2.cell]; rfl⟩
          intro j hj cs mk he
          simp at hj
          subst hj
          unfold Blk at hb2
          rw [hb2] at he
          injection he with he
          injection he with _ he _
          exact absurd he (by decide)))
      clear h hz hb hl ha hc hA hd hf1 hfar hm0 hsc hn
      go_enter Try.func82, Try.ntmps82
      go_wp2_with (at_builtin; go_must (refine wpList_append_zw _ rfl (.tmp 18) (.tmp 19) 42 rfl w.heap.size i0 (.int .i64 0) Try.underlying42 hi0 hz0 hz1 hz2 rfl _ 0 [] rfl Hm0.out A n cap l rfl HZ.out (by simp only [maxLen] at hcm ⊢; omega) (by omega) (by simp) ?_; intro v' w' ho' hg'; simp only [List.nil_append, Nat.zero_add] at ho'; obtain ⟨A', cp', rfl⟩ := own_shape ho'; have hf' := ((Fr.refl [] (w.setCell ⟨q, 1, none⟩ (.int .i64 x))).alloc (.cells #[] 3)).own' Hsc.out Hm0.out hg'; obtain ⟨hE1, hfz, hcx⟩ := HE.out _ _ ho' hf'; have HE2 := Lib.hid hE1; clear hE1 hf' hg' ho'))
      go_ret
      exact ⟨rfl, HE2.out⟩
end Go.Proofs.Ythmnloapjdalpaa
