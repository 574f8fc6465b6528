/- The reference's disk: Read, goes, die, Crash, Revive, Arm. The reference's disk: Arm, Write. -/
import Derived.Test.YthmnloapjdalpaaK3
import Derived.Laws.OwnMore
namespace Go.Proofs.Ythmnloapjdalpaa
open Go.RowKit
set_option linter.unusedVariables false
set_option linter.unusedSimpArgs false
theorem rRead_any (q : Nat) (d : Dk) (i : Int) (w : World) (h : RD w q d) : Calls Try.prog 94 #[ptr q, .int .i64 i] w fun e w' => e = .returned (.tuple #[.string (d.readV i), .int .i64 (d.readE i)]) ∧ w = w' := by
  obtain ⟨A, cap, cv, l, hb, hl, ha, hc, hA⟩ := h.form
  have c0 := hb.cell 0
  have c3 := hb.cell 3
  simp at c0 c3
  obtain ⟨N, hN⟩ : ∃ N, d.n = N := ⟨_, rfl⟩
  cases hd : d.dead with
  | true =>
    have E1 := Lib.hid (show d.readE i = 2 by unfold Dk.readE; rw [hd]; rfl)
    have E2 := Lib.hid (show d.readV i = ⟨#[]⟩ by unfold Dk.readV; rw [E1.out]; rfl)
    rw [E1.out, E2.out]
    rw [hd] at c3
    clear h hb hl ha hc hA c0
    go_enter Try.func94, Try.ntmps94
    go_wp2
    go_ret2
    exact ⟨rfl, rfl⟩
  | false =>
    rw [hd] at c3
    by_cases h1 : i < 0
    · have E1 := Lib.hid (show d.readE i = 71 by unfold Dk.readE atE; rw [hd, if_neg (by simp), if_pos (.inl h1)])
      have E2 := Lib.hid (show d.readV i = ⟨#[]⟩ by unfold Dk.readV; rw [E1.out]; rfl)
      rw [E1.out, E2.out]
      clear h hb hl ha hc hA c0
      go_enter Try.func94, Try.ntmps94
      go_wp2
      go_ret2
      exact ⟨rfl, rfl⟩
    · by_cases h2 : (d.n : Int) ≤ i
      · have E1 := Lib.hid (show d.readE i = 71 by unfold Dk.readE atE; rw [hd, if_neg (by simp), if_pos (.inr h2)])
        have E2 := Lib.hid (show d.readV i = ⟨#[]⟩ by unfold Dk.readV; rw [E1.out]; rfl)
        rw [E1.out, E2.out]
        clear h hb hl ha hc hA hd
        rw [hN] at h2 c0
        clear hN
        go_enter Try.func94, Try.ntmps94
        go_wp2
        go_ret2
        exact ⟨rfl, rfl⟩
      · obtain ⟨k, rfl⟩ : ∃ k : Nat, i = (k : Int) := ⟨i.toNat, by omega⟩
        have E1 := Lib.hid (show d.readE (k : Int) = 0 by unfold Dk.readE atE; rw [hd, if_neg (by simp), if_neg (by omega)])
        obtain ⟨o, hLo, hOi⟩ := ha.get (i := k) (by omega)
        have E2 := Lib.hid (show d.readV (k : Int) = if o.un then o.wr else o.sf by unfold Dk.readV; rw [E1.out, if_pos rfl, ← hOi.sec]; rfl)
        rw [E1.out, E2.out]
        obtain ⟨q', o', hqa, hqlt, x0, x1, x2⟩ := hl.cell hLo
        injection hqa with hqa
        subst hqa
        have hk : k < d.n := by omega
        rw [hN] at h2 c0 hk
        have hk' : (k : Int) < (N : Int) := by omega
        clear h hb hl ha hc hA hd hN hLo hOi
        obtain ⟨sf, wr_, un⟩ := o
        simp only [oc0, oc1, oc2] at x0 x1 x2
        cases un with
        | false =>
          go_enter Try.func94, Try.ntmps94
          go_wp2
          go_ret2
          exact ⟨rfl, rfl⟩
        | true =>
          go_enter Try.func94, Try.ntmps94
          go_wp2
          go_ret2
          exact ⟨rfl, rfl⟩
/-- The block turns, and says another disk. -/
def RTurn (q : Nat) (w : World) (d' : Dk) (w' : World) : Prop := RD w' q d' ∧ Fr [q] w w'
theorem RTurn.trans {q : Nat} {w w1 w2 : World} {d1 d2 : Dk} (h1 : RTurn q w d1 w1) (h2 : RTurn q w1 d2 w2) : RTurn q w d2 w2 := ⟨h2.1, h1.2.trans h2.2⟩
theorem RTurn.refl {q : Nat} {w : World} {d : Dk} (h : RD w q d) : RTurn q w d w := ⟨h, Fr.refl _ _⟩
/-- The disk's block with other cells. -/
theorem RD.put {w w' : World} {q : Nat} {d' : Dk} {lv cv : Value} {l : List One} {cs : Array Value} (hb : Blk w q 127 cs) (hf : Fr [q] w w') (ok : d'.Ok) (hb' : Blk w' q 127 #[lv, .int .i64 d'.armed, cv, .bool d'.dead]) (hl : OS w lv l) (ha : Alike l d') (hc : Zs w cv d'.ch) : RTurn q w d' w' := by
  refine ⟨⟨ok, lv, cv, l, hb', hl.fr hf (hb.noO (by decide)), ha, hc.fr hf ?_⟩, hf⟩
  intro j hj cs mk he
  simp at hj
  subst hj
  unfold Blk at hb
  rw [hb] at he
  injection he with he
  injection he with _ he _
  exact absurd he (by decide)
theorem Alike.to {l : List One} {d d' : Dk} (h : Alike l d) (hn : d'.n = d.n) (hs : d'.s = d.s) (hu : d'.u = d.u) : Alike l d' := by
  refine ⟨by rw [hn]; exact h.1, fun i o hi => ?_⟩
  obtain ⟨h1, h2, h3⟩ := h.2 i o hi
  exact ⟨by rw [hs]; exact h1, by rw [hu]; exact h2, by rw [hu]; exact h3⟩
theorem rRevive_any (q : Nat) (d : Dk) (w : World) (h : RD w q d) : Calls Try.prog 84 #[ptr q] w fun e w' => e = .returned (.tuple #[]) ∧ RTurn q w d.revive w' := by
  obtain ⟨A, cap, cv, l, hb, hl, ha, hc, hA⟩ := h.form
  have c1 := hb.cell 1
  have c3 := hb.cell 3
  simp at c1 c3
  have f1 := hb.frozen 1
  have f3 := hb.frozen 3
  have hfr : Fr [q] w ((w.setCell ⟨q, 3, none⟩ (.bool false)).setCell ⟨q, 1, none⟩ (.int .i64 0)) := ((Fr.refl [q] w).setCell (.inl (by simp)) _).setCell (.inl (by simp)) _
  have HE := Lib.hid (RD.put (d' := d.revive) hb hfr h.ok.revive ((hb.set_ 3 (.bool false)).set_ 1 (.int .i64 0)) hl (ha.to rfl rfl rfl) hc)
  clear h hb hl ha hc hA hfr
  go_enter Try.func84, Try.ntmps84
  go_wp2
  go_end0
  exact ⟨rfl, HE.out⟩
theorem rGoes_any (q : Nat) (d : Dk) (w : World) (h : RD w q d) : Calls Try.prog 112 #[ptr q] w fun e w' => e = .returned (.bool d.gone) ∧ RTurn q w d.tick w' := by
  obtain ⟨A, cap, cv, l, hb, hl, ha, hc, hA⟩ := h.form
  have c1 := hb.cell 1
  simp at c1
  have f1 := hb.frozen 1
  have ha0 := h.ok.a0
  have ha1 := h.ok.a1
  by_cases h0 : d.armed = 0
  · have E1 := Lib.hid (show d.gone = false by unfold Dk.gone; rw [h0]; rfl)
    have E2 := Lib.hid (show d.tick = d by unfold Dk.tick; rw [if_pos h0])
    rw [E1.out, E2.out]
    rw [h0] at c1
    have HE := Lib.hid (RTurn.refl h)
    clear h hb hl ha hc hA h0
    go_enter Try.func112, Try.ntmps112
    go_wp2
    go_ret
    exact ⟨rfl, HE.out⟩
  · have E2 : d.tick = { d with armed := d.armed - 1 } := by unfold Dk.tick; rw [if_neg h0]
    have hfr : Fr [q] w (w.setCell ⟨q, 1, none⟩ (.int .i64 (d.armed - 1))) := (Fr.refl [q] w).setCell (.inl (by simp)) _
    have HE := Lib.hid (RD.put (d' := { d with armed := d.armed - 1 }) hb hfr (by rw [← E2]; exact h.ok.tick) (hb.set_ 1 (.int .i64 (d.armed - 1))) hl (ha.to rfl rfl rfl) hc)
    have E1 := Lib.hid (show d.gone = decide (d.armed - 1 = 0) by
      unfold Dk.gone
      by_cases h1 : d.armed = 1
      · rw [h1]; rfl
      · rw [decide_eq_false (by omega)]
        exact beq_false_of_ne h1)
    rw [E1.out, E2]
    have hw : IntKind.i64.wrap (d.armed - 1) = d.armed - 1 := IntWalk.i64_in _ (by omega)
    have h1 : 0 < d.armed := by omega
    clear h hb hl ha hc hA hfr E1 E2
    generalize d.armed = x at *
    go_enter Try.func112, Try.ntmps112
    go_wp2
    go_ret
    exact ⟨rfl, HE.out⟩
theorem rDie_any (q : Nat) (d : Dk) (A : Option Addr) (n cap : Nat) (l : List Int) (w : World) (h : RD w q d) (hz : Zw w (.slice A n cap) l) : Calls Try.prog 108 #[ptr q, .slice A n cap] w fun e w' => e = .returned (.tuple #[]) ∧ RTurn q w (d.die l) w' := by
  have HA := Lib.hid (after_any q d A n cap l w h hz)
  have H := Lib.hid h
  obtain ⟨A0, cap0, cv, L, hb, hl, ha, hc, hA⟩ := h.form
  have HC := Lib.hid (fun W (hf : Fr [] w W) => (show (W.cell? ⟨q, 0, none⟩ = some (.slice (some A0) d.n cap0) ∧ W.cell? ⟨q, 1, none⟩ = some (.int .i64 d.armed) ∧ W.cell? ⟨q, 3, none⟩ = some (.bool d.dead)) ∧ W.frozen? ⟨q, 0, none⟩ = false ∧ W.frozen? ⟨q, 1, none⟩ = false ∧ W.frozen? ⟨q, 3, none⟩ = false from ⟨⟨hf.cell_some (hb.cell 0) (by simp), hf.cell_some (hb.cell 1) (by simp), hf.cell_some (hb.cell 3) (by simp)⟩, (hb.fr hf (by simp)).frozen 0, (hb.fr hf (by simp)).frozen 1, (hb.fr hf (by simp)).frozen 3⟩))
  have HE := Lib.hid (fun W A' cap' lo (hf : Fr [] w W) (hl' : OS W (.slice (some A') d.n cap') lo) (ha' : Alike lo (d.die l)) =>
    (show RTurn q w (d.die l) (((W.setCell ⟨q, 0, none⟩ (.slice (some A') d.n cap')).setCell ⟨q, 1, none⟩ (.int .i64 0)).setCell ⟨q, 3, none⟩ (.bool true)) from by
      have hb1 := hb.fr hf (by simp)
      have hfr : Fr [q] W (((W.setCell ⟨q, 0, none⟩ (.slice (some A') d.n cap')).setCell ⟨q, 1, none⟩ (.int .i64 0)).setCell ⟨q, 3, none⟩ (.bool true)) := (((Fr.refl [q] W).setCell (.inl (by simp)) _).setCell (.inl (by simp)) _).setCell (.inl (by simp)) _
      have := RD.put (d' := d.die l) hb1 hfr (H.out.ok.die l) (((hb1.set_ 0 (.slice (some A') d.n cap')).set_ 1 (.int .i64 0)).set_ 3 (.bool true)) hl' ha' (hc.fr hf (NoZ.nil _))
      exact ⟨this.1, (hf.mono (fun j hj => by cases hj)).trans this.2⟩))
  clear h hz hb hl ha hc hA
  go_enter Try.func108, Try.ntmps108
  go_wp2_with (go_at_call 113; refine HA.out.mono ?_; rintro e w1 ⟨A', cap', lo, rfl, hl', ha', hf1⟩; obtain ⟨⟨c0, c1, c3⟩, f0, f1, f3⟩ := HC.out _ hf1; have HE1 := Lib.hid (HE.out _ _ _ _ hf1 hl' ha'); clear hl' ha' hf1)
  go_end0
  exact ⟨rfl, HE1.out⟩
theorem rCrash_any (q : Nat) (d : Dk) (A : Option Addr) (n cap : Nat) (l : List Int) (w : World) (h : RD w q d) (hz : Zw w (.slice A n cap) l) : Calls Try.prog 83 #[ptr q, .slice A n cap] w fun e w' => e = .returned (.int .i64 d.crashE) ∧ RTurn q w (d.crashS l) w' := by
  have HD := Lib.hid (rDie_any q d A n cap l w h hz)
  obtain ⟨A0, cap0, cv, L, hb, hl, ha, hc, hA⟩ := h.form
  have c3 := hb.cell 3
  simp at c3
  have HR := Lib.hid (RTurn.refl h)
  clear h hz hb hl ha hc hA
  unfold Dk.crashE Dk.crashS
  cases hd : d.dead with
  | true =>
    rw [hd] at c3
    go_enter Try.func83, Try.ntmps83
    go_wp2
    go_ret
    exact ⟨rfl, HR.out⟩
  | false =>
    rw [hd] at c3
    go_enter Try.func83, Try.ntmps83
    go_wp2_with (go_at_call 108; refine HD.out.mono ?_; rintro e w1 ⟨rfl, ht⟩)
    go_ret
    exact ⟨rfl, ht⟩
end Go.Proofs.Ythmnloapjdalpaa
namespace Go.Proofs.Ythmnloapjdalpaa
open Go.RowKit
set_option linter.unusedVariables false
set_option linter.unusedSimpArgs false
section
variable {P : Program}
theorem run_append_none_any {w : World} (base : Nat) (t ty e : TypeId) (i : TypeInfo) (size cp : Nat) (ht : P.underlying t = some (.slice e)) (hi : P.info? e = some i)
    (v : Value) (n : Nat) (xs : List Value) (hown : w.ownsRow base e size v n xs) :
    (Builtin.append_ #[t, t] ty #[v, .slice none 0 cp]).run P w = .ok v w := by
  rcases hown.2 with ⟨rfl, rfl⟩ | ⟨g, cap, cur, rfl, _, _, hnc, _⟩
  · simp [Builtin.append_, run_underlying ht, sizeOf, typeInfo, hi, Builtin.lenOf, Builtin.firstCells]
  · simp [Builtin.append_, run_underlying ht, sizeOf, typeInfo, hi, Builtin.lenOf, Builtin.firstCells, hnc, storeCells]
/-- append, of numbers that lie anywhere. -/
theorem wpList_append_zw (w : World) {ops : Array Oper} {rest : List Oper} {o : Oper} {a : Act} {Q : Exit → Act → World → Prop} (hgd : o.guard = none) (s x : Operand) (t : TypeId)
    (ho : o.op = .call { callee := .builtin .append, args := #[s, x], argTypes := #[t, t] })
    (base : Nat) (i : TypeInfo) (z : Value) (ht : P.underlying t = some (.slice 3)) (hi : P.info? 3 = some i) (hz : i.zero = some z)
    (hsize : i.size = 1) (hby : i.bytes = 8) (hzs : z.cells.size = 1)
    (v : Value) (n : Nat) (xs : List Value) (hs : a.eval s = v) (hown : w.ownsRow base 3 1 v n xs)
    (A : Option Addr) (m cap : Nat) (l : List Int) (hx : a.eval x = .slice A m cap) (hl : Zw w (.slice A m cap) l)
    (h63 : n + m ≤ maxLen) (hbytes : (n + m) * 8 ≤ 140737488355328) (hbase : base ≤ w.heap.size)
    (h : ∀ v' w', w'.ownsRow base 3 1 v' (n + m) (xs ++ ints l) → w.grownBy w' v.ownBlock → wpList P ops Q rest (a.put o.dst v') w') : wpList P ops Q (o :: rest) a w := by
  obtain ⟨hm, -, -⟩ := hl.len
  cases A with
  | none =>
    have h0 : l = [] := by
      obtain ⟨A', cap', e1, -, -, e4, -⟩ := hl
      injection e1 with e1 _ _
      exact e4 e1.symm
    subst h0
    have hm0 : m = 0 := hm
    subst hm0
    refine wpList_plain hgd fun K hK => ?_
    have hrun := run_append_none_any (P := P) (w := w) base t o.type 3 i 1 cap ht hi v n xs hown
    unfold Oper.wp
    simp [execOp, ho, resolve, invoke, builtin, hs, hx, hrun, Result.andThen]
    exact hK _ _ (h v w (by simpa [ints] using hown) ⟨rfl, rfl, rfl, Nat.le_refl _, fun _ _ _ => rfl⟩)
  | some ad =>
    exact wpList_append_own w hgd s x t ho base 3 i z 1 8 ht hi hz hsize hby hzs (by omega) v n xs hs hown _ m cap (ints l) hx (by rw [ints_len, hm, Nat.mul_one]) hl.news (ints_one l) h63 hbytes hbase fun v' w' a b _ => h v' w' a b
end
theorem Fr.own' {S : List Nat} {w0 w w' : World} {base : Nat} {e : TypeId} {size : Nat} {v : Value} {n : Nat} {xs : List Value} (h : Fr S w0 w) (hb : w0.heap.size ≤ base) (ho : w.ownsRow base e size v n xs) (hg : w.grownBy w' v.ownBlock) : Fr S w0 w' :=
  h.step (Fr.of_own hg) (fun k hk => .inr (Nat.le_trans hb (own_blk ho k hk).1))
set_option maxRecDepth 100000 in
theorem rArm_any (q : Nat) (d : Dk) (x : Int) (A : Option Addr) (n cap : Nat) (l : List Int) (w : World) (h : RD w q d) (hz : Zw w (.slice A n cap) l) (hfar : ∀ (j : Nat) (y : Int), l[j]? = some y → ∀ g o, A = some ⟨g, o, none⟩ → g ≠ q) (hb8 : n * 8 ≤ 140737488355328) (hx : x ≤ 9223372036854775807) :
    Calls Try.prog 82 #[ptr q, .int .i64 x, .slice A n cap] w fun e w' => e = .returned (.int .i64 (d.armE x)) ∧ RTurn q w (d.armS x l) w' := by
  obtain ⟨i0, hi0, hz0, hz1, hz2⟩ := info3 Try.info3
  obtain ⟨A0, cap0, cv, L, hb, hl, ha, hc, hA⟩ := h.form
  have c3 := hb.cell 3
  have c1 := hb.cell 1
  simp at c3 c1
  have HR := Lib.hid (RTurn.refl h)
  cases hd : d.dead with
  | true =>
    have E1 := Lib.hid (show d.armE x = 2 by unfold Dk.armE; rw [hd]; rfl)
    have E2 := Lib.hid (show d.armS x l = d by unfold Dk.armS; rw [E1.out]; rfl)
    rw [E1.out, E2.out]
    rw [hd] at c3
    clear h hz hb hl ha hc hA hd c1
    go_enter Try.func82, Try.ntmps82
    go_wp2
    go_ret
    exact ⟨rfl, HR.out⟩
  | false =>
    rw [hd] at c3
    by_cases hx0 : x < 0
    · have E1 := Lib.hid (show d.armE x = 1 by unfold Dk.armE; rw [hd, if_neg (by simp), if_pos hx0])
      have E2 := Lib.hid (show d.armS x l = d by unfold Dk.armS; rw [E1.out]; rfl)
      rw [E1.out, E2.out]
      clear h hz hb hl ha hc hA hd c1
      go_enter Try.func82, Try.ntmps82
      go_wp2
      go_ret
      exact ⟨rfl, HR.out⟩
    · have E1 := Lib.hid (show d.armE x = 0 by unfold Dk.armE; rw [hd, if_neg (by simp), if_neg hx0])
      have E2 := Lib.hid (show d.armS x l = { d with armed := x, ch := l } by unfold Dk.armS; rw [E1.out]; rfl)
      rw [E1.out, E2.out]
      obtain ⟨hn, hnc, hcm⟩ := hz.len
      have f1 := hb.frozen 1
      have hf1 : Fr [q] w ((w.setCell ⟨q, 1, none⟩ (.int .i64 x)).alloc (.cells #[] 3)) := ((Fr.refl [q] w).setCell (.inl (by simp)) _).alloc _
      have Hb1 := Lib.hid (((hb.set_ 1 (.int .i64 x)).alloc (.cells #[] 3)))
      have HZ := Lib.hid (show Zw ((w.setCell ⟨q, 1, none⟩ (.int .i64 x)).alloc (.cells #[] 3)) (.slice A n cap) l from by
        obtain ⟨A', cap', h1, h2, h3, h4, h5⟩ := hz
        refine ⟨A', cap', h1, h2, h3, h4, fun j y hj => ?_⟩
        obtain ⟨g, o, e1, e2, e3⟩ := h5 j y hj
        refine ⟨g, o, e1, by simp; omega, hf1.cell_some e3 ?_⟩
        simp
        exact hfar j y hj g o (by injection h1 with hA' _ _; rw [hA']; exact e1))
      have hm0 := World.ownsRow_made (base := w.heap.size) (e := 3) (size := 1) (w.setCell ⟨q, 1, none⟩ (.int .i64 x)) #[] 0 (by simp) (by simp [maxLen]) (by simp)
      have hsc : (w.setCell ⟨q, 1, none⟩ (.int .i64 x)).heap.size = w.heap.size := World.size_setCell _ _ _
      rw [show (Value.slice (some ⟨(w.setCell ⟨q, 1, none⟩ (.int .i64 x)).heap.size, 0, none⟩) 0 0) = .slice (some ⟨w.heap.size, 0, none⟩) 0 0 by rw [hsc]] at hm0
      have Hm0 := Lib.hid hm0
      have Hsc := Lib.hid (Nat.le_of_eq hsc)
      have Hf1 := Lib.hid ((Fr.refl [q] w).setCell (p := ⟨q, 1, none⟩) (.inl (by simp)) (.int .i64 x))
      have HE := Lib.hid (fun W v' (ho : W.ownsRow w.heap.size 3 1 v' n (ints l)) (hf : Fr [] (w.setCell ⟨q, 1, none⟩ (.int .i64 x)) W) =>
        (show RTurn q w { d with armed := x, ch := l } (W.setCell ⟨q, 2, none⟩ v') ∧ W.frozen? ⟨q, 2, none⟩ = false ∧ W.cell? ⟨q, 2, none⟩ = some cv from by
          have hb2 := (hb.set_ 1 (.int .i64 x)).fr hf (by simp)
          have hfw : Fr [q] w (W.setCell ⟨q, 2, none⟩ v') := (Hf1.out.trans (hf.mono (fun j hj => by cases hj))).setCell (.inl (by simp)) _
          have hzs : Zs W v' l := Zs.of_own ho hn
          have hb3 := hb2.set_ 2 v'
          refine ⟨⟨⟨⟨h.ok.n1, h.ok.n2, h.ok.un, by show 0 ≤ x; omega, hx⟩, _, v', L, hb3, (hl.fr hfw (hb.noO (by decide))), ha.to rfl rfl rfl, hzs.fr (S := [q]) ((Fr.refl [q] W).setCell (.inl (by simp)) _) ?_⟩, hfw⟩, hb2.frozen 2, by rw [hb2.cell]; rfl⟩
          intro j hj cs mk he
          simp at hj
          subst hj
          unfold Blk at hb2
          rw [hb2] at he
          injection he with he
          injection he with _ he _
          exact absurd he (by decide)))
      clear h hz hb hl ha hc hA hd hf1 hfar hm0 hsc hn
      go_enter Try.func82, Try.ntmps82
      go_wp2_with (at_builtin; go_must (refine wpList_append_zw _ rfl (.tmp 18) (.tmp 19) 42 rfl w.heap.size i0 (.int .i64 0) Try.underlying42 hi0 hz0 hz1 hz2 rfl _ 0 [] rfl Hm0.out A n cap l rfl HZ.out (by simp only [maxLen] at hcm ⊢; omega) (by omega) (by simp) ?_; intro v' w' ho' hg'; simp only [List.nil_append, Nat.zero_add] at ho'; obtain ⟨A', cp', rfl⟩ := own_shape ho'; have hf' := ((Fr.refl [] (w.setCell ⟨q, 1, none⟩ (.int .i64 x))).alloc (.cells #[] 3)).own' Hsc.out Hm0.out hg'; obtain ⟨hE1, hfz, hcx⟩ := HE.out _ _ ho' hf'; have HE2 := Lib.hid hE1; clear hE1 hf' hg' ho'))
      go_ret
      exact ⟨rfl, HE2.out⟩
end Go.Proofs.Ythmnloapjdalpaa
