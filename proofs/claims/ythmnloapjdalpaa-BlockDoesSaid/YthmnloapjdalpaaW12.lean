/- The program's disk: Write. The program's disk: Write. The program's disk: Flush's closure. The program's disk: Flush. -/
import Derived.Test.YthmnloapjdalpaaW8
import Derived.Deep.RegionWith
namespace Go.Proofs.Ythmnloapjdalpaa
open Go.RowKit
set_option linter.unusedVariables false
set_option linter.unusedSimpArgs false
theorem enter70 (args : Array Value) (W : World) : (callFunc 70 args).run Try.prog W = .ok (.enter 70 args) W := by kernel_rfl
theorem enter89 (args : Array Value) (W : World) : (callFunc 89 args).run Try.prog W = .ok (.enter 89 args) W := by kernel_rfl
theorem Zs.form {w : World} {v : Value} {l : List Int} (h : Zs w v l) : ∃ A n cap, v = .slice A n cap := by
  obtain ⟨A, cap, h1, -⟩ := h
  exact ⟨A, _, cap, h1⟩
theorem Turned.after {p g m : Nat} {w w1 w2 : World} {d : Dk} (hf : Fr [p, g, m] w w1) (h : Turned p g m w1 d w2) : Turned p g m w d w2 := by
  obtain ⟨g', m', h1, h2, h3, h4⟩ := h
  have hs := hf.size
  exact ⟨g', m', h1, hf.trans h2, by omega, by omega⟩
theorem refused_any (p g m : Nat) (F : FuncId) (caps : Array Value) (d : Dk) (V : Int) (w : World) (h : DiskAt w p g m d) (eF : ∀ args W, (callFunc F args).run Try.prog W = .ok (.enter F args) W)
    (hC : Calls Try.prog F caps w fun e w' => e = .returned (.int .i64 V) ∧ w = w') :
    Calls Try.prog 69 #[ptr p, .func (.func F) #[] caps] w fun e w' => e = .returned (.int .i64 (if d.dead = true then 2 else V)) ∧ w = w' := by
  have hA := Lib.hid hC
  obtain ⟨cap, cv, ⟨c0, c1, c2, c3, c4, fz⟩, hc, hm, hz⟩ := h.cells
  have E := Lib.hid (show (if d.dead = true then (2 : Int) else V) = (if d.dead = true then (2 : Int) else V) from rfl)
  obtain ⟨Z, hZ⟩ : ∃ Z, (if d.dead = true then (2 : Int) else V) = Z := ⟨_, rfl⟩
  rw [hZ] at E ⊢
  have hz' := Lib.hid hZ
  clear h c1 c2 c3 c0 fz hz hc hm hC hZ E
  cases hd : d.dead with
  | true =>
    rw [hd, if_pos rfl] at hz'
    rw [hd] at c4
    go_enter Try.func69, Try.ntmps69
    go_wp2_with fail
    go_ret
    exact ⟨ret_int hz'.out, rfl⟩
  | false =>
    rw [hd, if_neg (by simp)] at hz'
    rw [hd] at c4
    go_enter Try.func69, Try.ntmps69
    go_wp2_with (refine hA.out.mono ?_; rintro e w' ⟨rfl, rfl⟩)
    go_ret
    exact ⟨ret_int hz'.out, rfl⟩
def wr1E (d : Dk) (i : Int) (t : ByteArray) : Int := if i < 0 ∨ (d.n : Int) ≤ i then 71 else if t.size ≠ 128 then 72 else 0
theorem write1_any (p g m a b c : Nat) (d : Dk) (i : Int) (t : ByteArray) (w : World) (h : DiskAt w p g m d) (ha : w.cell? ⟨a, 0, none⟩ = some (ptr p)) (hb : w.cell? ⟨b, 0, none⟩ = some (.int .i64 i)) (hc : w.cell? ⟨c, 0, none⟩ = some (.string t)) :
    Calls Try.prog 70 #[ptr a, ptr b, ptr c] w fun e w' => e = .returned (.int .i64 (wr1E d i t)) ∧ w = w' := by
  have hA := Lib.hid (at_any p g m d i w h)
  have E := Lib.hid (show (if i < 0 ∨ (d.n : Int) ≤ i then (71 : Int) else if t.size ≠ 128 then 72 else 0) = wr1E d i t from rfl)
  clear h
  generalize wr1E d i t = V at *
  by_cases h1 : i < 0 ∨ (d.n : Int) ≤ i
  · rw [if_pos h1] at E
    have e1 : atE d i = 71 := if_pos h1
    rw [e1] at hA
    clear h1 e1
    go_enter Try.func70, Try.ntmps70
    go_wp2_with (go_at_call 71; refine hA.out.mono ?_; rintro e w' ⟨rfl, rfl⟩)
    go_ret
    exact ⟨ret_int E.out, rfl⟩
  · rw [if_neg h1] at E
    have e1 : atE d i = 0 := if_neg h1
    rw [e1] at hA
    clear h1 e1
    by_cases h2 : t.size = 128
    · rw [if_neg (by simp [h2])] at E
      have h3 : (t.size : Int) = 128 := by omega
      go_enter Try.func70, Try.ntmps70
      go_wp2_with (go_at_call 71; refine hA.out.mono ?_; rintro e w' ⟨rfl, rfl⟩)
      go_ret
      exact ⟨ret_int E.out, rfl⟩
    · rw [if_pos h2] at E
      have h3 : ¬ (t.size : Int) = 128 := by omega
      go_enter Try.func70, Try.ntmps70
      go_wp2_with (go_at_call 71; refine hA.out.mono ?_; rintro e w' ⟨rfl, rfl⟩)
      go_ret
      exact ⟨ret_int E.out, rfl⟩
theorem writeE0_eq (d : Dk) (i : Int) (t : ByteArray) : (if d.dead = true then 2 else wr1E d i t) = d.writeE0 i t := rfl
structure Box3 (w w1 : World) (u0 u1 u2 : Value) : Prop where
  fr : Fr [] w w1
  k0 : w1.cell? ⟨w.heap.size, 0, none⟩ = some u0
  k1 : w1.cell? ⟨w.heap.size + 1, 0, none⟩ = some u1
  k2 : w1.cell? ⟨w.heap.size + 1 + 1, 0, none⟩ = some u2
  sz : w.heap.size + 1 + 1 < w1.heap.size
theorem Box3.made (w : World) (t0 t1 t2 : TypeId) (u0 u1 u2 : Value) : Box3 w (((w.alloc (.cells #[u0] t0)).alloc (.cells #[u1] t1)).alloc (.cells #[u2] t2)) u0 u1 u2 := by
  have b0 := ((Blk.new w t0 #[u0]).alloc (.cells #[u1] t1)).alloc (.cells #[u2] t2)
  have b1 := (Blk.new' (w := w.alloc (.cells #[u0] t0)) (g := w.heap.size + 1) (t := t1) (cs := #[u1]) (by simp)).alloc (.cells #[u2] t2)
  have b2 := Blk.new' (w := (w.alloc (.cells #[u0] t0)).alloc (.cells #[u1] t1)) (g := w.heap.size + 1 + 1) (t := t2) (cs := #[u2]) (by simp)
  exact ⟨(((Fr.refl [] w).alloc _).alloc _).alloc _, by rw [b0.cell]; rfl, by rw [b1.cell]; rfl, by rw [b2.cell]; rfl, by simp⟩
theorem Box3.to {w w1 w2 : World} {u0 u1 u2 : Value} {S : List Nat} (h : Box3 w w1 u0 u1 u2) (hf : Fr S w1 w2) (hS : ∀ k, k ∈ S → k < w.heap.size) : 
    w2.cell? ⟨w.heap.size, 0, none⟩ = some u0 ∧ w2.cell? ⟨w.heap.size + 1, 0, none⟩ = some u1 ∧ w2.cell? ⟨w.heap.size + 1 + 1, 0, none⟩ = some u2 :=
  ⟨hf.cell_some h.k0 (fun e => by have := hS _ e; simp at this), hf.cell_some h.k1 (fun e => by have := hS _ e; simp at this; omega), hf.cell_some h.k2 (fun e => by have := hS _ e; simp at this; omega)⟩
theorem tick_ch (d : Dk) : d.tick.ch = d.ch := by
  unfold Dk.tick
  split <;> rfl
theorem DiskAt.put {w w' : World} {p g m : Nat} {d : Dk} {k : Nat} {t : ByteArray} (h : DiskAt w p g m d) (hk : k < d.n) (ht : t.size = 128) (hf : Fr [m] w w') (hu : UMap w' m d.n (fun j => if j = k then some t else d.u j)) : DiskAt w' p g m (d.put k t) := by
  have h1 := h.pm
  have h2 := h.gm
  have hn := h.noz
  obtain ⟨ok, ⟨cap, cv, hb, hc, hm, hz⟩, sb, um⟩ := h
  exact ⟨ok.put hk ht, ⟨cap, cv, hb.fr hf (by simp [h1]), hc, hm, hz.fr hf (fun j hj => hn j (by simp at hj; simp [hj]))⟩, sb.fr hf (by simp [h2]), hu⟩
end Go.Proofs.Ythmnloapjdalpaa
namespace Go.Proofs.Ythmnloapjdalpaa
open Go.RowKit
set_option linter.unusedVariables false
set_option linter.unusedSimpArgs false
theorem Turned.cell_far {p g m : Nat} {w w1 : World} {d : Dk} (h : Turned p g m w d w1) {b j : Nat} {u : Value} (hc : w.cell? ⟨b, j, none⟩ = some u) (hb : b ∉ [p, g, m]) : w1.cell? ⟨b, j, none⟩ = some u := by
  obtain ⟨g', m', h1, h2, h3, h4⟩ := h
  exact h2.cell_some hc hb
theorem Turned.of_drew {p g m : Nat} {w w1 : World} {d : Dk} (h : Turned p g m w.drew d w1) : Turned p g m w d w1 := by
  obtain ⟨g', m', h1, h2, h3, h4⟩ := h
  exact ⟨g', m', h1, ((Fr.refl _ w).drew).trans h2, h3, h4⟩
theorem u108 : Try.prog.underlying 108 = some (.map 3 9) := by kernel_rfl
theorem Write_any (p g m : Nat) (d : Dk) (i : Int) (t : ByteArray) (w : World) (h : DiskAt w p g m d) (ht : t.size ≤ maxLen) :
    Calls Try.prog 30 #[ptr p, .int .i64 i, .string t] w fun e w' => e = .returned (.int .i64 (d.writeE i t)) ∧ Turned p g m w (d.writeS i t) w' := by
  have hR := Lib.hid (fun (W : World) (hB : Box3 w W (ptr p) (.int .i64 i) (.string t)) => (refused_any p g m 70 #[ptr w.heap.size, ptr (w.heap.size + 1), ptr (w.heap.size + 1 + 1)] d (wr1E d i t) W (h.to hB.fr) enter70
    (write1_any p g m _ _ _ d i t W (h.to hB.fr) hB.k0 hB.k1 hB.k2)))
  have hB0 := Lib.hid (Box3.made w 36 3 9 (ptr p) (.int .i64 i) (.string t))
  rw [writeE0_eq] at hR
  have H := Lib.hid h
  have hpl := h.ltp
  have hml := h.ltm
  by_cases h0 : d.writeE0 i t = 0
  · have E1 : d.writeE i t = if d.gone = true then 2 else 0 := if_pos h0
    have E2 : d.writeS i t = if d.gone = true then (d.put i.toNat t).tick.die d.ch else (d.put i.toNat t).tick := if_pos h0
    rw [h0] at hR
    have h9 : (∃ k : Nat, i = k ∧ k < d.n) ∧ t.size = 128 := by
      unfold Dk.writeE0 at h0
      split at h0
      · cases h0
      · split at h0
        · cases h0
        · split at h0
          · cases h0
          · rename_i h1 h2 h3
            exact ⟨⟨i.toNat, by omega, by omega⟩, by omega⟩
    obtain ⟨⟨k, rfl, hk⟩, hsz⟩ := h9
    have hu := Lib.hid (fun (W : World) (hf : Fr [] w W) => (h.to hf).um.put 108 u108 hk ht)
    rw [show ((k : Int)).toNat = k from rfl] at E2
    have E1' := Lib.hid E1
    have E2' := Lib.hid E2
    have Hk := Lib.hid (show k < d.n ∧ t.size = 128 from ⟨hk, hsz⟩)
    clear h E1 E2 hk hsz h0 ht
    go_enter Try.func30, Try.ntmps30
    go_wp2_with (go_at_call 69; refine (hR.out _ hB0.out).mono ?_; rintro e w1 ⟨rfl, rfl⟩)
    have hB1 := hB0.out
    generalize ((w.alloc (Obj.cells #[ptr p] 36)).alloc (Obj.cells #[Value.int IntKind.i64 k] 3)).alloc (Obj.cells #[Value.string t] 9) = w1 at *
    obtain ⟨w2, hput, hum, hfm⟩ := hu.out w1.drew hB1.fr.drew
    obtain ⟨k0, k1, k2⟩ := hB1.to (Fr.refl [] w1) (by simp)
    obtain ⟨cap, cv, ⟨-, c1, -, -, -, -⟩, -⟩ := (H.out.to hB1.fr).cells
    have HD2 := Lib.hid ((H.out.to hB1.fr.drew).put Hk.out.1 Hk.out.2 hfm hum)
    have Hf2 : Hid (Fr [p, g, m] w w2) := Lib.hid ((hB1.fr.drew.mono (S' := [p, g, m]) (fun k hk _ => by cases hk)).step hfm (fun k hk => .inl (by simp at hk; simp [hk])))
    obtain ⟨j0, j1, j2⟩ := hB1.to ((Fr.refl [m] w1).drew.trans hfm) (by simp; exact hml)
    obtain ⟨cap2, cv2, ⟨-, l1, -, l3, -, -⟩, -, -, hz2⟩ := HD2.out.cells
    have HZ2 := Lib.hid hz2
    clear hz2
    have J := Lib.hid (show w.heap.size + 1 + 1 < w2.heap.size from Nat.lt_of_lt_of_le hB1.sz hfm.size)
    clear hB1 hum hfm hu
    go_region_held3 (fun W => W.cell? ⟨w.heap.size, 0, none⟩ = some (ptr p) ∧ W.cell? ⟨w.heap.size + 1, 0, none⟩ = some (.int .i64 k) ∧ W.cell? ⟨w.heap.size + 1 + 1, 0, none⟩ = some (.string t) ∧ W.cell? ⟨p, 1, none⟩ = some (.map (some m))) (first | exact ⟨k0, k1, k2, c1⟩ | exact ⟨j0, j1, j2, l1⟩) (fail)
    have hG := Lib.hid (goes_any p g m _ w2 HD2.out)
    clear k0 k1 k2 c1 hput
    cases hg : d.gone with
    | true =>
      rw [show (d.put k t).gone = d.gone from rfl, hg] at hG
      rw [hg] at E1' E2'
      go_wp2_with (go_at_call 72; refine hG.out.mono ?_; rintro e w3 ⟨rfl, h3, f3⟩)
      obtain ⟨cap3, cv3, ⟨-, -, -, m3, -, -⟩, -, -, hz3⟩ := h3.cells
      obtain ⟨A, n, cap', rfl⟩ := hz3.form
      have hD := Lib.hid (dies_any p g m _ A n cap' _ w3.drew (h3.to (Fr.refl _ _).drew) ((hz3.fr (Fr.refl [] _).drew (NoZ.nil _)).zw))
      have i0 : w3.cell? ⟨w.heap.size, 0, none⟩ = some (ptr p) := f3.cell_some j0 (by simp; omega)
      have hfar : w.heap.size ∉ [p, g, m] := by have := H.out.ltg; simp; omega
      have Hf3 := Lib.hid (Hf2.out.trans (f3.mono (fun k hk _ => by simp at hk; simp [hk])))
      rw [tick_ch] at hD
      have E1'' : Hid (d.writeE (↑k) t = 2) := Lib.hid (by rw [E1'.out]; simp)
      have E2'' : Hid (d.writeS (↑k) t = (d.put k t).tick.die d.ch) := Lib.hid (by rw [E2'.out]; simp)
      clear hz3 h3 f3 E1' E2' j0 j1 j2 l1 l3 hG
      go_region_with (first | (go_at_call 73; refine hD.out.mono ?_; rintro e w4 ⟨rfl, hT⟩))
      all_goals (go_wp2_with fail; go_ret; exact ⟨ret_int E1''.out.symm, by rw [E2''.out]; exact hT.of_drew.after Hf3.out⟩)
    | false =>
      rw [show (d.put k t).gone = d.gone from rfl, hg] at hG
      rw [hg] at E1' E2'
      go_wp2_with (go_at_call 72; refine hG.out.mono ?_; rintro e w3 ⟨rfl, h3, f3⟩)
      go_ret
      refine ⟨ret_int E1'.out.symm, g, m, by rw [E2'.out]; exact h3, Hf2.out.trans (f3.mono (fun k hk _ => by simp at hk; simp [hk])), .inl rfl, .inl rfl⟩
  · have E1 := Lib.hid (show d.writeE i t = d.writeE0 i t from if_neg h0)
    have E2 := Lib.hid (show d.writeS i t = d from if_neg h0)
    clear h
    generalize d.writeE0 i t = V at *
    go_enter Try.func30, Try.ntmps30
    go_wp2_with (go_at_call 69; refine (hR.out _ hB0.out).mono ?_; rintro e w1 ⟨rfl, rfl⟩)
    go_ret
    exact ⟨ret_int E1.out.symm, g, m, by rw [E2.out]; exact H.out.to hB0.out.fr, hB0.out.fr.mono (fun k hk => by cases hk), .inl rfl, .inl rfl⟩
end Go.Proofs.Ythmnloapjdalpaa
namespace Go.Proofs.Ythmnloapjdalpaa
open Go.RowKit
set_option linter.unusedVariables false
set_option linter.unusedSimpArgs false
theorem refused_fr (p g m : Nat) (F : FuncId) (caps : Array Value) (d : Dk) (V : Int) (w : World) (h : DiskAt w p g m d) (eF : ∀ args W, (callFunc F args).run Try.prog W = .ok (.enter F args) W)
    (hC : Calls Try.prog F caps w fun e w' => e = .returned (.int .i64 V) ∧ Fr [] w w') :
    Calls Try.prog 69 #[ptr p, .func (.func F) #[] caps] w fun e w' => e = .returned (.int .i64 (if d.dead = true then 2 else V)) ∧ Fr [] w w' := by
  have hA := Lib.hid hC
  obtain ⟨cap, cv, ⟨c0, c1, c2, c3, c4, fz⟩, hc, hm, hz⟩ := h.cells
  obtain ⟨Z, hZ⟩ : ∃ Z, (if d.dead = true then (2 : Int) else V) = Z := ⟨_, rfl⟩
  rw [hZ]
  have hz' := Lib.hid hZ
  clear h c1 c2 c3 c0 fz hz hc hm hC hZ
  cases hd : d.dead with
  | true =>
    rw [hd, if_pos rfl] at hz'
    rw [hd] at c4
    go_enter Try.func69, Try.ntmps69
    go_wp2_with fail
    go_ret
    exact ⟨ret_int hz'.out, Fr.refl _ _⟩
  | false =>
    rw [hd, if_neg (by simp)] at hz'
    rw [hd] at c4
    go_enter Try.func69, Try.ntmps69
    go_wp2_with (refine hA.out.mono ?_; rintro e w' ⟨rfl, hf⟩)
    go_ret
    exact ⟨ret_int hz'.out, hf⟩
def fl1E (d : Dk) (a b : Int) : Int := if a < 0 ∨ b < 0 ∨ (d.n : Int) < a ∨ (d.n : Int) - a < b then 71 else 0
theorem flushE0_eq (d : Dk) (a b : Int) : (if d.dead = true then 2 else fl1E d a b) = d.flushE0 a b := rfl
theorem flush1_any (p g m x y z : Nat) (d : Dk) (a b : Int) (w : World) (h : DiskAt w p g m d) (hx : w.cell? ⟨x, 0, none⟩ = some (.int .i64 a)) (hy : w.cell? ⟨y, 0, none⟩ = some (.int .i64 b)) (hz : w.cell? ⟨z, 0, none⟩ = some (ptr p))
    (ha1 : a ≤ 9223372036854775807) (hb1 : b ≤ 9223372036854775807) :
    Calls Try.prog 89 #[ptr x, ptr y, ptr z] w fun e w' => e = .returned (.int .i64 (fl1E d a b)) ∧ Fr [] w w' := by
  have hA := Lib.hid (fun (W : World) (hf : Fr [] w W) => Count_any p g m d W (h.to hf))
  have hn := h.ok.n2
  have E := Lib.hid (show (if a < 0 ∨ b < 0 ∨ (d.n : Int) < a ∨ (d.n : Int) - a < b then (71 : Int) else 0) = fl1E d a b from rfl)
  clear h
  generalize fl1E d a b = V at *
  generalize d.n = N at *
  by_cases h1 : a < 0
  · have d1 : decide (a < 0) = true := decide_eq_true h1
    rw [if_pos (.inl h1)] at E
    go_enter Try.func89, Try.ntmps89
    go_wp2_with fail
    go_quiet (first | (go_at_call 29; refine Calls.quiet_of_same ((hA.out _ ((Fr.refl _ _).drewN _)).mono (fun _ _ h => ⟨h.1, h.2.symm⟩))))
    go_wp2_with fail
    go_ret
    exact ⟨ret_int E.out, (Fr.refl _ _).drewN _⟩
  have d1 : decide (a < 0) = false := decide_eq_false h1
  by_cases h2 : b < 0
  · have d2 : decide (b < 0) = true := decide_eq_true h2
    rw [if_pos (.inr (.inl h2))] at E
    go_enter Try.func89, Try.ntmps89
    go_wp2_with fail
    go_quiet (first | (go_at_call 29; refine Calls.quiet_of_same ((hA.out _ ((Fr.refl _ _).drewN _)).mono (fun _ _ h => ⟨h.1, h.2.symm⟩))))
    go_wp2_with fail
    go_ret
    exact ⟨ret_int E.out, (Fr.refl _ _).drewN _⟩
  have d2 : decide (b < 0) = false := decide_eq_false h2
  by_cases h3 : (N : Int) < a
  · have d3 : decide ((N : Int) < a) = true := decide_eq_true h3
    rw [if_pos (.inr (.inr (.inl h3)))] at E
    go_enter Try.func89, Try.ntmps89
    go_wp2_with fail
    go_quiet (first | (go_at_call 29; refine Calls.quiet_of_same ((hA.out _ ((Fr.refl _ _).drewN _)).mono (fun _ _ h => ⟨h.1, h.2.symm⟩))))
    go_wp2_with fail
    go_ret
    exact ⟨ret_int E.out, (Fr.refl _ _).drewN _⟩
  have d3 : decide ((N : Int) < a) = false := decide_eq_false h3
  have hw : IntKind.i64.wrap ((N : Int) - a) = (N : Int) - a := IntWalk.i64_in _ (by omega)
  by_cases h4 : (N : Int) - a < b
  · have d4 : decide ((N : Int) - a < b) = true := decide_eq_true h4
    rw [if_pos (.inr (.inr (.inr h4)))] at E
    go_enter Try.func89, Try.ntmps89
    go_wp2_with fail
    go_quiet (first | (go_at_call 29; refine Calls.quiet_of_same ((hA.out _ ((Fr.refl _ _).drewN _)).mono (fun _ _ h => ⟨h.1, h.2.symm⟩))))
    go_wp2_with fail
    go_ret
    exact ⟨ret_int E.out, (Fr.refl _ _).drewN _⟩
  · have d4 : decide ((N : Int) - a < b) = false := decide_eq_false h4
    rw [if_neg (by omega)] at E
    go_enter Try.func89, Try.ntmps89
    go_wp2_with fail
    go_quiet (first | (go_at_call 29; refine Calls.quiet_of_same ((hA.out _ ((Fr.refl _ _).drewN _)).mono (fun _ _ h => ⟨h.1, h.2.symm⟩))))
    go_wp2_with fail
    go_ret
    exact ⟨ret_int E.out, (Fr.refl _ _).drewN _⟩
end Go.Proofs.Ythmnloapjdalpaa
namespace Go.Proofs.Ythmnloapjdalpaa
open Go.RowKit
set_option linter.unusedVariables false
set_option linter.unusedSimpArgs false
theorem Dk.ext' {d d' : Dk} (h1 : d.n = d'.n) (h2 : ∀ i, d.s i = d'.s i) (h3 : ∀ k, d.u k = d'.u k) (h4 : d.armed = d'.armed) (h5 : d.ch = d'.ch) (h6 : d.dead = d'.dead) : d = d' := by
  obtain ⟨n, s, u, a, c, b⟩ := d
  obtain ⟨n', s', u', a', c', b'⟩ := d'
  simp only at h1 h2 h3 h4 h5 h6
  subst h1 h4 h5 h6
  rw [funext h2, funext h3]
theorem settle_self (d : Dk) (a : Nat) : d.settle a a = d := by
  refine Dk.ext' rfl (fun i => ?_) (fun k => ?_) rfl rfl rfl
  · show (if a ≤ i / 128 ∧ i / 128 < a then rdB d i else d.s i) = d.s i
    rw [if_neg (by omega)]
  · show (if a ≤ k ∧ k < a then none else d.u k) = d.u k
    rw [if_neg (by omega)]
theorem settle_u (d : Dk) (a i : Nat) : (d.settle a i).u i = d.u i := by
  show (if a ≤ i ∧ i < i then none else d.u i) = d.u i
  rw [if_neg (by omega)]
theorem settle_none {d : Dk} {a i : Nat} (h : d.u i = none) : d.settle a (i + 1) = d.settle a i := by
  refine Dk.ext' rfl (fun j => ?_) (fun k => ?_) rfl rfl rfl
  · show (if a ≤ j / 128 ∧ j / 128 < i + 1 then rdB d j else d.s j) = (if a ≤ j / 128 ∧ j / 128 < i then rdB d j else d.s j)
    by_cases h1 : j / 128 = i
    · have h2 : rdB d j = d.s j := by unfold rdB; rw [h1, h]
      rw [h2]
      split <;> split <;> rfl
    · by_cases h2 : a ≤ j / 128 ∧ j / 128 < i
      · rw [if_pos h2, if_pos (by omega)]
      · rw [if_neg h2, if_neg (by omega)]
  · show (if a ≤ k ∧ k < i + 1 then none else d.u k) = (if a ≤ k ∧ k < i then none else d.u k)
    by_cases h1 : k = i
    · subst h1
      rw [h]
      split <;> split <;> rfl
    · by_cases h2 : a ≤ k ∧ k < i
      · rw [if_pos h2, if_pos (by omega)]
      · rw [if_neg h2, if_neg (by omega)]
theorem settle_some_s {d : Dk} {a i : Nat} {t : ByteArray} (ha : a ≤ i) (h : d.u i = some t) (ht : t.size = 128) (j : Nat) : ov (d.settle a i).s (i * 128) t.data.toList j = (d.settle a (i + 1)).s j := by
  have hlen : t.data.toList.length = 128 := ht
  show _ = (if a ≤ j / 128 ∧ j / 128 < i + 1 then rdB d j else d.s j)
  by_cases h1 : j / 128 = i
  · rw [if_pos (by omega), ov_in (by omega) (by omega)]
    unfold rdB
    rw [h1, h]
    show _ = at8 t (j % 128)
    rw [show j - i * 128 = j % 128 from by omega]
    unfold at8
    simp
  · rw [ov_out (by omega)]
    show (if a ≤ j / 128 ∧ j / 128 < i then rdB d j else d.s j) = _
    by_cases h2 : a ≤ j / 128 ∧ j / 128 < i
    · rw [if_pos h2, if_pos (by omega)]
    · rw [if_neg h2, if_neg (by omega)]
theorem settle_some_u {d : Dk} {a i : Nat} (ha : a ≤ i) : (fun j => if j = i then none else (d.settle a i).u j) = (d.settle a (i + 1)).u := by
  funext j
  show (if j = i then none else (if a ≤ j ∧ j < i then none else d.u j)) = (if a ≤ j ∧ j < i + 1 then none else d.u j)
  by_cases h1 : j = i
  · rw [if_pos h1, if_pos (by omega)]
  · rw [if_neg h1]
    by_cases h2 : a ≤ j ∧ j < i
    · rw [if_pos h2, if_pos (by omega)]
    · rw [if_neg h2, if_neg (by omega)]
theorem DiskAt.settled {w w1 w2 : World} {p g m a i : Nat} {d : Dk} {t : ByteArray} (h : DiskAt w p g m (d.settle a i)) (ha : a ≤ i) (hu : d.u i = some t) (ht : t.size = 128)
    (h1 : w1 = w.setCells g (i * 128) (t.data.toList.map fun x => Value.int .u8 (x.toNat : Int))) (h2 : UMap w2 m d.n (fun j => if j = i then none else (d.settle a i).u j)) (hf : Fr [m] w1 w2) (hok : (d.settle a (i + 1)).Ok) : DiskAt w2 p g m (d.settle a (i + 1)) := by
  have hf1 : Fr [g] w w1 := by rw [h1]; exact Fr.setCells (.inl (by simp)) _ _ _ (Fr.refl _ _)
  have e1 := h.pg
  have e2 := h.pm
  have e3 := h.gm
  have hn := h.noz
  have hn1 : NoZ w1 [m] := fun j hj cs mk he => by
    simp only [List.mem_cons, List.not_mem_nil, or_false] at hj
    subst hj
    rw [hf1.block j h.ltm (by simp; omega)] at he
    exact hn j (by simp) cs mk he
  obtain ⟨ok, ⟨cap, cv, hb, hc, hm, hz⟩, sb, um⟩ := h
  refine ⟨hok, ⟨cap, cv, (hb.fr hf1 (by simp [e1])).fr hf (by simp [e2]), hc, hm, (hz.fr hf1 (fun j hj => hn j (by simp at hj; simp [hj]))).fr hf hn1⟩, ?_, ?_⟩
  · have hs := Wb.setCells t.data.toList (i * 128) _ _ sb
    rw [← h1] at hs
    exact (hs.fr hf (by simp [e3])).ext (fun j _ => settle_some_s ha hu ht j)
  · rw [← settle_some_u ha]
    exact h2
end Go.Proofs.Ythmnloapjdalpaa
