/- The program's disk: Write. -/
import Derived.Test.YthmnloapjdalpaaW8
namespace Go.Proofs.Ythmnloapjdalpaa
open Go.RowKit
set_option linter.unusedVariables false
set_option linter.unusedSimpArgs false
theorem enter70 (args : Array Value) (W : World) : (callFunc 70 args).run Try.prog W = .ok (.enter 70 args) W := by kernel_rfl
theorem enter89 (args : Array Value) (W : World) : (callFunc 89 args).run Try.prog W = .ok (.enter 89 args) W := by kernel_rfl
theorem Zs.form {w : World} {v : Value} {l : List Int} (h : Zs w v l) : ∃ A n cap, v = .slice A n cap := by
  obtain ⟨A, cap, h1, -⟩ := h
  exact ⟨A, _, cap, h1⟩
theorem Turned.after {p g m : Nat} {w w1 w2 : World} {d : Dk} (hf : Fr [p, g, m] w w1) (h : Turned p g m w1 d w2) : Turned p g m w d w2 := by
  obtain ⟨g', m', h1, h2, h3, h4⟩ := h
  have hs := hf.size
  exact ⟨g', m', h1, hf.trans h2, by omega, by omega⟩
theorem refused_any (p g m : Nat) (F : FuncId) (caps : Array Value) (d : Dk) (V : Int) (w : World) (h : DiskAt w p g m d) (eF : ∀ args W, (callFunc F args).run Try.prog W = .ok (.enter F args) W)
    (hC : Calls Try.prog F caps w fun e w' => e = .returned (.int .i64 V) ∧ w = w') :
    Calls Try.prog 69 #[ptr p, .func (.func F) #[] caps] w fun e w' => e = .returned (.int .i64 (if d.dead = true then 2 else V)) ∧ w = w' := by
  have hA := Lib.hid hC
  obtain ⟨cap, cv, ⟨c0, c1, c2, c3, c4, fz⟩, hc, hm, hz⟩ := h.cells
  have E := Lib.hid (show (if d.dead = true then (2 : Int) else V) = (if d.dead = true then (2 : Int) else V) from rfl)
  obtain ⟨Z, hZ⟩ : ∃ Z, (if d.dead = true then (2 : Int) else V) = Z := ⟨_, rfl⟩
  rw [hZ] at E ⊢
  have hz' := Lib.hid hZ
  clear h c1 c2 c3 c0 fz hz hc hm hC hZ E
  cases hd : d.dead with
  | true =>
    rw [hd, if_pos rfl] at hz'
    rw [hd] at c4
    go_enter Try.func69, Try.ntmps69
    go_wp2_with fail
    go_ret
    exact ⟨ret_int hz'.out, rfl⟩
  | false =>
    rw [hd, if_neg (by simp)] at hz'
    rw [hd] at c4
    go_enter Try.func69, Try.ntmps69
    go_wp2_with (refine hA.out.mono ?_; rintro e w' ⟨rfl, rfl⟩)
    go_ret
    exact ⟨ret_int hz'.out, rfl⟩
def wr1E (d : Dk) (i : Int) (t : ByteArray) : Int := if i < 0 ∨ (d.n : Int) ≤ i then 71 else if t.size ≠ 128 then 72 else 0
theorem write1_any (p g m a b c : Nat) (d : Dk) (i : Int) (t : ByteArray) (w : World) (h : DiskAt w p g m d) (ha : w.cell? ⟨a, 0, none⟩ = some (ptr p)) (hb : w.cell? ⟨b, 0, none⟩ = some (.int .i64 i)) (hc : w.cell? ⟨c, 0, none⟩ = some (.string t)) :
    Calls Try.prog 70 #[ptr a, ptr b, ptr c] w fun e w' => e = .returned (.int .i64 (wr1E d i t)) ∧ w = w' := by
  have hA := Lib.hid (at_any p g m d i w h)
  have E := Lib.hid (show (if i < 0 ∨ (d.n : Int) ≤ i then (71 : Int) else if t.size ≠ 128 then 72 else 0) = wr1E d i t from rfl)
  clear h
  generalize wr1E d i t = V at *
  by_cases h1 : i < 0 ∨ (d.n : Int) ≤ i
  · rw [if_pos h1] at E
    have e1 : atE d i = 71 := if_pos h1
    rw [e1] at hA
    clear h1 e1
    go_enter Try.func70, Try.ntmps70
    go_wp2_with (go_at_call 71; refine hA.out.mono ?_; rintro e w' ⟨rfl, rfl⟩)
    go_ret
    exact ⟨ret_int E.out, rfl⟩
  · rw [if_neg h1] at E
    have e1 : atE d i = 0 := if_neg h1
    rw [e1] at hA
    clear h1 e1
    by_cases h2 : t.size = 128
    · rw [if_neg (by simp [h2])] at E
      have h3 : (t.size : Int) = 128 := by omega
      go_enter Try.func70, Try.ntmps70
      go_wp2_with (go_at_call 71; refine hA.out.mono ?_; rintro e w' ⟨rfl, rfl⟩)
      go_ret
      exact ⟨ret_int E.out, rfl⟩
    · rw [if_pos h2] at E
      have h3 : ¬ (t.size : Int) = 128 := by omega
      go_enter Try.func70, Try.ntmps70
      go_wp2_with (go_at_call 71; refine hA.out.mono ?_; rintro e w' ⟨rfl, rfl⟩)
      go_ret
      exact ⟨ret_int E.out, rfl⟩
theorem writeE0_eq (d : Dk) (i : Int) (t : ByteArray) : (if d.dead = true then 2 else wr1E d i t) = d.writeE0 i t := rfl
structure Box3 (w w1 : World) (u0 u1 u2 : Value) : Prop where
  fr : Fr [] w w1
  k0 : w1.cell? ⟨w.heap.size, 0, none⟩ = some u0
  k1 : w1.cell? ⟨w.heap.size + 1, 0, none⟩ = some u1
  k2 : w1.cell? ⟨w.heap.size + 1 + 1, 0, none⟩ = some u2
  sz : w.heap.size + 1 + 1 < w1.heap.size
theorem Box3.made (w : World) (t0 t1 t2 : TypeId) (u0 u1 u2 : Value) : Box3 w (((w.alloc (.cells #[u0] t0)).alloc (.cells #[u1] t1)).alloc (.cells #[u2] t2)) u0 u1 u2 := by
  have b0 := ((Blk.new w t0 #[u0]).alloc (.cells #[u1] t1)).alloc (.cells #[u2] t2)
  have b1 := (Blk.new' (w := w.alloc (.cells #[u0] t0)) (g := w.heap.size + 1) (t := t1) (cs := #[u1]) (by simp)).alloc (.cells #[u2] t2)
  have b2 := Blk.new' (w := (w.alloc (.cells #[u0] t0)).alloc (.cells #[u1] t1)) (g := w.heap.size + 1 + 1) (t := t2) (cs := #[u2]) (by simp)
  exact ⟨(((Fr.refl [] w).alloc _).alloc _).alloc _, by rw [b0.cell]; rfl, by rw [b1.cell]; rfl, by rw [b2.cell]; rfl, by simp⟩
theorem Box3.to {w w1 w2 : World} {u0 u1 u2 : Value} {S : List Nat} (h : Box3 w w1 u0 u1 u2) (hf : Fr S w1 w2) (hS : ∀ k, k ∈ S → k < w.heap.size) : 
    w2.cell? ⟨w.heap.size, 0, none⟩ = some u0 ∧ w2.cell? ⟨w.heap.size + 1, 0, none⟩ = some u1 ∧ w2.cell? ⟨w.heap.size + 1 + 1, 0, none⟩ = some u2 :=
  ⟨hf.cell_some h.k0 (fun e => by have := hS _ e; simp at this), hf.cell_some h.k1 (fun e => by have := hS _ e; simp at this; omega), hf.cell_some h.k2 (fun e => by have := hS _ e; simp at this; omega)⟩
theorem tick_ch (d : Dk) : d.tick.ch = d.ch := by
  unfold Dk.tick
  split <;> rfl
theorem DiskAt.put {w w' : World} {p g m : Nat} {d : Dk} {k : Nat} {t : ByteArray} (h : DiskAt w p g m d) (hk : k < d.n) (ht : t.size = 128) (hf : Fr [m] w w') (hu : UMap w' m d.n (fun j => if j = k then some t else d.u j)) : DiskAt w' p g m (d.put k t) := by
  have h1 := h.pm
  have h2 := h.gm
  have hn := h.noz
  obtain ⟨ok, ⟨cap, cv, hb, hc, hm, hz⟩, sb, um⟩ := h
  exact ⟨ok.put hk ht, ⟨cap, cv, hb.fr hf (by simp [h1]), hc, hm, hz.fr hf (fun j hj => hn j (by simp at hj; simp [hj]))⟩, sb.fr hf (by simp [h2]), hu⟩
end Go.Proofs.Ythmnloapjdalpaa
