/- plays: Arm; any call. -/
import Derived.Test.YthmnloapjdalpaaK14
namespace Go.Proofs.Ythmnloapjdalpaa
open Go.RowKit
set_option linter.unusedVariables false
set_option linter.unusedSimpArgs false
/-- A row that was made behind w1, to be written over. -/
structure ArmR (w1 w3 : World) (A : Option Addr) (n k : Nat) : Prop where
  fr : Fr [] w1 w3
  k0 : w1.heap.size ≤ k
  k1 : k < w3.heap.size
  row : 0 < n → A = some ⟨k, 0, none⟩ ∧ ∃ cs, Blk w3 k 3 cs ∧ n ≤ cs.size
theorem ArmR.made {w1 w3 : World} {A : Option Addr} {n cap : Nat} {l : List Int} (hf : Fr [] w1 w3) (hs : w1.heap.size < w3.heap.size) (h : w3.ownsRow w1.heap.size 3 1 (.slice A n cap) n (ints l)) : ∃ k, ArmR w1 w3 A n k := by
  by_cases h0 : 0 < n
  · have hv : (.slice A n cap : Value) ≠ .slice none 0 0 := fun hh => by injection hh with _ hh _; omega
    obtain ⟨g, cap', cs, e1, h1, h2, h2', h3, h4⟩ := own_some h hv
    injection e1 with e1 _ _
    have hl : (ints l).length = n * 1 := h.1
    have hx : (ints l)[n - 1]? = some ((ints l)[n - 1]'(by omega)) := List.getElem?_eq_getElem (by omega)
    have hc := (Array.getElem?_eq_some_iff.1 (h4 _ _ hx)).1
    exact ⟨g, hf, h1, h3.lt, fun _ => ⟨e1, cs, h3, by omega⟩⟩
  · exact ⟨w1.heap.size, hf, Nat.le_refl _, hs, fun hh => absurd hh h0⟩
/-- Under way. -/
def ArmI (w4 wr : World) (A : Option Addr) (n k : Nat) : Prop := Fr [k] w4 wr ∧ (0 < n → A = some ⟨k, 0, none⟩ ∧ ∃ cs, Blk wr k 3 cs ∧ n ≤ cs.size)
theorem ArmI.step {w4 wr : World} {A : Option Addr} {n k j : Nat} (h : ArmI w4 wr A n k) (hj : j < n) (u : Value) : A = some ⟨k, 0, none⟩ ∧ wr.frozen? ⟨k, j, none⟩ = false ∧ (∃ u0, wr.cell? ⟨k, j, none⟩ = some u0) ∧ ArmI w4 (wr.setCell ⟨k, j, none⟩ u) A n k := by
  obtain ⟨hf, hr⟩ := h
  obtain ⟨hA, cs, hb, hn⟩ := hr (by omega)
  exact ⟨hA, hb.frozen j, ⟨cs[j]'(by omega), by rw [hb.cell]; exact Array.getElem?_eq_getElem (by omega)⟩, hf.setCell (.inl (by simp)) u, fun _ => ⟨hA, _, hb.set_ j u, by simpa using hn⟩⟩
set_option maxRecDepth 100000 in
set_option maxHeartbeats 2000000 in
theorem plays3 {z : List Nat} {w : World} {p q : Nat} {d : Dk} {x : OpD} {cA : Option Addr} {cl cc : Nat} (h : PlayA z w p q d x cA cl cc) (hk : x.kind = 3) : Calls Try.prog 51 #[ptr p, ptr q, .agg (x.v (.slice cA cl cc))] w (PlayP z w p q) := by
  obtain ⟨w1, hw1⟩ : ∃ w1, w.alloc (.cells (x.v (.slice cA cl cc)) 94) = w1 := ⟨_, rfl⟩
  have HB := h.b hw1
  have HX := Lib.hid HB.box
  have HE := Lib.hid HB.fin
  have HZ := Lib.hid HB.zw
  have hd := HB.h
  have hA := (wf_le h.f.a).2
  obtain ⟨i0, hi0, hz0, hz1, hz2⟩ := info3 Try.info3
  have hfa : Fr [] w1 (w1.alloc (.cells #[] 3)) := (Fr.refl [] w1).alloc _
  have Hm0 := Lib.hid (World.ownsRow_made (base := w1.heap.size) (e := 3) (size := 1) w1 #[] 0 (by simp) (by simp [maxLen]) (by simp))
  have hzw := HB.zw w1 (Fr.refl _ _)
  obtain ⟨hcl, hclc, hcm⟩ := hzw.len
  have HZa := Lib.hid (hzw.fr hfa (NoZ.nil _))
  have H1 := Lib.hid (fun (w3 : World) (A : Option Addr) (cap k : Nat) (hr : ArmR w1 w3 A cl k) (hzz : Zw w3 (.slice A cl cap) x.ch) => hd.arm hr.fr hr.k0 hr.k1 x.a hzz h.b8 hA)
  have H2 := Lib.hid (fun W (hh : Prz z w1 W p q (d.armS x.a x.ch) d) => hh.rarm x.a (HZ.out _ hh.fr) (fun j y hj g o e => fun e2 => h.away j y hj g o e (by rw [e2]; exact h.qz)) h.b8 hA)
  have hpl : p < w1.heap.size := by
    obtain ⟨f, g, m, ha, -⟩ := hd.x
    exact ha.ltp
  have Hpl := Lib.hid hpl
  have hb8 := h.b8
  unfold OpD.v at hw1 ⊢
  rw [hk] at HX hw1 ⊢
  obtain ⟨m0, m1, m2, m3, m4, m5, m6⟩ := HX.out _ hd.fr
  obtain ⟨a0, a1, a2, a3, a4, a5, a6⟩ := HX.out _ (hd.to hfa).fr
  have HXd := Lib.hid (fun W (hf : Fr [] w1 W) => HX.out W (hd.to hf).fr)
  have Hcl := Lib.hid hcl
  have hs1 : w1.heap.size < (w1.alloc (.cells #[] 3)).heap.size := by simp
  have Hs1 := Lib.hid hs1
  have hbs : w1.heap.size ≤ (w1.alloc (.cells #[] 3)).heap.size := by simp
  have hm1 : 0 + cl ≤ maxLen := by omega
  have hm2 : (0 + cl) * 8 ≤ 140737488355328 := by omega
  have hcx : (cl : Int) ≤ 9223372036854775807 := by simp only [maxLen] at hcm; omega
  clear h HB hzw hpl hfa hclc hcm hb8 hcl hs1 hd
  generalize d.armS x.a x.ch = D at *
  generalize d.armE x.a = E at *
  go_enter Try.func51, Try.ntmps51
  go_upto_region 13 with (first
    | (at_builtin; go_must (refine wpList_append_zw _ rfl (.tmp 72) (.tmp 74) 42 rfl w1.heap.size i0 (.int .i64 0) Try.underlying42 hi0 hz0 hz1 hz2 rfl _ 0 [] rfl Hm0.out cA cl cc x.ch rfl HZa.out hm1 hm2 hbs ?_; intro v' w3 ho' hg'; simp only [List.nil_append, Nat.zero_add] at ho'; obtain ⟨A', cp', rfl⟩ := own_shape ho'; have hf3 := ((Fr.refl [] w1).alloc (.cells #[] 3)).own Hm0.out hg'; obtain ⟨k, hr⟩ := ArmR.made hf3 (by have := Hs1.out; have := hg'.size; omega) ho'; have hzz := (Zs.of_own ho' Hcl.out).zw; have HR := Lib.hid hr; obtain ⟨b0, b1, b2, b3, b4, b5, b6⟩ := HXd.out _ hf3; have H81 := Lib.hid (H1.out _ _ _ _ hr hzz); clear hr hzz hf3 hg' ho'))
    | (go_at_call 81; refine H81.out.mono ?_; rintro e w4 ⟨rfl, hf4, hd4⟩; have HF4 := Lib.hid hf4; have HD4 := Lib.hid hd4; clear hf4 hd4))
  have HI0 : Hid (ArmI w4 w4 A' cl k) := Lib.hid ⟨Fr.refl _ _, fun h0 => by
    obtain ⟨hA', cs, hb, hn⟩ := HR.out.row h0
    have := HR.out.k0
    have := Hpl.out
    exact ⟨hA', cs, hb.fr HF4.out (by simp; omega), hn⟩⟩
  clear H81 HR HF4 H1
  go_wp2_with fail
  go_loopg [13] cl (fun gg vi wr => ∃ (j : Nat), j + gg = cl ∧ vi = .int .i64 (j : Int) ∧ ArmI w4 wr A' cl k)
  case atStart => exact ⟨0, by omega, rfl, HI0.out⟩
  case round =>
    obtain ⟨j, hj, rfl, hI⟩ := hrel
    have Hj := Lib.hid hj
    by_cases hlt : j < cl
    · have hlt' : (j : Int) < (cl : Int) := by omega
      have hj0 : (0 : Int) ≤ (j : Int) := by omega
      have hwj : IntKind.i64.wrap ((j : Int) + 1) = (j : Int) + 1 := IntWalk.i64_in _ (by omega)
      obtain ⟨rfl, fz, ⟨u0, x0⟩, hI'⟩ := hI.step hlt (.int .i64 999)
      have HI' := Lib.hid hI'
      clear hI hI' hj HI0
      go_wp2_with fail
      go_roundg (cl - (j + 1))
      case measure => have := Hj.out; omega
      case rel => exact ⟨j + 1, by have := Hj.out; omega, by go_num, HI'.out⟩
    · have hlt' : ¬ (j : Int) < (cl : Int) := by omega
      have hd := HD4.out _ hI.1
      obtain ⟨n0, n1, n2, n3, n4, n5, n6⟩ := HX.out _ hd.fr
      clear hI hj HI0 HD4
      go_wp2_with (go_at_call 82; have hq := H2.out _ hd; clear hd; refine hq.mono ?_; clear hq; rintro e w5 ⟨rfl, hd⟩)
      go_ret
      exact HE.out _ _ hd
theorem plays_any {z : List Nat} {w : World} {p q : Nat} {d : Dk} {x : OpD} {cA : Option Addr} {cl cc : Nat} (h : PlayA z w p q d x cA cl cc) : Calls Try.prog 51 #[ptr p, ptr q, .agg (x.v (.slice cA cl cc))] w (PlayP z w p q) := by
  by_cases h0 : x.kind = 0
  · exact plays0 h h0
  by_cases h1 : x.kind = 1
  · exact plays1 h h1
  by_cases h2 : x.kind = 2
  · exact plays2 h h2
  by_cases h3 : x.kind = 3
  · exact plays3 h h3
  by_cases h4 : x.kind = 4
  · exact plays4 h h4
  by_cases h5 : x.kind = 5
  · exact plays5 h h5
  by_cases h7 : x.kind = 7
  · exact plays7 h h7
  · exact playsN h ⟨h0, h1, h2, h3, h4, h5, h7⟩
end Go.Proofs.Ythmnloapjdalpaa
