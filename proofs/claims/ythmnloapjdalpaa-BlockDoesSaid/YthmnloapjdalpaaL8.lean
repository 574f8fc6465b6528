/- DiskFlushes: the walk. -/
import Derived.Test.YthmnloapjdalpaaL7
import Derived.RegionTactic
import Derived.ChangeAlike
namespace Go.Proofs.Ythmnloapjdalpaa
open Go.RowKit
set_option linter.unusedVariables false
set_option linter.unusedSimpArgs false
theorem Dd.fixed {w0 w : World} {p : Nat} {d : Dk} (h : Dd w0 w p d) : Calls Try.prog 46 #[] w fun e w' => e = .returned (.bool true) ∧ Dd w0 w' p d := (fixed07_any w).mono fun e w' ⟨he, hf⟩ => ⟨he, h.to hf⟩
theorem Dd.after_ {w0 w : World} {p : Nat} {d : Dk} {A : Option Addr} {n cap : Nat} {l : List Int} (h : Dd w0 w p d) (hz : Zw w0 (.slice A n cap) l) : Calls Try.prog 49 #[ptr p, .slice A n cap] w fun e w' => e = .returned (.string (d.after l)) ∧ Dd w0 w' p d :=
  (h.after (hz.fr h.fr (NoZ.nil _))).mono fun e w' ⟨he, hf⟩ => ⟨he, h.to hf⟩
theorem place_nat (x : Int) (m : Nat) (hm : 0 < m) : ∃ f : Nat, x % (m : Int) = (f : Int) ∧ f < m := by
  have h1 := Int.emod_nonneg x (show (m : Int) ≠ 0 by omega)
  have h2 := Int.emod_lt_of_pos x (show (0 : Int) < m by omega)
  exact ⟨(x % (m : Int)).toNat, by omega, by omega⟩
theorem none_walk (t : ByteArray) (w : World) (h : newE t ≠ 0) (ht : t.size ≤ maxLen) : Calls Try.prog 35 #[.string t] w fun e w' => e = .returned (.tuple #[.pointer none, .int .i64 70]) ∧ Fr [] w w' :=
  (rNew_bad t w ht h).mono fun e w' ⟨he, hw⟩ => ⟨he, hw ▸ Fr.refl _ _⟩
theorem made_bad (t : ByteArray) (w : World) (A : Option Addr) (n cap : Nat) (ops : Nat → OpD) (ht : t.size ≤ maxLen) (ho : OpsD w (.slice A n cap) n ops) (h0 : newE t ≠ 0) :
    Calls Try.prog 45 #[.string t, .slice A n cap] w fun e w' => e = .returned (.pointer none) ∧ Fr [] w w' := (made_any t w A n cap ops ht ho).mono fun e w' h => by
  rcases h with ⟨h1, he, hf⟩ | ⟨h1, -⟩
  · exact ⟨he, hf⟩
  · exact absurd h1 h0
theorem made_ok (t : ByteArray) (w : World) (A : Option Addr) (n cap : Nat) (ops : Nat → OpD) (ht : t.size ≤ maxLen) (ho : OpsD w (.slice A n cap) n ops) (h0 : newE t = 0) :
    Calls Try.prog 45 #[.string t, .slice A n cap] w fun e w' => ∃ p d, e = .returned (ptr p) ∧ Dd w w' p d ∧ d.Calm ∧ t.size = 128 * d.n := (made_any t w A n cap ops ht ho).mono fun e w' h => by
  rcases h with ⟨h1, -⟩ | ⟨h1, p, d, he, hd, hc, hn⟩
  · exact absurd h0 h1
  · obtain ⟨-, h2, -⟩ := newE_ok h0
    exact ⟨p, d, he, hd, hc, by omega⟩
/-- What DiskFlushes' calls tell. -/
structure FlC (w : World) (p : Nat) (D D' : Dk) (N f c : Nat) (x0 x1 : Int) (IM SF NW LF : ByteArray) (C : Option Addr) (nc cc : Nat) (l : List Int) : Prop where
  count : ∀ W, Dd w W p D → Calls Try.prog 29 #[ptr p] W fun e w' => e = .returned (.int .i64 N) ∧ W = w'
  im : ∀ W, Dd w W p D → Calls Try.prog 28 #[ptr p] W fun e w' => e = .returned (.string IM) ∧ Dd w w' p D
  im2 : ∀ W, Dd w W p D' → Calls Try.prog 28 #[ptr p] W fun e w' => e = .returned (.string IM) ∧ Dd w w' p D'
  sf : ∀ W, Dd w W p D → Calls Try.prog 31 #[ptr p] W fun e w' => e = .returned (.string SF) ∧ Dd w w' p D
  sf2 : ∀ W, Dd w W p D' → Calls Try.prog 31 #[ptr p] W fun e w' => e = .returned (.string NW) ∧ Dd w w' p D'
  p1 : ∀ W, Calls Try.prog 47 #[.int .i64 x0, .int .i64 ((N : Int) + 1)] W fun e w' => e = .returned (.int .i64 f) ∧ W = w'
  p2 : ∀ W, Calls Try.prog 47 #[.int .i64 x1, .int .i64 ((N : Int) - (f : Int) + 1)] W fun e w' => e = .returned (.int .i64 c) ∧ W = w'
  flush : ∀ W, Dd w W p D → Calls Try.prog 48 #[ptr p, .int .i64 f, .int .i64 c] W fun e w' => e = .returned (.int .i64 0) ∧ Dd w w' p D'
  after : ∀ W, Dd w W p D' → Calls Try.prog 49 #[ptr p, .slice C nc cc] W fun e w' => e = .returned (.string LF) ∧ Dd w w' p D'
  fixed : ∀ W, Dd w W p D' → Calls Try.prog 46 #[] W fun e w' => e = .returned (.bool true) ∧ Dd w w' p D'
theorem flC {w0 w : World} {p : Nat} {D : Dk} (hd : Dd w0 w p D) (hc : D.Calm) (x0 x1 : Int) (hx : (-9223372036854775808 ≤ x0 ∧ x0 ≤ 9223372036854775807) ∧ -9223372036854775808 ≤ x1 ∧ x1 ≤ 9223372036854775807) {C : Option Addr} {nc cc : Nat} {l : List Int} (hz : Zw w0 (.slice C nc cc) l) :
    ∃ f c D' IM SF NW LF P1 P2 P3, FlC w0 p D D' D.n f c x0 x1 IM SF NW LF C nc cc l ∧ f + c ≤ D.n ∧ IM.size = 128 * D.n ∧ SF.size = 128 * D.n ∧ NW.size = 128 * D.n ∧ LF.size = 128 * D.n ∧
      NW.extract 0 (128 * f) = P1 ∧ SF.extract 0 (128 * f) = P1 ∧ NW.extract (128 * (f + c)) NW.size = P2 ∧ SF.extract (128 * (f + c)) SF.size = P2 ∧ NW.extract (128 * f) (128 * (f + c)) = P3 ∧ IM.extract (128 * f) (128 * (f + c)) = P3 ∧ LF.extract (128 * f) (128 * (f + c)) = P3 := by
  have hn := hd.ok.n2
  obtain ⟨f, e1, h1⟩ := place_nat x0 (D.n + 1) (by omega)
  obtain ⟨c, e2, h2⟩ := place_nat x1 (D.n - f + 1) (by omega)
  obtain ⟨P1, P2, P3, F⟩ := flP D f c l (by omega)
  obtain ⟨g1, g2⟩ := flush_ok hc f c (by omega)
  refine ⟨f, c, D.settle f (f + c), D.image, D.safe, (D.settle f (f + c)).safe, (D.settle f (f + c)).after l, P1, P2, P3, ?_, by omega, image_size _, safe_size _, safe_size _, after_sz _ _, F.a1, F.b1, F.a2, F.b2, F.a3, F.b3, F.c3⟩
  exact {
    count := fun W h => h.count
    im := fun W h => h.image_
    im2 := fun W h => h.image_.mono fun e w' ⟨he, hw⟩ => ⟨by rw [he, settle_image], hw⟩
    sf := fun W h => h.safe.mono fun e w' ⟨he, hw⟩ => ⟨he, hw ▸ h⟩
    sf2 := fun W h => h.safe.mono fun e w' ⟨he, hw⟩ => ⟨he, hw ▸ h⟩
    p1 := fun W => by
      have := place_any x0 (D.n + 1) (by omega) (by omega) hx.1.1 hx.1.2 W
      rw [e1, show ((D.n + 1 : Nat) : Int) = (D.n : Int) + 1 by omega] at this
      exact this
    p2 := fun W => by
      have := place_any x1 (D.n - f + 1) (by omega) (by omega) hx.2.1 hx.2.2 W
      rw [e2, show ((D.n - f + 1 : Nat) : Int) = (D.n : Int) - (f : Int) + 1 by omega] at this
      exact this
    flush := fun W h => (h.flush f c (by omega) (by omega)).mono fun e w' ⟨he, hw⟩ => ⟨by rw [he, g1], by rw [g2] at hw; exact hw⟩
    after := fun W h => h.after_ hz
    fixed := fun W h => h.fixed }
set_option maxRecDepth 100000 in
set_option maxHeartbeats 4000000 in
theorem flushes_walk (t : ByteArray) (w : World) (A : Option Addr) (n cap : Nat) (ops : Nat → OpD) (x0 x1 : Int) (C : Option Addr) (nc cc : Nat) (l : List Int) (ht : t.size ≤ maxLen) (ho : OpsD w (.slice A n cap) n ops)
    (hx0 : (Lit.int .i64 x0).wf = true) (hx1 : (Lit.int .i64 x1).wf = true) (hz : Zw w (.slice C nc cc) l) :
    Calls Try.prog 10 #[.string t, .slice A n cap, .agg #[.int .i64 x0, .int .i64 x1, .slice C nc cc]] w fun e w' => e = .returned (.bool true) ∧ Fr [] w w' := by
  have HX := Lib.hid (And.intro (wf_le hx0) (wf_le hx1))
  by_cases h0 : newE t = 0
  · have HM := Lib.hid (fun W (hf : Fr [] w W) => made_ok t W A n cap ops ht (ho.fr hf) h0)
    have HZ := Lib.hid (fun W hf => hz.fr (w' := W) hf (NoZ.nil _))
    have hF0 := Lib.hid (Fr.refl [] w)
    clear ho hz hx0 hx1 h0 ht
    go_enter Try.func10, Try.ntmps10
    go_wp2_with fail
    go_region
    have hf0 : Fr [] w (((w.alloc (Obj.cells #[Value.int IntKind.i64 x0, Value.int IntKind.i64 x1, Value.slice C nc cc] 81)).alloc (Obj.cells #[Value.int IntKind.i64 x0, Value.int IntKind.i64 x1] 79)).drew) := ((hF0.out.alloc _).alloc _).drew
    have hb0 : Blk (((w.alloc (Obj.cells #[Value.int IntKind.i64 x0, Value.int IntKind.i64 x1, Value.slice C nc cc] 81)).alloc (Obj.cells #[Value.int IntKind.i64 x0, Value.int IntKind.i64 x1] 79)).drew) (w.heap.size + 1) 79 #[Value.int IntKind.i64 x0, Value.int IntKind.i64 x1] := (by
      have := (Blk.new (w.alloc (Obj.cells #[Value.int IntKind.i64 x0, Value.int IntKind.i64 x1, Value.slice C nc cc] 81)) 79 #[Value.int IntKind.i64 x0, Value.int IntKind.i64 x1]).drew
      rw [World.size_alloc] at this
      exact this)
    generalize (((w.alloc (Obj.cells #[Value.int IntKind.i64 x0, Value.int IntKind.i64 x1, Value.slice C nc cc] 81)).alloc (Obj.cells #[Value.int IntKind.i64 x0, Value.int IntKind.i64 x1] 79)).drew) = W0 at *
    have HB := Lib.hid (fun W (hf : Fr [] W0 W) => (show W.cell? ⟨w.heap.size + 1, 0, none⟩ = some (.int .i64 x0) ∧ W.cell? ⟨w.heap.size + 1, 1, none⟩ = some (.int .i64 x1) from ⟨hf.cell_some (hb0.cell 0) (by simp), hf.cell_some (hb0.cell 1) (by simp)⟩))
    have HM0 := Lib.hid (HM.out _ hf0)
    have HZ0 := Lib.hid (HZ.out _ hf0)
    have Hf0 := Lib.hid hf0
    clear hf0 hb0 HM HZ hF0
    go_wp2_with (go_at_call 45; refine HM0.out.mono ?_; rintro e w1 ⟨p, D, rfl, hd, hc, hts⟩; obtain ⟨f, c, D', IM, SF, NW, LF, P1, P2, P3, hC, hfc, s1, s2, s3, s4, e1, e2, e3, e4, e5, e6, e7⟩ := flC hd hc x0 x1 HX.out HZ0.out; have K := Lib.hid hC; have hn2 := hd.ok.n2; generalize D.n = N at *; clear hC hc HX HM0 HZ0)
    have q1 : (128 * (N : Int)).tdiv 128 = N := by rw [Int.tdiv_eq_ediv_of_nonneg (by omega)]; omega
    have v1 : IntKind.i64.wrap ((N : Int) + 1) = (N : Int) + 1 := IntWalk.i64_in _ (by omega)
    have v2 : IntKind.i64.wrap ((N : Int) - (f : Int)) = (N : Int) - (f : Int) := IntWalk.i64_in _ (by omega)
    have v3 : IntKind.i64.wrap ((N : Int) - (f : Int) + 1) = (N : Int) - (f : Int) + 1 := IntWalk.i64_in _ (by omega)
    have v4 : IntKind.i64.wrap (128 * (f : Int)) = 128 * (f : Int) := IntWalk.i64_in _ (by omega)
    have v5 : IntKind.i64.wrap ((f : Int) + (c : Int)) = (f : Int) + (c : Int) := IntWalk.i64_in _ (by omega)
    have v6 : IntKind.i64.wrap (128 * ((f : Int) + (c : Int))) = 128 * ((f : Int) + (c : Int)) := IntWalk.i64_in _ (by omega)
    have m1 := fun wx => (sl_h NW (128 * f) (128 * (f : Int)) (by omega) wx (by omega)).trans (by rw [e1])
    have m2 := fun wx => (sl_h SF (128 * f) (128 * (f : Int)) (by omega) wx (by omega)).trans (by rw [e2])
    have m3 := fun wx => (sl_l NW (128 * (f + c)) (128 * ((f : Int) + (c : Int))) (by omega) wx (by omega)).trans (by rw [e3])
    have m4 := fun wx => (sl_l SF (128 * (f + c)) (128 * ((f : Int) + (c : Int))) (by omega) wx (by omega)).trans (by rw [e4])
    have m5 := fun wx => (sl_lh NW (128 * f) (128 * (f + c)) (128 * (f : Int)) (128 * ((f : Int) + (c : Int))) (by omega) (by omega) wx (by omega) (by omega)).trans (by rw [e5])
    have m6 := fun wx => (sl_lh IM (128 * f) (128 * (f + c)) (128 * (f : Int)) (128 * ((f : Int) + (c : Int))) (by omega) (by omega) wx (by omega) (by omega)).trans (by rw [e6])
    have m7 := fun wx => (sl_lh LF (128 * f) (128 * (f + c)) (128 * (f : Int)) (128 * ((f : Int) + (c : Int))) (by omega) (by omega) wx (by omega) (by omega)).trans (by rw [e7])
    clear e1 e2 e3 e4 e5 e6 e7
    go_wp2_with (first
      | (go_at_call 28; have hq := K.out.im _ hd; clear hd; refine hq.mono ?_; rintro e w2 ⟨rfl, hd⟩; clear hq)
      | (go_at_call 31; have hq := K.out.sf _ hd; clear hd; refine hq.mono ?_; rintro e w3 ⟨rfl, hd⟩; clear hq)
      | (go_at_call 29; have hq := K.out.count _ hd; refine hq.mono ?_; rintro e w4 ⟨rfl, rfl⟩; clear hq))
    have k0 := HB.out _ hd.fr
    have hd2 := hd.drew
    clear hd
    go_region_held3 (fun W => W.cell? ⟨w.heap.size + 1, 0, none⟩ = some (.int .i64 x0) ∧ W.cell? ⟨w.heap.size + 1, 1, none⟩ = some (.int .i64 x1)) (first | exact k0 | go_keep) (first
      | (go_at_call 29; have hq := K.out.count _ hd2; refine hq.mono ?_; rintro e w5 ⟨rfl, rfl⟩; clear hq)
      | (go_at_call 47; refine (K.out.p1 _).mono ?_; rintro e w6 ⟨rfl, rfl⟩))
    go_wp2_with fail
    have k1 := HB.out _ hd2.fr
    have hd3 := hd2.drew
    clear hd2 k0
    go_region_held3 (fun W => W.cell? ⟨w.heap.size + 1, 0, none⟩ = some (.int .i64 x0) ∧ W.cell? ⟨w.heap.size + 1, 1, none⟩ = some (.int .i64 x1)) (first | exact k1 | go_keep) (first
      | (go_at_call 29; have hq := K.out.count _ hd3; refine hq.mono ?_; rintro e w5 ⟨rfl, rfl⟩; clear hq)
      | (go_at_call 47; refine (K.out.p2 _).mono ?_; rintro e w6 ⟨rfl, rfl⟩))
    clear k1
    go_wp2_with (first
      | (go_at_call 48; have hq := K.out.flush _ hd3; clear hd3; refine hq.mono ?_; rintro e w2 ⟨rfl, hd⟩; clear hq)
      | (go_at_call 28; have hq := K.out.im2 _ hd; clear hd; refine hq.mono ?_; rintro e w2 ⟨rfl, hd⟩; clear hq)
      | (go_at_call 31; have hq := K.out.sf2 _ hd; clear hd; refine hq.mono ?_; rintro e w3 ⟨rfl, hd⟩; clear hq))
    go_quiet (fail)
    go_wp2_with (first
      | (go_at_call 49; refine (K.out.after _ (hd.to ((Fr.refl [] _).drewN _))).mono ?_; rintro e w5 ⟨rfl, hd5⟩))
    have hd6 := hd5.drew
    clear hd hd5
    go_region_held3 (fun W => True) (exact trivial) (first
      | (go_at_call 46; refine (K.out.fixed _ hd6).mono ?_; rintro e w6 ⟨rfl, hd7⟩))
    go_wp2_with fail
    go_ret
    exact ⟨rfl, Hf0.out.trans hd7.fr⟩
  · have HM := Lib.hid (fun W (hf : Fr [] w W) => made_bad t W A n cap ops ht (ho.fr hf) h0)
    have HN := Lib.hid (fun W => none_walk t W h0 ht)
    have HFx := Lib.hid fixed07_any
    have hF0 := Lib.hid (Fr.refl [] w)
    clear ho hz hx0 hx1 h0 ht HX
    go_enter Try.func10, Try.ntmps10
    go_wp2_with fail
    go_region
    have hf0 := ((hF0.out.alloc (Obj.cells #[Value.int IntKind.i64 x0, Value.int IntKind.i64 x1, Value.slice C nc cc] 81)).alloc (Obj.cells #[Value.int IntKind.i64 x0, Value.int IntKind.i64 x1] 79)).drew
    generalize (((w.alloc (Obj.cells #[Value.int IntKind.i64 x0, Value.int IntKind.i64 x1, Value.slice C nc cc] 81)).alloc (Obj.cells #[Value.int IntKind.i64 x0, Value.int IntKind.i64 x1] 79)).drew) = W0 at *
    have HM0 := Lib.hid (HM.out _ hf0)
    have Hf0 := Lib.hid hf0
    clear hf0
    go_wp2_with (first
      | (go_at_call 45; refine HM0.out.mono ?_; rintro e w1 ⟨rfl, hf1⟩)
      | (go_at_call 35; refine (HN.out _).mono ?_; rintro e w2 ⟨rfl, hf2⟩)
      | (go_at_call 46; refine (HFx.out _).mono ?_; rintro e w3 ⟨rfl, hf3⟩))
    go_ret
    exact ⟨rfl, Hf0.out.trans (hf1.trans (hf2.trans hf3))⟩
end Go.Proofs.Ythmnloapjdalpaa
