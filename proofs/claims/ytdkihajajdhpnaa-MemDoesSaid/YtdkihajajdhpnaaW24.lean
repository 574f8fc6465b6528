/- A call of a script, on the program's memory and on the reference's: the answers are alike, and so is what is left. -/
import Derived.Test.YtdkihajajdhpnaaW23
namespace Go.Proofs.Ytdkihajajdhpnaa
open Go.RowKit
set_option linter.unusedVariables false
set_option linter.unusedSimpArgs false
attribute [local go_sem ↓] Go.wp_at_zero Go.wp_at_succ
theorem box6' {W : World} {b : Nat} {T : TypeId} {v0 v1 v2 v3 v4 v5 : Value} (h : Blk W b T #[v0, v1, v2, v3, v4, v5]) : W.cell? ⟨b, 0, none⟩ = some v0 ∧ W.cell? ⟨b, 1, none⟩ = some v1 ∧ W.cell? ⟨b, 2, none⟩ = some v2 ∧ W.cell? ⟨b, 3, none⟩ = some v3 ∧ W.cell? ⟨b, 4, none⟩ = some v4 ∧ W.cell? ⟨b, 5, none⟩ = some v5 := by
  rw [h.cell, h.cell, h.cell, h.cell, h.cell, h.cell]
  exact ⟨rfl, rfl, rfl, rfl, rfl, rfl⟩
def DoesP (w : World) (L : DoL) (st1 : St) (e : Ending) (w' : World) : Prop := e = .returned (.bool true) ∧ Do w' L st1 st1 ∧ Fr [L.F, L.G] w w'
section
variable {W : World} {L : DoL} {x y : St}
theorem Do.R (h : Do W L x y) (a n r : Int) (ha : a ≤ 9223372036854775807) : Calls Try.prog 18 #[ptr L.p, .slice L.A L.m L.c, .int .i64 a, .int .i64 n, .int .i64 r] W fun e w' => e = .returned (.tuple #[.string ⟨(rdR x L.t a n r).1.toArray⟩, .int .i64 (rdR x L.t a n r).2]) ∧ Fr [] W w' := Read_any L.tb L.p L.F L.m L.c x L.A L.t a n r W h.t h.m ha h.h
theorem Do.Rx (h : Do W L x y) (a n r : Int) (ha : a ≤ 9223372036854775807) : Calls Try.prog 36 #[ptr L.q, .slice L.A L.m L.c, .int .i64 a, .int .i64 n, .int .i64 r] W fun e w' => e = .returned (.tuple #[.string ⟨(rdR y L.t a n r).1.toArray⟩, .int .i64 (rdR y L.t a n r).2]) ∧ Fr [] W w' := rRead_any L.tb L.q L.G L.m L.c y L.A L.t a n r W h.t h.x ha
theorem Do.Ld (h : Do W L x y) (a k r : Int) (ha : a ≤ 9223372036854775807) : Calls Try.prog 16 #[ptr L.p, .slice L.A L.m L.c, .int .i64 a, .int .i64 k, .int .i64 r] W fun e w' => e = .returned (.tuple #[.int .i64 (ldR x L.t a k r).1, .int .i64 (ldR x L.t a k r).2]) ∧ Fr [] W w' := Load_any L.tb L.p L.F L.m L.c x L.A L.t a k r W h.t h.m ha h.h
theorem Do.Ldx (h : Do W L x y) (a k r : Int) (ha : a ≤ 9223372036854775807) : Calls Try.prog 38 #[ptr L.q, .slice L.A L.m L.c, .int .i64 a, .int .i64 k, .int .i64 r] W fun e w' => e = .returned (.tuple #[.int .i64 (ldR y L.t a k r).1, .int .i64 (ldR y L.t a k r).2]) ∧ Fr [] W w' := rLoad_any L.tb L.q L.G L.m L.c y L.A L.t a k r W h.t h.x ha
theorem Do.Wr (h : Do W L x y) (hn : DoN L) (a : Int) (s : ByteArray) (ha : a ≤ 9223372036854775807) : Calls Try.prog 14 #[ptr L.p, .slice L.A L.m L.c, .int .i64 a, .string s] W (DoP W L (wrS x L.t a s) y L.F (wrE x L.t a s)) :=
  (Write_any L.tb L.p L.F L.m L.c x L.A L.t a s W h.t h.m ha h.h).mono fun e w' ⟨he, hm, hf⟩ => ⟨he, h.setM hn hm hf, hf⟩
theorem Do.Wrx (h : Do W L x y) (hn : DoN L) (a : Int) (s : ByteArray) (ha : a ≤ 9223372036854775807) : Calls Try.prog 37 #[ptr L.q, .slice L.A L.m L.c, .int .i64 a, .string s] W (DoP W L x (wrS y L.t a s) L.G (wrE y L.t a s)) :=
  (rWrite_any L.tb L.q L.G L.m L.c y L.A L.t a s W h.t h.x ha hn.g.2.2.2).mono fun e w' ⟨he, hm, hf⟩ => ⟨he, h.setX hn hm hf, hf⟩
theorem Do.S (h : Do W L x y) (hn : DoN L) (a k n : Int) (ha : a ≤ 9223372036854775807) : Calls Try.prog 29 #[ptr L.p, .slice L.A L.m L.c, .int .i64 a, .int .i64 k, .int .i64 n] W (DoP W L (stS x L.t a k n) y L.F (stE x L.t a k n)) :=
  (Store_any L.tb L.p L.F L.m L.c x L.A L.t a k n W h.t h.m ha h.h).mono fun e w' ⟨he, hm, hf⟩ => ⟨he, h.setM hn hm hf, hf⟩
theorem Do.Sx (h : Do W L x y) (hn : DoN L) (a k n : Int) (ha : a ≤ 9223372036854775807) : Calls Try.prog 39 #[ptr L.q, .slice L.A L.m L.c, .int .i64 a, .int .i64 k, .int .i64 n] W (DoP W L x (stS y L.t a k n) L.G (stE y L.t a k n)) :=
  (rStore_any L.tb L.q L.G L.m L.c y L.A L.t a k n W h.t h.x ha hn.g.2.2.2).mono fun e w' ⟨he, hm, hf⟩ => ⟨he, h.setX hn hm hf, hf⟩
theorem Do.Y (h : Do W L x y) (hn : DoN L) (f a : Int) (s : ByteArray) (hs : s.size ≤ maxLen) : Calls Try.prog 12 #[ptr L.p, .int .i64 f, .int .i64 a, .string s] W (DoP W L (layS x f a s) y L.F (layE x.n f a s)) :=
  (Lay_all L.p L.F x W f a s h.m hs).mono fun e w' ⟨he, hm, hf⟩ => ⟨he, h.setM hn hm hf, hf⟩
theorem Do.Yx (h : Do W L x y) (hn : DoN L) (f a : Int) (s : ByteArray) (hs : s.size ≤ maxLen) : Calls Try.prog 40 #[ptr L.q, .int .i64 f, .int .i64 a, .string s] W (DoP W L x (layS y f a s) L.G (layE y.n f a s)) :=
  (rLay_any L.q L.G y W f a s h.x hs).mono fun e w' ⟨he, hm, hf⟩ => ⟨he, h.setX hn hm hf, hf⟩
theorem Do.C (h : Do W L x y) (hn : DoN L) (f : Int) : Calls Try.prog 22 #[ptr L.p, .int .i64 f] W (DoP W L (clS x f) y L.F (clE x.n f)) :=
  (Clear_any L.p L.F x W f h.m).mono fun e w' ⟨he, hm, hf⟩ => ⟨he, h.setM hn hm hf, hf⟩
theorem Do.Cx (h : Do W L x y) (hn : DoN L) (f : Int) : Calls Try.prog 41 #[ptr L.q, .int .i64 f] W (DoP W L x (clS y f) L.G (clE y.n f)) :=
  (rClear_any L.q L.G y W f h.x).mono fun e w' ⟨he, hm, hf⟩ => ⟨he, h.setX hn hm hf, hf⟩
end
theorem Fr.two {w W W' : World} {S : List Nat} {k : Nat} (h : Fr S w W) (hf : Fr [k] W W') (hk : k ∈ S) : Fr S w W' := h.trans (hf.mono (fun j hj _ => by simp at hj; subst hj; exact hk))
set_option maxRecDepth 100000 in
set_option maxHeartbeats 2000000 in
theorem does_0 (p F q G tb m c : Nat) (A : Option Addr) (t : List Pg) (st : St) (oOn oa ob oc : Int) (oS : ByteArray) (w : World) (L : DoL) (hL : L = ⟨p, F, q, G, tb, A, m, c, t⟩) (hn : DoN L) (h : Do w L st st) (hoa : oa ≤ 9223372036854775807) (hoS : oS.size ≤ maxLen) :
    Calls Try.prog 25 #[ptr p, ptr q, .slice A m c, .agg #[.int .i64 oOn, .int .i64 0, .int .i64 oa, .int .i64 ob, .int .i64 oc, .string oS]] w (DoesP w L (st)) := by
  have hFG : Hid (L.F = F ∧ L.G = G) := by rw [hL]; exact Lib.hid ⟨rfl, rfl⟩
  have hbx := Blk.new w 54 #[.int .i64 oOn, .int .i64 0, .int .i64 oa, .int .i64 ob, .int .i64 oc, .string oS]
  have HA1 := Lib.hid (h.fr ((Fr.refl [] w).alloc (.cells #[.int .i64 oOn, .int .i64 0, .int .i64 oa, .int .i64 ob, .int .i64 oc, .string oS] 54)))
  have HF1 : Hid (Fr [F, G] w (w.alloc (.cells #[.int .i64 oOn, .int .i64 0, .int .i64 oa, .int .i64 ob, .int .i64 oc, .string oS] 54))) := Lib.hid ((Fr.refl _ w).alloc _)
  have hne : Hid (w.heap.size ≠ F ∧ w.heap.size ≠ G) := by
    subst hL
    refine Lib.hid ⟨fun e => ?_, fun e => ?_⟩
    · have := h.m.ltF
      have e' : F < w.heap.size := this
      omega
    · have := h.x.ltG
      have e' : G < w.heap.size := this
      omega
  obtain ⟨x0, x1, x2, x3, x4, x5⟩ := box6' hbx
  have Hbx := Lib.hid hbx
  have Hoa := Lib.hid hoa
  have HoS := Lib.hid hoS
  have KM : Hid (∀ W, Do W L st st → Calls Try.prog 18 #[ptr p, .slice A m c, .int .i64 oa, .int .i64 ob, .int .i64 oc] W fun e w' => e = .returned (.tuple #[.string ⟨(rdR st t oa ob oc).1.toArray⟩, .int .i64 (rdR st t oa ob oc).2]) ∧ Fr [] W w') := by subst hL; exact Lib.hid fun W h => h.R oa ob oc hoa
  have KX : Hid (∀ W, Do W L st st → Calls Try.prog 36 #[ptr q, .slice A m c, .int .i64 oa, .int .i64 ob, .int .i64 oc] W fun e w' => e = .returned (.tuple #[.string ⟨(rdR st t oa ob oc).1.toArray⟩, .int .i64 (rdR st t oa ob oc).2]) ∧ Fr [] W w') := by subst hL; exact Lib.hid fun W h => h.Rx oa ob oc hoa
  clear h hbx hL hn hoa hoS
  generalize rdR st t oa ob oc = R at *
  obtain ⟨rl, re⟩ := R
  simp only at KM KX
  generalize (⟨rl.toArray⟩ : ByteArray) = S2 at *
  go_enter Try.func25, Try.ntmps25
  go_wp2_with fail
  refine (KM.out _ HA1.out).mono ?_
  rintro e w2 ⟨rfl, hf2⟩
  obtain ⟨x0, x1, x2, x3, x4, x5⟩ := box6' (Hbx.out.fr hf2 (by simp))
  have HA2 := Lib.hid (HA1.out.fr hf2)
  have HF2 := Lib.hid (HF1.out.trans (hf2.mono (by simp)))
  clear hf2
  go_wp2_with fail
  refine (KX.out _ HA2.out).mono ?_
  rintro e w3 ⟨rfl, hf3⟩
  have HA3 := Lib.hid (HA2.out.fr hf3)
  have HF3 := Lib.hid (HF2.out.trans (hf3.mono (by simp)))
  clear hf3
  go_wp2_with fail
  go_ret
  exact ⟨rfl, HA3.out, by rw [hFG.out.1, hFG.out.2]; exact HF3.out⟩
set_option maxRecDepth 100000 in
set_option maxHeartbeats 2000000 in
theorem does_1 (p F q G tb m c : Nat) (A : Option Addr) (t : List Pg) (st : St) (oOn oa ob oc : Int) (oS : ByteArray) (w : World) (L : DoL) (hL : L = ⟨p, F, q, G, tb, A, m, c, t⟩) (hn : DoN L) (h : Do w L st st) (hoa : oa ≤ 9223372036854775807) (hoS : oS.size ≤ maxLen) :
    Calls Try.prog 25 #[ptr p, ptr q, .slice A m c, .agg #[.int .i64 oOn, .int .i64 1, .int .i64 oa, .int .i64 ob, .int .i64 oc, .string oS]] w (DoesP w L (wrS st t oa oS)) := by
  have hFG : Hid (L.F = F ∧ L.G = G) := by rw [hL]; exact Lib.hid ⟨rfl, rfl⟩
  have hbx := Blk.new w 54 #[.int .i64 oOn, .int .i64 1, .int .i64 oa, .int .i64 ob, .int .i64 oc, .string oS]
  have HA1 := Lib.hid (h.fr ((Fr.refl [] w).alloc (.cells #[.int .i64 oOn, .int .i64 1, .int .i64 oa, .int .i64 ob, .int .i64 oc, .string oS] 54)))
  have HF1 : Hid (Fr [F, G] w (w.alloc (.cells #[.int .i64 oOn, .int .i64 1, .int .i64 oa, .int .i64 ob, .int .i64 oc, .string oS] 54))) := Lib.hid ((Fr.refl _ w).alloc _)
  have hne : Hid (w.heap.size ≠ F ∧ w.heap.size ≠ G) := by
    subst hL
    refine Lib.hid ⟨fun e => ?_, fun e => ?_⟩
    · have := h.m.ltF
      have e' : F < w.heap.size := this
      omega
    · have := h.x.ltG
      have e' : G < w.heap.size := this
      omega
  obtain ⟨x0, x1, x2, x3, x4, x5⟩ := box6' hbx
  have Hbx := Lib.hid hbx
  have Hoa := Lib.hid hoa
  have HoS := Lib.hid hoS
  have KM : Hid (∀ W y, Do W L st y → Calls Try.prog 14 #[ptr p, .slice A m c, .int .i64 oa, .string oS] W (DoP W L (wrS st t oa oS) y F (wrE st t oa oS))) := by subst hL; exact Lib.hid fun W y h => h.Wr hn oa oS Hoa.out
  have KX : Hid (∀ W x, Do W L x st → Calls Try.prog 37 #[ptr q, .slice A m c, .int .i64 oa, .string oS] W (DoP W L x (wrS st t oa oS) G (wrE st t oa oS))) := by subst hL; exact Lib.hid fun W x h => h.Wrx hn oa oS Hoa.out
  have hA0 : Do (w.alloc (.cells #[.int .i64 oOn, .int .i64 1, .int .i64 oa, .int .i64 ob, .int .i64 oc, .string oS] 54)).drew L st st := HA1.out.fr ((Fr.refl [] _).drew)
  have hF0 : Fr [F, G] w (w.alloc (.cells #[.int .i64 oOn, .int .i64 1, .int .i64 oa, .int .i64 ob, .int .i64 oc, .string oS] 54)).drew := HF1.out.drew
  clear h hbx hL hn hoa hoS
  generalize wrE st t oa oS = e0 at *
  obtain ⟨s1, hs1⟩ : ∃ s1, wrS st t oa oS = s1 := ⟨_, rfl⟩
  rw [hs1] at KM KX
  have Hs1 := Lib.hid hs1
  clear hs1
  have tok : True := trivial
  go_enter Try.func25, Try.ntmps25
  go_wp2_with fail
  go_region_held3 (fun w' => w'.cell? ⟨w.heap.size, 2, none⟩ = some (.int .i64 oa) ∧ w'.cell? ⟨w.heap.size, 5, none⟩ = some (.string oS))
    (first
      | exact ⟨x2, x5⟩
      | exact kk
      | exact ll)
    ((first
      | (go_at_call 14; have _t := tok; (with_reducible refine (KM.out _ _ hA0).mono ?_); rintro e w3 ⟨rfl, hA3, hf3⟩; have kk := (⟨hf3.cell_some (p := ⟨w.heap.size, 2, none⟩) x2 (by simp; exact hne.out.1), hf3.cell_some (p := ⟨w.heap.size, 5, none⟩) x5 (by simp; exact hne.out.1)⟩ : _ ∧ _); clear tok)
      | (go_at_call 37; (with_reducible refine (KX.out _ _ hA3).mono ?_); rintro e w4 ⟨rfl, hA4, hf4⟩; have hF4 := (hF0.two hf3 (by simp)).two hf4 (by simp); have ll := (⟨hf4.cell_some (p := ⟨w.heap.size, 2, none⟩) kk.1 (by simp; exact hne.out.2), hf4.cell_some (p := ⟨w.heap.size, 5, none⟩) kk.2 (by simp; exact hne.out.2)⟩ : _ ∧ _))
      | (go_at_call 37; have _t := tok; (with_reducible refine (KX.out _ _ hA0).mono ?_); rintro e w3 ⟨rfl, hB3, hf3⟩; have kk := (⟨hf3.cell_some (p := ⟨w.heap.size, 2, none⟩) x2 (by simp; exact hne.out.2), hf3.cell_some (p := ⟨w.heap.size, 5, none⟩) x5 (by simp; exact hne.out.2)⟩ : _ ∧ _); clear tok)
      | (go_at_call 14; (with_reducible refine (KM.out _ _ hB3).mono ?_); rintro e w4 ⟨rfl, hA4, hf4⟩; have hF4 := (hF0.two hf3 (by simp)).two hf4 (by simp); have ll := (⟨hf4.cell_some (p := ⟨w.heap.size, 2, none⟩) kk.1 (by simp; exact hne.out.1), hf4.cell_some (p := ⟨w.heap.size, 5, none⟩) kk.2 (by simp; exact hne.out.1)⟩ : _ ∧ _))))
  all_goals
    have HA4 := Lib.hid hA4
    have HF4 := Lib.hid hF4
    clear hA4 hF4
    go_wp2_with fail
    go_ret
    exact ⟨rfl, by rw [Hs1.out]; exact HA4.out, by rw [hFG.out.1, hFG.out.2]; exact HF4.out⟩
set_option maxRecDepth 100000 in
set_option maxHeartbeats 2000000 in
theorem does_2 (p F q G tb m c : Nat) (A : Option Addr) (t : List Pg) (st : St) (oOn oa ob oc : Int) (oS : ByteArray) (w : World) (L : DoL) (hL : L = ⟨p, F, q, G, tb, A, m, c, t⟩) (hn : DoN L) (h : Do w L st st) (hoa : oa ≤ 9223372036854775807) (hoS : oS.size ≤ maxLen) :
    Calls Try.prog 25 #[ptr p, ptr q, .slice A m c, .agg #[.int .i64 oOn, .int .i64 2, .int .i64 oa, .int .i64 ob, .int .i64 oc, .string oS]] w (DoesP w L (st)) := by
  have hFG : Hid (L.F = F ∧ L.G = G) := by rw [hL]; exact Lib.hid ⟨rfl, rfl⟩
  have hbx := Blk.new w 54 #[.int .i64 oOn, .int .i64 2, .int .i64 oa, .int .i64 ob, .int .i64 oc, .string oS]
  have HA1 := Lib.hid (h.fr ((Fr.refl [] w).alloc (.cells #[.int .i64 oOn, .int .i64 2, .int .i64 oa, .int .i64 ob, .int .i64 oc, .string oS] 54)))
  have HF1 : Hid (Fr [F, G] w (w.alloc (.cells #[.int .i64 oOn, .int .i64 2, .int .i64 oa, .int .i64 ob, .int .i64 oc, .string oS] 54))) := Lib.hid ((Fr.refl _ w).alloc _)
  have hne : Hid (w.heap.size ≠ F ∧ w.heap.size ≠ G) := by
    subst hL
    refine Lib.hid ⟨fun e => ?_, fun e => ?_⟩
    · have := h.m.ltF
      have e' : F < w.heap.size := this
      omega
    · have := h.x.ltG
      have e' : G < w.heap.size := this
      omega
  obtain ⟨x0, x1, x2, x3, x4, x5⟩ := box6' hbx
  have Hbx := Lib.hid hbx
  have Hoa := Lib.hid hoa
  have HoS := Lib.hid hoS
  have KM : Hid (∀ W, Do W L st st → Calls Try.prog 16 #[ptr p, .slice A m c, .int .i64 oa, .int .i64 ob, .int .i64 oc] W fun e w' => e = .returned (.tuple #[.int .i64 (ldR st t oa ob oc).1, .int .i64 (ldR st t oa ob oc).2]) ∧ Fr [] W w') := by subst hL; exact Lib.hid fun W h => h.Ld oa ob oc hoa
  have KX : Hid (∀ W, Do W L st st → Calls Try.prog 38 #[ptr q, .slice A m c, .int .i64 oa, .int .i64 ob, .int .i64 oc] W fun e w' => e = .returned (.tuple #[.int .i64 (ldR st t oa ob oc).1, .int .i64 (ldR st t oa ob oc).2]) ∧ Fr [] W w') := by subst hL; exact Lib.hid fun W h => h.Ldx oa ob oc hoa
  clear h hbx hL hn hoa hoS
  generalize ldR st t oa ob oc = R at *
  obtain ⟨rl, re⟩ := R
  simp only at KM KX
  go_enter Try.func25, Try.ntmps25
  go_wp2_with fail
  refine (KM.out _ HA1.out).mono ?_
  rintro e w2 ⟨rfl, hf2⟩
  obtain ⟨x0, x1, x2, x3, x4, x5⟩ := box6' (Hbx.out.fr hf2 (by simp))
  have HA2 := Lib.hid (HA1.out.fr hf2)
  have HF2 := Lib.hid (HF1.out.trans (hf2.mono (by simp)))
  clear hf2
  go_wp2_with fail
  refine (KX.out _ HA2.out).mono ?_
  rintro e w3 ⟨rfl, hf3⟩
  have HA3 := Lib.hid (HA2.out.fr hf3)
  have HF3 := Lib.hid (HF2.out.trans (hf3.mono (by simp)))
  clear hf3
  go_wp2_with fail
  go_ret
  exact ⟨rfl, HA3.out, by rw [hFG.out.1, hFG.out.2]; exact HF3.out⟩
set_option maxRecDepth 100000 in
set_option maxHeartbeats 2000000 in
theorem does_3 (p F q G tb m c : Nat) (A : Option Addr) (t : List Pg) (st : St) (oOn oa ob oc : Int) (oS : ByteArray) (w : World) (L : DoL) (hL : L = ⟨p, F, q, G, tb, A, m, c, t⟩) (hn : DoN L) (h : Do w L st st) (hoa : oa ≤ 9223372036854775807) (hoS : oS.size ≤ maxLen) :
    Calls Try.prog 25 #[ptr p, ptr q, .slice A m c, .agg #[.int .i64 oOn, .int .i64 3, .int .i64 oa, .int .i64 ob, .int .i64 oc, .string oS]] w (DoesP w L (stS st t oa ob oc)) := by
  have hFG : Hid (L.F = F ∧ L.G = G) := by rw [hL]; exact Lib.hid ⟨rfl, rfl⟩
  have hbx := Blk.new w 54 #[.int .i64 oOn, .int .i64 3, .int .i64 oa, .int .i64 ob, .int .i64 oc, .string oS]
  have HA1 := Lib.hid (h.fr ((Fr.refl [] w).alloc (.cells #[.int .i64 oOn, .int .i64 3, .int .i64 oa, .int .i64 ob, .int .i64 oc, .string oS] 54)))
  have HF1 : Hid (Fr [F, G] w (w.alloc (.cells #[.int .i64 oOn, .int .i64 3, .int .i64 oa, .int .i64 ob, .int .i64 oc, .string oS] 54))) := Lib.hid ((Fr.refl _ w).alloc _)
  have hne : Hid (w.heap.size ≠ F ∧ w.heap.size ≠ G) := by
    subst hL
    refine Lib.hid ⟨fun e => ?_, fun e => ?_⟩
    · have := h.m.ltF
      have e' : F < w.heap.size := this
      omega
    · have := h.x.ltG
      have e' : G < w.heap.size := this
      omega
  obtain ⟨x0, x1, x2, x3, x4, x5⟩ := box6' hbx
  have Hbx := Lib.hid hbx
  have Hoa := Lib.hid hoa
  have HoS := Lib.hid hoS
  have KM : Hid (∀ W y, Do W L st y → Calls Try.prog 29 #[ptr p, .slice A m c, .int .i64 oa, .int .i64 ob, .int .i64 oc] W (DoP W L (stS st t oa ob oc) y F (stE st t oa ob oc))) := by subst hL; exact Lib.hid fun W y h => h.S hn oa ob oc Hoa.out
  have KX : Hid (∀ W x, Do W L x st → Calls Try.prog 39 #[ptr q, .slice A m c, .int .i64 oa, .int .i64 ob, .int .i64 oc] W (DoP W L x (stS st t oa ob oc) G (stE st t oa ob oc))) := by subst hL; exact Lib.hid fun W x h => h.Sx hn oa ob oc Hoa.out
  have hA0 : Do (w.alloc (.cells #[.int .i64 oOn, .int .i64 3, .int .i64 oa, .int .i64 ob, .int .i64 oc, .string oS] 54)).drew L st st := HA1.out.fr ((Fr.refl [] _).drew)
  have hF0 : Fr [F, G] w (w.alloc (.cells #[.int .i64 oOn, .int .i64 3, .int .i64 oa, .int .i64 ob, .int .i64 oc, .string oS] 54)).drew := HF1.out.drew
  clear h hbx hL hn hoa hoS
  generalize stE st t oa ob oc = e0 at *
  obtain ⟨s1, hs1⟩ : ∃ s1, stS st t oa ob oc = s1 := ⟨_, rfl⟩
  rw [hs1] at KM KX
  have Hs1 := Lib.hid hs1
  clear hs1
  have tok : True := trivial
  go_enter Try.func25, Try.ntmps25
  go_wp2_with fail
  go_region_held3 (fun w' => w'.cell? ⟨w.heap.size, 2, none⟩ = some (.int .i64 oa) ∧ w'.cell? ⟨w.heap.size, 3, none⟩ = some (.int .i64 ob) ∧ w'.cell? ⟨w.heap.size, 4, none⟩ = some (.int .i64 oc))
    (first
      | exact ⟨x2, x3, x4⟩
      | exact kk
      | exact ll)
    ((first
      | (go_at_call 29; have _t := tok; (with_reducible refine (KM.out _ _ hA0).mono ?_); rintro e w3 ⟨rfl, hA3, hf3⟩; have kk := (⟨hf3.cell_some (p := ⟨w.heap.size, 2, none⟩) x2 (by simp; exact hne.out.1), hf3.cell_some (p := ⟨w.heap.size, 3, none⟩) x3 (by simp; exact hne.out.1), hf3.cell_some (p := ⟨w.heap.size, 4, none⟩) x4 (by simp; exact hne.out.1)⟩ : _ ∧ _ ∧ _); clear tok)
      | (go_at_call 39; (with_reducible refine (KX.out _ _ hA3).mono ?_); rintro e w4 ⟨rfl, hA4, hf4⟩; have hF4 := (hF0.two hf3 (by simp)).two hf4 (by simp); have ll := (⟨hf4.cell_some (p := ⟨w.heap.size, 2, none⟩) kk.1 (by simp; exact hne.out.2), hf4.cell_some (p := ⟨w.heap.size, 3, none⟩) kk.2.1 (by simp; exact hne.out.2), hf4.cell_some (p := ⟨w.heap.size, 4, none⟩) kk.2.2 (by simp; exact hne.out.2)⟩ : _ ∧ _ ∧ _))
      | (go_at_call 39; have _t := tok; (with_reducible refine (KX.out _ _ hA0).mono ?_); rintro e w3 ⟨rfl, hB3, hf3⟩; have kk := (⟨hf3.cell_some (p := ⟨w.heap.size, 2, none⟩) x2 (by simp; exact hne.out.2), hf3.cell_some (p := ⟨w.heap.size, 3, none⟩) x3 (by simp; exact hne.out.2), hf3.cell_some (p := ⟨w.heap.size, 4, none⟩) x4 (by simp; exact hne.out.2)⟩ : _ ∧ _ ∧ _); clear tok)
      | (go_at_call 29; (with_reducible refine (KM.out _ _ hB3).mono ?_); rintro e w4 ⟨rfl, hA4, hf4⟩; have hF4 := (hF0.two hf3 (by simp)).two hf4 (by simp); have ll := (⟨hf4.cell_some (p := ⟨w.heap.size, 2, none⟩) kk.1 (by simp; exact hne.out.1), hf4.cell_some (p := ⟨w.heap.size, 3, none⟩) kk.2.1 (by simp; exact hne.out.1), hf4.cell_some (p := ⟨w.heap.size, 4, none⟩) kk.2.2 (by simp; exact hne.out.1)⟩ : _ ∧ _ ∧ _))))
  all_goals
    have HA4 := Lib.hid hA4
    have HF4 := Lib.hid hF4
    clear hA4 hF4
    go_wp2_with fail
    go_ret
    exact ⟨rfl, by rw [Hs1.out]; exact HA4.out, by rw [hFG.out.1, hFG.out.2]; exact HF4.out⟩
set_option maxRecDepth 100000 in
set_option maxHeartbeats 2000000 in
theorem does_4 (p F q G tb m c : Nat) (A : Option Addr) (t : List Pg) (st : St) (oOn oa ob oc : Int) (oS : ByteArray) (w : World) (L : DoL) (hL : L = ⟨p, F, q, G, tb, A, m, c, t⟩) (hn : DoN L) (h : Do w L st st) (hoa : oa ≤ 9223372036854775807) (hoS : oS.size ≤ maxLen) :
    Calls Try.prog 25 #[ptr p, ptr q, .slice A m c, .agg #[.int .i64 oOn, .int .i64 4, .int .i64 oa, .int .i64 ob, .int .i64 oc, .string oS]] w (DoesP w L (layS st oa ob oS)) := by
  have hFG : Hid (L.F = F ∧ L.G = G) := by rw [hL]; exact Lib.hid ⟨rfl, rfl⟩
  have hbx := Blk.new w 54 #[.int .i64 oOn, .int .i64 4, .int .i64 oa, .int .i64 ob, .int .i64 oc, .string oS]
  have HA1 := Lib.hid (h.fr ((Fr.refl [] w).alloc (.cells #[.int .i64 oOn, .int .i64 4, .int .i64 oa, .int .i64 ob, .int .i64 oc, .string oS] 54)))
  have HF1 : Hid (Fr [F, G] w (w.alloc (.cells #[.int .i64 oOn, .int .i64 4, .int .i64 oa, .int .i64 ob, .int .i64 oc, .string oS] 54))) := Lib.hid ((Fr.refl _ w).alloc _)
  have hne : Hid (w.heap.size ≠ F ∧ w.heap.size ≠ G) := by
    subst hL
    refine Lib.hid ⟨fun e => ?_, fun e => ?_⟩
    · have := h.m.ltF
      have e' : F < w.heap.size := this
      omega
    · have := h.x.ltG
      have e' : G < w.heap.size := this
      omega
  obtain ⟨x0, x1, x2, x3, x4, x5⟩ := box6' hbx
  have Hbx := Lib.hid hbx
  have Hoa := Lib.hid hoa
  have HoS := Lib.hid hoS
  have KM : Hid (∀ W y, Do W L st y → Calls Try.prog 12 #[ptr p, .int .i64 oa, .int .i64 ob, .string oS] W (DoP W L (layS st oa ob oS) y F (layE st.n oa ob oS))) := by subst hL; exact Lib.hid fun W y h => h.Y hn oa ob oS HoS.out
  have KX : Hid (∀ W x, Do W L x st → Calls Try.prog 40 #[ptr q, .int .i64 oa, .int .i64 ob, .string oS] W (DoP W L x (layS st oa ob oS) G (layE st.n oa ob oS))) := by subst hL; exact Lib.hid fun W x h => h.Yx hn oa ob oS HoS.out
  have hA0 : Do (w.alloc (.cells #[.int .i64 oOn, .int .i64 4, .int .i64 oa, .int .i64 ob, .int .i64 oc, .string oS] 54)).drew L st st := HA1.out.fr ((Fr.refl [] _).drew)
  have hF0 : Fr [F, G] w (w.alloc (.cells #[.int .i64 oOn, .int .i64 4, .int .i64 oa, .int .i64 ob, .int .i64 oc, .string oS] 54)).drew := HF1.out.drew
  clear h hbx hL hn hoa hoS
  generalize layE st.n oa ob oS = e0 at *
  obtain ⟨s1, hs1⟩ : ∃ s1, layS st oa ob oS = s1 := ⟨_, rfl⟩
  rw [hs1] at KM KX
  have Hs1 := Lib.hid hs1
  clear hs1
  have tok : True := trivial
  go_enter Try.func25, Try.ntmps25
  go_wp2_with fail
  go_region_held3 (fun w' => w'.cell? ⟨w.heap.size, 2, none⟩ = some (.int .i64 oa) ∧ w'.cell? ⟨w.heap.size, 3, none⟩ = some (.int .i64 ob) ∧ w'.cell? ⟨w.heap.size, 5, none⟩ = some (.string oS))
    (first
      | exact ⟨x2, x3, x5⟩
      | exact kk
      | exact ll)
    ((first
      | (go_at_call 12; have _t := tok; (with_reducible refine (KM.out _ _ hA0).mono ?_); rintro e w3 ⟨rfl, hA3, hf3⟩; have kk := (⟨hf3.cell_some (p := ⟨w.heap.size, 2, none⟩) x2 (by simp; exact hne.out.1), hf3.cell_some (p := ⟨w.heap.size, 3, none⟩) x3 (by simp; exact hne.out.1), hf3.cell_some (p := ⟨w.heap.size, 5, none⟩) x5 (by simp; exact hne.out.1)⟩ : _ ∧ _ ∧ _); clear tok)
      | (go_at_call 40; (with_reducible refine (KX.out _ _ hA3).mono ?_); rintro e w4 ⟨rfl, hA4, hf4⟩; have hF4 := (hF0.two hf3 (by simp)).two hf4 (by simp); have ll := (⟨hf4.cell_some (p := ⟨w.heap.size, 2, none⟩) kk.1 (by simp; exact hne.out.2), hf4.cell_some (p := ⟨w.heap.size, 3, none⟩) kk.2.1 (by simp; exact hne.out.2), hf4.cell_some (p := ⟨w.heap.size, 5, none⟩) kk.2.2 (by simp; exact hne.out.2)⟩ : _ ∧ _ ∧ _))
      | (go_at_call 40; have _t := tok; (with_reducible refine (KX.out _ _ hA0).mono ?_); rintro e w3 ⟨rfl, hB3, hf3⟩; have kk := (⟨hf3.cell_some (p := ⟨w.heap.size, 2, none⟩) x2 (by simp; exact hne.out.2), hf3.cell_some (p := ⟨w.heap.size, 3, none⟩) x3 (by simp; exact hne.out.2), hf3.cell_some (p := ⟨w.heap.size, 5, none⟩) x5 (by simp; exact hne.out.2)⟩ : _ ∧ _ ∧ _); clear tok)
      | (go_at_call 12; (with_reducible refine (KM.out _ _ hB3).mono ?_); rintro e w4 ⟨rfl, hA4, hf4⟩; have hF4 := (hF0.two hf3 (by simp)).two hf4 (by simp); have ll := (⟨hf4.cell_some (p := ⟨w.heap.size, 2, none⟩) kk.1 (by simp; exact hne.out.1), hf4.cell_some (p := ⟨w.heap.size, 3, none⟩) kk.2.1 (by simp; exact hne.out.1), hf4.cell_some (p := ⟨w.heap.size, 5, none⟩) kk.2.2 (by simp; exact hne.out.1)⟩ : _ ∧ _ ∧ _))))
  all_goals
    have HA4 := Lib.hid hA4
    have HF4 := Lib.hid hF4
    clear hA4 hF4
    go_wp2_with fail
    go_ret
    exact ⟨rfl, by rw [Hs1.out]; exact HA4.out, by rw [hFG.out.1, hFG.out.2]; exact HF4.out⟩
set_option maxRecDepth 100000 in
set_option maxHeartbeats 2000000 in
theorem does_5 (p F q G tb m c : Nat) (A : Option Addr) (t : List Pg) (st : St) (oOn oa ob oc : Int) (oS : ByteArray) (w : World) (L : DoL) (hL : L = ⟨p, F, q, G, tb, A, m, c, t⟩) (hn : DoN L) (h : Do w L st st) (hoa : oa ≤ 9223372036854775807) (hoS : oS.size ≤ maxLen) :
    Calls Try.prog 25 #[ptr p, ptr q, .slice A m c, .agg #[.int .i64 oOn, .int .i64 5, .int .i64 oa, .int .i64 ob, .int .i64 oc, .string oS]] w (DoesP w L (clS st oa)) := by
  have hFG : Hid (L.F = F ∧ L.G = G) := by rw [hL]; exact Lib.hid ⟨rfl, rfl⟩
  have hbx := Blk.new w 54 #[.int .i64 oOn, .int .i64 5, .int .i64 oa, .int .i64 ob, .int .i64 oc, .string oS]
  have HA1 := Lib.hid (h.fr ((Fr.refl [] w).alloc (.cells #[.int .i64 oOn, .int .i64 5, .int .i64 oa, .int .i64 ob, .int .i64 oc, .string oS] 54)))
  have HF1 : Hid (Fr [F, G] w (w.alloc (.cells #[.int .i64 oOn, .int .i64 5, .int .i64 oa, .int .i64 ob, .int .i64 oc, .string oS] 54))) := Lib.hid ((Fr.refl _ w).alloc _)
  have hne : Hid (w.heap.size ≠ F ∧ w.heap.size ≠ G) := by
    subst hL
    refine Lib.hid ⟨fun e => ?_, fun e => ?_⟩
    · have := h.m.ltF
      have e' : F < w.heap.size := this
      omega
    · have := h.x.ltG
      have e' : G < w.heap.size := this
      omega
  obtain ⟨x0, x1, x2, x3, x4, x5⟩ := box6' hbx
  have Hbx := Lib.hid hbx
  have Hoa := Lib.hid hoa
  have HoS := Lib.hid hoS
  have KM : Hid (∀ W y, Do W L st y → Calls Try.prog 22 #[ptr p, .int .i64 oa] W (DoP W L (clS st oa) y F (clE st.n oa))) := by subst hL; exact Lib.hid fun W y h => h.C hn oa 
  have KX : Hid (∀ W x, Do W L x st → Calls Try.prog 41 #[ptr q, .int .i64 oa] W (DoP W L x (clS st oa) G (clE st.n oa))) := by subst hL; exact Lib.hid fun W x h => h.Cx hn oa 
  have hA0 : Do (w.alloc (.cells #[.int .i64 oOn, .int .i64 5, .int .i64 oa, .int .i64 ob, .int .i64 oc, .string oS] 54)).drew L st st := HA1.out.fr ((Fr.refl [] _).drew)
  have hF0 : Fr [F, G] w (w.alloc (.cells #[.int .i64 oOn, .int .i64 5, .int .i64 oa, .int .i64 ob, .int .i64 oc, .string oS] 54)).drew := HF1.out.drew
  clear h hbx hL hn hoa hoS
  generalize clE st.n oa = e0 at *
  obtain ⟨s1, hs1⟩ : ∃ s1, clS st oa = s1 := ⟨_, rfl⟩
  rw [hs1] at KM KX
  have Hs1 := Lib.hid hs1
  clear hs1
  have tok : True := trivial
  go_enter Try.func25, Try.ntmps25
  go_wp2_with fail
  go_region_held3 (fun w' => w'.cell? ⟨w.heap.size, 2, none⟩ = some (.int .i64 oa))
    (first
      | exact x2
      | exact kk
      | exact ll)
    ((first
      | (go_at_call 22; have _t := tok; (with_reducible refine (KM.out _ _ hA0).mono ?_); rintro e w3 ⟨rfl, hA3, hf3⟩; have kk := hf3.cell_some (p := ⟨w.heap.size, 2, none⟩) x2 (by simp; exact hne.out.1); clear tok)
      | (go_at_call 41; (with_reducible refine (KX.out _ _ hA3).mono ?_); rintro e w4 ⟨rfl, hA4, hf4⟩; have hF4 := (hF0.two hf3 (by simp)).two hf4 (by simp); have ll := hf4.cell_some (p := ⟨w.heap.size, 2, none⟩) kk (by simp; exact hne.out.2))
      | (go_at_call 41; have _t := tok; (with_reducible refine (KX.out _ _ hA0).mono ?_); rintro e w3 ⟨rfl, hB3, hf3⟩; have kk := hf3.cell_some (p := ⟨w.heap.size, 2, none⟩) x2 (by simp; exact hne.out.2); clear tok)
      | (go_at_call 22; (with_reducible refine (KM.out _ _ hB3).mono ?_); rintro e w4 ⟨rfl, hA4, hf4⟩; have hF4 := (hF0.two hf3 (by simp)).two hf4 (by simp); have ll := hf4.cell_some (p := ⟨w.heap.size, 2, none⟩) kk (by simp; exact hne.out.1))))
  all_goals
    have HA4 := Lib.hid hA4
    have HF4 := Lib.hid hF4
    clear hA4 hF4
    go_wp2_with fail
    go_ret
    exact ⟨rfl, by rw [Hs1.out]; exact HA4.out, by rw [hFG.out.1, hFG.out.2]; exact HF4.out⟩
set_option maxRecDepth 100000 in
set_option maxHeartbeats 2000000 in
theorem does_else (p F q G tb m c : Nat) (A : Option Addr) (t : List Pg) (st : St) (oOn oK oa ob oc : Int) (oS : ByteArray) (w : World) (L : DoL) (hL : L = ⟨p, F, q, G, tb, A, m, c, t⟩) (hn : DoN L) (h : Do w L st st) (hoa : oa ≤ 9223372036854775807) (hoS : oS.size ≤ maxLen) (h0 : (oK == 0) = false) (h1 : (oK == 1) = false) (h2 : (oK == 2) = false) (h3 : (oK == 3) = false) (h4 : (oK == 4) = false) (h5 : (oK == 5) = false) :
    Calls Try.prog 25 #[ptr p, ptr q, .slice A m c, .agg #[.int .i64 oOn, .int .i64 oK, .int .i64 oa, .int .i64 ob, .int .i64 oc, .string oS]] w (DoesP w L (st)) := by
  have hFG : Hid (L.F = F ∧ L.G = G) := by rw [hL]; exact Lib.hid ⟨rfl, rfl⟩
  have hbx := Blk.new w 54 #[.int .i64 oOn, .int .i64 oK, .int .i64 oa, .int .i64 ob, .int .i64 oc, .string oS]
  have HA1 := Lib.hid (h.fr ((Fr.refl [] w).alloc (.cells #[.int .i64 oOn, .int .i64 oK, .int .i64 oa, .int .i64 ob, .int .i64 oc, .string oS] 54)))
  have HF1 : Hid (Fr [F, G] w (w.alloc (.cells #[.int .i64 oOn, .int .i64 oK, .int .i64 oa, .int .i64 ob, .int .i64 oc, .string oS] 54))) := Lib.hid ((Fr.refl _ w).alloc _)
  have hne : Hid (w.heap.size ≠ F ∧ w.heap.size ≠ G) := by
    subst hL
    refine Lib.hid ⟨fun e => ?_, fun e => ?_⟩
    · have := h.m.ltF
      have e' : F < w.heap.size := this
      omega
    · have := h.x.ltG
      have e' : G < w.heap.size := this
      omega
  obtain ⟨x0, x1, x2, x3, x4, x5⟩ := box6' hbx
  have Hbx := Lib.hid hbx
  have Hoa := Lib.hid hoa
  have HoS := Lib.hid hoS
  clear h hbx hL hn hoa hoS
  go_enter Try.func25, Try.ntmps25
  go_wp2_with fail
  go_ret
  exact ⟨rfl, HA1.out, by rw [hFG.out.1, hFG.out.2]; exact HF1.out⟩
theorem does_any (p F q G tb m c : Nat) (A : Option Addr) (t : List Pg) (st : St) (oOn oK oa ob oc : Int) (oS : ByteArray) (w : World) (L : DoL) (hL : L = ⟨p, F, q, G, tb, A, m, c, t⟩) (hn : DoN L) (h : Do w L st st) (hoa : oa ≤ 9223372036854775807) (hoS : oS.size ≤ maxLen) :
    Calls Try.prog 25 #[ptr p, ptr q, .slice A m c, .agg #[.int .i64 oOn, .int .i64 oK, .int .i64 oa, .int .i64 ob, .int .i64 oc, .string oS]] w (DoesP w L (doS st t oK oa ob oc oS)) := by
  by_cases h1 : oK = 1
  · subst h1
    exact does_1 p F q G tb m c A t st oOn oa ob oc oS w L hL hn h hoa hoS
  · by_cases h3 : oK = 3
    · subst h3
      exact does_3 p F q G tb m c A t st oOn oa ob oc oS w L hL hn h hoa hoS
    · by_cases h4 : oK = 4
      · subst h4
        exact does_4 p F q G tb m c A t st oOn oa ob oc oS w L hL hn h hoa hoS
      · by_cases h5 : oK = 5
        · subst h5
          exact does_5 p F q G tb m c A t st oOn oa ob oc oS w L hL hn h hoa hoS
        · have e : doS st t oK oa ob oc oS = st := by unfold doS; rw [if_neg h1, if_neg h3, if_neg h4, if_neg h5]
          rw [e]
          by_cases h0 : oK = 0
          · subst h0
            exact does_0 p F q G tb m c A t st oOn oa ob oc oS w L hL hn h hoa hoS
          · by_cases h2 : oK = 2
            · subst h2
              exact does_2 p F q G tb m c A t st oOn oa ob oc oS w L hL hn h hoa hoS
            · exact does_else p F q G tb m c A t st oOn oK oa ob oc oS w L hL hn h hoa hoS (by rw [beq_eq_false_iff_ne]; exact h0) (by rw [beq_eq_false_iff_ne]; exact h1) (by rw [beq_eq_false_iff_ne]; exact h2) (by rw [beq_eq_false_iff_ne]; exact h3) (by rw [beq_eq_false_iff_ne]; exact h4) (by rw [beq_eq_false_iff_ne]; exact h5)
end Go.Proofs.Ytdkihajajdhpnaa
