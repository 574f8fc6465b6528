/- BlockApart: the walk. -/
import Derived.Test.YthmnloapjdalpaaL18
import Derived.Test.YthmnloapjdalpaaOpen4
namespace Go.Proofs.Ythmnloapjdalpaa
open Go.RowKit
set_option linter.unusedVariables false
set_option linter.unusedSimpArgs false
theorem newBE_n {d d' : Dk} (h : d'.n = d.n) (f c k : Int) : newBE d' f c k = newBE d f c k := by
  unfold newBE
  rw [h]
theorem Dd.fixed15 {w0 w : World} {p : Nat} {d : Dk} (h : Dd w0 w p d) : Calls Try.prog 19 #[] w fun e w' => e = .returned (.bool true) ∧ Dd w0 w' p d := (fixed15_any w).mono fun e w' ⟨he, hf⟩ => ⟨he, h.to hf⟩
theorem Dd.noughts15 {w0 w : World} {p : Nat} {d : Dk} (h : Dd w0 w p d) (n : Nat) (hn : n ≤ 524288) : Calls Try.prog 20 #[.int .i64 (n : Int)] w fun e w' => e = .returned (.string (zeros n)) ∧ Dd w0 w' p d := (noughts15_any n hn w).mono fun e w' ⟨he, hf⟩ => ⟨he, h.to hf⟩
set_option maxRecDepth 100000 in
set_option maxHeartbeats 8000000 in
theorem apart_walk (t : ByteArray) (w : World) (f c k : Int) (A : Option Addr) (n cap : Nat) (ops : Nat → OpB) (ht : t.size ≤ maxLen) (ho : OpsB w (.slice A n cap) n ops) (hf63 : f ≤ 9223372036854775807) :
    Calls Try.prog 6 #[.string t, .agg #[.int .i64 f, .int .i64 c, .int .i64 k], .slice A n cap] w fun e w' => e = .returned (.bool true) ∧ Fr [] w w' := by
  have hf0 : Fr [] w (w.alloc (.cells #[.int .i64 f, .int .i64 c, .int .i64 k] 34)) := (Fr.refl [] w).alloc _
  have hb0 := Blk.new w 34 #[.int .i64 f, .int .i64 c, .int .i64 k]
  have Hf0 := Lib.hid hf0
  have HB := Lib.hid (fun W (hf : Fr [] (w.alloc (.cells #[.int .i64 f, .int .i64 c, .int .i64 k] 34)) W) => (show W.cell? ⟨w.heap.size, 0, none⟩ = some (.int .i64 f) ∧ W.cell? ⟨w.heap.size, 1, none⟩ = some (.int .i64 c) ∧ W.cell? ⟨w.heap.size, 2, none⟩ = some (.int .i64 k) from ⟨hf.cell_some (hb0.cell 0) (by simp), hf.cell_some (hb0.cell 1) (by simp), hf.cell_some (hb0.cell 2) (by simp)⟩))
  have HO := Lib.hid (ho.fr hf0)
  have hnm := ho.1
  by_cases h0 : newE t = 0
  · have HN := Lib.hid (Dd.new t (w.alloc (.cells #[.int .i64 f, .int .i64 c, .int .i64 k] 34)) h0)
    have hnn := (newD_ok h0).n2
    have hts := newD_size h0
    have hcal := newD_calm t
    have HE := Lib.hid (fun (d : Dk) (h : d.n = (newD t).n) => newBE_n (d := newD t) (d' := d) h f c k)
    obtain ⟨E0, hE0⟩ : ∃ E0, newBE (newD t) f c k = E0 := ⟨_, rfl⟩
    have HE0 := Lib.hid hE0
    have hE0' := hE0
    clear hE0
    obtain ⟨D0, hD0⟩ : ∃ D0, newD t = D0 := ⟨_, rfl⟩
    rw [hD0] at HN hnn hts hcal HE HE0 hE0'
    obtain ⟨N, hN⟩ : ∃ N, D0.n = N := ⟨_, rfl⟩
    have HNn := Lib.hid hN
    rw [hN] at hnn hts HE
    have Hcal := Lib.hid hcal
    have q1 : (128 * (N : Int)).tdiv 128 = N := by rw [Int.tdiv_eq_ediv_of_nonneg (by omega)]; omega
    have hcat : ¬ 9223372036854775807 < (zeros 127).size + 1 := by rw [zeros_size]; omega
    have hw128 : (zeros 127 ++ ⟨#[120]⟩ : ByteArray).size ≤ maxLen := by rw [ByteArray.size_append, zeros_size]; decide
    have HZ := Lib.hid (fun W (p : Nat) (d : Dk) (h : Dd (w.alloc (.cells #[.int .i64 f, .int .i64 c, .int .i64 k] 34)) W p d) => h.noughts15 127 (by omega))
    have HWr := Lib.hid (fun W (p : Nat) (d : Dk) (h : Dd (w.alloc (.cells #[.int .i64 f, .int .i64 c, .int .i64 k] 34)) W p d) (i : Int) => h.write i (zeros 127 ++ ⟨#[120]⟩) hw128)
    generalize zeros 127 = Z at *
    clear hf0 hb0 ho ht h0 hD0 hN hcal hw128
    go_enter Try.func6, Try.ntmps6
    go_wp2_with (go_at_call 22; refine HN.out.mono ?_; rintro e w1 ⟨p, rfl, hd⟩; have Hd1 := Lib.hid hd; clear hd)
    go_loopg [9] N (fun gg vi wr => ∃ (j : Nat) (d : Dk), j + gg = N ∧ vi = .int .i64 (j : Int) ∧ Dd (w.alloc (.cells #[.int .i64 f, .int .i64 c, .int .i64 k] 34)) wr p d ∧ d.Calm ∧ d.n = N)
    case atStart => exact ⟨0, D0, by omega, rfl, Hd1.out, Hcal.out, HNn.out⟩
    case round =>
      obtain ⟨j, d, hj, rfl, hd, hc, hdn⟩ := hrel
      have Hj := Lib.hid hj
      have Hc := Lib.hid hc
      have Hdn := Lib.hid hdn
      have HcN := Lib.hid (show Calls Try.prog 29 #[ptr p] wr fun e w' => e = .returned (.int .i64 (N : Int)) ∧ wr = w' by have := hd.count; rw [hdn] at this; exact this)
      clear hj hc hdn
      by_cases hlt : j < N
      · have hlt' : (j : Int) < (N : Int) := by omega
        have hw : IntKind.i64.wrap ((j : Int) + 1) = (j : Int) + 1 := IntWalk.i64_in _ (by omega)
        go_wp2_with (first
          | (go_at_call 29; refine HcN.out.mono ?_; rintro e w2 ⟨rfl, rfl⟩)
          | (go_at_call 20; have hq := HZ.out _ _ _ hd; clear hd; refine hq.mono ?_; rintro e w3 ⟨rfl, hd⟩; clear hq)
          | (go_at_call 30; have hq := HWr.out _ _ _ hd j; clear hd; refine hq.mono ?_; rintro e w4 ⟨rfl, hd⟩; clear hq))
        go_roundg (N - (j + 1))
        case measure => have := Hj.out; omega
        case rel => exact ⟨j + 1, _, by have := Hj.out; omega, by go_num, hd, (Hc.out.write _ _).1, ((Hc.out.write _ _).2).trans Hdn.out⟩
      · have hlt' : ¬ (j : Int) < (N : Int) := by omega
        obtain ⟨b0, b1, b2⟩ := HB.out _ hd.fr
        by_cases hE : E0 = 0
        · have hEd : newBE d f c k = 0 := by rw [HE.out d Hdn.out, hE0', hE]
          obtain ⟨e1, e2, e3, e4, e5, e6⟩ := newBE_ok hEd
          rw [Hdn.out] at e3 e4
          have hNB := Lib.hid (NewB_ok hd f c k hEd)
          obtain ⟨F, rfl⟩ : ∃ F : Nat, f = (F : Int) := ⟨f.toNat, by omega⟩
          obtain ⟨Cn, rfl⟩ : ∃ Cn : Nat, c = (Cn : Int) := ⟨c.toNat, by omega⟩
          have hwd : IntKind.i64.wrap ((N : Int) - (F : Int)) = (N : Int) - (F : Int) := IntWalk.i64_in _ (by omega)
          have hin : F + Cn ≤ N := by omega
          have hbf : (newB (F : Int) (Cn : Int) k).first = F := by show ((F : Nat) : Int).toNat = F; omega
          have hbc : (newB (F : Int) (Cn : Int) k).count = Cn := by show ((Cn : Nat) : Int).toNat = Cn; omega
          have Hbb := Lib.hid (And.intro hbf hbc)
          have hbm : (newB (F : Int) (Cn : Int) k).misses = 0 := rfl
          have Hbm := Lib.hid hbm
          have s1 : d.image.size = 128 * N := by rw [image_size, Hdn.out]
          have s2 : d.safe.size = 128 * N := by rw [safe_size, Hdn.out]
          obtain ⟨RD, hRD⟩ : ∃ RD, d.image = RD := ⟨_, rfl⟩
          obtain ⟨SF, hSF⟩ : ∃ SF, d.safe = SF := ⟨_, rfl⟩
          have HRS := Lib.hid (And.intro hRD hSF)
          rw [hRD] at s1
          rw [hSF] at s2
          have HIm := Lib.hid (fun W v b (h : Dv (w.alloc (.cells #[.int .i64 (F : Int), .int .i64 (Cn : Int), .int .i64 k] 34)) W v p b d) => (show Calls Try.prog 28 #[ptr p] W fun e w' => e = .returned (.string RD) ∧ Dv (w.alloc (.cells #[.int .i64 (F : Int), .int .i64 (Cn : Int), .int .i64 k] 34)) w' v p b d by rw [← hRD]; exact h.image))
          have HSf := Lib.hid (fun W v b (h : Dv (w.alloc (.cells #[.int .i64 (F : Int), .int .i64 (Cn : Int), .int .i64 k] 34)) W v p b d) => (show Calls Try.prog 31 #[ptr p] W fun e w' => e = .returned (.string SF) ∧ Dv (w.alloc (.cells #[.int .i64 (F : Int), .int .i64 (Cn : Int), .int .i64 k] 34)) w' v p b d by rw [← hSF]; exact h.safe))
          generalize newB (F : Int) (Cn : Int) k = B0 at *
          clear hEd hE HE HE0 hE0' hbf hbc hbm hRD hSF
          go_wp2_with (first
            | (go_at_call 29; refine HcN.out.mono ?_; rintro e w2 ⟨rfl, rfl⟩)
            | (go_at_call 23; refine hNB.out.mono ?_; clear hd b0 b1 b2 hNB; rintro e w5 ⟨v, rfl, hv⟩; obtain ⟨b0, b1, b2⟩ := HB.out _ hv.fr)
            | (go_at_call 28; have hq := HIm.out _ _ _ hv; clear hv b0 b1 b2; refine hq.mono ?_; rintro e w6 ⟨rfl, hv⟩; clear hq)
            | (go_at_call 31; have hq := HSf.out _ _ _ hv; clear hv; refine hq.mono ?_; rintro e w7 ⟨rfl, hv⟩; clear hq))
          have HV0 := Lib.hid hv
          have Hc0 := Lib.hid Hc.out
          clear hv HcN
          simp only [maxLen] at hnm
          go_loopg [14] n (fun gg vi wz => ∃ (i : Nat) (b : Bv) (d' : Dk), i + gg = n ∧ vi = .int .i64 (i : Int) ∧ Dv (w.alloc (.cells #[.int .i64 (F : Int), .int .i64 (Cn : Int), .int .i64 k] 34)) wz v p b d' ∧ d'.Calm ∧ Outside F Cn d d' ∧ b.first = F ∧ b.count = Cn ∧ b.misses ≤ i)
          case atStart => exact ⟨0, B0, d, by omega, rfl, HV0.out, Hc0.out, Outside.refl _ _ _, Hbb.out.1, Hbb.out.2, by rw [Hbm.out]; exact Nat.le_refl _⟩
          case round =>
            obtain ⟨i, b, d', hi, rfl, hv, hcl, hou, hbf, hbc, hbm⟩ := hrel
            have Hi := Lib.hid hi
            have Hv := Lib.hid hv
            have Hcl := Lib.hid hcl
            have Hou := Lib.hid hou
            have Hb := Lib.hid (And.intro hbf (And.intro hbc hbm))
            clear hi hv hcl hou hbf hbc hbm HV0
            by_cases hlti : i < n
            · have hlti' : (i : Int) < (n : Int) := by omega
              have hi0 : (0 : Int) ≤ (i : Int) := by omega
              have hwi : IntKind.i64.wrap ((i : Int) + 1) = (i : Int) + 1 := IntWalk.i64_in _ (by omega)
              obtain ⟨hF, bb, off, cv, rfl, hat⟩ := HO.out.at_ hlti
              generalize hx : ops i = x at *
              have HC := Lib.hid (fun W (hf : Fr [] (w.alloc (.cells #[.int .i64 (F : Int), .int .i64 (Cn : Int), .int .i64 k] 34)) W) => (hat.fr hf).six)
              obtain ⟨c0, c1, c2, c3, c4, c5⟩ := HC.out _ Hv.out.fr
              have k0 := HC.out _ Hv.out.fr
              have HRd := Lib.hid (ReadB_any Hv.out x.a (by have := Hb.out.2.2; omega))
              have HWt := Lib.hid (fun W (h : Dv (w.alloc (.cells #[.int .i64 (F : Int), .int .i64 (Cn : Int), .int .i64 k] 34)) W v p b d') => WriteB_any h x.a x.s x.b hF.s)
              have HBa := Lib.hid (Barrier_any Hv.out)
              have Hsm := Lib.hid (readB_same b d' x.a)
              have Hwm := Lib.hid (writeB_same b d' x.a x.s x.b)
              have Hwo := Lib.hid (writeD_out (b := b) Hcl.out x.a x.s x.b)
              have Hbo := Lib.hid (barrierD_out (b := b) Hcl.out)
              clear hat hx
              by_cases hk0 : x.kind = 0
              · rw [hk0] at c1
                go_wp2_with (first
                  | (go_at_call 24; refine HRd.out.mono ?_; rintro e w8 ⟨rfl, hv8⟩))
                go_roundg (n - (i + 1))
                case measure => have := Hi.out; omega
                case rel => exact ⟨i + 1, _, d', by have := Hi.out; omega, by go_num, hv8, Hcl.out, Hou.out, by rw [Hsm.out.1]; exact Hb.out.1, by rw [Hsm.out.2.1]; exact Hb.out.2.1, by have := Hsm.out.2.2; have := Hb.out.2.2; omega⟩
              by_cases hk2 : x.kind = 2
              · rw [hk2] at c1 k0 HC
                go_wp2_with fail
                have Hvd := Lib.hid (Hv.out.to (Fr.refl _ _).drew)
                go_region_held3 (fun W => W.cell? ⟨bb, off + i * 6, none⟩ = some (.int .i64 x.on) ∧ W.cell? ⟨bb, off + i * 6 + 1, none⟩ = some (.int .i64 2) ∧ W.cell? ⟨bb, off + i * 6 + 2, none⟩ = some (.int .i64 x.a) ∧ W.cell? ⟨bb, off + i * 6 + 3, none⟩ = some (.int .i64 x.b) ∧ W.cell? ⟨bb, off + i * 6 + 4, none⟩ = some (.string x.s) ∧ W.cell? ⟨bb, off + i * 6 + 5, none⟩ = some cv)
                  (first | exact k0 | exact k2) (first
                  | (go_at_call 25; refine (HWt.out _ Hvd.out).mono ?_; rintro e w8 ⟨rfl, hv8⟩; have k2 := HC.out _ hv8.fr))
                go_wp2_with fail
                go_roundg (n - (i + 1))
                case measure => have := Hi.out; omega
                case rel => exact ⟨i + 1, _, _, by have := Hi.out; omega, by go_num, hv8, Hwo.out.2, Hou.out.trans (by have := Hwo.out.1; rw [Hb.out.1, Hb.out.2.1] at this; exact this), by rw [Hwm.out.1]; exact Hb.out.1, by rw [Hwm.out.2.1]; exact Hb.out.2.1, by have := Hwm.out.2.2; have := Hb.out.2.2; omega⟩
              by_cases hk3 : x.kind = 3
              · rw [hk3] at c1
                go_wp2_with (first
                  | (go_at_call 26; refine HBa.out.mono ?_; rintro e w8 ⟨rfl, hv8⟩))
                go_roundg (n - (i + 1))
                case measure => have := Hi.out; omega
                case rel => exact ⟨i + 1, b, _, by have := Hi.out; omega, by go_num, hv8, Hbo.out.2, Hou.out.trans (by have := Hbo.out.1; rw [Hb.out.1, Hb.out.2.1] at this; exact this), Hb.out.1, Hb.out.2.1, by have := Hb.out.2.2; omega⟩
              · go_wp2_with fail
                go_roundg (n - (i + 1))
                case measure => have := Hi.out; omega
                case rel => exact ⟨i + 1, b, d', by have := Hi.out; omega, by go_num, Hv.out, Hcl.out, Hou.out, Hb.out.1, Hb.out.2.1, by have := Hb.out.2.2; omega⟩
            · have hlti' : ¬ (i : Int) < (n : Int) := by omega
              obtain ⟨g0, g1, g2⟩ := HB.out _ Hv.out.fr
              have v4 : IntKind.i64.wrap (128 * (F : Int)) = 128 * (F : Int) := IntWalk.i64_in _ (by omega)
              have v5 : IntKind.i64.wrap ((F : Int) + (Cn : Int)) = (F : Int) + (Cn : Int) := IntWalk.i64_in _ (by omega)
              have v6 : IntKind.i64.wrap (128 * ((F : Int) + (Cn : Int))) = 128 * ((F : Int) + (Cn : Int)) := IntWalk.i64_in _ (by omega)
              have s3 : d'.image.size = 128 * N := by rw [image_size, Hou.out.n, Hdn.out]
              have s4 : d'.safe.size = 128 * N := by rw [safe_size, Hou.out.n, Hdn.out]
              have dn := Hdn.out
              obtain ⟨P1, hP1⟩ : ∃ P, RD.extract 0 (128 * F) = P := ⟨_, rfl⟩
              obtain ⟨P2, hP2⟩ : ∃ P, RD.extract (128 * (F + Cn)) RD.size = P := ⟨_, rfl⟩
              obtain ⟨P3, hP3⟩ : ∃ P, SF.extract 0 (128 * F) = P := ⟨_, rfl⟩
              obtain ⟨P4, hP4⟩ : ∃ P, SF.extract (128 * (F + Cn)) SF.size = P := ⟨_, rfl⟩
              have x1 : d'.image.extract 0 (128 * F) = P1 := by rw [← hP1, ← HRS.out.1]; exact Hou.out.image _ _ (by omega) (by omega) (by omega)
              have x2 : d'.image.extract (128 * (F + Cn)) d'.image.size = P2 := by rw [← hP2, ← HRS.out.1, s3, HRS.out.1, s1, ← HRS.out.1]; exact Hou.out.image _ _ (by omega) (by omega) (by omega)
              have x3 : d'.safe.extract 0 (128 * F) = P3 := by rw [← hP3, ← HRS.out.2]; exact Hou.out.safe _ _ (by omega) (by omega) (by omega)
              have x4 : d'.safe.extract (128 * (F + Cn)) d'.safe.size = P4 := by rw [← hP4, ← HRS.out.2, s4, HRS.out.2, s2, ← HRS.out.2]; exact Hou.out.safe _ _ (by omega) (by omega) (by omega)
              obtain ⟨X, hX⟩ : ∃ X, d'.image = X := ⟨_, rfl⟩
              obtain ⟨Y, hY⟩ : ∃ Y, d'.safe = Y := ⟨_, rfl⟩
              have HIm2 := Lib.hid (fun W (h : Dv (w.alloc (.cells #[.int .i64 (F : Int), .int .i64 (Cn : Int), .int .i64 k] 34)) W v p b d') => (show Calls Try.prog 28 #[ptr p] W fun e w' => e = .returned (.string X) ∧ Dv (w.alloc (.cells #[.int .i64 (F : Int), .int .i64 (Cn : Int), .int .i64 k] 34)) w' v p b d' by rw [← hX]; exact h.image))
              have HSf2 := Lib.hid (fun W (h : Dv (w.alloc (.cells #[.int .i64 (F : Int), .int .i64 (Cn : Int), .int .i64 k] 34)) W v p b d') => (show Calls Try.prog 31 #[ptr p] W fun e w' => e = .returned (.string Y) ∧ Dv (w.alloc (.cells #[.int .i64 (F : Int), .int .i64 (Cn : Int), .int .i64 k] 34)) w' v p b d' by rw [← hY]; exact h.safe))
              rw [hX] at s3 x1 x2
              rw [hY] at s4 x3 x4
              have m1 := fun wx => (sl_h RD (128 * F) (128 * (F : Int)) (by omega) wx (by omega)).trans (by rw [hP1])
              have m2 := fun wx => (sl_l RD (128 * (F + Cn)) (128 * ((F : Int) + (Cn : Int))) (by omega) wx (by omega)).trans (by rw [hP2])
              have m3 := fun wx => (sl_h SF (128 * F) (128 * (F : Int)) (by omega) wx (by omega)).trans (by rw [hP3])
              have m4 := fun wx => (sl_l SF (128 * (F + Cn)) (128 * ((F : Int) + (Cn : Int))) (by omega) wx (by omega)).trans (by rw [hP4])
              have m5 := fun wx => (sl_h X (128 * F) (128 * (F : Int)) (by omega) wx (by omega)).trans (by rw [x1])
              have m6 := fun wx => (sl_l X (128 * (F + Cn)) (128 * ((F : Int) + (Cn : Int))) (by omega) wx (by omega)).trans (by rw [x2])
              have m7 := fun wx => (sl_h Y (128 * F) (128 * (F : Int)) (by omega) wx (by omega)).trans (by rw [x3])
              have m8 := fun wx => (sl_l Y (128 * (F + Cn)) (128 * ((F : Int) + (Cn : Int))) (by omega) wx (by omega)).trans (by rw [x4])
              clear hP1 hP2 hP3 hP4 x1 x2 x3 x4 hX hY dn
              go_wp2_with fail
              go_quiet (fail)
              go_wp2_with (first
                | (go_at_call 28; refine (HIm2.out _ (Hv.out.to ((Fr.refl [] _).drewN _))).mono ?_; rintro e w8 ⟨rfl, hv8⟩)
                | (go_at_call 31; refine (HSf2.out _ hv8).mono ?_; rintro e w9 ⟨rfl, hv9⟩))
              have hv10 := hv9.to (Fr.refl _ _).drew
              have HFx := Lib.hid hv10.fixed15
              go_region_held3 (fun W => True) (exact trivial) (first
                | (go_at_call 19; refine HFx.out.mono ?_; rintro e w10 ⟨rfl, hv11⟩))
              go_wp2_with fail
              go_ret
              exact ⟨rfl, Hf0.out.trans hv11.fr⟩
        · have hEd : newBE d f c k ≠ 0 := by rw [HE.out d Hdn.out, hE0']; exact hE
          have hNB := Lib.hid (NewB_bad hd f c k hf63 hEd)
          have HFx := Lib.hid hd.fixed15
          clear hEd HE0 hE0' HE
          go_wp2_with (first
            | (go_at_call 29; refine HcN.out.mono ?_; rintro e w2 ⟨rfl, rfl⟩)
            | (go_at_call 23; refine hNB.out.mono ?_; rintro e w5 ⟨rfl, rfl⟩)
            | (go_at_call 19; refine HFx.out.mono ?_; rintro e w6 ⟨rfl, hd9⟩))
          go_ret
          exact ⟨rfl, Hf0.out.trans hd9.fr⟩
  · have HN := Lib.hid (new_any t (w.alloc (.cells #[.int .i64 f, .int .i64 c, .int .i64 k] 34)) ht h0)
    have HFx := Lib.hid fixed15_any
    clear hf0 hb0 ho ht h0
    go_enter Try.func6, Try.ntmps6
    go_wp2_with (first
      | (go_at_call 22; refine HN.out.mono ?_; rintro e w1 ⟨rfl, rfl⟩)
      | (go_at_call 19; refine (HFx.out _).mono ?_; rintro e w3 ⟨rfl, hf3⟩))
    go_ret
    exact ⟨rfl, Hf0.out.trans hf3⟩
end Go.Proofs.Ythmnloapjdalpaa
