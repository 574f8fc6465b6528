/- IsaCodes, walked. (Printed by genz13.py.) -/
import Derived.Test.YtjijhjdemkgpgaaGreatDoorZ12
import Derived.Test.YtjijhjdemkgpgaaGreatDoorI24
namespace Go.Proofs.YtjijhjdemkgpgaaGreatDoor
open Go.RowKit
set_option linter.unusedVariables false
set_option linter.unusedSimpArgs false
set_option maxRecDepth 100000
theorem chk_may (i : In) : chkI i = if mayB i = true then 0 else 90 := by
  unfold chkI
  by_cases h : i.op < 0 ∨ 30 ≤ i.op
  · rw [if_pos h, if_neg]
    intro hm
    obtain ⟨k, hk, hop, -⟩ := (mayB_iff i).1 hm
    omega
  · rw [if_neg h, okI_eq i (by omega), ← mayB_at (i := i) (k := i.op.toNat) (by omega) (by omega)]
theorem rEncode_as (i : In) (w : World) : Calls Tryz.prog 7 #[i.v] w fun e w' => e = .returned (.tuple #[.string ⟨(if mayB i = true then encL i else []).toArray⟩, .int .i64 (if mayB i = true then 0 else 90)]) ∧ Fr [] w w' := by
  have h := rEncode_any i w
  by_cases hm : mayB i = true
  · rw [if_pos hm, if_pos hm] at h ⊢
    exact h
  · rw [if_neg hm, if_neg hm] at h ⊢
    exact h
theorem rPrint_as (i : In) (w : World) : Calls Tryz.prog 9 #[i.v] w fun e w' => e = .returned (.tuple #[.string ⟨(if mayB i = true then textL i [] i.op.toNat else []).toArray⟩, .int .i64 (if mayB i = true then 0 else 90)]) ∧ Fr [] w w' := by
  have h := rPrint_any i w
  by_cases hm : mayB i = true
  · rw [if_pos hm, if_pos hm] at h ⊢
    exact h
  · rw [if_neg hm, if_neg hm] at h ⊢
    exact h
set_option maxHeartbeats 8000000 in
theorem codes_walk (i : In) (s1 s2 : ByteArray) (h2 : s2.size ≤ 1048576) (w : World) (hw : Std w) : Calls Tryz.prog 3 #[i.v, .string s1, .string s2] w fun e w' => e = .returned (.bool true) ∧ Fr [] w w' := by
  have HS := Lib.hid hw
  have HFx := Lib.hid (fun W hW => fixed_any W hW)
  have HEn := Lib.hid (fun W => Encode_any i W)
  have HEr := Lib.hid (fun W => rEncode_as i W)
  have HPn := Lib.hid (fun W hW => Print_any i W hW)
  have HPr := Lib.hid (fun W => rPrint_as i W)
  have HCn := Lib.hid (fun W => Check_any i W)
  have HCr := Lib.hid (fun W => rCheck_any i W)
  rw [chk_may] at HCr
  have HDn := Lib.hid (fun W => Decode_any s1 W)
  have HDr := Lib.hid (fun W => rDecode_any s1 W)
  have HQn := Lib.hid (fun W hW => Parse_any s2 (by omega) W hW)
  have HQr := Lib.hid (fun W => rParse_any s2 (by omega) W)
  generalize (⟨(if mayB i = true then encL i else []).toArray⟩ : ByteArray) = TE at *
  generalize (⟨(if mayB i = true then textL i [] i.op.toNat else []).toArray⟩ : ByteArray) = TP at *
  generalize (if mayB i = true then (0 : Int) else 90) = EC at *
  generalize decI s1 = DX at *
  generalize parseV s2.data.toList = PX at *
  obtain ⟨⟨xo, xa, xb, xm⟩, XE⟩ := DX
  obtain ⟨⟨zo, za, zb, zm⟩, ZE⟩ := PX
  obtain ⟨io, ia, ib, im⟩ := i
  simp only at HDn HDr HQn HQr
  have q1 : (TE.toList == TE.toList) = true := by simp
  have q2 : (TP.toList == TP.toList) = true := by simp
  have B0 := Lib.hid (Blk.new w 23 #[.int .i64 io, .int .i64 ia, .int .i64 ib, .int .i64 im])
  have G0 : Hid (Fr [] w (w.alloc (.cells #[.int .i64 io, .int .i64 ia, .int .i64 ib, .int .i64 im] 23))) := Lib.hid ((Fr.refl [] w).alloc _)
  clear hw h2
  go_enter Tryz.func3, Tryz.ntmps3
  go_upto_region 9 with (first
    | (go_at_call 6; refine (HEn.out _).mono ?_; rintro e w1 ⟨rfl, hf⟩; have G1 := Lib.hid (G0.out.trans hf); have B1 := Lib.hid (B0.out.fr hf (by simp)); have c0 : (w1).cell? ⟨w.heap.size, 0, none⟩ = some (.int .i64 io) := B1.out.cell 0; have c1 : (w1).cell? ⟨w.heap.size, 1, none⟩ = some (.int .i64 ia) := B1.out.cell 1; have c2 : (w1).cell? ⟨w.heap.size, 2, none⟩ = some (.int .i64 ib) := B1.out.cell 2; have c3 : (w1).cell? ⟨w.heap.size, 3, none⟩ = some (.int .i64 im) := B1.out.cell 3; clear hf)
    | (go_at_call 7; refine (HEr.out _).mono ?_; rintro e w2 ⟨rfl, hf⟩; have G2 := Lib.hid (G1.out.trans hf); have B2 := Lib.hid (B1.out.fr hf (by simp)); have c0 : (w2).cell? ⟨w.heap.size, 0, none⟩ = some (.int .i64 io) := B2.out.cell 0; have c1 : (w2).cell? ⟨w.heap.size, 1, none⟩ = some (.int .i64 ia) := B2.out.cell 1; have c2 : (w2).cell? ⟨w.heap.size, 2, none⟩ = some (.int .i64 ib) := B2.out.cell 2; have c3 : (w2).cell? ⟨w.heap.size, 3, none⟩ = some (.int .i64 im) := B2.out.cell 3; clear hf)
    | (go_at_call 8; refine (HPn.out _ (HS.out.fr G2.out)).mono ?_; rintro e w3 ⟨rfl, hf⟩; have G3 := Lib.hid (G2.out.trans hf); have B3 := Lib.hid (B2.out.fr hf (by simp)); have c0 : (w3).cell? ⟨w.heap.size, 0, none⟩ = some (.int .i64 io) := B3.out.cell 0; have c1 : (w3).cell? ⟨w.heap.size, 1, none⟩ = some (.int .i64 ia) := B3.out.cell 1; have c2 : (w3).cell? ⟨w.heap.size, 2, none⟩ = some (.int .i64 ib) := B3.out.cell 2; have c3 : (w3).cell? ⟨w.heap.size, 3, none⟩ = some (.int .i64 im) := B3.out.cell 3; clear hf)
    | (go_at_call 9; refine (HPr.out _).mono ?_; rintro e w4 ⟨rfl, hf⟩; have G4 := Lib.hid (G3.out.trans hf); have B4 := Lib.hid (B3.out.fr hf (by simp)); have c0 : (w4).cell? ⟨w.heap.size, 0, none⟩ = some (.int .i64 io) := B4.out.cell 0; have c1 : (w4).cell? ⟨w.heap.size, 1, none⟩ = some (.int .i64 ia) := B4.out.cell 1; have c2 : (w4).cell? ⟨w.heap.size, 2, none⟩ = some (.int .i64 ib) := B4.out.cell 2; have c3 : (w4).cell? ⟨w.heap.size, 3, none⟩ = some (.int .i64 im) := B4.out.cell 3; clear hf)
    | (go_at_call 10; refine (HDn.out _).mono ?_; rintro e w5 ⟨rfl, hf⟩; have hf' := hf.alloc (.cells #[.int .i64 xo, .int .i64 xa, .int .i64 xb, .int .i64 xm] 23); have G5 := Lib.hid (G4.out.trans hf'); have B5 := Lib.hid (B4.out.fr hf' (by simp)); have N5 := Lib.hid (Blk.new w5 23 #[.int .i64 xo, .int .i64 xa, .int .i64 xb, .int .i64 xm]); clear hf hf')
    | (go_at_call 11; refine (HDr.out _).mono ?_; rintro e w6 ⟨rfl, hf⟩; have hf' := hf.alloc (.cells #[.int .i64 xo, .int .i64 xa, .int .i64 xb, .int .i64 xm] 23); have G6 := Lib.hid (G5.out.trans hf'); have B6 := Lib.hid (B5.out.fr hf' (by simp)); have N6 := Lib.hid (Blk.new w6 23 #[.int .i64 xo, .int .i64 xa, .int .i64 xb, .int .i64 xm]); have N5x := Lib.hid (N5.out.fr hf' (by simp)); clear hf hf')
    | (go_at_call 12; refine (HQn.out _ (HS.out.fr G6.out)).mono ?_; rintro e w7 ⟨rfl, hf⟩; have hf' := hf.alloc (.cells #[.int .i64 zo, .int .i64 za, .int .i64 zb, .int .i64 zm] 23); have G7 := Lib.hid (G6.out.trans hf'); have B7 := Lib.hid (B6.out.fr hf' (by simp)); have N7 := Lib.hid (Blk.new w7 23 #[.int .i64 zo, .int .i64 za, .int .i64 zb, .int .i64 zm]); have N5xx := Lib.hid (N5x.out.fr hf' (by simp)); have N6x := Lib.hid (N6.out.fr hf' (by simp)); clear hf hf')
    | (go_at_call 13; refine (HQr.out _).mono ?_; rintro e w8 ⟨rfl, hf⟩; have hf' := hf.alloc (.cells #[.int .i64 zo, .int .i64 za, .int .i64 zb, .int .i64 zm] 23); have G8 := Lib.hid (G7.out.trans hf'); have B8 := Lib.hid (B7.out.fr hf' (by simp)); have N8 := Lib.hid (Blk.new w8 23 #[.int .i64 zo, .int .i64 za, .int .i64 zb, .int .i64 zm]); have N5xxx := Lib.hid (N5xx.out.fr hf' (by simp)); have N6xx := Lib.hid (N6x.out.fr hf' (by simp)); have N7x := Lib.hid (N7.out.fr hf' (by simp)); clear hf hf')
    | fail)
  generalize (w8.alloc (.cells #[.int .i64 zo, .int .i64 za, .int .i64 zb, .int .i64 zm] 23)) = W9 at *
  have HK : Hid (∀ W, Fr [] W9 W → (W).cell? ⟨w.heap.size, 0, none⟩ = some (.int .i64 io) ∧ (W).cell? ⟨w.heap.size, 1, none⟩ = some (.int .i64 ia) ∧ (W).cell? ⟨w.heap.size, 2, none⟩ = some (.int .i64 ib) ∧ (W).cell? ⟨w.heap.size, 3, none⟩ = some (.int .i64 im) ∧ (W).cell? ⟨w5.heap.size, 0, none⟩ = some (.int .i64 xo) ∧ (W).cell? ⟨w5.heap.size, 1, none⟩ = some (.int .i64 xa) ∧ (W).cell? ⟨w5.heap.size, 2, none⟩ = some (.int .i64 xb) ∧ (W).cell? ⟨w5.heap.size, 3, none⟩ = some (.int .i64 xm) ∧ (W).cell? ⟨w6.heap.size, 0, none⟩ = some (.int .i64 xo) ∧ (W).cell? ⟨w6.heap.size, 1, none⟩ = some (.int .i64 xa) ∧ (W).cell? ⟨w6.heap.size, 2, none⟩ = some (.int .i64 xb) ∧ (W).cell? ⟨w6.heap.size, 3, none⟩ = some (.int .i64 xm) ∧ (W).cell? ⟨w7.heap.size, 0, none⟩ = some (.int .i64 zo) ∧ (W).cell? ⟨w7.heap.size, 1, none⟩ = some (.int .i64 za) ∧ (W).cell? ⟨w7.heap.size, 2, none⟩ = some (.int .i64 zb) ∧ (W).cell? ⟨w7.heap.size, 3, none⟩ = some (.int .i64 zm) ∧ (W).cell? ⟨w8.heap.size, 0, none⟩ = some (.int .i64 zo) ∧ (W).cell? ⟨w8.heap.size, 1, none⟩ = some (.int .i64 za) ∧ (W).cell? ⟨w8.heap.size, 2, none⟩ = some (.int .i64 zb) ∧ (W).cell? ⟨w8.heap.size, 3, none⟩ = some (.int .i64 zm)) := Lib.hid (fun W hf => by
    have b0 := B8.out.fr hf (by simp)
    have b1 := N5xxx.out.fr hf (by simp)
    have b2 := N6xx.out.fr hf (by simp)
    have b3 := N7x.out.fr hf (by simp)
    have b4 := N8.out.fr hf (by simp)
    exact ⟨b0.cell 0, b0.cell 1, b0.cell 2, b0.cell 3, b1.cell 0, b1.cell 1, b1.cell 2, b1.cell 3, b2.cell 0, b2.cell 1, b2.cell 2, b2.cell 3, b3.cell 0, b3.cell 1, b3.cell 2, b3.cell 3, b4.cell 0, b4.cell 1, b4.cell 2, b4.cell 3⟩)
  have HKK : Hid (∀ W, Fr [] W9 W → (Fr [] W9 W ∧ (W).cell? ⟨w.heap.size, 0, none⟩ = some (.int .i64 io) ∧ (W).cell? ⟨w.heap.size, 1, none⟩ = some (.int .i64 ia) ∧ (W).cell? ⟨w.heap.size, 2, none⟩ = some (.int .i64 ib) ∧ (W).cell? ⟨w.heap.size, 3, none⟩ = some (.int .i64 im) ∧ (W).cell? ⟨w5.heap.size, 0, none⟩ = some (.int .i64 xo) ∧ (W).cell? ⟨w5.heap.size, 1, none⟩ = some (.int .i64 xa) ∧ (W).cell? ⟨w5.heap.size, 2, none⟩ = some (.int .i64 xb) ∧ (W).cell? ⟨w5.heap.size, 3, none⟩ = some (.int .i64 xm) ∧ (W).cell? ⟨w6.heap.size, 0, none⟩ = some (.int .i64 xo) ∧ (W).cell? ⟨w6.heap.size, 1, none⟩ = some (.int .i64 xa) ∧ (W).cell? ⟨w6.heap.size, 2, none⟩ = some (.int .i64 xb) ∧ (W).cell? ⟨w6.heap.size, 3, none⟩ = some (.int .i64 xm) ∧ (W).cell? ⟨w7.heap.size, 0, none⟩ = some (.int .i64 zo) ∧ (W).cell? ⟨w7.heap.size, 1, none⟩ = some (.int .i64 za) ∧ (W).cell? ⟨w7.heap.size, 2, none⟩ = some (.int .i64 zb) ∧ (W).cell? ⟨w7.heap.size, 3, none⟩ = some (.int .i64 zm) ∧ (W).cell? ⟨w8.heap.size, 0, none⟩ = some (.int .i64 zo) ∧ (W).cell? ⟨w8.heap.size, 1, none⟩ = some (.int .i64 za) ∧ (W).cell? ⟨w8.heap.size, 2, none⟩ = some (.int .i64 zb) ∧ (W).cell? ⟨w8.heap.size, 3, none⟩ = some (.int .i64 zm))) := Lib.hid (fun W hf => ⟨hf, HK.out W hf⟩)
  have kk0 : Fr [] W9 W9.drew := (Fr.refl [] W9).drew
  have kk1 : Fr [] W9 W9 := Fr.refl [] W9
  clear c0 c1 c2 c3
  go_region_held3 (fun W => Fr [] W9 W ∧ (W).cell? ⟨w.heap.size, 0, none⟩ = some (.int .i64 io) ∧ (W).cell? ⟨w.heap.size, 1, none⟩ = some (.int .i64 ia) ∧ (W).cell? ⟨w.heap.size, 2, none⟩ = some (.int .i64 ib) ∧ (W).cell? ⟨w.heap.size, 3, none⟩ = some (.int .i64 im) ∧ (W).cell? ⟨w5.heap.size, 0, none⟩ = some (.int .i64 xo) ∧ (W).cell? ⟨w5.heap.size, 1, none⟩ = some (.int .i64 xa) ∧ (W).cell? ⟨w5.heap.size, 2, none⟩ = some (.int .i64 xb) ∧ (W).cell? ⟨w5.heap.size, 3, none⟩ = some (.int .i64 xm) ∧ (W).cell? ⟨w6.heap.size, 0, none⟩ = some (.int .i64 xo) ∧ (W).cell? ⟨w6.heap.size, 1, none⟩ = some (.int .i64 xa) ∧ (W).cell? ⟨w6.heap.size, 2, none⟩ = some (.int .i64 xb) ∧ (W).cell? ⟨w6.heap.size, 3, none⟩ = some (.int .i64 xm) ∧ (W).cell? ⟨w7.heap.size, 0, none⟩ = some (.int .i64 zo) ∧ (W).cell? ⟨w7.heap.size, 1, none⟩ = some (.int .i64 za) ∧ (W).cell? ⟨w7.heap.size, 2, none⟩ = some (.int .i64 zb) ∧ (W).cell? ⟨w7.heap.size, 3, none⟩ = some (.int .i64 zm) ∧ (W).cell? ⟨w8.heap.size, 0, none⟩ = some (.int .i64 zo) ∧ (W).cell? ⟨w8.heap.size, 1, none⟩ = some (.int .i64 za) ∧ (W).cell? ⟨w8.heap.size, 2, none⟩ = some (.int .i64 zb) ∧ (W).cell? ⟨w8.heap.size, 3, none⟩ = some (.int .i64 zm)) (first | assumption | exact HKK.out _ kk | exact HKK.out _ kk0 | exact HKK.out _ kk1) (first
    | (go_at_call 14; refine (HFx.out _ (HS.out.fr (G8.out.trans (by first | assumption | (refine And.left ?_; assumption))))).mono ?_; rintro e w10 ⟨rfl, hf⟩; have kk : Fr [] W9 w10 := Fr.trans (by first | assumption | (refine And.left ?_; assumption)) hf)
    | (go_at_call 15; refine (HCn.out _).mono ?_; rintro e w10 ⟨rfl, hf⟩; have kk : Fr [] W9 w10 := Fr.trans (by first | assumption | (refine And.left ?_; assumption)) hf)
    | (go_at_call 16; refine (HCr.out _).mono ?_; rintro e w10 ⟨rfl, hf⟩; have kk : Fr [] W9 w10 := Fr.trans (by first | assumption | (refine And.left ?_; assumption)) hf))
  all_goals
    go_wp2_with fail
    go_ret
    exact ⟨rfl, G8.out.trans (by first | assumption | (refine And.left ?_; assumption))⟩

end Go.Proofs.YtjijhjdemkgpgaaGreatDoor
