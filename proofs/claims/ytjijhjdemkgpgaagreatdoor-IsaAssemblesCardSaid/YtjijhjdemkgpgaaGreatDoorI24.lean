/- fixed, of the laws of chapter 09. -/
import Derived.Test.YtjijhjdemkgpgaaGreatDoorI23
namespace Go.Proofs.YtjijhjdemkgpgaaGreatDoor
open Go.RowKit Go.Maps
set_option linter.unusedVariables false
set_option linter.unusedSimpArgs false
set_option maxRecDepth 100000
theorem bget4 : (⟨#[103, 101, 116, 52, 32, 114, 49, 32, 114, 50, 32, 51, 48, 48]⟩ : ByteArray).data.toList = get4T := rfl
set_option maxHeartbeats 8000000 in
theorem fixed_any (w : World) (hw : Std w) : Calls Tryz.prog 14 #[] w fun e w' => e = .returned (.bool true) ∧ Fr [] w w' := by
  have HS := Lib.hid hw
  clear hw
  have HE : Hid (∀ W, Calls Tryz.prog 6 #[.agg #[.int .i64 21, .int .i64 1, .int .i64 2, .int .i64 300]] W fun e w' => e = .returned (.tuple #[.string ⟨#[21, 18, 1, 44]⟩, .int .i64 0]) ∧ Fr [] W w') := Lib.hid (fun W => by
    have h := Encode_any ⟨21, 1, 2, 300⟩ W
    rw [show mayB ⟨21, 1, 2, 300⟩ = true by decide, if_pos rfl, if_pos rfl, show encL ⟨21, 1, 2, 300⟩ = [21, 18, 1, 44] by decide] at h
    exact h)
  have HD1 : Hid (∀ W, Calls Tryz.prog 10 #[.string ⟨#[24, 0, 255, 254]⟩] W fun e w' => e = .returned (.tuple #[.agg #[.int .i64 24, .int .i64 0, .int .i64 0, .int .i64 (-2)], .int .i64 0]) ∧ Fr [] W w') := Lib.hid (fun W => by
    have h := Decode_any ⟨(W4.l ⟨24, 0, 255, 254⟩).toArray⟩ W
    rw [dec_tie, show decL ⟨24, 0, 255, 254⟩ = some ⟨24, 0, 0, -2⟩ by decide +kernel] at h
    exact h)
  have HD2 : Hid (∀ W, Calls Tryz.prog 10 #[.string ⟨#[0, 0, 0, 1]⟩] W fun e w' => e = .returned (.tuple #[.agg #[.int .i64 0, .int .i64 0, .int .i64 0, .int .i64 0], .int .i64 91]) ∧ Fr [] W w') := Lib.hid (fun W => by
    have h := Decode_any ⟨(W4.l ⟨0, 0, 0, 1⟩).toArray⟩ W
    rw [dec_tie, show decL ⟨0, 0, 0, 1⟩ = none by decide +kernel] at h
    exact h)
  have HP1 : Hid (∀ W, Std W → Calls Tryz.prog 12 #[.string ⟨#[103, 101, 116, 52, 32, 114, 49, 32, 114, 50, 32, 51, 48, 48]⟩] W fun e w' => e = .returned (.tuple #[.agg #[.int .i64 21, .int .i64 1, .int .i64 2, .int .i64 300], .int .i64 0]) ∧ Fr [] W w') := Lib.hid (fun W hW => by
    have h := Parse_any ⟨get4T.toArray⟩ (by decide) W hW
    rw [show (⟨get4T.toArray⟩ : ByteArray).data.toList = get4T from rfl, fx_get4] at h
    exact h)
  have HP2 : Hid (∀ W, Std W → Calls Tryz.prog 12 #[.string ⟨#[106, 117, 109, 112, 32, 45, 48]⟩] W fun e w' => e = .returned (.tuple #[.agg #[.int .i64 0, .int .i64 0, .int .i64 0, .int .i64 0], .int .i64 92]) ∧ Fr [] W w') := Lib.hid (fun W hW => by
    have h := Parse_any ⟨jumpm0.toArray⟩ (by decide) W hW
    rw [show (⟨jumpm0.toArray⟩ : ByteArray).data.toList = jumpm0 from rfl, fx_jump] at h
    exact h)
  have HA1 : Hid (∀ W, Std W → Calls Tryz.prog 17 #[.string ⟨#[97, 58, 10, 112, 108, 117, 115, 32, 114, 49, 32, 45, 49, 10, 115, 111, 109, 101, 32, 114, 49, 32, 64, 97, 10, 106, 117, 109, 112, 32, 64, 98, 10, 119, 111, 114, 100, 32, 55, 10, 98, 58, 10, 115, 116, 111, 112, 10]⟩] W fun e w' => e = .returned (.tuple #[.string ⟨#[19, 16, 255, 255, 26, 16, 255, 254, 24, 0, 0, 1, 0, 0, 0, 7, 1, 0, 0, 0]⟩, .int .i64 0, .int .i64 0]) ∧ Fr [] W w') := Lib.hid (fun W hW => by
    have h := Assemble_any ⟨asm1T.toArray⟩ W hW
    rw [show (⟨asm1T.toArray⟩ : ByteArray).data.toList = asm1T from rfl, fx_asm1] at h
    exact h)
  have HA2 : Hid (∀ W, Std W → Calls Tryz.prog 17 #[.string ⟨#[97, 58, 10, 97, 58, 10]⟩] W fun e w' => e = .returned (.tuple #[.string ⟨#[]⟩, .int .i64 2, .int .i64 93]) ∧ Fr [] W w') := Lib.hid (fun W hW => by
    have h := Assemble_any ⟨asm2T.toArray⟩ W hW
    rw [show (⟨asm2T.toArray⟩ : ByteArray).data.toList = asm2T from rfl, fx_asm2] at h
    exact h)
  have HL : Hid (∀ W, Std W → Calls Tryz.prog 19 #[.string ⟨#[1, 0, 0, 0, 255, 0, 0, 1]⟩] W fun e w' => e = .returned (.tuple #[.string ⟨#[115, 116, 111, 112, 10, 119, 111, 114, 100, 32, 52, 50, 55, 56, 49, 57, 48, 48, 56, 49, 10]⟩, .int .i64 0]) ∧ Fr [] W w') := Lib.hid (fun W hW => by
    have h := List_any ⟨#[1, 0, 0, 0, 255, 0, 0, 1]⟩ W hW
    rw [show (⟨#[1, 0, 0, 0, 255, 0, 0, 1]⟩ : ByteArray).data.toList = [1, 0, 0, 0, 255, 0, 0, 1] from rfl, fx_list] at h
    exact h)
  have HPr : Hid (∀ W, Std W → Calls Tryz.prog 8 #[.agg #[.int .i64 30, .int .i64 0, .int .i64 0, .int .i64 0]] W fun e w' => e = .returned (.tuple #[.string ⟨#[]⟩, .int .i64 90]) ∧ Fr [] W w') := Lib.hid (fun W hW => by
    have h := Print_any ⟨30, 0, 0, 0⟩ W hW
    rw [show mayB ⟨30, 0, 0, 0⟩ = false by decide] at h
    exact h)
  have HC : Hid (∀ W, Calls Tryz.prog 15 #[.agg #[.int .i64 21, .int .i64 1, .int .i64 2, .int .i64 300]] W fun e w' => e = .returned (.int .i64 0) ∧ Fr [] W w') := Lib.hid (fun W => by
    have h := Check_any ⟨21, 1, 2, 300⟩ W
    rw [show mayB ⟨21, 1, 2, 300⟩ = true by decide] at h
    exact h)
  have hq1 : ∀ W, (binOp .eql 23 (.agg #[.int .i64 24, .int .i64 0, .int .i64 0, .int .i64 (-2)]) (.agg #[.int .i64 24, .int .i64 0, .int .i64 0, .int .i64 (-2)])).run Tryz.prog W = .ok (.bool true) W := fun W => by kernel_rfl
  have hq2 : ∀ W, (binOp .eql 23 (.agg #[.int .i64 21, .int .i64 1, .int .i64 2, .int .i64 300]) (.agg #[.int .i64 21, .int .i64 1, .int .i64 2, .int .i64 300])).run Tryz.prog W = .ok (.bool true) W := fun W => by kernel_rfl
  go_enter Tryz.func14, Tryz.ntmps14
  go_wp2_with (first
    | (go_at_call 6; refine (HE.out _).mono ?_; rintro e w1 ⟨rfl, hf⟩; have G1 := Lib.hid hf; clear hf)
    | (go_at_call 10; with_reducible refine (HD1.out _).mono ?_; rintro e w2 ⟨rfl, hf⟩; have G2 := Lib.hid ((G1.out.trans hf).alloc (.cells #[.int .i64 24, .int .i64 0, .int .i64 0, .int .i64 (-2)] 23)); have B2 := Lib.hid (Blk.new w2 23 #[.int .i64 24, .int .i64 0, .int .i64 0, .int .i64 (-2)]); clear hf)
    | (go_at_call 10; with_reducible refine (HD2.out _).mono ?_; rintro e w3 ⟨rfl, hf⟩; have hf' := hf.alloc (.cells #[.int .i64 0, .int .i64 0, .int .i64 0, .int .i64 0] 23); have G3 := Lib.hid (G2.out.trans hf'); have B3 := Lib.hid (B2.out.fr hf' (by simp)); clear hf hf')
    | (go_at_call 12; with_reducible refine (HP1.out _ (HS.out.fr G3.out)).mono ?_; rintro e w4 ⟨rfl, hf⟩; have hf' := hf.alloc (.cells #[.int .i64 21, .int .i64 1, .int .i64 2, .int .i64 300] 23); have G4 := Lib.hid (G3.out.trans hf'); have B4 := Lib.hid (B3.out.fr hf' (by simp)); have C4 := Lib.hid (Blk.new w4 23 #[.int .i64 21, .int .i64 1, .int .i64 2, .int .i64 300]); clear hf hf')
    | (go_at_call 12; with_reducible refine (HP2.out _ (HS.out.fr G4.out)).mono ?_; rintro e w5 ⟨rfl, hf⟩; have hf' := hf.alloc (.cells #[.int .i64 0, .int .i64 0, .int .i64 0, .int .i64 0] 23); have G5 := Lib.hid (G4.out.trans hf'); have B5 := Lib.hid (B4.out.fr hf' (by simp)); have C5 := Lib.hid (C4.out.fr hf' (by simp)); clear hf hf')
    | (go_at_call 17; with_reducible refine (HA1.out _ (HS.out.fr G5.out)).mono ?_; rintro e w6 ⟨rfl, hf⟩; have G6 := Lib.hid (G5.out.trans hf); have B6 := Lib.hid (B5.out.fr hf (by simp)); have C6 := Lib.hid (C5.out.fr hf (by simp)); clear hf)
    | (go_at_call 17; with_reducible refine (HA2.out _ (HS.out.fr G6.out)).mono ?_; rintro e w7 ⟨rfl, hf⟩; have G7 := Lib.hid (G6.out.trans hf); have B7 := Lib.hid (B6.out.fr hf (by simp)); have C7 := Lib.hid (C6.out.fr hf (by simp)); clear hf)
    | (go_at_call 19; refine (HL.out _ (HS.out.fr G7.out)).mono ?_; rintro e w8 ⟨rfl, hf⟩; have G8 := Lib.hid (G7.out.trans hf); have B8 := Lib.hid (B7.out.fr hf (by simp)); have C8 := Lib.hid (C7.out.fr hf (by simp)); clear hf)
    | (go_at_call 8; refine (HPr.out _ (HS.out.fr G8.out)).mono ?_; rintro e w9 ⟨rfl, hf⟩; have G9 := Lib.hid (G8.out.trans hf); have B9 := B8.out.fr hf (by simp); have C9 := C8.out.fr hf (by simp); have a0 : w9.cell? ⟨w2.heap.size, 0, none⟩ = some (.int .i64 24) := B9.cell 0; have a1 : w9.cell? ⟨w2.heap.size, 1, none⟩ = some (.int .i64 0) := B9.cell 1; have a2 : w9.cell? ⟨w2.heap.size, 2, none⟩ = some (.int .i64 0) := B9.cell 2; have a3 : w9.cell? ⟨w2.heap.size, 3, none⟩ = some (.int .i64 (-2)) := B9.cell 3; have b0 : w9.cell? ⟨w4.heap.size, 0, none⟩ = some (.int .i64 21) := C9.cell 0; have b1 : w9.cell? ⟨w4.heap.size, 1, none⟩ = some (.int .i64 1) := C9.cell 1; have b2 : w9.cell? ⟨w4.heap.size, 2, none⟩ = some (.int .i64 2) := C9.cell 2; have b3 : w9.cell? ⟨w4.heap.size, 3, none⟩ = some (.int .i64 300) := C9.cell 3; clear hf B9 C9)
    | (go_at_call 15; refine (HC.out _).mono ?_; rintro e w10 ⟨rfl, hf⟩; have G10 := Lib.hid (G9.out.trans hf); clear hf)
    | fail)
  go_ret
  exact ⟨rfl, G10.out⟩
end Go.Proofs.YtjijhjdemkgpgaaGreatDoor
