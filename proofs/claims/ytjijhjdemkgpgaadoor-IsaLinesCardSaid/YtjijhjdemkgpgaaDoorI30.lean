/- IsaLabels, walked. -/
import Derived.Test.YtjijhjdemkgpgaaDoorI25
import Derived.Test.YtjijhjdemkgpgaaDoorI6
import Derived.Deep.DeepCutAuto
import Derived.Lib.AppendStr
namespace Go.Proofs.YtjijhjdemkgpgaaDoor
open Go.RowKit Go.Maps
set_option linter.unusedVariables false
set_option linter.unusedSimpArgs false
set_option maxRecDepth 100000
/-- Instructions that came in, row by row. -/
structure InsAt (w : World) (A : Option Addr) (n : Nat) (r : Nat → In) : Prop where
  at_ : ∀ i, i < n → ∃ b off, A = some ⟨b, off, none⟩ ∧ w.cell? ⟨b, off + i * 4, none⟩ = some (.int .i64 (r i).op) ∧ w.cell? ⟨b, off + i * 4 + 1, none⟩ = some (.int .i64 (r i).a) ∧ w.cell? ⟨b, off + i * 4 + 2, none⟩ = some (.int .i64 (r i).b) ∧ w.cell? ⟨b, off + i * 4 + 3, none⟩ = some (.int .i64 (r i).m)
theorem rowsB_snoc (ws : List W4) (x : W4) : rowsB (ws ++ [x]) = rowsB ws ++ (lineOf x ++ [10]) := by
  unfold rowsB
  rw [List.flatMap_append]
  simp
theorem line_may {i : In} (h : mayB i = true) : lineOf (encW i) = textL i [] i.op.toNat := by
  obtain ⟨k, hk, hop, hok⟩ := (mayB_iff i).1 h
  rw [line_enc hk hop hok, hop, Int.toNat_natCast]
set_option maxHeartbeats 16000000 in
theorem labels_walk (A : Option Addr) (n cap : Nat) (r : Nat → In) (s1 : ByteArray) (h1 : s1.size ≤ 140737488351232) (w : World) (hw : Std w) (hr : InsAt w A n r) : Calls Tryd.prog 4 #[.slice A n cap, .string s1] w fun e w' => e = .returned (.bool true) ∧ Fr [] w w' := by
  obtain ⟨i0, hi0, hz0, hz1, hz2⟩ : ∃ i, Tryd.prog.info? 5 = some i ∧ i.zero = some (.int .u8 0) ∧ i.size = 1 ∧ i.bytes = 1 := ⟨_, rfl, rfl, rfl, rfl⟩
  have HS := Lib.hid hw
  have HFx := Lib.hid (fun W hW => fixed_any W hW)
  have HLb := Lib.hid (fun W => rLabel_any s1 (by omega) W)
  have HRr := Lib.hid hr
  clear hw hr
  by_cases hlab : isLab s1.data.toList = true
  · by_cases hn : n ≤ 1000
    · have hni : ¬ (1000 : Int) < (n : Int) := by omega
      have HN := Lib.hid hn
      rw [hlab] at HLb
      have HLab := Lib.hid hlab
      clear hn hlab
      go_enter Tryd.func4, Tryd.ntmps4
      go_wp2_with (first
        | (go_at_call 8; refine (HFx.out _ HS.out).mono ?_; rintro e w1 ⟨rfl, hf⟩; have G1 := Lib.hid hf; clear hf)
        | (go_at_call 16; refine (HLb.out _).mono ?_; rintro e w2 ⟨rfl, rfl⟩)
        | fail)
      have G2 := Lib.hid (G1.out.alloc (.cells #[] 5))
      have HO1 := Lib.hid (own_made5 (W := w1) w1.heap.size (Nat.le_refl _) rfl)
      go_loopg [5, 6, 7] n (fun gg v5 v6 v7 wr => ∃ (i : Nat) (ws : List W4), i + gg = n ∧ v7 = .int .i64 (i : Int) ∧ v6 = .int .i64 (ws.length : Int) ∧ wr.ownsRow w1.heap.size 5 1 v5 (rowsB ws).length (bC (rowsB ws)) ∧ v5 ≠ .slice none 0 0 ∧ Fr [] w1 wr ∧ ws.length ≤ i)
      case atStart => exact ⟨0, [], by omega, rfl, rfl, HO1.out, by simp, (Fr.refl [] w1).alloc _, Nat.le_refl _⟩
      case round =>
        obtain ⟨i, ws, hi, rfl, rfl, hown, hne, hf, hwl⟩ := hrel
        have Hi := Lib.hid hi
        have HOw := Lib.hid hown
        have HNe := Lib.hid hne
        have Hf := Lib.hid hf
        have HFw := Lib.hid (G1.out.trans hf)
        have Hwl := Lib.hid hwl
        have hrl := rows_len ws
        have HRl := Lib.hid hrl
        by_cases hlt : i < n
        · obtain ⟨b, off, hA, e0, e1, e2, e3⟩ := HRr.out.at_ i hlt
          have e0 := HFw.out.cell_some e0 (by simp)
          have e1 := HFw.out.cell_some e1 (by simp)
          have e2 := HFw.out.cell_some e2 (by simp)
          have e3 := HFw.out.cell_some e3 (by simp)
          have hlt1 : (i : Int) < (n : Int) := by omega
          have hi0' : (0 : Int) ≤ (i : Int) := by omega
          have hwk : IntKind.i64.wrap ((i : Int) + 1) = (i : Int) + 1 := IntWalk.i64_in _ (by have := HN.out; omega)
          have hwk2 : IntKind.i64.wrap ((ws.length : Int) + 1) = (ws.length : Int) + 1 := IntWalk.i64_in _ (by have := HN.out; omega)
          have HPr := Lib.hid (fun W hW => Print_any (r i) W hW)
          cases hm : mayB (r i) with
          | false =>
            rw [hm] at HPr
            generalize r i = ri at *
            obtain ⟨io, ia, ib, im⟩ := ri
            subst hA
            clear hi hown hne hf hwl hrl hm
            go_wp2_with (first
              | (go_at_call 10; refine (HPr.out _ (HS.out.fr HFw.out)).mono ?_; rintro e w3 ⟨rfl, hf3⟩; have G3 := Lib.hid hf3; clear hf3)
              | fail)
            go_roundg (n - (i + 1))
            case measure => have := Hi.out; omega
            case rel => exact ⟨i + 1, ws, by have := Hi.out; omega, by go_num, rfl, own_fr HOw.out G3.out (by simp), HNe.out, Hf.out.trans G3.out, by have := Hwl.out; omega⟩
          | true =>
            have hln := line_may hm
            rw [hm] at HPr
            rw [if_pos rfl, if_pos rfl, ← hln] at HPr
            have hll := line_len (encW (r i))
            generalize encW (r i) = x at *
            generalize r i = ri at *
            obtain ⟨io, ia, ib, im⟩ := ri
            subst hA
            have l2 : ¬ 9223372036854775807 < (lineOf x).length + 1 := by omega
            have c2 : (⟨(lineOf x).toArray⟩ : ByteArray) ++ ⟨#[10]⟩ = ⟨(lineOf x ++ [10]).toArray⟩ := bcat _ [10]
            have Hll := Lib.hid hll
            clear hi hown hne hf hwl hrl hm hln hll
            go_wp2_with (first
              | (go_at_call 10; refine (HPr.out _ (HS.out.fr HFw.out)).mono ?_; rintro e w3 ⟨rfl, hf3⟩; have G3 := Lib.hid hf3; have HO3 := Lib.hid (own_fr HOw.out hf3 (by simp)); have HZ3 := Lib.hid (Nat.le_trans Hf.out.size hf3.size); clear hf3)
              | (at_builtin; go_must (refine Lib.wpList_append_own_string w3 rfl _ _ 37 9 rfl w1.heap.size 5 i0 Tryd.underlying37 Tryd.underlying9 hi0 hz0 hz1 hz2 _ (rowsB ws).length (bC (rowsB ws)) rfl HO3.out ⟨(lineOf x ++ [10]).toArray⟩ rfl ?_ ?_ HZ3.out ?_))
              | fail)
            · have := HN.out; have := HRl.out; have := Hwl.out; have := Hi.out; have := Hll.out
              show (rowsB ws).length + (lineOf x ++ [10]).length ≤ maxLen
              rw [List.length_append]
              simp only [maxLen, List.length_cons, List.length_nil]
              omega
            · have := HN.out; have := HRl.out; have := Hwl.out; have := Hi.out; have := Hll.out
              show (rowsB ws).length + (lineOf x ++ [10]).length ≤ _
              rw [List.length_append]
              simp only [List.length_cons, List.length_nil]
              omega
            · intro v' w' h1 h2 h3
              have hx : bC (rowsB ws) ++ Lib.strCells ⟨(lineOf x ++ [10]).toArray⟩ = bC (rowsB (ws ++ [x])) := by
                rw [rowsB_snoc]
                unfold bC Lib.strCells
                simp only [List.map_append]
              have hy : (rowsB ws).length + ((lineOf x).length + 1) = (rowsB (ws ++ [x])).length := by
                rw [rowsB_snoc, List.length_append, List.length_append]
                rfl
              rw [hx] at h1
              have HX1 : Hid (w'.ownsRow w1.heap.size 5 1 v' (rowsB (ws ++ [x])).length (bC (rowsB (ws ++ [x])))) := Lib.hid (by rw [← hy]; simpa using h1)
              have HX3 := Lib.hid h3
              have HXF := Lib.hid (Fr.own (w0 := w1) (Hf.out.trans G3.out) HO3.out h2)
              clear h1 h2 h3 hx hy
              go_wp2_with fail
              go_roundg (n - (i + 1))
              case measure => have := Hi.out; omega
              case rel => exact ⟨i + 1, ws ++ [x], by have := Hi.out; omega, by go_num, by rw [List.length_append]; go_num, HX1.out, HX3.out, HXF.out, by rw [List.length_append]; have := Hwl.out; simp only [List.length_cons, List.length_nil]; omega⟩
        · obtain rfl : i = n := by omega
          have hlt1 : ¬ (i : Int) < (i : Int) := by omega
          obtain ⟨g, cp, rfl, hc⟩ := own_form hown hne
          have HRc : Hid (∀ W, Fr [] wr W → (convert 37 9 (.slice (some ⟨g, 0, none⟩) (rowsB ws).length cp)).run Tryd.prog W = .ok (.string ⟨(rowsB ws).toArray⟩) W) := Lib.hid (fun W hW => run_convert_bytes_back (P := Tryd.prog) W 37 9 5 ⟨g, 0, none⟩ cp (rowsB ws) Tryd.underlying37 Tryd.underlying5 Tryd.underlying9 (fun j hj => by
            have e : (⟨g, 0, none⟩ : Addr).add j = ⟨g, j, none⟩ := by unfold Addr.add; split <;> simp_all
            have h := hc j _ (by unfold bC; rw [List.getElem?_map, List.getElem?_eq_getElem hj]; rfl)
            rw [e] at h ⊢
            exact hW.cell_some h (by simp)))
          have hR := HRc.out wr (Fr.refl [] wr)
          have hlm := HLab.out
          have ll := (lab_len hlm).1
          have hov := asm_over ws (by have := HN.out; omega) hlm
          have hbe := asm_behind ws (by have := HN.out; omega) hlm
          obtain ⟨K, hK⟩ : ∃ K, K = ws.length := ⟨_, rfl⟩
          have hKn : K ≤ 1000 := by have := HN.out; omega
          rw [← hK] at hov hbe
          have hrl2 : (rowsB ws).length ≤ 30000 := by omega
          have hbw := bytesW_len ws
          rw [← hK] at hbw
          obtain ⟨l, hl⟩ : ∃ l : List UInt8, l = s1.data.toList := ⟨_, rfl⟩
          have hs1 : s1 = ⟨l.toArray⟩ := by rw [hl]
          rw [← hl] at hov hbe ll
          have HA : Hid (∀ W, Std W → Calls Tryd.prog 15 #[.string ⟨(jumpT l ++ [10] ++ rowsB ws ++ l ++ [58, 10]).toArray⟩] W fun e w' => e = .returned (.tuple #[.string ⟨(encL ⟨24, 0, 0, K⟩ ++ bytesW ws).toArray⟩, .int .i64 0, .int .i64 0]) ∧ Fr [] W w') := Lib.hid (fun W hW => by
            have h := Assemble_any ⟨(jumpT l ++ [10] ++ rowsB ws ++ l ++ [58, 10]).toArray⟩ W hW
            have e : asm (⟨(jumpT l ++ [10] ++ rowsB ws ++ l ++ [58, 10]).toArray⟩ : ByteArray).data.toList = (encL ⟨24, 0, 0, K⟩ ++ bytesW ws, 0, 0) := hov
            rw [e] at h
            exact h)
          have HB : Hid (∀ W, Std W → Calls Tryd.prog 15 #[.string ⟨(l ++ [58, 10] ++ rowsB ws ++ someT l).toArray⟩] W fun e w' => e = .returned (.tuple #[.string ⟨(bytesW ws ++ encL ⟨26, 3, 0, -(K : Int) - 1⟩).toArray⟩, .int .i64 0, .int .i64 0]) ∧ Fr [] W w') := Lib.hid (fun W hW => by
            have h := Assemble_any ⟨(l ++ [58, 10] ++ rowsB ws ++ someT l).toArray⟩ W hW
            have e : asm (⟨(l ++ [58, 10] ++ rowsB ws ++ someT l).toArray⟩ : ByteArray).data.toList = (bytesW ws ++ encL ⟨26, 3, 0, -(K : Int) - 1⟩, 0, 0) := hbe
            rw [e] at h
            exact h)
          have ca1 : (⟨#[106, 117, 109, 112, 32, 64]⟩ : ByteArray) ++ s1 = ⟨(jumpT l).toArray⟩ := by rw [hs1]; exact bcat [106, 117, 109, 112, 32, 64] l
          have ca2 := bcat (jumpT l) [10]
          have ca3 := bcat (jumpT l ++ [10]) (rowsB ws)
          have ca4 : (⟨(jumpT l ++ [10] ++ rowsB ws).toArray⟩ : ByteArray) ++ s1 = ⟨(jumpT l ++ [10] ++ rowsB ws ++ l).toArray⟩ := by rw [hs1]; exact bcat _ l
          have ca5 := bcat (jumpT l ++ [10] ++ rowsB ws ++ l) [58, 10]
          have cb1 : s1 ++ (⟨#[58, 10]⟩ : ByteArray) = ⟨(l ++ [58, 10]).toArray⟩ := by rw [hs1]; exact bcat l [58, 10]
          have cb2 := bcat (l ++ [58, 10]) (rowsB ws)
          have cb3 := bcat (l ++ [58, 10] ++ rowsB ws) [115, 111, 109, 101, 32, 114, 51, 32, 64]
          have cb4 : (⟨(l ++ [58, 10] ++ rowsB ws ++ [115, 111, 109, 101, 32, 114, 51, 32, 64]).toArray⟩ : ByteArray) ++ s1 = ⟨(l ++ [58, 10] ++ rowsB ws ++ someT l).toArray⟩ := by
            rw [hs1]
            have h := bcat (l ++ [58, 10] ++ rowsB ws ++ [115, 111, 109, 101, 32, 114, 51, 32, 64]) l
            rw [h]
            unfold someT
            simp
          have hjl : (jumpT l).length = 6 + l.length := by unfold jumpT; simp; omega
          have hs1s : s1.size = l.length := by rw [hs1]; rfl
          have na1 : ¬ 9223372036854775807 < 6 + s1.size := by omega
          have na2 : ¬ 9223372036854775807 < (⟨(jumpT l).toArray⟩ : ByteArray).size + 1 := by show ¬ _ < (jumpT l).length + 1; omega
          have na3 : ¬ 9223372036854775807 < (⟨(jumpT l ++ [10]).toArray⟩ : ByteArray).size + (⟨(rowsB ws).toArray⟩ : ByteArray).size := by show ¬ _ < (jumpT l ++ [10]).length + (rowsB ws).length; simp; omega
          have na4 : ¬ 9223372036854775807 < (⟨(jumpT l ++ [10] ++ rowsB ws).toArray⟩ : ByteArray).size + s1.size := by show ¬ _ < (jumpT l ++ [10] ++ rowsB ws).length + _; simp; omega
          have na5 : ¬ 9223372036854775807 < (⟨(jumpT l ++ [10] ++ rowsB ws ++ l).toArray⟩ : ByteArray).size + 2 := by show ¬ _ < (jumpT l ++ [10] ++ rowsB ws ++ l).length + _; simp; omega
          have nb1 : ¬ 9223372036854775807 < s1.size + 2 := by omega
          have nb2 : ¬ 9223372036854775807 < (⟨(l ++ [58, 10]).toArray⟩ : ByteArray).size + (⟨(rowsB ws).toArray⟩ : ByteArray).size := by show ¬ _ < (l ++ [58, 10]).length + (rowsB ws).length; simp; omega
          have nb3 : ¬ 9223372036854775807 < (⟨(l ++ [58, 10] ++ rowsB ws).toArray⟩ : ByteArray).size + 9 := by show ¬ _ < (l ++ [58, 10] ++ rowsB ws).length + _; simp; omega
          have nb4 : ¬ 9223372036854775807 < (⟨(l ++ [58, 10] ++ rowsB ws ++ [115, 111, 109, 101, 32, 114, 51, 32, 64]).toArray⟩ : ByteArray).size + s1.size := by show ¬ _ < (l ++ [58, 10] ++ rowsB ws ++ [115, 111, 109, 101, 32, 114, 51, 32, 64]).length + _; simp; omega
          generalize (⟨(jumpT l ++ [10] ++ rowsB ws ++ l ++ [58, 10]).toArray⟩ : ByteArray) = SA at *
          generalize (⟨(jumpT l ++ [10] ++ rowsB ws ++ l).toArray⟩ : ByteArray) = SA4 at *
          generalize (⟨(jumpT l ++ [10] ++ rowsB ws).toArray⟩ : ByteArray) = SA3 at *
          generalize (⟨(jumpT l ++ [10]).toArray⟩ : ByteArray) = SA2 at *
          generalize (⟨(jumpT l).toArray⟩ : ByteArray) = SA1 at *
          generalize (⟨(l ++ [58, 10] ++ rowsB ws ++ someT l).toArray⟩ : ByteArray) = SB at *
          generalize (⟨(l ++ [58, 10] ++ rowsB ws ++ [115, 111, 109, 101, 32, 114, 51, 32, 64]).toArray⟩ : ByteArray) = SB3 at *
          generalize (⟨(l ++ [58, 10] ++ rowsB ws).toArray⟩ : ByteArray) = SB2 at *
          generalize (⟨(l ++ [58, 10]).toArray⟩ : ByteArray) = SB1 at *
          have HD1 : Hid (∀ W, Calls Tryd.prog 12 #[.string ⟨(encL ⟨24, 0, 0, K⟩).toArray⟩] W fun e w' => e = .returned (.tuple #[.agg #[.int .i64 24, .int .i64 0, .int .i64 0, .int .i64 (K : Int)], .int .i64 0]) ∧ Fr [] W w') := Lib.hid (fun W => by
            have h := Decode_any ⟨(encL ⟨24, 0, 0, K⟩).toArray⟩ W
            rw [← encW_l ⟨24, 0, 0, K⟩, dec_tie, dec_enc (k := 24) (by decide) rfl (ok_jump (by omega) (by omega))] at h
            exact h)
          have HD2 : Hid (∀ W, Calls Tryd.prog 12 #[.string ⟨(encL ⟨26, 3, 0, -(K : Int) - 1⟩).toArray⟩] W fun e w' => e = .returned (.tuple #[.agg #[.int .i64 26, .int .i64 3, .int .i64 0, .int .i64 (-(K : Int) - 1)], .int .i64 0]) ∧ Fr [] W w') := Lib.hid (fun W => by
            have h := Decode_any ⟨(encL ⟨26, 3, 0, -(K : Int) - 1⟩).toArray⟩ W
            rw [← encW_l ⟨26, 3, 0, -(K : Int) - 1⟩, dec_tie, dec_enc (k := 26) (by decide) rfl (ok_some (by omega) (by omega))] at h
            exact h)
          obtain ⟨AA, hAA⟩ : ∃ AA : ByteArray, AA = ⟨(encL ⟨24, 0, 0, K⟩ ++ bytesW ws).toArray⟩ := ⟨_, rfl⟩
          obtain ⟨BB, hBB⟩ : ∃ BB : ByteArray, BB = ⟨(bytesW ws ++ encL ⟨26, 3, 0, -(K : Int) - 1⟩).toArray⟩ := ⟨_, rfl⟩
          have HA : Hid (∀ W, Std W → Calls Tryd.prog 15 #[.string SA] W fun e w' => e = .returned (.tuple #[.string AA, .int .i64 0, .int .i64 0]) ∧ Fr [] W w') := by rw [hAA]; exact HA
          have HB : Hid (∀ W, Std W → Calls Tryd.prog 15 #[.string SB] W fun e w' => e = .returned (.tuple #[.string BB, .int .i64 0, .int .i64 0]) ∧ Fr [] W w') := by rw [hBB]; exact HB
          have sA : AA.size = 4 * K + 4 := by rw [hAA]; show (encL ⟨24, 0, 0, K⟩ ++ bytesW ws).length = _; rw [List.length_append, encL_len, hbw]; omega
          have sB : BB.size = 4 * K + 4 := by rw [hBB]; show (bytesW ws ++ encL ⟨26, 3, 0, -(K : Int) - 1⟩).length = _; rw [List.length_append, encL_len, hbw]
          have xA1 : AA.extract 0 4 = ⟨(encL ⟨24, 0, 0, K⟩).toArray⟩ := bext (by rw [Lib.extract_from_zero, hAA]; exact List.take_left' (encL_len _))
          have xA2 : AA.extract 4 AA.size = ⟨(bytesW ws).toArray⟩ := bext (by rw [Lib.extract_to_end, hAA]; exact List.drop_left' (encL_len _))
          have xB1 : BB.extract (4 * K) BB.size = ⟨(encL ⟨26, 3, 0, -(K : Int) - 1⟩).toArray⟩ := bext (by rw [Lib.extract_to_end, hBB]; exact List.drop_left' hbw)
          have xB2 : BB.extract 0 (4 * K) = ⟨(bytesW ws).toArray⟩ := bext (by rw [Lib.extract_from_zero, hBB]; exact List.take_left' hbw)
          have sAi : (AA.size : Int) = 4 * (K : Int) + 4 := by omega
          have sBi : (BB.size : Int) = 4 * (K : Int) + 4 := by omega
          have v4 : (4 : Int) ≤ (AA.size : Int) := by omega
          have v5 : 4 ≤ AA.size := by omega
          have v6 : 4 * (K : Int) ≤ (BB.size : Int) := by omega
          have v7 : (0 : Int) ≤ 4 * (K : Int) := by omega
          have v8 : (4 * (K : Int)).toNat = 4 * K := by omega
          have m1 : IntKind.i64.wrap (4 * (K : Int)) = 4 * (K : Int) := IntWalk.i64_in _ (by omega)
          have m2 : IntKind.i64.wrap (4 * (K : Int) + 4) = 4 * (K : Int) + 4 := IntWalk.i64_in _ (by omega)
          have m3 : IntKind.i64.wrap (-(K : Int)) = -(K : Int) := IntWalk.i64_in _ (by omega)
          have m4 : IntKind.i64.wrap (-(K : Int) - 1) = -(K : Int) - 1 := IntWalk.i64_in _ (by omega)
          have hq1 : ((AA.size : Int) != 4 * (K : Int) + 4) = false := by rw [bne_eq_false_iff_eq]; omega
          have hq2 : ((BB.size : Int) != 4 * (K : Int) + 4) = false := by rw [bne_eq_false_iff_eq]; omega
          rw [← hK]
          generalize (⟨(encL ⟨24, 0, 0, K⟩).toArray⟩ : ByteArray) = EA at *
          generalize (⟨(encL ⟨26, 3, 0, -(K : Int) - 1⟩).toArray⟩ : ByteArray) = EB at *
          generalize (⟨(bytesW ws).toArray⟩ : ByteArray) = BW at *
          generalize (⟨(rowsB ws).toArray⟩ : ByteArray) = RB at *
          have hse : (BW.toList == BW.toList) = true := by simp
          clear hi hown hne hf hwl hrl hc hlm ll hov hbe hK hrl2 hbw hl hs1 hjl hs1s hAA hBB sA sB sAi sBi hlt h1
          have HF := Lib.hid hse
          go_upto_region 20 with (first
            | (go_at_call 15; with_reducible refine (HA.out _ (HS.out.fr HFw.out)).mono ?_; rintro e w5 ⟨rfl, hf⟩; have G5 := Lib.hid (HFw.out.trans hf); have hR5 := HRc.out w5 hf; clear hf)
            | (go_at_call 15; with_reducible refine (HB.out _ (HS.out.fr G5.out)).mono ?_; rintro e w6 ⟨rfl, hf⟩; have G6 := Lib.hid (G5.out.trans hf); clear hf)
            | (go_at_call 12; with_reducible refine (HD1.out _).mono ?_; rintro e w7 ⟨rfl, hf⟩; have hf' := hf.alloc (.cells #[.int .i64 24, .int .i64 0, .int .i64 0, .int .i64 (K : Int)] 23); have G7 := Lib.hid (G6.out.trans hf'); have B7 := Lib.hid (Blk.new w7 23 #[.int .i64 24, .int .i64 0, .int .i64 0, .int .i64 (K : Int)]); clear hf hf')
            | (go_at_call 12; with_reducible refine (HD2.out _).mono ?_; rintro e w8 ⟨rfl, hf8⟩)
            | fail)
          have hf' := hf8.alloc (.cells #[.int .i64 26, .int .i64 3, .int .i64 0, .int .i64 (-(K : Int) - 1)] 23)
          have G8 := Lib.hid (G7.out.trans hf')
          have B8 := B7.out.fr hf' (by simp)
          have C8 := Blk.new w8 23 #[.int .i64 26, .int .i64 3, .int .i64 0, .int .i64 (-(K : Int) - 1)]
          have x0 : (w8.alloc (.cells #[.int .i64 26, .int .i64 3, .int .i64 0, .int .i64 (-(K : Int) - 1)] 23)).cell? ⟨w7.heap.size, 0, none⟩ = some (.int .i64 24) := B8.cell 0
          have x1 : (w8.alloc (.cells #[.int .i64 26, .int .i64 3, .int .i64 0, .int .i64 (-(K : Int) - 1)] 23)).cell? ⟨w7.heap.size, 1, none⟩ = some (.int .i64 0) := B8.cell 1
          have x2 : (w8.alloc (.cells #[.int .i64 26, .int .i64 3, .int .i64 0, .int .i64 (-(K : Int) - 1)] 23)).cell? ⟨w7.heap.size, 2, none⟩ = some (.int .i64 0) := B8.cell 2
          have x3 : (w8.alloc (.cells #[.int .i64 26, .int .i64 3, .int .i64 0, .int .i64 (-(K : Int) - 1)] 23)).cell? ⟨w7.heap.size, 3, none⟩ = some (.int .i64 (K : Int)) := B8.cell 3
          have y0 : (w8.alloc (.cells #[.int .i64 26, .int .i64 3, .int .i64 0, .int .i64 (-(K : Int) - 1)] 23)).cell? ⟨w8.heap.size, 0, none⟩ = some (.int .i64 26) := C8.cell 0
          have y1 : (w8.alloc (.cells #[.int .i64 26, .int .i64 3, .int .i64 0, .int .i64 (-(K : Int) - 1)] 23)).cell? ⟨w8.heap.size, 1, none⟩ = some (.int .i64 3) := C8.cell 1
          have y2 : (w8.alloc (.cells #[.int .i64 26, .int .i64 3, .int .i64 0, .int .i64 (-(K : Int) - 1)] 23)).cell? ⟨w8.heap.size, 2, none⟩ = some (.int .i64 0) := C8.cell 2
          have y3 : (w8.alloc (.cells #[.int .i64 26, .int .i64 3, .int .i64 0, .int .i64 (-(K : Int) - 1)] 23)).cell? ⟨w8.heap.size, 3, none⟩ = some (.int .i64 (-(K : Int) - 1)) := C8.cell 3
          clear hf8 hf' B8 C8
          go_quiet (fail)
          go_wp2_with fail
          go_ret
          exact ⟨rfl, by first | exact G8.out | exact G8.out.drewN _⟩
    · have hni : (1000 : Int) < (n : Int) := by omega
      rw [hlab] at HLb
      clear hn
      go_enter Tryd.func4, Tryd.ntmps4
      go_wp2_with (first
        | (go_at_call 8; refine (HFx.out _ HS.out).mono ?_; rintro e w1 ⟨rfl, hf⟩; have G1 := Lib.hid hf; clear hf)
        | (go_at_call 16; refine (HLb.out _).mono ?_; rintro e w2 ⟨rfl, rfl⟩)
        | fail)
      go_ret
      exact ⟨rfl, G1.out⟩
  · have hlab2 : isLab s1.data.toList = false := by simpa using hlab
    rw [hlab2] at HLb
    clear hlab hlab2
    go_enter Tryd.func4, Tryd.ntmps4
    go_wp2_with (first
      | (go_at_call 8; refine (HFx.out _ HS.out).mono ?_; rintro e w1 ⟨rfl, hf⟩; have G1 := Lib.hid hf; clear hf)
      | (go_at_call 16; refine (HLb.out _).mono ?_; rintro e w2 ⟨rfl, rfl⟩)
      | fail)
    go_ret
    exact ⟨rfl, G1.out⟩
end Go.Proofs.YtjijhjdemkgpgaaDoor
