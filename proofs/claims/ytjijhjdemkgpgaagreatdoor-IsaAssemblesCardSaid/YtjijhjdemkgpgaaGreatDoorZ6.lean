/- The document's List. -/
import Derived.Test.YtjijhjdemkgpgaaGreatDoorZ5
import Derived.Test.YtjijhjdemkgpgaaGreatDoorI24
namespace Go.Proofs.YtjijhjdemkgpgaaGreatDoor
open Go.RowKit
set_option linter.unusedVariables false
set_option linter.unusedSimpArgs false
set_option maxRecDepth 100000
theorem rowsB_snoc (ws : List W4) (x : W4) : rowsB (ws ++ [x]) = rowsB ws ++ (lineOf x ++ [10]) := by
  unfold rowsB
  rw [List.flatMap_append]
  simp
theorem rows_take {ws : List W4} {k : Nat} {x : W4} (h : ws[k]? = some x) : rowsB (ws.take (k + 1)) = rowsB (ws.take k) ++ (lineOf x ++ [10]) := by
  rw [List.take_add_one, h]
  exact rowsB_snoc _ _
theorem bytes_at {ws : List W4} {k : Nat} {x : W4} (h : ws[k]? = some x) : bytesW ws = bytesW (ws.take k) ++ (x.l ++ bytesW (ws.drop (k + 1))) := by
  obtain ⟨hl, rfl⟩ := List.getElem?_eq_some_iff.1 h
  have e : ws = ws.take k ++ (ws[k] :: ws.drop (k + 1)) := by rw [← List.drop_eq_getElem_cons hl, List.take_append_drop]
  conv => lhs; rw [e]
  unfold bytesW
  rw [List.flatMap_append, List.flatMap_cons]
theorem ext_b {ws : List W4} {k : Nat} {x : W4} (h : ws[k]? = some x) : ((bytesW ws).drop (4 * k)).take 4 = x.l := by
  obtain ⟨hl, -⟩ := List.getElem?_eq_some_iff.1 h
  have e : (bytesW (ws.take k)).length = 4 * k := by rw [bytesW_len, List.length_take]; omega
  rw [bytes_at h, List.drop_left' e]
  exact List.take_left' rfl
theorem byte_b {ws : List W4} {k : Nat} {x : W4} (h : ws[k]? = some x) {j : Nat} (hj : j < 4) : (bytesW ws)[4 * k + j]? = x.l[j]? := by
  obtain ⟨hl, -⟩ := List.getElem?_eq_some_iff.1 h
  have e : (bytesW (ws.take k)).length = 4 * k := by rw [bytesW_len, List.length_take]; omega
  have hl4 : x.l.length = 4 := rfl
  rw [bytes_at h, List.getElem?_append_right (by omega), e, Nat.add_sub_cancel_left, List.getElem?_append_left (by omega)]
/-- A number's bytes, read so far. -/
def nvL (l : List UInt8) : Nat := l.foldl (fun n b => 256 * n + b.toNat) 0
theorem nvL_snoc (l : List UInt8) (b : UInt8) : nvL (l ++ [b]) = 256 * nvL l + b.toNat := by
  unfold nvL
  rw [List.foldl_append]
  rfl
theorem nvL_lt (x : W4) (j : Nat) (hj : j ≤ 4) : nvL (x.l.take j) < 4294967296 := by
  obtain ⟨a, b, c, d⟩ := x
  have ha := a.toNat_lt
  have hb := b.toNat_lt
  have hc := c.toNat_lt
  have hd := d.toNat_lt
  match j, hj with
  | 0, _ => simp [nvL, W4.l]
  | 1, _ => simp [nvL, W4.l]; omega
  | 2, _ => simp [nvL, W4.l]; omega
  | 3, _ => simp [nvL, W4.l]; omega
  | 4, _ => simp [nvL, W4.l]; omega
  | n + 5, h => omega
theorem nvL_all (x : W4) : nvL (x.l.take 4) = x.n := by
  obtain ⟨a, b, c, d⟩ := x
  simp [nvL, W4.l, W4.n]
  omega
set_option maxHeartbeats 8000000 in
theorem rList_any (s : ByteArray) (w : World) : Calls Tryz.prog 20 #[.string s] w fun e w' => e = .returned (.tuple #[.string ⟨(listP s.data.toList).1.toArray⟩, .int .i64 (listP s.data.toList).2]) ∧ Fr [] w w' := by
  have hsz : s.data.toList.length = s.size := rfl
  by_cases hbig : 4096 < s.size
  · have hR : listP s.data.toList = ([], 94) := by unfold listP; rw [if_pos (by omega)]
    rw [hR]
    have hb2 : (4096 : Int) < (s.size : Int) := by omega
    clear hR hbig
    go_enter Tryz.func20, Tryz.ntmps20
    go_wp2
    go_ret2
    exact ⟨rfl, Fr.refl _ _⟩
  · have hb2 : ¬ (4096 : Int) < (s.size : Int) := by omega
    have hmod : Int.tmod (s.size : Int) 4 = ((s.size % 4 : Nat) : Int) := by
      rw [Int.tmod_eq_emod_of_nonneg (by omega)]
      omega
    by_cases hm : s.size % 4 ≠ 0
    · have hR : listP s.data.toList = ([], 91) := by unfold listP; rw [if_neg (by omega), if_pos (by omega)]
      rw [hR]
      have hq : (((s.size % 4 : Nat) : Int) != 0) = true := by rw [bne_iff_ne]; omega
      generalize ((s.size % 4 : Nat) : Int) = M at *
      clear hR hbig hm
      go_enter Tryz.func20, Tryz.ntmps20
      go_wp2
      go_ret2
      exact ⟨rfl, Fr.refl _ _⟩
    · have hR : listP s.data.toList = (rowsB (chunks s.data.toList), 0) := by unfold listP; rw [if_neg (by omega), if_neg (by omega)]
      have hq : (((s.size % 4 : Nat) : Int) != 0) = false := by rw [bne_eq_false_iff_eq]; omega
      generalize ((s.size % 4 : Nat) : Int) = M at *
      obtain ⟨N, hN⟩ : ∃ N, s.size = 4 * N := ⟨s.size / 4, by omega⟩
      rw [hR]
      have HN1 : Hid (N ≤ 1024) := Lib.hid (by omega)
      obtain ⟨e1, e2⟩ := chunks_bytes N s.data.toList (by omega)
      generalize hws : chunks s.data.toList = ws at *
      have HB := Lib.hid e1
      have HL := Lib.hid e2
      have HN := Lib.hid hN
      have HSz := Lib.hid hsz
      clear hR hm hN e1 e2 hsz hws
      go_enter Tryz.func20, Tryz.ntmps20
      go_wp2_with fail
      go_loopg [4, 5, 6, 7, 8, 9] N (fun gg v4 v5 v6 v7 v8 v9 wr => ∃ k : Nat, k + gg = N ∧ v5 = .int .i64 (4 * (k : Int)) ∧ v4 = .string ⟨(rowsB (ws.take k)).toArray⟩ ∧ Fr [] w wr)
      case atStart => exact ⟨0, by omega, rfl, rfl, Fr.refl _ _⟩
      case round =>
        obtain ⟨k, hk, rfl, rfl, hf⟩ := hrel
        have Hk := Lib.hid hk
        have Hf := Lib.hid hf
        by_cases hlt : k < N
        · obtain ⟨x, hx⟩ : ∃ x, ws[k]? = some x := ⟨_, List.getElem?_eq_getElem (by have := HL.out; omega)⟩
          have hN4 := HN.out
          have hN1 := HN1.out
          have hlt1 : 4 * (k : Int) < (s.size : Int) := by omega
          have hsb : s.extract (4 * k) (4 * k + 4) = ⟨x.l.toArray⟩ := bext (by
            rw [Lib.extract_data, ← HB.out, show 4 * k + 4 - 4 * k = 4 by omega]
            exact ext_b hx)
          have b1 : (0 : Int) ≤ 4 * (k : Int) := by omega
          have b2 : 4 * (k : Int) ≤ 4 * (k : Int) + 4 := by omega
          have b3 : 4 * (k : Int) + 4 ≤ (s.size : Int) := by omega
          have b4 : (4 * (k : Int)).toNat = 4 * k := by omega
          have b5 : (4 * (k : Int) + 4).toNat = 4 * k + 4 := by omega
          have m2 : IntKind.i64.wrap (4 * (k : Int) + 4) = 4 * (k : Int) + 4 := IntWalk.i64_in _ (by omega)
          have hcl : ∀ i, (⟨x.l.toArray⟩ : ByteArray) = i → True := fun _ _ => trivial
          have HD : Hid (∀ W, Calls Tryz.prog 11 #[.string ⟨x.l.toArray⟩] W fun e w' => e = .returned (.tuple #[(decI ⟨x.l.toArray⟩).1.v, .int .i64 (decI ⟨x.l.toArray⟩).2]) ∧ Fr [] W w') := Lib.hid (fun W => rDecode_any ⟨x.l.toArray⟩ W)
          rw [dec_tie] at HD
          have Hx := Lib.hid hx
          have HRow := Lib.hid (rows_take hx)
          have hol : (rowsB (ws.take k)).length ≤ 30 * k := by
            have h := rows_len (ws.take k)
            rw [List.length_take] at h
            omega
          have hll := line_len x
          have HOl := Lib.hid hol
          have HLl := Lib.hid hll
          obtain ⟨XL, hXL⟩ : ∃ XL : ByteArray, XL = ⟨x.l.toArray⟩ := ⟨_, rfl⟩
          rw [← hXL] at hsb HD
          obtain ⟨O, hO⟩ : ∃ O : ByteArray, O = ⟨(rowsB (ws.take k)).toArray⟩ := ⟨_, rfl⟩
          have hOs : O.size = (rowsB (ws.take k)).length := by rw [hO]; rfl
          rw [← hO]
          have HO := Lib.hid hO
          have HOs : Hid (O.size ≤ 30 * k) := Lib.hid (by omega)
          clear hk hf hx hcl hXL hO hOs hol hll hN4
          cases hd : decL x with
          | some i =>
            obtain ⟨k2, hk2, hop2, hok2, henc⟩ := decL_some hd
            rw [hd] at HD
            have HT := Lib.hid (fun W => rText_any i k2 hk2 hop2 hok2 W)
            have hln : lineOf x = textL i [] k2 := by
              have e : lineOf x = textL i [] i.op.toNat := by
                unfold lineOf
                rw [hd]
              rw [e, hop2, Int.toNat_natCast]
            have HLn := Lib.hid hln
            have hl9 := HLl.out
            rw [hln] at hl9
            generalize hTL : textL i [] k2 = TL at *
            have l1 : ¬ 9223372036854775807 < TL.length + 1 := by omega
            have l2 : ¬ 9223372036854775807 < O.size + (TL.length + 1) := by have := HOs.out; omega
            have HCat : Hid (O ++ ((⟨TL.toArray⟩ : ByteArray) ++ ⟨#[10]⟩) = ⟨(rowsB (ws.take (k + 1))).toArray⟩) := Lib.hid (by
              rw [HRow.out, HO.out, HLn.out]
              have e1 : (⟨TL.toArray⟩ : ByteArray) ++ ⟨#[10]⟩ = ⟨(TL ++ [10]).toArray⟩ := bcat TL [10]
              rw [e1]
              exact bcat _ _)
            obtain ⟨io, ia, ib, im⟩ := i
            simp only at HD
            clear hd hop2 hok2 henc hln hTL hl9
            go_wp2_with (first
              | (go_at_call 11; refine (HD.out _).mono ?_; rintro e w4 ⟨rfl, hf4⟩; have hf' := hf4.alloc (.cells #[.int .i64 io, .int .i64 ia, .int .i64 ib, .int .i64 im] 23); have G4 := Lib.hid (Hf.out.trans hf'); have D4 := Blk.new w4 23 #[.int .i64 io, .int .i64 ia, .int .i64 ib, .int .i64 im]; have y0 : (w4.alloc (.cells #[.int .i64 io, .int .i64 ia, .int .i64 ib, .int .i64 im] 23)).cell? ⟨w4.heap.size, 0, none⟩ = some (.int .i64 io) := D4.cell 0; have y1 : (w4.alloc (.cells #[.int .i64 io, .int .i64 ia, .int .i64 ib, .int .i64 im] 23)).cell? ⟨w4.heap.size, 1, none⟩ = some (.int .i64 ia) := D4.cell 1; have y2 : (w4.alloc (.cells #[.int .i64 io, .int .i64 ia, .int .i64 ib, .int .i64 im] 23)).cell? ⟨w4.heap.size, 2, none⟩ = some (.int .i64 ib) := D4.cell 2; have y3 : (w4.alloc (.cells #[.int .i64 io, .int .i64 ia, .int .i64 ib, .int .i64 im] 23)).cell? ⟨w4.heap.size, 3, none⟩ = some (.int .i64 im) := D4.cell 3; clear hf4 hf' D4)
              | (go_at_call 23; refine (HT.out _).mono ?_; rintro e w5 ⟨rfl, hf5⟩; have G5 := Lib.hid (G4.out.trans hf5); clear hf5)
              | fail)
            go_roundg (N - (k + 1))
            case measure => have := Hk.out; omega
            case rel => exact ⟨k + 1, by have := Hk.out; omega, by go_num, by rw [HCat.out], G5.out⟩
          | none =>
            rw [hd] at HD
            have HD : Hid (∀ W, Calls Tryz.prog 11 #[.string XL] W fun e w' => e = .returned (.tuple #[.agg #[.int .i64 0, .int .i64 0, .int .i64 0, .int .i64 0], .int .i64 91]) ∧ Fr [] W w') := HD
            have hln := lineOf_none hd
            have hn := x.n_lt
            have HLn := Lib.hid hln
            have hl9 := HLl.out
            rw [hln, List.length_append] at hl9
            simp only [List.length_cons, List.length_nil] at hl9
            have HDg : Hid (∀ W, Calls Tryz.prog 45 #[.int .i64 (x.n : Int)] W fun e w' => e = .returned (.string ⟨(Lib.decDigits x.n).toArray⟩) ∧ Fr [] W w') := Lib.hid (fun W => by
              have h := rDigits_any (x.n : Int) (by omega) (by omega) W
              rw [itoa_nat] at h
              exact h)
            have HNv := Lib.hid (fun j hj => nvL_lt x j hj)
            have HNa := Lib.hid (nvL_all x)
            have HBy : Hid (∀ j b, j < 4 → x.l[j]? = some b → ∀ h, (s[4 * k + j]'h).toNat = b.toNat) := Lib.hid (fun j b hj hb => bget (S := s) (i := 4 * k + j) HB.out.symm (by rw [byte_b Hx.out hj]; exact hb))
            generalize hDL : Lib.decDigits x.n = DL at *
            have l1 : ¬ 9223372036854775807 < 5 + DL.length := by omega
            have l2 : ¬ 9223372036854775807 < 5 + DL.length + 1 := by omega
            have l3 : ¬ 9223372036854775807 < O.size + (5 + DL.length + 1) := by have := HOs.out; omega
            have HCat : Hid (O ++ (((⟨#[119, 111, 114, 100, 32]⟩ : ByteArray) ++ ⟨DL.toArray⟩) ++ ⟨#[10]⟩) = ⟨(rowsB (ws.take (k + 1))).toArray⟩) := Lib.hid (by
              rw [HRow.out, HO.out, HLn.out]
              have e0 : (⟨#[119, 111, 114, 100, 32]⟩ : ByteArray) ++ ⟨DL.toArray⟩ = ⟨([119, 111, 114, 100, 32] ++ DL).toArray⟩ := bcat [119, 111, 114, 100, 32] DL
              have e1 : (⟨([119, 111, 114, 100, 32] ++ DL).toArray⟩ : ByteArray) ++ ⟨#[10]⟩ = ⟨([119, 111, 114, 100, 32] ++ DL ++ [10]).toArray⟩ := bcat _ [10]
              rw [e0, e1]
              exact bcat _ _)
            clear hd hln hn hDL hl9
            go_wp2_with (first
              | (go_at_call 11; refine (HD.out _).mono ?_; rintro e w4 ⟨rfl, hf4⟩; have G4 := Lib.hid ((Hf.out.trans hf4).alloc (.cells #[.int .i64 0, .int .i64 0, .int .i64 0, .int .i64 0] 23)); clear hf4)
              | fail)
            go_loopg [8, 9] 4 (fun gg v8 v9 wx => ∃ j : Nat, j + gg = 4 ∧ v9 = .int .i64 (j : Int) ∧ v8 = .int .i64 ((nvL (x.l.take j) : Nat) : Int) ∧ Fr [] w wx)
            case atStart => exact ⟨0, by omega, rfl, rfl, G4.out⟩
            case round =>
              obtain ⟨j, hj, rfl, rfl, hf⟩ := hrel
              have Hj := Lib.hid hj
              have Hf5 := Lib.hid hf
              by_cases hjl : j < 4
              · obtain ⟨b, hb⟩ : ∃ b, x.l[j]? = some b := ⟨_, List.getElem?_eq_getElem (by show j < 4; exact hjl)⟩
                have hby := HBy.out j b hjl hb
                have hnv := HNv.out j (by omega)
                have hsn : nvL (x.l.take (j + 1)) = 256 * nvL (x.l.take j) + b.toNat := by
                  rw [List.take_add_one, hb]
                  exact nvL_snoc _ _
                have HSn := Lib.hid hsn
                have HNw := Lib.hid (HNv.out (j + 1) (by omega))
                obtain ⟨I, hI⟩ : ∃ I, 4 * k + j = I := ⟨_, rfl⟩
                have hI1 : 4 * (k : Int) + (j : Int) = (I : Int) := by omega
                have hI2 : I < s.size := by have := HN.out; omega
                have hI3 : (I : Int) < (s.size : Int) := by omega
                have hI4 : (0 : Int) ≤ (I : Int) := by omega
                rw [hI] at hby
                have hjl1 : (j : Int) < 4 := by omega
                generalize nvL (x.l.take j) = V at *
                have hbb := b.toNat_lt
                have q1 : IntKind.i64.wrap (I : Int) = (I : Int) := IntWalk.i64_in _ (by have := HN.out; omega)
                have q2 : IntKind.i64.wrap (256 * (V : Int)) = 256 * (V : Int) := IntWalk.i64_in _ (by omega)
                have q3 : IntKind.i64.wrap (256 * (V : Int) + (b.toNat : Int)) = 256 * (V : Int) + (b.toNat : Int) := IntWalk.i64_in _ (by omega)
                have q4 : IntKind.i64.wrap ((j : Int) + 1) = (j : Int) + 1 := IntWalk.i64_in _ (by omega)
                clear hj hf hb hsn hI hjl
                go_wp2_with fail
                go_roundg (4 - (j + 1))
                case measure => have := Hj.out; omega
                case rel => exact ⟨j + 1, by have := Hj.out; omega, by go_num, by rw [HSn.out]; go_num, Hf5.out⟩
              · obtain rfl : j = 4 := by omega
                rw [HNa.out]
                clear hj hf hjl
                go_wp2_with (first
                  | (go_at_call 45; refine (HDg.out _).mono ?_; rintro e w5 ⟨rfl, hf5⟩; have G5 := Lib.hid (Hf5.out.trans hf5); clear hf5)
                  | fail)
                go_roundg (N - (k + 1))
                case measure => have := Hk.out; omega
                case rel => exact ⟨k + 1, by have := Hk.out; omega, by go_num, by rw [HCat.out], G5.out⟩
        · obtain rfl : k = N := by omega
          have hlt1 : ¬ 4 * (k : Int) < (s.size : Int) := by have := HN.out; omega
          have hall : ws.take k = ws := List.take_of_length_le (by have := HL.out; omega)
          rw [hall]
          clear hk hf
          go_wp2_with fail
          go_ret2
          exact ⟨rfl, Hf.out⟩
end Go.Proofs.YtjijhjdemkgpgaaGreatDoor
