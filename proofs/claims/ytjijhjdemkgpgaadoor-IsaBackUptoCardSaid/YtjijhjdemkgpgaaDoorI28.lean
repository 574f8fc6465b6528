/- IsaBack, walked. -/
import Derived.Test.YtjijhjdemkgpgaaDoorI25
import Derived.Deep.DeepCutAuto
namespace Go.Proofs.YtjijhjdemkgpgaaDoor
open Go.RowKit Go.Maps
set_option linter.unusedVariables false
set_option linter.unusedSimpArgs false
set_option maxRecDepth 100000
theorem readG_false {s : List UInt8} {i : In} {lb : List UInt8} (h : readG numP (fun _ => numP) false s = some (i, lb)) : lb = [] ∧ ∃ k : Nat, k < 30 ∧ i.op = (k : Int) ∧ okL i k = true ∧ s = textL i [] k := by
  obtain ⟨k, h1, h2, h3, h4, h5⟩ := (readG_iff numP_ok).1 h
  rcases h5 with h5 | ⟨h5, -⟩
  · subst h5
    exact ⟨rfl, k, h1, h2, h3, h4⟩
  · cases h5
set_option maxHeartbeats 16000000 in
theorem back_walk (i : In) (s1 s2 : ByteArray) (h1 : s1.size ≤ 140737488351232) (h2 : s2.size ≤ 1048576) (w : World) (hw : Std w) : Calls Tryd.prog 3 #[i.v, .string s1, .string s2] w fun e w' => e = .returned (.bool true) ∧ Fr [] w w' := by
  have HS := Lib.hid hw
  have HFx := Lib.hid (fun W hW => fixed_any W hW)
  clear hw
  have HE := Lib.hid (fun W => Encode_any i W)
  have HP := Lib.hid (fun W hW => Print_any i W hW)
  have HC := Lib.hid (fun W => Check_any i W)
  have HM : Hid (((if mayB i = true then (0 : Int) else 90) = 0 ∧ mayB i = true ∧ (if mayB i = true then encL i else []) = encL i ∧ (if mayB i = true then textL i [] i.op.toNat else []) = textL i [] i.op.toNat) ∨ (if mayB i = true then (0 : Int) else 90) = 90) := Lib.hid (by
    cases h : mayB i with
    | true => exact .inl ⟨rfl, rfl, rfl, rfl⟩
    | false => exact .inr rfl)
  generalize (if mayB i = true then encL i else []) = EL at *
  generalize (if mayB i = true then textL i [] i.op.toNat else []) = TX at *
  generalize (if mayB i = true then (0 : Int) else 90) = E at *
  have q1 : (E != E) = false := by simp
  have q2 : ((E == 0) != (E == 0)) = false := by simp
  obtain ⟨op, a, b, m⟩ := i
  have B0 := Lib.hid (Blk.new w 23 #[.int .i64 op, .int .i64 a, .int .i64 b, .int .i64 m])
  have F0 : Hid (Fr [] w (w.alloc (.cells #[.int .i64 op, .int .i64 a, .int .i64 b, .int .i64 m] 23))) := Lib.hid ((Fr.refl [] w).alloc _)
  go_enter Tryd.func3, Tryd.ntmps3
  go_upto_if 52 with (first
    | (go_at_call 8; refine (HFx.out _ (HS.out.fr F0.out)).mono ?_; rintro e w1 ⟨rfl, hf⟩; have G1 := Lib.hid (F0.out.trans hf); have B1 := Lib.hid (B0.out.fr hf (by simp)); have c0 : w1.cell? ⟨w.heap.size, 0, none⟩ = some (.int .i64 op) := B1.out.cell 0; have c1 : w1.cell? ⟨w.heap.size, 1, none⟩ = some (.int .i64 a) := B1.out.cell 1; have c2 : w1.cell? ⟨w.heap.size, 2, none⟩ = some (.int .i64 b) := B1.out.cell 2; have c3 : w1.cell? ⟨w.heap.size, 3, none⟩ = some (.int .i64 m) := B1.out.cell 3; clear hf)
    | (go_at_call 9; refine (HE.out _).mono ?_; rintro e w2 ⟨rfl, hf⟩; have G2 := Lib.hid (G1.out.trans hf); have B2 := Lib.hid (B1.out.fr hf (by simp)); have d0 : w2.cell? ⟨w.heap.size, 0, none⟩ = some (.int .i64 op) := B2.out.cell 0; have d1 : w2.cell? ⟨w.heap.size, 1, none⟩ = some (.int .i64 a) := B2.out.cell 1; have d2 : w2.cell? ⟨w.heap.size, 2, none⟩ = some (.int .i64 b) := B2.out.cell 2; have d3 : w2.cell? ⟨w.heap.size, 3, none⟩ = some (.int .i64 m) := B2.out.cell 3; clear hf)
    | (go_at_call 10; refine (HP.out _ (HS.out.fr G2.out)).mono ?_; rintro e w3 ⟨rfl, hf⟩; have G3 := Lib.hid (G2.out.trans hf); have B3 := Lib.hid (B2.out.fr hf (by simp)); have e0 : w3.cell? ⟨w.heap.size, 0, none⟩ = some (.int .i64 op) := B3.out.cell 0; have e1 : w3.cell? ⟨w.heap.size, 1, none⟩ = some (.int .i64 a) := B3.out.cell 1; have e2 : w3.cell? ⟨w.heap.size, 2, none⟩ = some (.int .i64 b) := B3.out.cell 2; have e3 : w3.cell? ⟨w.heap.size, 3, none⟩ = some (.int .i64 m) := B3.out.cell 3; clear hf)
    | (go_at_call 11; refine (HC.out _).mono ?_; rintro e w4 ⟨rfl, hf⟩; have G4 := Lib.hid (G3.out.trans hf); have B4 := Lib.hid (B3.out.fr hf (by simp)); have f0 : w4.cell? ⟨w.heap.size, 0, none⟩ = some (.int .i64 op) := B4.out.cell 0; have f1 : w4.cell? ⟨w.heap.size, 1, none⟩ = some (.int .i64 a) := B4.out.cell 1; have f2 : w4.cell? ⟨w.heap.size, 2, none⟩ = some (.int .i64 b) := B4.out.cell 2; have f3 : w4.cell? ⟨w.heap.size, 3, none⟩ = some (.int .i64 m) := B4.out.cell 3; clear hf)
    | fail)
  go_cut [] (fun wx => Fr [] w wx)
  case first =>
    rcases HM.out with ⟨hE, hm, hEL, hTX⟩ | hE
    · obtain ⟨k, hk, hop, hok⟩ := (mayB_iff _).1 hm
      simp only at hop
      subst hop
      subst hE
      rw [Int.toNat_natCast] at hTX
      have hl4 : EL.length = 4 := by rw [hEL]; rfl
      have htl := text_len hk hok
      rw [← hTX] at htl
      have HD : Hid (∀ W, Calls Tryd.prog 12 #[.string ⟨EL.toArray⟩] W fun e w' => e = .returned (.tuple #[.agg #[.int .i64 (k : Int), .int .i64 a, .int .i64 b, .int .i64 m], .int .i64 0]) ∧ Fr [] W w') := Lib.hid (fun W => by
        have h := Decode_any ⟨EL.toArray⟩ W
        rw [hEL, ← encW_l ⟨(k : Int), a, b, m⟩, dec_tie, dec_enc hk rfl hok] at h
        rw [hEL, ← encW_l ⟨(k : Int), a, b, m⟩]
        exact h)
      have HPs : Hid (∀ W, Std W → Calls Tryd.prog 13 #[.string ⟨TX.toArray⟩] W fun e w' => e = .returned (.tuple #[.agg #[.int .i64 (k : Int), .int .i64 a, .int .i64 b, .int .i64 m], .int .i64 0]) ∧ Fr [] W w') := Lib.hid (fun W hW => by
        have h := Parse_any ⟨TX.toArray⟩ (by show TX.length ≤ _; omega) W hW
        rw [show (⟨TX.toArray⟩ : ByteArray).data.toList = TX from rfl, parseV_some (i := ⟨(k : Int), a, b, m⟩) (lb := []) ((readG_iff numP_ok).2 ⟨k, hk, rfl, hok, hTX, .inl rfl⟩)] at h
        exact h)
      clear hm hEL hTX hok htl
      go_wp2_with (first
        | (go_at_call 12; refine (HD.out _).mono ?_; rintro e w5 ⟨rfl, hf⟩; have hf' := hf.alloc (.cells #[.int .i64 (k : Int), .int .i64 a, .int .i64 b, .int .i64 m] 23); have G5 := Lib.hid (G4.out.trans hf'); have B5 := Lib.hid (B4.out.fr hf' (by simp)); have D5 := Lib.hid (Blk.new w5 23 #[.int .i64 (k : Int), .int .i64 a, .int .i64 b, .int .i64 m]); clear hf hf')
        | (go_at_call 13; refine (HPs.out _ (HS.out.fr G5.out)).mono ?_; rintro e w6 ⟨rfl, hf⟩; have hf' := hf.alloc (.cells #[.int .i64 (k : Int), .int .i64 a, .int .i64 b, .int .i64 m] 23); have G6 := Lib.hid (G5.out.trans hf'); have B6 := B5.out.fr hf' (by simp); have D6 := D5.out.fr hf' (by simp); have E6 := Blk.new w6 23 #[.int .i64 (k : Int), .int .i64 a, .int .i64 b, .int .i64 m]; have x0 : (w6.alloc (.cells #[.int .i64 (k : Int), .int .i64 a, .int .i64 b, .int .i64 m] 23)).cell? ⟨w.heap.size, 0, none⟩ = some (.int .i64 (k : Int)) := B6.cell 0; have x1 : (w6.alloc (.cells #[.int .i64 (k : Int), .int .i64 a, .int .i64 b, .int .i64 m] 23)).cell? ⟨w.heap.size, 1, none⟩ = some (.int .i64 a) := B6.cell 1; have x2 : (w6.alloc (.cells #[.int .i64 (k : Int), .int .i64 a, .int .i64 b, .int .i64 m] 23)).cell? ⟨w.heap.size, 2, none⟩ = some (.int .i64 b) := B6.cell 2; have x3 : (w6.alloc (.cells #[.int .i64 (k : Int), .int .i64 a, .int .i64 b, .int .i64 m] 23)).cell? ⟨w.heap.size, 3, none⟩ = some (.int .i64 m) := B6.cell 3; have y0 : (w6.alloc (.cells #[.int .i64 (k : Int), .int .i64 a, .int .i64 b, .int .i64 m] 23)).cell? ⟨w5.heap.size, 0, none⟩ = some (.int .i64 (k : Int)) := D6.cell 0; have y1 : (w6.alloc (.cells #[.int .i64 (k : Int), .int .i64 a, .int .i64 b, .int .i64 m] 23)).cell? ⟨w5.heap.size, 1, none⟩ = some (.int .i64 a) := D6.cell 1; have y2 : (w6.alloc (.cells #[.int .i64 (k : Int), .int .i64 a, .int .i64 b, .int .i64 m] 23)).cell? ⟨w5.heap.size, 2, none⟩ = some (.int .i64 b) := D6.cell 2; have y3 : (w6.alloc (.cells #[.int .i64 (k : Int), .int .i64 a, .int .i64 b, .int .i64 m] 23)).cell? ⟨w5.heap.size, 3, none⟩ = some (.int .i64 m) := D6.cell 3; have z0 : (w6.alloc (.cells #[.int .i64 (k : Int), .int .i64 a, .int .i64 b, .int .i64 m] 23)).cell? ⟨w6.heap.size, 0, none⟩ = some (.int .i64 (k : Int)) := E6.cell 0; have z1 : (w6.alloc (.cells #[.int .i64 (k : Int), .int .i64 a, .int .i64 b, .int .i64 m] 23)).cell? ⟨w6.heap.size, 1, none⟩ = some (.int .i64 a) := E6.cell 1; have z2 : (w6.alloc (.cells #[.int .i64 (k : Int), .int .i64 a, .int .i64 b, .int .i64 m] 23)).cell? ⟨w6.heap.size, 2, none⟩ = some (.int .i64 b) := E6.cell 2; have z3 : (w6.alloc (.cells #[.int .i64 (k : Int), .int .i64 a, .int .i64 b, .int .i64 m] 23)).cell? ⟨w6.heap.size, 3, none⟩ = some (.int .i64 m) := E6.cell 3; clear hf hf' B6 D6 E6)
        | fail)
      go_meet
      exact G6.out
    · subst hE
      go_wp2_with fail
      go_meet
      exact G4.out
  case rest =>
    clear HE HP HC HM q1 q2
    have HF := Lib.hid hcut
    clear hcut
    go_upto_if 86 with (fail)
    go_cut [] (fun wx => Fr [] w wx)
    case first =>
      by_cases h4 : 4 ≤ s1.size
      · have h4i : (4 : Int) ≤ (s1.size : Int) := by omega
        obtain ⟨x, hx⟩ : ∃ x : W4, s1.extract 0 4 = ⟨x.l.toArray⟩ := by
          have hl : s1.data.toList.length = s1.size := rfl
          match hL : s1.data.toList, hl with
          | [], hl => exfalso; simp at hl; omega
          | [_], hl => exfalso; simp at hl; omega
          | [_, _], hl => exfalso; simp at hl; omega
          | [_, _, _], hl => exfalso; simp at hl; omega
          | a' :: b' :: c' :: d' :: r, hl => exact ⟨⟨a', b', c', d'⟩, bext (by rw [Lib.extract_from_zero, hL]; rfl)⟩
        have HD := Lib.hid (fun W => Decode_any ⟨x.l.toArray⟩ W)
        have hse : (x.l != x.l) = false := by simp
        cases hd : decL x with
        | some i2 =>
          obtain ⟨k2, hk2, hop2, hok2, henc⟩ := decL_some hd
          have hmy : mayB i2 = true := (mayB_iff _).2 ⟨k2, hk2, hop2, hok2⟩
          have HE : Hid (∀ W, Calls Tryd.prog 9 #[i2.v] W fun e w' => e = .returned (.tuple #[.string ⟨x.l.toArray⟩, .int .i64 0]) ∧ Fr [] W w') := Lib.hid (fun W => by
            have h := Encode_any i2 W
            rw [hmy, if_pos rfl, if_pos rfl, henc] at h
            exact h)
          have HD : Hid (∀ W, Calls Tryd.prog 12 #[.string ⟨x.l.toArray⟩] W fun e w' => e = .returned (.tuple #[i2.v, .int .i64 0]) ∧ Fr [] W w') := Lib.hid (fun W => by
            have h := HD.out W
            rw [dec_tie, hd] at h
            exact h)
          obtain ⟨io, ia, ib, im⟩ := i2
          generalize x.l = XL at *
          clear hd hop2 hok2 henc hmy h4
          go_wp2_with (first
            | (go_at_call 12; refine (HD.out _).mono ?_; rintro e w5 ⟨rfl, hf⟩; have hf' := hf.alloc (.cells #[.int .i64 io, .int .i64 ia, .int .i64 ib, .int .i64 im] 23); have G5 := Lib.hid (HF.out.trans hf'); have D5 := Blk.new w5 23 #[.int .i64 io, .int .i64 ia, .int .i64 ib, .int .i64 im]; have y0 : (w5.alloc (.cells #[.int .i64 io, .int .i64 ia, .int .i64 ib, .int .i64 im] 23)).cell? ⟨w5.heap.size, 0, none⟩ = some (.int .i64 io) := D5.cell 0; have y1 : (w5.alloc (.cells #[.int .i64 io, .int .i64 ia, .int .i64 ib, .int .i64 im] 23)).cell? ⟨w5.heap.size, 1, none⟩ = some (.int .i64 ia) := D5.cell 1; have y2 : (w5.alloc (.cells #[.int .i64 io, .int .i64 ia, .int .i64 ib, .int .i64 im] 23)).cell? ⟨w5.heap.size, 2, none⟩ = some (.int .i64 ib) := D5.cell 2; have y3 : (w5.alloc (.cells #[.int .i64 io, .int .i64 ia, .int .i64 ib, .int .i64 im] 23)).cell? ⟨w5.heap.size, 3, none⟩ = some (.int .i64 im) := D5.cell 3; clear hf hf' D5)
            | (go_at_call 9; refine (HE.out _).mono ?_; rintro e w6 ⟨rfl, hf⟩; have G6 := Lib.hid (G5.out.trans hf); clear hf)
            | fail)
          go_meet
          exact G6.out
        | none =>
          have HE : Hid (∀ W, Calls Tryd.prog 9 #[.agg #[.int .i64 0, .int .i64 0, .int .i64 0, .int .i64 0]] W fun e w' => e = .returned (.tuple #[.string ⟨#[0, 0, 0, 0]⟩, .int .i64 0]) ∧ Fr [] W w') := Lib.hid (fun W => by
            have h := Encode_any ⟨0, 0, 0, 0⟩ W
            rw [show mayB ⟨0, 0, 0, 0⟩ = true by decide, if_pos rfl, if_pos rfl, encL_nop] at h
            exact h)
          have HD : Hid (∀ W, Calls Tryd.prog 12 #[.string ⟨x.l.toArray⟩] W fun e w' => e = .returned (.tuple #[.agg #[.int .i64 0, .int .i64 0, .int .i64 0, .int .i64 0], .int .i64 91]) ∧ Fr [] W w') := Lib.hid (fun W => by
            have h := HD.out W
            rw [dec_tie, hd] at h
            exact h)
          generalize x.l = XL at *
          clear hd h4
          go_wp2_with (first
            | (go_at_call 12; refine (HD.out _).mono ?_; rintro e w5 ⟨rfl, hf⟩; have hf' := hf.alloc (.cells #[.int .i64 0, .int .i64 0, .int .i64 0, .int .i64 0] 23); have G5 := Lib.hid (HF.out.trans hf'); have D5 := Lib.hid (Blk.new w5 23 #[.int .i64 0, .int .i64 0, .int .i64 0, .int .i64 0]); have y0 : (w5.alloc (.cells #[.int .i64 0, .int .i64 0, .int .i64 0, .int .i64 0] 23)).cell? ⟨w5.heap.size, 0, none⟩ = some (.int .i64 0) := D5.out.cell 0; have y1 : (w5.alloc (.cells #[.int .i64 0, .int .i64 0, .int .i64 0, .int .i64 0] 23)).cell? ⟨w5.heap.size, 1, none⟩ = some (.int .i64 0) := D5.out.cell 1; have y2 : (w5.alloc (.cells #[.int .i64 0, .int .i64 0, .int .i64 0, .int .i64 0] 23)).cell? ⟨w5.heap.size, 2, none⟩ = some (.int .i64 0) := D5.out.cell 2; have y3 : (w5.alloc (.cells #[.int .i64 0, .int .i64 0, .int .i64 0, .int .i64 0] 23)).cell? ⟨w5.heap.size, 3, none⟩ = some (.int .i64 0) := D5.out.cell 3; clear hf hf')
            | (go_at_call 9; refine (HE.out _).mono ?_; rintro e w6 ⟨rfl, hf⟩; have G6 := Lib.hid (G5.out.trans hf); have D6 := D5.out.fr hf (by simp); have z0 : w6.cell? ⟨w5.heap.size, 0, none⟩ = some (.int .i64 0) := D6.cell 0; have z1 : w6.cell? ⟨w5.heap.size, 1, none⟩ = some (.int .i64 0) := D6.cell 1; have z2 : w6.cell? ⟨w5.heap.size, 2, none⟩ = some (.int .i64 0) := D6.cell 2; have z3 : w6.cell? ⟨w5.heap.size, 3, none⟩ = some (.int .i64 0) := D6.cell 3; clear hf D6)
            | fail)
          go_meet
          exact G6.out
      · have h4i : ¬ (4 : Int) ≤ (s1.size : Int) := by omega
        go_wp2_with fail
        go_meet
        exact HF.out
    case rest =>
    have HF2 := Lib.hid hcut
    clear hcut HF
    have hsz : s1.data.toList.length = s1.size := rfl
    have HPs := Lib.hid (fun W hW => Parse_any s2 (by omega) W hW)
    have hse : (s2.toList != s2.toList) = false := by simp
    cases hrd : readG numP (fun _ => numP) false s2.data.toList with
    | some p =>
      obtain ⟨i3, lb⟩ := p
      obtain ⟨rfl, k3, hk3, hop3, hok3, hs3⟩ := readG_false hrd
      rw [parseV_some hrd] at HPs
      have hm3 : mayB i3 = true := (mayB_iff _).2 ⟨k3, hk3, hop3, hok3⟩
      have HPr : Hid (∀ W, Std W → Calls Tryd.prog 10 #[i3.v] W fun e w' => e = .returned (.tuple #[.string s2, .int .i64 0]) ∧ Fr [] W w') := Lib.hid (fun W hW => by
        have h := Print_any i3 W hW
        rw [hm3, if_pos rfl, if_pos rfl, show i3.op.toNat = k3 by omega, ← hs3] at h
        exact h)
      obtain ⟨io, ia, ib, im⟩ := i3
      clear hrd hop3 hok3 hs3 hm3
      by_cases hok : (listP s1.data.toList).2 = 0
      · have hbk := list_back s1.data.toList hok
        have HAs := Lib.hid (fun W hW => Assemble_any ⟨(listP s1.data.toList).1.toArray⟩ W hW)
        rw [show (⟨(listP s1.data.toList).1.toArray⟩ : ByteArray).data.toList = (listP s1.data.toList).1 from rfl, hbk] at HAs
        have HLi := Lib.hid (fun W hW => List_any s1 W hW)
        rw [hok] at HLi
        have hs1 : (⟨s1.data.toList.toArray⟩ : ByteArray) = s1 := rfl
        simp only [hs1] at HAs
        generalize (listP s1.data.toList).1 = LT at *
        have hse1 : (s1.toList == s1.toList) = true := by simp
        clear hok hbk hs1 hsz
        go_wp2_with (first
          | (go_at_call 13; refine (HPs.out _ (HS.out.fr HF2.out)).mono ?_; rintro e w5 ⟨rfl, hf⟩; have hf' := hf.alloc (.cells #[.int .i64 io, .int .i64 ia, .int .i64 ib, .int .i64 im] 23); have G5 := Lib.hid (HF2.out.trans hf'); have D5 := Lib.hid (Blk.new w5 23 #[.int .i64 io, .int .i64 ia, .int .i64 ib, .int .i64 im]); have y0 : (w5.alloc (.cells #[.int .i64 io, .int .i64 ia, .int .i64 ib, .int .i64 im] 23)).cell? ⟨w5.heap.size, 0, none⟩ = some (.int .i64 io) := D5.out.cell 0; have y1 : (w5.alloc (.cells #[.int .i64 io, .int .i64 ia, .int .i64 ib, .int .i64 im] 23)).cell? ⟨w5.heap.size, 1, none⟩ = some (.int .i64 ia) := D5.out.cell 1; have y2 : (w5.alloc (.cells #[.int .i64 io, .int .i64 ia, .int .i64 ib, .int .i64 im] 23)).cell? ⟨w5.heap.size, 2, none⟩ = some (.int .i64 ib) := D5.out.cell 2; have y3 : (w5.alloc (.cells #[.int .i64 io, .int .i64 ia, .int .i64 ib, .int .i64 im] 23)).cell? ⟨w5.heap.size, 3, none⟩ = some (.int .i64 im) := D5.out.cell 3; clear hf hf')
          | (go_at_call 10; refine (HPr.out _ (HS.out.fr G5.out)).mono ?_; rintro e w6 ⟨rfl, hf⟩; have G6 := Lib.hid (G5.out.trans hf); have D6 := D5.out.fr hf (by simp); have z0 : w6.cell? ⟨w5.heap.size, 0, none⟩ = some (.int .i64 io) := D6.cell 0; have z1 : w6.cell? ⟨w5.heap.size, 1, none⟩ = some (.int .i64 ia) := D6.cell 1; have z2 : w6.cell? ⟨w5.heap.size, 2, none⟩ = some (.int .i64 ib) := D6.cell 2; have z3 : w6.cell? ⟨w5.heap.size, 3, none⟩ = some (.int .i64 im) := D6.cell 3; clear hf D6)
          | (go_at_call 14; refine (HLi.out _ (HS.out.fr G6.out)).mono ?_; rintro e w7 ⟨rfl, hf⟩; have G7 := Lib.hid (G6.out.trans hf); clear hf)
          | (go_at_call 15; refine (HAs.out _ (HS.out.fr G7.out)).mono ?_; rintro e w8 ⟨rfl, hf⟩; have G8 := Lib.hid (G7.out.trans hf); clear hf)
          | fail)
        all_goals
          go_ret
          refine ⟨?_, G8.out⟩
          first
            | rfl
            | (simp_all; done)
      · obtain ⟨hnil, hor⟩ := list_no s1.data.toList hok
        have HLi := Lib.hid (fun W hW => List_any s1 W hW)
        rw [hnil] at HLi
        generalize (listP s1.data.toList).2 = LE at *
        have p1 : (LE != 0) = true := bne_iff_ne.2 hok
        have HOr : Hid ((decide ((4096 : Int) < (s1.size : Int)) || (Int.tmod (s1.size : Int) 4 != 0)) = true) := Lib.hid (by
          rw [Bool.or_eq_true, decide_eq_true_eq, bne_iff_ne]
          rcases hor with ⟨h, -⟩ | ⟨h, -⟩
          · left; omega
          · right
            rw [Int.tmod_eq_emod_of_nonneg (by omega)]
            omega)
        clear hor hok hnil hsz
        go_wp2_with (first
          | (go_at_call 13; refine (HPs.out _ (HS.out.fr HF2.out)).mono ?_; rintro e w5 ⟨rfl, hf⟩; have hf' := hf.alloc (.cells #[.int .i64 io, .int .i64 ia, .int .i64 ib, .int .i64 im] 23); have G5 := Lib.hid (HF2.out.trans hf'); have D5 := Lib.hid (Blk.new w5 23 #[.int .i64 io, .int .i64 ia, .int .i64 ib, .int .i64 im]); have y0 : (w5.alloc (.cells #[.int .i64 io, .int .i64 ia, .int .i64 ib, .int .i64 im] 23)).cell? ⟨w5.heap.size, 0, none⟩ = some (.int .i64 io) := D5.out.cell 0; have y1 : (w5.alloc (.cells #[.int .i64 io, .int .i64 ia, .int .i64 ib, .int .i64 im] 23)).cell? ⟨w5.heap.size, 1, none⟩ = some (.int .i64 ia) := D5.out.cell 1; have y2 : (w5.alloc (.cells #[.int .i64 io, .int .i64 ia, .int .i64 ib, .int .i64 im] 23)).cell? ⟨w5.heap.size, 2, none⟩ = some (.int .i64 ib) := D5.out.cell 2; have y3 : (w5.alloc (.cells #[.int .i64 io, .int .i64 ia, .int .i64 ib, .int .i64 im] 23)).cell? ⟨w5.heap.size, 3, none⟩ = some (.int .i64 im) := D5.out.cell 3; clear hf hf')
          | (go_at_call 10; refine (HPr.out _ (HS.out.fr G5.out)).mono ?_; rintro e w6 ⟨rfl, hf⟩; have G6 := Lib.hid (G5.out.trans hf); have D6 := D5.out.fr hf (by simp); have z0 : w6.cell? ⟨w5.heap.size, 0, none⟩ = some (.int .i64 io) := D6.cell 0; have z1 : w6.cell? ⟨w5.heap.size, 1, none⟩ = some (.int .i64 ia) := D6.cell 1; have z2 : w6.cell? ⟨w5.heap.size, 2, none⟩ = some (.int .i64 ib) := D6.cell 2; have z3 : w6.cell? ⟨w5.heap.size, 3, none⟩ = some (.int .i64 im) := D6.cell 3; clear hf D6)
          | (go_at_call 14; refine (HLi.out _ (HS.out.fr G6.out)).mono ?_; rintro e w7 ⟨rfl, hf⟩; have G7 := Lib.hid (G6.out.trans hf); clear hf)
          | fail)
        all_goals
          go_ret
          refine ⟨?_, G7.out⟩
          first
            | rfl
            | (have hor := HOr.out; simp_all; done)
            | (show Ending.returned (.bool (decide ((4096 : Int) < (s1.size : Int)) || (Int.tmod (s1.size : Int) 4 != 0))) = _; rw [HOr.out])
    | none =>
      rw [parseV_none hrd] at HPs
      have HPs : Hid (∀ W, Std W → Calls Tryd.prog 13 #[.string s2] W fun e w' => e = .returned (.tuple #[.agg #[.int .i64 0, .int .i64 0, .int .i64 0, .int .i64 0], .int .i64 92]) ∧ Fr [] W w') := HPs
      obtain ⟨NT, hNT⟩ : ∃ NT : List UInt8, NT = textL ⟨0, 0, 0, 0⟩ [] 0 := ⟨_, rfl⟩
      have HPr : Hid (∀ W, Std W → Calls Tryd.prog 10 #[.agg #[.int .i64 0, .int .i64 0, .int .i64 0, .int .i64 0]] W fun e w' => e = .returned (.tuple #[.string ⟨NT.toArray⟩, .int .i64 0]) ∧ Fr [] W w') := Lib.hid (fun W hW => by
        have h := Print_any ⟨0, 0, 0, 0⟩ W hW
        rw [show mayB ⟨0, 0, 0, 0⟩ = true by decide, if_pos rfl, if_pos rfl, show (0 : Int).toNat = 0 from rfl, ← hNT] at h
        exact h)
      clear hrd hNT
      by_cases hok : (listP s1.data.toList).2 = 0
      · have hbk := list_back s1.data.toList hok
        have HAs := Lib.hid (fun W hW => Assemble_any ⟨(listP s1.data.toList).1.toArray⟩ W hW)
        rw [show (⟨(listP s1.data.toList).1.toArray⟩ : ByteArray).data.toList = (listP s1.data.toList).1 from rfl, hbk] at HAs
        have HLi := Lib.hid (fun W hW => List_any s1 W hW)
        rw [hok] at HLi
        have hs1 : (⟨s1.data.toList.toArray⟩ : ByteArray) = s1 := rfl
        simp only [hs1] at HAs
        generalize (listP s1.data.toList).1 = LT at *
        have hse1 : (s1.toList == s1.toList) = true := by simp
        clear hok hbk hs1 hsz
        go_wp2_with (first
          | (go_at_call 13; refine (HPs.out _ (HS.out.fr HF2.out)).mono ?_; rintro e w5 ⟨rfl, hf⟩; have hf' := hf.alloc (.cells #[.int .i64 0, .int .i64 0, .int .i64 0, .int .i64 0] 23); have G5 := Lib.hid (HF2.out.trans hf'); have D5 := Lib.hid (Blk.new w5 23 #[.int .i64 0, .int .i64 0, .int .i64 0, .int .i64 0]); have y0 : (w5.alloc (.cells #[.int .i64 0, .int .i64 0, .int .i64 0, .int .i64 0] 23)).cell? ⟨w5.heap.size, 0, none⟩ = some (.int .i64 0) := D5.out.cell 0; have y1 : (w5.alloc (.cells #[.int .i64 0, .int .i64 0, .int .i64 0, .int .i64 0] 23)).cell? ⟨w5.heap.size, 1, none⟩ = some (.int .i64 0) := D5.out.cell 1; have y2 : (w5.alloc (.cells #[.int .i64 0, .int .i64 0, .int .i64 0, .int .i64 0] 23)).cell? ⟨w5.heap.size, 2, none⟩ = some (.int .i64 0) := D5.out.cell 2; have y3 : (w5.alloc (.cells #[.int .i64 0, .int .i64 0, .int .i64 0, .int .i64 0] 23)).cell? ⟨w5.heap.size, 3, none⟩ = some (.int .i64 0) := D5.out.cell 3; clear hf hf')
          | (go_at_call 10; refine (HPr.out _ (HS.out.fr G5.out)).mono ?_; rintro e w6 ⟨rfl, hf⟩; have G6 := Lib.hid (G5.out.trans hf); have D6 := D5.out.fr hf (by simp); have z0 : w6.cell? ⟨w5.heap.size, 0, none⟩ = some (.int .i64 0) := D6.cell 0; have z1 : w6.cell? ⟨w5.heap.size, 1, none⟩ = some (.int .i64 0) := D6.cell 1; have z2 : w6.cell? ⟨w5.heap.size, 2, none⟩ = some (.int .i64 0) := D6.cell 2; have z3 : w6.cell? ⟨w5.heap.size, 3, none⟩ = some (.int .i64 0) := D6.cell 3; clear hf D6)
          | (go_at_call 14; refine (HLi.out _ (HS.out.fr G6.out)).mono ?_; rintro e w7 ⟨rfl, hf⟩; have G7 := Lib.hid (G6.out.trans hf); clear hf)
          | (go_at_call 15; refine (HAs.out _ (HS.out.fr G7.out)).mono ?_; rintro e w8 ⟨rfl, hf⟩; have G8 := Lib.hid (G7.out.trans hf); clear hf)
          | fail)
        all_goals
          go_ret
          refine ⟨?_, G8.out⟩
          first
            | rfl
            | (simp_all; done)
      · obtain ⟨hnil, hor⟩ := list_no s1.data.toList hok
        have HLi := Lib.hid (fun W hW => List_any s1 W hW)
        rw [hnil] at HLi
        generalize (listP s1.data.toList).2 = LE at *
        have p1 : (LE != 0) = true := bne_iff_ne.2 hok
        have HOr : Hid ((decide ((4096 : Int) < (s1.size : Int)) || (Int.tmod (s1.size : Int) 4 != 0)) = true) := Lib.hid (by
          rw [Bool.or_eq_true, decide_eq_true_eq, bne_iff_ne]
          rcases hor with ⟨h, -⟩ | ⟨h, -⟩
          · left; omega
          · right
            rw [Int.tmod_eq_emod_of_nonneg (by omega)]
            omega)
        clear hor hok hnil hsz
        go_wp2_with (first
          | (go_at_call 13; refine (HPs.out _ (HS.out.fr HF2.out)).mono ?_; rintro e w5 ⟨rfl, hf⟩; have hf' := hf.alloc (.cells #[.int .i64 0, .int .i64 0, .int .i64 0, .int .i64 0] 23); have G5 := Lib.hid (HF2.out.trans hf'); have D5 := Lib.hid (Blk.new w5 23 #[.int .i64 0, .int .i64 0, .int .i64 0, .int .i64 0]); have y0 : (w5.alloc (.cells #[.int .i64 0, .int .i64 0, .int .i64 0, .int .i64 0] 23)).cell? ⟨w5.heap.size, 0, none⟩ = some (.int .i64 0) := D5.out.cell 0; have y1 : (w5.alloc (.cells #[.int .i64 0, .int .i64 0, .int .i64 0, .int .i64 0] 23)).cell? ⟨w5.heap.size, 1, none⟩ = some (.int .i64 0) := D5.out.cell 1; have y2 : (w5.alloc (.cells #[.int .i64 0, .int .i64 0, .int .i64 0, .int .i64 0] 23)).cell? ⟨w5.heap.size, 2, none⟩ = some (.int .i64 0) := D5.out.cell 2; have y3 : (w5.alloc (.cells #[.int .i64 0, .int .i64 0, .int .i64 0, .int .i64 0] 23)).cell? ⟨w5.heap.size, 3, none⟩ = some (.int .i64 0) := D5.out.cell 3; clear hf hf')
          | (go_at_call 10; refine (HPr.out _ (HS.out.fr G5.out)).mono ?_; rintro e w6 ⟨rfl, hf⟩; have G6 := Lib.hid (G5.out.trans hf); have D6 := D5.out.fr hf (by simp); have z0 : w6.cell? ⟨w5.heap.size, 0, none⟩ = some (.int .i64 0) := D6.cell 0; have z1 : w6.cell? ⟨w5.heap.size, 1, none⟩ = some (.int .i64 0) := D6.cell 1; have z2 : w6.cell? ⟨w5.heap.size, 2, none⟩ = some (.int .i64 0) := D6.cell 2; have z3 : w6.cell? ⟨w5.heap.size, 3, none⟩ = some (.int .i64 0) := D6.cell 3; clear hf D6)
          | (go_at_call 14; refine (HLi.out _ (HS.out.fr G6.out)).mono ?_; rintro e w7 ⟨rfl, hf⟩; have G7 := Lib.hid (G6.out.trans hf); clear hf)
          | fail)
        all_goals
          go_ret
          refine ⟨?_, G7.out⟩
          first
            | rfl
            | (have hor := HOr.out; simp_all; done)
            | (show Ending.returned (.bool (decide ((4096 : Int) < (s1.size : Int)) || (Int.tmod (s1.size : Int) 4 != 0))) = _; rw [HOr.out])
end Go.Proofs.YtjijhjdemkgpgaaDoor
