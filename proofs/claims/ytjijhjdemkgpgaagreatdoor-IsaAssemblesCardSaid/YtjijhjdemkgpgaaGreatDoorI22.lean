/- List, of the program. -/
import Derived.Test.YtjijhjdemkgpgaaGreatDoorI21
import Derived.Test.YtjijhjdemkgpgaaGreatDoorI13
import Derived.Test.YtjijhjdemkgpgaaGreatDoorI7
namespace Go.Proofs.YtjijhjdemkgpgaaGreatDoor
open Go.RowKit Go.Maps
set_option linter.unusedVariables false
set_option linter.unusedSimpArgs false
set_option maxRecDepth 100000
theorem or64 (x y : Nat) (hx : x < 4294967296) (hy : y < 4294967296) : bits .or .i64 (x : Int) (y : Int) = ((x ||| y : Nat) : Int) := by
  have hxy : x ||| y < 4294967296 := Nat.or_lt_two_pow (n := 32) hx hy
  show IntKind.i64.wrap (((BitVec.ofInt 64 (x : Int) ||| BitVec.ofInt 64 (y : Int)).toNat : Nat) : Int) = _
  rw [BitVec.toNat_or, BitVec.ofInt_natCast, BitVec.ofInt_natCast, BitVec.toNat_ofNat, BitVec.toNat_ofNat, Nat.mod_eq_of_lt (by omega), Nat.mod_eq_of_lt (by omega)]
  exact IntWalk.i64_in _ (by omega)
theorem orw (a b c d : Nat) (ha : a < 256) (hb : b < 256) (hc : c < 256) (hd : d < 256) :
    ∃ y1 y2, bits .or .i64 ((a : Int) * 16777216) ((b : Int) * 65536) = y1 ∧ bits .or .i64 y1 ((c : Int) * 256) = y2 ∧ bits .or .i64 y2 (d : Int) = ((a * 16777216 + b * 65536 + c * 256 + d : Nat) : Int) := by
  have e1 : a * 16777216 ||| b * 65536 = a * 16777216 + b * 65536 := by
    rw [Nat.mul_comm a]
    exact (Nat.two_pow_add_eq_or_of_lt (i := 24) (by omega) a).symm
  have e2 : (a * 16777216 + b * 65536) ||| c * 256 = a * 16777216 + b * 65536 + c * 256 := by
    have h := (Nat.two_pow_add_eq_or_of_lt (i := 16) (b := c * 256) (by omega) (a * 256 + b)).symm
    rw [show a * 16777216 + b * 65536 = 2 ^ 16 * (a * 256 + b) by omega]
    exact h
  have e3 : (a * 16777216 + b * 65536 + c * 256) ||| d = a * 16777216 + b * 65536 + c * 256 + d := by
    have h := (Nat.two_pow_add_eq_or_of_lt (i := 8) (b := d) (by omega) (a * 65536 + b * 256 + c)).symm
    rw [show a * 16777216 + b * 65536 + c * 256 = 2 ^ 8 * (a * 65536 + b * 256 + c) by omega]
    exact h
  refine ⟨((a * 16777216 + b * 65536 : Nat) : Int), ((a * 16777216 + b * 65536 + c * 256 : Nat) : Int), ?_, ?_, ?_⟩
  · rw [show (a : Int) * 16777216 = ((a * 16777216 : Nat) : Int) by omega, show (b : Int) * 65536 = ((b * 65536 : Nat) : Int) by omega, or64 _ _ (by omega) (by omega), e1]
  · rw [show (c : Int) * 256 = ((c * 256 : Nat) : Int) by omega, or64 _ _ (by omega) (by omega), e2]
  · rw [or64 _ _ (by omega) (by omega), e3]
theorem word_or (a b c d : UInt8) : bits .or .i64 (bits .or .i64 (bits .or .i64 (wrap64 (wrap64 (a.toNat : Int) * 16777216)) (wrap64 (wrap64 (b.toNat : Int) * 65536))) (wrap64 (wrap64 (c.toNat : Int) * 256))) (IntKind.i64.wrap (d.toNat : Int)) = ((a.toNat * 16777216 + b.toNat * 65536 + c.toNat * 256 + d.toNat : Nat) : Int) := by
  have ba := a.toNat_lt
  have bb := b.toNat_lt
  have bc := c.toNat_lt
  have bd := d.toNat_lt
  generalize a.toNat = a at *
  generalize b.toNat = b at *
  generalize c.toNat = c at *
  generalize d.toNat = d at *
  obtain ⟨y1, y2, o1, o2, o3⟩ := orw a b c d ba bb bc bd
  have w0 : ∀ z : Int, 0 ≤ z → z < 9223372036854775808 → wrap64 z = z := fun z h1 h2 => by unfold wrap64; omega
  have w1 : IntKind.i64.wrap (d : Int) = (d : Int) := IntWalk.i64_in _ (by omega)
  rw [w1, w0 (a : Int) (by omega) (by omega), w0 (b : Int) (by omega) (by omega), w0 (c : Int) (by omega) (by omega), w0 _ (by omega) (by omega), w0 _ (by omega) (by omega), w0 _ (by omega) (by omega), o1, o2, o3]
theorem calls_int {P : Program} {f : Nat} {n m : Int} {w : World} {Q : Ending → World → Prop} (h : n = m) (k : Calls P f #[.int .i64 m] w Q) : Calls P f #[.int .i64 n] w Q := h ▸ k
theorem bget {S : ByteArray} {l : List UInt8} (h : S.data.toList = l) {i : Nat} {b : UInt8} (hb : l[i]? = some b) : ∀ h', (S[i]'h').toNat = b.toNat := by
  intro h'
  have e : S.data.toList[i]? = some (S[i]'h') := List.getElem?_eq_getElem (by exact h')
  rw [h, hb] at e
  injection e with e
  rw [e]
theorem bcat (x y : List UInt8) : (⟨x.toArray⟩ : ByteArray) ++ ⟨y.toArray⟩ = ⟨(x ++ y).toArray⟩ := bext (by simp)
theorem lineOf_some {x : W4} {i : In} (h : decL x = some i) : lineOf x = textL i [] i.op.toNat := by unfold lineOf; rw [h]
theorem lineOf_none {x : W4} (h : decL x = none) : lineOf x = [119, 111, 114, 100, 32] ++ Lib.decDigits x.n := by unfold lineOf; rw [h]
set_option maxHeartbeats 8000000 in
theorem List_any (s : ByteArray) (w : World) (hw : Std w) : Calls Tryz.prog 19 #[.string s] w fun e w' => e = .returned (.tuple #[.string ⟨(listP s.data.toList).1.toArray⟩, .int .i64 (listP s.data.toList).2]) ∧ Fr [] w w' := by
  have hsz : s.data.toList.length = s.size := rfl
  by_cases hbig : 4096 < s.size
  · have hR : listP s.data.toList = ([], 94) := by unfold listP; rw [if_pos (by omega)]
    rw [hR]
    have hb2 : (4096 : Int) < (s.size : Int) := by omega
    clear hR hbig
    go_enter Tryz.func19, Tryz.ntmps19
    go_wp2
    go_ret2
    exact ⟨rfl, Fr.refl _ _⟩
  · have hb2 : ¬ (4096 : Int) < (s.size : Int) := by omega
    have hmod : Int.tmod (s.size : Int) 4 = ((s.size % 4 : Nat) : Int) := by
      rw [Int.tmod_eq_emod_of_nonneg (by omega)]
      omega
    by_cases hm : s.size % 4 ≠ 0
    · have hR : listP s.data.toList = ([], 91) := by unfold listP; rw [if_neg (by omega), if_pos (by omega)]
      rw [hR]
      have hq : (((s.size % 4 : Nat) : Int) != 0) = true := by rw [bne_iff_ne]; omega
      generalize ((s.size % 4 : Nat) : Int) = M at *
      clear hR hbig hm
      go_enter Tryz.func19, Tryz.ntmps19
      go_wp2
      go_ret2
      exact ⟨rfl, Fr.refl _ _⟩
    · have hR : listP s.data.toList = (rowsB (chunks s.data.toList), 0) := by unfold listP; rw [if_neg (by omega), if_neg (by omega)]
      have hq : (((s.size % 4 : Nat) : Int) != 0) = false := by rw [bne_eq_false_iff_eq]; omega
      generalize ((s.size % 4 : Nat) : Int) = M at *
      obtain ⟨N, hN⟩ : ∃ N, s.size = 4 * N := ⟨s.size / 4, by omega⟩
      rw [hR]
      have HStd := Lib.hid hw
      have HN1 : Hid (N ≤ 1024) := Lib.hid (by omega)
      have hl0 : s.data.toList.length = 4 * N := by omega
      have hs0 : s = ⟨s.data.toList.toArray⟩ := rfl
      have HS0 := Lib.hid hs0
      have HL0 := Lib.hid hl0
      clear hR hm hw hs0 hN hl0
      generalize s.data.toList = L at *
      go_enter Tryz.func19, Tryz.ntmps19
      go_wp2_with fail
      have HBd := Lib.hid (Bld.made w)
      have HFW : Hid (Fr [] w (w.alloc (.cells #[.pointer none, .slice none 0 0] 60))) := Lib.hid ((Fr.refl [] w).alloc _)
      go_loopg [0] N (fun gg x wr => ∃ (rest out : List UInt8), x = .string ⟨rest.toArray⟩ ∧ rest.length = 4 * gg ∧ gg ≤ N ∧ rowsB (chunks L) = out ++ rowsB (chunks rest) ∧ out.length ≤ 30 * (N - gg) ∧ Bld wr w.heap.size out ∧ Fr [] w wr)
      case atStart => exact ⟨L, [], by rw [← HS0.out], HL0.out, Nat.le_refl _, rfl, by simp, HBd.out, HFW.out⟩
      case round =>
        obtain ⟨rest, out, rfl, hr4, hgN, hrow, hol, hbd, hf⟩ := hrel
        have Hr4 := Lib.hid hr4
        have HgN := Lib.hid hgN
        have Hrow := Lib.hid hrow
        have Hol := Lib.hid hol
        have Hbd := Lib.hid hbd
        have Hf := Lib.hid hf
        match rest, hr4 with
        | [], hr4 =>
          have hg0 : gk = 0 := by simp at hr4; omega
          subst hg0
          have HX : Hid (rowsB (chunks L) = out) := Lib.hid (by rw [hrow]; exact List.append_nil _)
          have hBw : w.heap.size ≤ wr.heap.size := hf.size
          clear hr4 hgN hrow hol hbd hf
          go_wp2_with (first
            | (go_at_call 40; refine (Tryz.Builder_String_any w.heap.size w.heap.size out _ Hbd.out hBw).mono ?_; rintro e w5 ⟨rfl, hbe⟩; have F6 := Lib.hid (Hf.out.below_new hbe); clear hbe)
            | fail)
          go_ret2
          refine ⟨?_, F6.out⟩
          rw [HX.out]
          rfl
        | [a], hr4 => exfalso; simp at hr4; omega
        | [a, b], hr4 => exfalso; simp at hr4; omega
        | [a, b, c], hr4 => exfalso; simp at hr4; omega
        | a :: b :: c :: d :: r, hr4 =>
          obtain ⟨g, rfl⟩ : ∃ g, gk = g + 1 := ⟨gk - 1, by simp at hr4; omega⟩
          have hr4' : r.length = 4 * g := by simp at hr4; omega
          have Hr5 := Lib.hid hr4'
          obtain ⟨x, hx⟩ : ∃ x : W4, x = ⟨a, b, c, d⟩ := ⟨_, rfl⟩
          have hxl : x.l = [a, b, c, d] := by rw [hx]; rfl
          have hxn : x.n = a.toNat * 16777216 + b.toNat * 65536 + c.toNat * 256 + d.toNat := by rw [hx]; rfl
          have hrow2 : rowsB (chunks L) = (out ++ (lineOf x ++ [10])) ++ rowsB (chunks r) := by
            rw [hrow, hx, List.append_assoc]
            rfl
          have HX := Lib.hid hrow2
          have hll := line_len x
          have Hll := Lib.hid hll
          obtain ⟨S, hS⟩ : ∃ S : ByteArray, (⟨(a :: b :: c :: d :: r).toArray⟩ : ByteArray) = S := ⟨_, rfl⟩
          have hSl : S.data.toList = a :: b :: c :: d :: r := by rw [← hS]
          have hSs : S.size = 4 * (g + 1) := by
            have h : S.data.toList.length = S.size := rfl
            rw [← h, hSl]
            simp only [List.length_cons]
            omega
          have h0 := bget hSl (i := 0) rfl
          have h1 := bget hSl (i := 1) rfl
          have h2 := bget hSl (i := 2) rfl
          have h3 := bget hSl (i := 3) rfl
          have k0 : 0 < S.size := by omega
          have k1 : 1 < S.size := by omega
          have k2 : 2 < S.size := by omega
          have k3 : 3 < S.size := by omega
          have q0 : (0 : Int) < (S.size : Int) := by omega
          have q1 : (1 : Int) < (S.size : Int) := by omega
          have q2 : (2 : Int) < (S.size : Int) := by omega
          have q3 : (3 : Int) < (S.size : Int) := by omega
          have k4 : (4 : Int) ≤ (S.size : Int) := by omega
          have k5 : 4 ≤ S.size := by omega
          have hx0 : S.extract 0 4 = ⟨x.l.toArray⟩ := bext (by rw [hxl, Lib.extract_from_zero, hSl]; rfl)
          have hx4 : S.extract 4 S.size = ⟨r.toArray⟩ := bext (by rw [Lib.extract_to_end, hSl]; rfl)
          have hE1 : S.toList.isEmpty = false := by rw [ByteArray.toList_eq, hSl]; rfl
          have hE2 : (S.toList == []) = false := by rw [ByteArray.toList_eq, hSl]; rfl
          have hE3 : (S.toList != []) = true := by rw [ByteArray.toList_eq, hSl]; rfl
          rw [hS]
          have ba := a.toNat_lt
          have bb := b.toNat_lt
          have bc := c.toNat_lt
          have bd := d.toNat_lt
          have hY := word_or a b c d
          rw [← hxn] at hY
          have hwq : ∀ z : Int, wrap64 z = IntKind.i64.wrap z := fun z => (IntWalk.i64_left z).symm
          simp only [hwq] at hY
          have HY := Lib.hid hY
          have HWQ := Lib.hid hwq
          clear hY hwq
          have hdn := x.n_lt
          have HIt : Hid (∀ W, Std W → Calls Tryz.prog 22 #[.int .i64 (x.n : Int)] W fun e w' => e = .returned (.string ⟨(Lib.decDigits x.n).toArray⟩) ∧ Fr [] W w') := Lib.hid (fun W hW => by
            have h := Itoa_any (x.n : Int) (by omega) (by omega) W hW
            rw [itoa_nat] at h
            exact h)
          have hdl : (Lib.decDigits x.n).length ≤ 10 := by
            have e10 : (10 : Nat) ^ 10 = 10000000000 := by decide
            exact (decDigits_len (u := x.n) (k := 10) (by omega)).2 (by omega)
          have l1 : ¬ 9223372036854775807 < 5 + (Lib.decDigits x.n).length := by omega
          have c1 : (⟨#[119, 111, 114, 100, 32]⟩ : ByteArray) ++ ⟨(Lib.decDigits x.n).toArray⟩ = ⟨([119, 111, 114, 100, 32] ++ Lib.decDigits x.n).toArray⟩ := bcat _ _
          have hDc := dec_tie x
          have HDec := Lib.hid (fun W => Decode_any ⟨x.l.toArray⟩ W)
          have kk0 : Fr [] wr wr.drew := (Fr.refl [] wr).drew
          have HSt := Lib.hid (HStd.out.fr hf)
          have HBw : Hid (w.heap.size ≤ wr.heap.size) := Lib.hid hf.size
          have HN2 := HN1.out
          have hol2 : out.length ≤ 30720 := by omega
          have HO := Lib.hid hol2
          clear hol2 hr4' hxl hrow2 hSl hS hSs hx hxn hll hrow hol hbd hf hgN hdn hdl ba bb bc bd
          have HDc := Lib.hid hDc
          clear hDc
          generalize hWL : [119, 111, 114, 100, 32] ++ Lib.decDigits x.n = WL at *
          have HWL := Lib.hid hWL
          clear hWL
          go_upto_region 8 with (fail)
          go_cut [5] (fun v5 wx => v5 = .string ⟨WL.toArray⟩ ∧ Fr [] wr wx)
          case first =>
            go_region_held3 (fun W => Fr [] wr W) (first | exact kk0 | exact kk | assumption) (first
              | (go_at_call 22; refine calls_int (m := (x.n : Int)) (by (have hwq := HWQ.out; (try simp only [hwq]); exact HY.out)) ?_; refine (HIt.out _ (HSt.out.fr (by assumption))).mono ?_; rintro e w2 ⟨rfl, hf2⟩; have kk : Fr [] wr w2 := Fr.trans (by assumption) hf2))
            all_goals
              go_wp2_with fail
              go_meet
              exact ⟨rfl, by assumption⟩
          case rest =>
          obtain ⟨rfl, hf2⟩ := hcut
          have HF2 := Lib.hid hf2
          clear hf2
          have HDec2 := HDec
          cases hd : decL x with
          | none =>
            have hDc := HDc.out
            rw [hd] at hDc
            rw [hDc] at HDec2
            have hln : lineOf x = WL := by rw [lineOf_none hd]; exact HWL.out
            have HLn := Lib.hid hln
            have Hl9 : Hid ((lineOf x).length ≤ 29) := Hll
            rw [hln] at Hl9
            have l2 : ¬ 9223372036854775807 < WL.length + 1 := by have := Hl9.out; omega
            have c2 : (⟨WL.toArray⟩ : ByteArray) ++ ⟨#[10]⟩ = ⟨(WL ++ [10]).toArray⟩ := bcat _ [10]
            clear hd hDc hln
            have HDec : Hid (∀ W, Calls Tryz.prog 10 #[.string ⟨x.l.toArray⟩] W fun e w' => e = .returned (.tuple #[.agg #[.int .i64 0, .int .i64 0, .int .i64 0, .int .i64 0], .int .i64 91]) ∧ Fr [] W w') := HDec2
            clear HDec2
            go_wp2_with (first
              | (go_at_call 10; refine (HDec.out _).mono ?_; rintro e w4 ⟨rfl, hf4⟩; have G4 := Lib.hid ((HF2.out.trans hf4).alloc (.cells #[.int .i64 0, .int .i64 0, .int .i64 0, .int .i64 0] 23)); clear hf4)
              | (go_at_call 37; refine (Write_any w.heap.size out (WL ++ [10]) _ (Hbd.out.fr G4.out) (by rw [List.length_append]; have := HO.out; have := Hl9.out; simp only [List.length_cons, List.length_nil]; omega) (by have := HBw.out; have := G4.out.size; omega)).mono ?_; rintro e w6 ⟨rfl, hbd6, hbe6⟩; have B6 := Lib.hid hbd6; have F6 := Lib.hid ((Hf.out.trans G4.out).below_new hbe6); clear hbd6 hbe6)
              | fail)
            go_roundg g
            case measure => omega
            case rel => exact ⟨r, out ++ (WL ++ [10]), rfl, Hr5.out, by have := HgN.out; omega, by rw [HX.out, HLn.out], by rw [List.length_append, List.length_append]; have := Hol.out; have := Hl9.out; have := HgN.out; simp only [List.length_cons, List.length_nil]; omega, B6.out, F6.out⟩
          | some i =>
            have hDc := HDc.out
            rw [hd] at hDc
            rw [hDc] at HDec2
            obtain ⟨k, hk, hop, hok, -⟩ := decL_some hd
            have hln : lineOf x = textL i [] k := by rw [lineOf_some hd, hop]; rfl
            obtain ⟨io, ia, ib, im⟩ := i
            simp only at hop
            subst hop
            have HLn := Lib.hid hln
            have Hl9 : Hid ((lineOf x).length ≤ 29) := Hll
            rw [hln] at Hl9
            have HPr := Lib.hid (fun W hW => Print_good ⟨k, ia, ib, im⟩ k hk rfl hok W hW)
            have HDec : Hid (∀ W, Calls Tryz.prog 10 #[.string ⟨x.l.toArray⟩] W fun e w' => e = .returned (.tuple #[.agg #[.int .i64 (k : Int), .int .i64 ia, .int .i64 ib, .int .i64 im], .int .i64 0]) ∧ Fr [] W w') := HDec2
            clear HDec2
            generalize hTL : textL ⟨k, ia, ib, im⟩ [] k = TL at *
            have l2 : ¬ 9223372036854775807 < TL.length + 1 := by have := Hl9.out; omega
            have c2 : (⟨TL.toArray⟩ : ByteArray) ++ ⟨#[10]⟩ = ⟨(TL ++ [10]).toArray⟩ := bcat _ [10]
            clear hd hDc hln hTL hok hk
            go_wp2_with (first
              | (go_at_call 10; refine (HDec.out _).mono ?_; rintro e w4 ⟨rfl, hf4⟩; have G4 := Lib.hid ((HF2.out.trans hf4).alloc (.cells #[.int .i64 (k : Int), .int .i64 ia, .int .i64 ib, .int .i64 im] 23)); clear hf4; have B4 := Lib.hid (Blk.new w4 23 #[.int .i64 (k : Int), .int .i64 ia, .int .i64 ib, .int .i64 im]); have c3 : (w4.alloc (.cells #[.int .i64 (k : Int), .int .i64 ia, .int .i64 ib, .int .i64 im] 23)).cell? ⟨w4.heap.size, 0, none⟩ = some (.int .i64 (k : Int)) := B4.out.cell 0; have c4 : (w4.alloc (.cells #[.int .i64 (k : Int), .int .i64 ia, .int .i64 ib, .int .i64 im] 23)).cell? ⟨w4.heap.size, 1, none⟩ = some (.int .i64 ia) := B4.out.cell 1; have c5 : (w4.alloc (.cells #[.int .i64 (k : Int), .int .i64 ia, .int .i64 ib, .int .i64 im] 23)).cell? ⟨w4.heap.size, 2, none⟩ = some (.int .i64 ib) := B4.out.cell 2; have c6 : (w4.alloc (.cells #[.int .i64 (k : Int), .int .i64 ia, .int .i64 ib, .int .i64 im] 23)).cell? ⟨w4.heap.size, 3, none⟩ = some (.int .i64 im) := B4.out.cell 3)
              | (go_at_call 8; refine (HPr.out _ (HSt.out.fr G4.out)).mono ?_; rintro e w5 ⟨rfl, hf5⟩; have G5 := Lib.hid (G4.out.trans hf5); clear hf5)
              | (go_at_call 37; refine (Write_any w.heap.size out (TL ++ [10]) _ (Hbd.out.fr G5.out) (by rw [List.length_append]; have := HO.out; have := Hl9.out; simp only [List.length_cons, List.length_nil]; omega) (by have := HBw.out; have := G5.out.size; omega)).mono ?_; rintro e w6 ⟨rfl, hbd6, hbe6⟩; have B6 := Lib.hid hbd6; have F6 := Lib.hid ((Hf.out.trans G5.out).below_new hbe6); clear hbd6 hbe6)
              | fail)
            go_roundg g
            case measure => omega
            case rel => exact ⟨r, out ++ (TL ++ [10]), rfl, Hr5.out, by have := HgN.out; omega, by rw [HX.out, HLn.out], by rw [List.length_append, List.length_append]; have := Hol.out; have := Hl9.out; have := HgN.out; simp only [List.length_cons, List.length_nil]; omega, B6.out, F6.out⟩
end Go.Proofs.YtjijhjdemkgpgaaGreatDoor
