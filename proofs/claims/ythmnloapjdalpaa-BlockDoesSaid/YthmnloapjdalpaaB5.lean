/- The document's blocks: Number, Pad, Bytes, Parse. -/
import Derived.Test.YthmnloapjdalpaaL13
namespace Go.Proofs.Ythmnloapjdalpaa
open Go.RowKit
set_option linter.unusedVariables false
set_option linter.unusedSimpArgs false
theorem numB_next (n k : Nat) : numB n (k + 1) = UInt8.ofNat (n / 256 ^ k) :: numB n k := by
  unfold numB
  rw [List.range_succ_eq_map, List.map_cons, List.map_map]
  congr 1
  refine List.map_congr_left fun j hj => ?_
  rw [List.mem_range] at hj
  show UInt8.ofNat (n / 256 ^ (k + 1 - 1 - (j + 1))) = UInt8.ofNat (n / 256 ^ (k - 1 - j))
  rw [show k + 1 - 1 - (j + 1) = k - 1 - j by omega]
theorem ba_cons (z : UInt8) (l : List UInt8) : (⟨#[z]⟩ : ByteArray) ++ ⟨l.toArray⟩ = ⟨(z :: l).toArray⟩ := by
  refine ba_ext fun i => ?_
  rw [ByteArray.data_append]
  simp
theorem ba_app (l m : List UInt8) : (⟨l.toArray⟩ : ByteArray) ++ ⟨m.toArray⟩ = ⟨(l ++ m).toArray⟩ := by
  refine ba_ext fun i => ?_
  rw [ByteArray.data_append]
  simp
theorem one_byte (w : World) (z : UInt8) : (convert 30 9 (.slice (some ⟨w.heap.size, 0, none⟩) 1 1)).run Try.prog (w.alloc (.cells #[.int .u8 (z.toNat : Int)] 5)) = .ok (.string ⟨#[z]⟩) (w.alloc (.cells #[.int .u8 (z.toNat : Int)] 5)) := by
  have := run_convert_bytes_back (P := Try.prog) (w.alloc (.cells #[.int .u8 (z.toNat : Int)] 5)) 30 9 5 ⟨w.heap.size, 0, none⟩ 1 [z] Try.underlying30 Try.underlying5 Try.underlying9 (fun j hj => by
    have hj0 : j = 0 := by simp at hj; exact hj
    subst hj0
    rw [addr_add]
    exact (Blk.new w 5 #[.int .u8 (z.toNat : Int)]).cell 0)
  exact this
set_option maxRecDepth 100000 in
theorem Number_any (n many : Nat) (hn : n < 9223372036854775808) (hm : many ≤ 8) (w : World) : Calls Try.prog 56 #[.int .i64 (n : Int), .int .i64 (many : Int)] w fun e w' => e = .returned (.string ⟨(numB n many).toArray⟩) ∧ Fr [] w w' := by
  go_enter Try.func56, Try.ntmps56
  go_wp2_with fail
  go_loopg [0, 5, 6] many (fun gg vn vs vi wr => ∃ k : Nat, k + gg = many ∧ vi = .int .i64 (k : Int) ∧ vn = .int .i64 ((n / 256 ^ k : Nat) : Int) ∧ vs = .string ⟨(numB n k).toArray⟩ ∧ Fr [] w wr)
  case atStart => exact ⟨0, by omega, rfl, by simp, rfl, Fr.refl _ _⟩
  case round =>
    obtain ⟨k, hk, rfl, rfl, rfl, hfr⟩ := hrel
    have Hk := Lib.hid hk
    have Hfr := Lib.hid hfr
    clear hk hfr
    by_cases hlt : k < many
    · have hlt' : (k : Int) < (many : Int) := by omega
      have hw : IntKind.i64.wrap ((k : Int) + 1) = (k : Int) + 1 := IntWalk.i64_in _ (by omega)
      have hle : n / 256 ^ k ≤ n := Nat.div_le_self _ _
      have Hd := Lib.hid (show n / 256 ^ k / 256 = n / 256 ^ (k + 1) by rw [Nat.div_div_eq_div_mul, Nat.pow_succ])
      have Hnx := Lib.hid (numB_next n k)
      have Hcons := Lib.hid (ba_cons (UInt8.ofNat (n / 256 ^ k)) (numB n k))
      have hz : ((UInt8.ofNat (n / 256 ^ k)).toNat : Int) = ((n / 256 ^ k : Nat) : Int) % 256 := by rw [UInt8.toNat_ofNat']; simp
      have hob := one_byte wr (UInt8.ofNat (n / 256 ^ k))
      have hsz : (⟨(numB n k).toArray⟩ : ByteArray).size = k := by show (numB n k).toArray.size = k; rw [List.size_toArray, numB_len]
      have hs1 : (⟨#[UInt8.ofNat (n / 256 ^ k)]⟩ : ByteArray).size = 1 := rfl
      generalize UInt8.ofNat (n / 256 ^ k) = z at *
      rw [hz] at hob
      generalize (⟨(numB n k).toArray⟩ : ByteArray) = SK at *
      generalize (⟨#[z]⟩ : ByteArray) = SZ at *
      generalize n / 256 ^ k = X at *
      have hr : (X : Int).tmod 256 = (X : Int) % 256 := Int.tmod_eq_emod_of_nonneg (by omega)
      have hq : (X : Int).tdiv 256 = (X : Int) / 256 := Int.tdiv_eq_ediv_of_nonneg (by omega)
      have hu : IntKind.u8.wrap ((X : Int) % 256) = (X : Int) % 256 := by show (X : Int) % 256 % 256 = _; omega
      have hcat : ¬ 9223372036854775807 < SZ.size + SK.size := by omega
      clear hsz hs1
      go_wp2_with fail
      go_roundg (many - (k + 1))
      case measure => have := Hk.out; omega
      case rel => exact ⟨k + 1, by have := Hk.out; omega, by go_num, by rw [← Hd.out]; go_num, by rw [Hnx.out, Hcons.out], Hfr.out.alloc _⟩
    · have hlt' : ¬ (k : Int) < (many : Int) := by omega
      have hkm : k = many := by have := Hk.out; omega
      subst hkm
      have E := Lib.hid (show (⟨(numB n k).toArray⟩ : ByteArray) = ⟨(numB n k).toArray⟩ from rfl)
      generalize n / 256 ^ k = X at *
      go_wp2_with fail
      go_ret
      exact ⟨rfl, Hfr.out⟩
theorem pad_app (t : ByteArray) (h : t.size ≤ 116) : t ++ zeros (116 - t.size) = padB t := by
  refine at8_ext (by rw [ByteArray.size_append, zeros_size, padB_size]; omega) fun j hj => ?_
  rw [ByteArray.size_append, zeros_size] at hj
  have e : at8 (padB t) j = at8 t j := by
    unfold padB
    rw [at8_bs (by omega), Nat.zero_add]
  rw [e]
  unfold at8
  rw [ByteArray.data_append, Array.getElem?_append]
  by_cases h1 : j < t.data.size
  · rw [if_pos h1]
  · rw [if_neg h1]
    have hts : t.data.size = t.size := rfl
    have h2 := bs_get (fun _ => 0) 0 (116 - t.size) (j - t.data.size) (by omega)
    have h3 : (zeros (116 - t.size)).data[j - t.data.size]? = some 0 := h2
    rw [h3, Array.getElem?_eq_none (by omega)]
    rfl
theorem Pad_any (t : ByteArray) (ht : t.size ≤ 116) (w : World) : Calls Try.prog 55 #[.string t] w fun e w' => e = .returned (.string (padB t)) ∧ Fr [] w w' := by
  obtain ⟨Z, hZs, hZ, hmk⟩ := made_z (116 - t.size) (by omega)
  have hwb : Wb (w.alloc (.cells Z 5)) w.heap.size (116 - t.size) (fun _ => 0) := Wb.of_blk (Blk.new w 5 Z) hZs (fun i hi => hZ i hi)
  have hcv := conv_wb (o := 0) (n := 116 - t.size) (cap := 116 - t.size) hwb (by omega)
  have E := Lib.hid (pad_app t ht)
  have hzz : bs (fun _ => 0) 0 (116 - t.size) = zeros (116 - t.size) := rfl
  rw [hzz] at hcv
  have HF := Lib.hid ((Fr.refl [] w).alloc (.cells Z 5))
  have hmk := hmk w
  have hsz := zeros_size (116 - t.size)
  have hcast : (((116 - t.size : Nat)) : Int) = 116 - (t.size : Int) := by omega
  rw [hcast] at hmk
  have hw : IntKind.i64.wrap (116 - (t.size : Int)) = 116 - (t.size : Int) := IntWalk.i64_in _ (by omega)
  have hcat : ¬ 9223372036854775807 < t.size + (zeros (116 - t.size)).size := by omega
  clear hZ hZs hwb hsz
  generalize zeros (116 - t.size) = V at *
  go_enter Try.func55, Try.ntmps55
  go_wp2
  go_ret
  exact ⟨ret_str E.out, HF.out⟩
set_option maxRecDepth 100000 in
theorem rBytes_any (t : ByteArray) (n : Int) (w : World) (ht : t.size ≤ maxLen) : Calls Try.prog 16 #[.string t, .int .i64 n] w fun e w' => e = .returned (.tuple #[.string (bytesV t n), .int .i64 (bytesE t n)]) ∧ Fr [] w w' := by
  simp only [maxLen] at ht
  by_cases h1 : 116 < t.size
  · have h1' : (116 : Int) < (t.size : Int) := by omega
    have E1 : bytesE t n = 152 := if_pos h1
    have E2 : bytesV t n = ⟨#[]⟩ := by unfold bytesV; rw [E1]; rfl
    rw [E1, E2]
    clear E1 E2
    go_enter Try.func16, Try.ntmps16
    go_wp2
    go_ret2
    exact ⟨rfl, Fr.refl _ _⟩
  · have h1' : ¬ (116 : Int) < (t.size : Int) := by omega
    by_cases h2 : n < 0 ∨ 4611686018427387904 < n
    · have E1 : bytesE t n = 1 := by unfold bytesE; rw [if_neg h1, if_pos h2]
      have E2 : bytesV t n = ⟨#[]⟩ := by unfold bytesV; rw [E1]; rfl
      rw [E1, E2]
      clear E1 E2
      by_cases h3 : n < 0
      · clear h2
        go_enter Try.func16, Try.ntmps16
        go_wp2
        go_ret2
        exact ⟨rfl, Fr.refl _ _⟩
      · have h4 : 4611686018427387904 < n := by omega
        clear h2
        go_enter Try.func16, Try.ntmps16
        go_wp2
        go_ret2
        exact ⟨rfl, Fr.refl _ _⟩
    · have E1 : bytesE t n = 0 := by unfold bytesE; rw [if_neg h1, if_neg h2]
      have E2 : bytesV t n = ⟨(blkL t n.toNat).toArray⟩ := by unfold bytesV; rw [E1]; rfl
      have h3 : ¬ n < 0 := by omega
      have h4 : ¬ 4611686018427387904 < n := by omega
      have HP := Lib.hid (Pad_any t (by omega))
      have hps := padB_size t
      have HS := Lib.hid (fun W => rSum_any (padB t) W (by rw [hps]; simp [maxLen]))
      obtain ⟨C, hC⟩ : ∃ C, (crc (padB t).data.toList).toNat = C := ⟨_, rfl⟩
      have hCl : C < 4294967296 := by rw [← hC]; exact (crc _).isLt
      rw [hC] at HS
      have hwc : IntKind.i64.wrap (C : Int) = (C : Int) := IntWalk.i64_in _ (by omega)
      have HN4 := Lib.hid (Number_any C 4 (by omega) (by omega))
      have HN8 := Lib.hid (fun W => (show Calls Try.prog 56 #[.int .i64 n, .int .i64 8] W fun e w' => e = .returned (.string ⟨(numB n.toNat 8).toArray⟩) ∧ Fr [] W w' by
        have := Number_any n.toNat 8 (by omega) (by omega) W
        rw [show ((n.toNat : Nat) : Int) = n by omega] at this
        exact this))
      have hEq : (padB t ++ ⟨(numB C 4).toArray⟩) ++ ⟨(numB n.toNat 8).toArray⟩ = bytesV t n := by
        rw [E2]
        unfold blkL
        rw [hC, ← ba_app, ← ba_app]
      have HEq := Lib.hid hEq
      have hs4 : (⟨(numB C 4).toArray⟩ : ByteArray).size = 4 := by show (numB C 4).toArray.size = 4; rw [List.size_toArray, numB_len]
      have hs8 : (⟨(numB n.toNat 8).toArray⟩ : ByteArray).size = 8 := by show (numB n.toNat 8).toArray.size = 8; rw [List.size_toArray, numB_len]
      have hsa : (padB t ++ ⟨(numB C 4).toArray⟩).size = 120 := by rw [ByteArray.size_append, hps, hs4]
      have hcat1 : ¬ 9223372036854775807 < (padB t).size + (⟨(numB C 4).toArray⟩ : ByteArray).size := by omega
      have hcat2 : ¬ 9223372036854775807 < (padB t ++ ⟨(numB C 4).toArray⟩).size + (⟨(numB n.toNat 8).toArray⟩ : ByteArray).size := by omega
      rw [E1]
      clear E1 E2 hC hEq h1 h2
      generalize bytesV t n = V at *
      generalize (⟨(numB n.toNat 8).toArray⟩ : ByteArray) = S8 at *
      generalize (⟨(numB C 4).toArray⟩ : ByteArray) = S4 at *
      generalize padB t = PB at *
      have hcat3 : ¬ 9223372036854775807 < PB.size + S4.size + S8.size := by omega
      clear hs4 hs8 hsa hps
      go_enter Try.func16, Try.ntmps16
      go_wp2_with (first
        | (go_at_call 55; refine (HP.out _).mono ?_; rintro e w1 ⟨rfl, hf1⟩)
        | (go_at_call 57; refine (HS.out _).mono ?_; rintro e w2 ⟨rfl, rfl⟩)
        | (go_at_call 56; first | (refine (HN4.out _).mono ?_; clear HN4; rintro e w3 ⟨rfl, hf3⟩) | (refine (HN8.out _).mono ?_; clear HN8; rintro e w4 ⟨rfl, hf4⟩)))
      go_ret2
      exact ⟨by rw [← HEq.out]; rfl, hf1.trans (hf3.trans hf4)⟩
set_option maxRecDepth 100000 in
set_option maxHeartbeats 1000000 in
theorem rParse_any (s : ByteArray) (w : World) (hs : s.size ≤ maxLen) : Calls Try.prog 18 #[.string s] w fun e w' => e = .returned (ParseR s) ∧ Fr [] w w' := by
  simp only [maxLen] at hs
  by_cases h : s.size = 128
  · obtain ⟨X, Y, T, S, C, hP⟩ := parP s h
    have m1 := fun wx => (sl_h s 116 (116 : Int) rfl wx (by omega)).trans (by rw [hP.x])
    have m2 := fun wx => (sl_lh s 116 120 (116 : Int) (120 : Int) rfl rfl wx (by omega) (by omega)).trans (by rw [hP.y])
    obtain ⟨Q, hQ⟩ : ∃ Q, s.extract 120 s.size = Q := ⟨_, rfl⟩
    have m3 := fun wx => (sl_l s 120 (120 : Int) rfl wx (by omega)).trans (by rw [hQ])
    have hYs : Y.size = 4 := by rw [← hP.y, ByteArray.size_extract]; omega
    have hQs : Q.size = 8 := by rw [← hQ, ByteArray.size_extract]; omega
    obtain ⟨vf, hvf⟩ : ∃ vf : ByteArray → Int, ∀ X, vf X = (big X.data.toList : Int) := ⟨_, fun _ => rfl⟩
    have hV := Lib.hid (fun W X (hX : X.size ≤ 8) => (show Calls Try.prog 60 #[.string X] W fun e w' => e = .returned (.int .u64 (vf X)) ∧ W = w' by rw [hvf]; exact value_any X hX W))
    have hv1 : vf Y = (S : Int) := by rw [hvf, ← hP.su, ← hP.y]; rfl
    have hv2 : vf Q = (T : Int) := by rw [hvf, ← hP.st, ← hQ]; rfl
    have hY8 : Y.size ≤ 8 := by omega
    have hQ8 : Q.size ≤ 8 := by omega
    have HS8 := Lib.hid (And.intro hY8 hQ8)
    clear hY8 hQ8 hvf
    have h57 := Lib.hid (fun W => (show Calls Try.prog 57 #[.string X] W fun e w' => e = .returned (.int .u32 (C : Int)) ∧ W = w' by
      have := rSum_any X W (by rw [hP.xs]; simp [maxLen])
      rw [hP.c] at this
      exact this))
    have hE := hP.e
    have hcl := hP.cl
    have hcu : IntKind.u64.wrap (C : Int) = (C : Int) := u64_in _ (by omega) (by omega)
    have h128 : (s.size : Int) = 128 := by omega
    by_cases hSC : S = C
    · by_cases hT : T ≤ 4611686018427387904
      · have HR := Lib.hid (parseR_ok hP (by rw [hE, if_neg (by omega)]))
        have hT' : ¬ (4611686018427387904 : Int) < (T : Int) := by omega
        have hwT : IntKind.i64.wrap (T : Int) = (T : Int) := IntWalk.i64_in _ (by omega)
        subst hSC
        clear hE hP hYs hQs hQ
        generalize ParseR s = R at *
        go_enter Try.func18, Try.ntmps18
        go_wp2_with fail
        go_region_held3 (fun W => True) (exact trivial) (first
          | (go_at_call 60; refine (hV.out _ _ (by first | exact HS8.out.1 | exact HS8.out.2)).mono ?_; rintro e w1 ⟨rfl, rfl⟩)
          | (go_at_call 57; refine (h57.out _).mono ?_; rintro e w3 ⟨rfl, rfl⟩))
        go_wp2_with fail
        go_region_held3 (fun W => True) (exact trivial) (first
          | (go_at_call 60; refine (hV.out _ _ (by first | exact HS8.out.1 | exact HS8.out.2)).mono ?_; rintro e w1 ⟨rfl, rfl⟩))
        go_wp2_with fail
        go_ret3
        exact ⟨by rw [HR.out]; rfl, ((Fr.refl [] w).drew).drew⟩
      · have HR := Lib.hid (parseR_bad (e := 153) (by rw [hE, if_pos (.inl (by omega))]) (by decide))
        have hT' : (4611686018427387904 : Int) < (T : Int) := by omega
        subst hSC
        clear hE hP hYs hQs hQ hT
        generalize ParseR s = R at *
        go_enter Try.func18, Try.ntmps18
        go_wp2_with fail
        go_region_held3 (fun W => True) (exact trivial) (first
          | (go_at_call 60; refine (hV.out _ _ (by first | exact HS8.out.1 | exact HS8.out.2)).mono ?_; rintro e w1 ⟨rfl, rfl⟩)
          | (go_at_call 57; refine (h57.out _).mono ?_; rintro e w3 ⟨rfl, rfl⟩))
        go_wp2_with fail
        go_ret3
        exact ⟨by rw [HR.out]; rfl, (Fr.refl [] w).drew⟩
    · have HR := Lib.hid (parseR_bad (e := 153) (by rw [hE, if_pos (.inr hSC)]) (by decide))
      have hSC' : ¬ (S : Int) = (C : Int) := by omega
      have hb1 : ((S : Int) != (C : Int)) = true := by simpa using hSC'
      have hb2 : decide ((S : Int) = (C : Int)) = false := by simpa using hSC'
      clear hE hP hYs hQs hQ hSC
      generalize ParseR s = R at *
      go_enter Try.func18, Try.ntmps18
      go_wp2_with fail
      go_quiet (first
        | (go_at_call 60; refine Calls.quiet_of_same ((hV.out _ _ (by first | exact HS8.out.1 | exact HS8.out.2)).mono (fun _ _ h => ⟨h.1, h.2.symm⟩)))
        | (go_at_call 57; refine Calls.quiet_of_same ((h57.out _).mono (fun _ _ h => ⟨h.1, h.2.symm⟩))))
      go_wp2_with fail
      go_ret3
      exact ⟨by rw [HR.out]; rfl, (Fr.refl [] w).drewN _⟩
  · have HR := Lib.hid (parseR_bad (e := 152) (by unfold parseE; rw [if_pos h]) (by decide))
    have h' : ¬ (s.size : Int) = 128 := by omega
    generalize ParseR s = R at *
    go_enter Try.func18, Try.ntmps18
    go_wp2_with fail
    go_ret3
    exact ⟨by rw [HR.out]; rfl, Fr.refl _ _⟩
/-- BlockBytes' walk. -/
theorem parseR_form (s : ByteArray) : ∃ D N E, ParseR s = .tuple #[.string D, .int .i64 N, .int .i64 E] := ⟨_, _, _, rfl⟩
theorem bytes_walk (t : ByteArray) (n : Int) (s : ByteArray) (w : World) (ht : t.size ≤ maxLen) (hs : s.size ≤ maxLen) : Calls Try.prog 3 #[.string t, .int .i64 n, .string s] w fun e w' => e = .returned (.bool true) ∧ Fr [] w w' := by
  have H1 := Lib.hid (fun W => Bytes_any t n W ht)
  have H2 := Lib.hid (fun W => rBytes_any t n W ht)
  have H3 := Lib.hid (fun W => Parse_any s W hs)
  have H4 := Lib.hid (fun W => rParse_any s W hs)
  have H5 := Lib.hid fixed15_any
  obtain ⟨D, N, E, hR⟩ := parseR_form s
  rw [hR] at H3 H4
  generalize bytesV t n = V at *
  generalize bytesE t n = VE at *
  clear hR
  go_enter Try.func3, Try.ntmps3
  go_wp2_with (first
    | (go_at_call 15; refine (H1.out _).mono ?_; rintro e w1 ⟨rfl, hf1⟩)
    | (go_at_call 16; refine (H2.out _).mono ?_; rintro e w2 ⟨rfl, hf2⟩)
    | (go_at_call 17; refine (H3.out _).mono ?_; rintro e w3 ⟨rfl, hf3⟩)
    | (go_at_call 18; refine (H4.out _).mono ?_; rintro e w4 ⟨rfl, hf4⟩)
    | (go_at_call 19; refine (H5.out _).mono ?_; rintro e w5 ⟨rfl, hf5⟩))
  go_ret
  exact ⟨rfl, hf1.trans (hf2.trans (hf3.trans (hf4.trans hf5)))⟩
end Go.Proofs.Ythmnloapjdalpaa
