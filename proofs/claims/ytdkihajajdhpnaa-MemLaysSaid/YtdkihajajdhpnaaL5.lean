/- MemLays, walked. -/
import Derived.Test.YtdkihajajdhpnaaB5
namespace Go.Proofs.Ytdkihajajdhpnaa
open Go.RowKit
set_option linter.unusedVariables false
set_option linter.unusedSimpArgs false
theorem conv_two (x y : Nat) (hx : x < 256) (hy : y < 256) (w1 : World) : (convert 42 9 (.slice (some ⟨w1.heap.size, 0, none⟩) 2 2)).run Try.prog (w1.alloc (.cells #[.int .u8 (x : Int), .int .u8 (y : Int)] 5)) = .ok (.string ⟨#[UInt8.ofNat x, UInt8.ofNat y]⟩) (w1.alloc (.cells #[.int .u8 (x : Int), .int .u8 (y : Int)] 5)) := by
  have hb := Blk.new w1 5 #[.int .u8 (x : Int), .int .u8 (y : Int)]
  refine conv_list [UInt8.ofNat x, UInt8.ofNat y] rfl (fun j c hj => ?_)
  match j, hj with
  | 0, hj =>
    simp at hj
    subst hj
    rw [hb.cell]
    have : (UInt8.ofNat x).toNat = x := by rw [UInt8.toNat_ofNat', Nat.mod_eq_of_lt hx]
    rw [this]
    rfl
  | 1, hj =>
    simp at hj
    subst hj
    rw [hb.cell]
    have : (UInt8.ofNat y).toNat = y := by rw [UInt8.toNat_ofNat', Nat.mod_eq_of_lt hy]
    rw [this]
    rfl
set_option maxRecDepth 100000 in
set_option maxHeartbeats 400000 in
theorem lays_bad (many at_ : Int) (S : ByteArray) (w : World) (h : many < 1 ∨ 160 < many) (A : Option Addr) (m cap : Nat) :
    Calls Try.prog 5 #[.int .i64 many, .slice A m cap, .agg #[.int .i64 at_, .string S]] w fun e w' => e = .returned (.bool true) ∧ Fr [] w w' := by
  have Hn := Lib.hid fun W => New_bad many W h
  have Hx := Lib.hid fun W => fixed_any W
  clear h
  go_enter Try.func5, Try.ntmps5
  go_wp2_with (first
    | (go_at_call 10; go_must ((with_reducible refine (Hn.out _).mono ?_); rintro e w1 ⟨rfl, rfl⟩))
    | (go_at_call 11; go_must ((with_reducible refine (Hx.out _).mono ?_); rintro e w1 ⟨rfl, hf1⟩))
    | fail)
  go_ret
  exact ⟨rfl, ((Fr.refl [] w).alloc _).trans hf1⟩
theorem Try.info42 : (Try.prog.info? 42).map (fun i => (i.zero, i.size, i.bytes)) = some (some (.slice none 0 0), 1, 24) := by kernel_rfl
theorem box2 {W : World} {b : Nat} {T : TypeId} {v0 v1 : Value} (h : Blk W b T #[v0, v1]) : W.cell? ⟨b, 0, none⟩ = some v0 ∧ W.cell? ⟨b, 1, none⟩ = some v1 := by
  rw [h.cell, h.cell]
  exact ⟨rfl, rfl⟩
set_option maxRecDepth 100000 in
set_option maxHeartbeats 4000000 in
theorem lays_ok (n : Nat) (at_ : Int) (S : ByteArray) (tb m cap : Nat) (A : Option Addr) (t : List Pg) (w : World) (h1 : 1 ≤ n) (h2 : n ≤ 160) (ht : Tb w tb (.slice A m cap) t) (htb : tb < w.heap.size ∨ tb = 0)
    (hat : -9223372036854775808 ≤ at_ ∧ at_ ≤ 9223372036854775807) :
    Calls Try.prog 5 #[.int .i64 n, .slice A m cap, .agg #[.int .i64 at_, .string S]] w fun e w' => e = .returned (.bool true) ∧ Fr [] w w' := by
  obtain ⟨i0, hi0, hz0, hz1, hz2⟩ := info3 Try.info42
  have Hn := Lib.hid fun W => New_any n W h1 h2
  have Hx := Lib.hid fun W => fixed_any W
  have Ht := Lib.hid ht
  have hmt := Lib.hid ht.n_eq
  clear ht
  go_enter Try.func5, Try.ntmps5
  go_wp2_with (first
    | (go_at_call 10; go_must ((with_reducible refine (Hn.out _).mono ?_); rintro e w1 ⟨p, F, rfl, hm1, hf1, hp1, hF1⟩))
    | (go_at_call 11; go_must ((with_reducible refine (Hx.out _).mono ?_); rintro e w2 ⟨rfl, hf2⟩))
    | fail)
  have hbox := (Blk.new w 24 #[.int .i64 at_, .string S]).fr hf1 (by simp)
  have HM2 := Lib.hid (hm1.to hf2 (by simp) (by simp))
  have HB2 := Lib.hid (hbox.fr hf2 (by simp))
  have HF2 := Lib.hid ((((Fr.refl [] w).alloc (.cells #[.int .i64 at_, .string S] 24)).trans hf1).trans hf2)
  have hpS : Hid (w.heap.size < p) := Lib.hid (by simp at hp1; omega)
  have hFS : Hid (w.heap.size < F) := Lib.hid (by simp at hF1; omega)
  clear hm1 hf1 hf2 hbox hp1 hF1
  go_loopg [9] n (fun gg i wr => ∃ k : Nat, k + gg = n ∧ i = .int .i64 k ∧ (∃ st, st.n = n ∧ MemAt wr p F st) ∧ Fr [F] w2 wr)
  case atStart => exact ⟨0, by omega, rfl, ⟨_, rfl, HM2.out⟩, Fr.refl _ _⟩
  case round =>
    obtain ⟨k, hk, rfl, ⟨st, hst, hM⟩, hf⟩ := hrel
    have Hk := Lib.hid hk
    have HM := Lib.hid hM
    have Hf := Lib.hid hf
    have Hst := Lib.hid hst
    by_cases hlt : k < n
    · have hki : (k : Int) < (n : Int) := by omega
      have hcv := conv_two k (k + 7) (by omega) (by omega) wr
      have hk7 : ((k + 7 : Nat) : Int) = (k : Int) + 7 := by omega
      rw [hk7] at hcv
      have Hl : Hid (Calls Try.prog 12 #[ptr p, .int .i64 k, .int .i64 0, .string ⟨#[UInt8.ofNat k, UInt8.ofNat (k + 7)]⟩] (wr.alloc (.cells #[.int .u8 k, .int .u8 ((k : Int) + 7)] 5)) fun e w' => e = .returned (.int .i64 0) ∧ (∃ st', st'.n = n ∧ MemAt w' p F st') ∧ Fr [F] (wr.alloc (.cells #[.int .u8 k, .int .u8 ((k : Int) + 7)] 5)) w') :=
        Lib.hid ((Lay_ok p F st _ k 0 _ (hM.to ((Fr.refl [] wr).alloc _) (by simp) (by simp)) (by omega) (by show 0 + 2 ≤ 256; omega)).mono fun e w' ⟨h1, h2, h3⟩ => ⟨h1, ⟨⟨st.n, putL st.b (k * 256 + 0) _⟩, hst, h2⟩, h3⟩)
      generalize UInt8.ofNat k = cc at *
      generalize UInt8.ofNat (k + 7) = cc2 at *
      clear hk hf hM hst hk7
      go_wp2_with (first
        | (go_at_call 12; go_must ((refine (Hl.out).mono ?_); rintro e w3 ⟨rfl, hm3, hf3⟩))
        | fail)
      go_roundg (n - (k + 1))
      case measure => have := Hk.out; omega
      case rel => exact ⟨k + 1, by have := Hk.out; omega, by go_num, hm3, Hf.out.trans (((Fr.refl [F] wr).alloc _).trans hf3)⟩
    · have hki : ¬ (k : Int) < (n : Int) := by omega
      have Hfs := Lib.hid (frames_any p F st wr hM)
      have hbw := HB2.out.fr hf (by have := hFS.out; simp; omega)
      have HBr := Lib.hid hbw
      have HTr := Lib.hid ((Ht.out.fr HF2.out (by simp)).fr hf (by have := hFS.out; simp; omega))
      have HFr : Hid (Fr [] w wr) := Lib.hid (HF2.out.step hf (by have := hFS.out; simp; omega))
      have hwN : Hid (tb < wr.heap.size ∧ w.heap.size < wr.heap.size) := Lib.hid (by have := hbw.lt; have := hFS.out; omega)
      clear hk hf hM hst hbw
      go_wp2_with fail
      refine Hfs.out.mono ?_
      rintro e w4 ⟨v4, rfl, ho4, hf4⟩
      rw [Hst.out] at ho4
      obtain ⟨A4, c4, rfl⟩ := own_shape ho4
      have HO4 := Lib.hid ho4
      have HM4 := Lib.hid (HM.out.to hf4 (by simp) (by simp))
      have HB4 := Lib.hid (HBr.out.fr hf4 (by simp))
      have HT4 := Lib.hid (HTr.out.fr hf4 (by simp))
      have HF4 := Lib.hid (HFr.out.trans hf4)
      have HW : Hid (Calls Try.prog 14 #[ptr p, .slice A m cap, .int .i64 at_, .string S] w4 (WriteP w4 p F st t at_ S)) := Lib.hid (Write_any tb p F m cap st A t at_ S w4 HT4.out HM4.out (by omega) (by have := hwN.out; have := hf4.size; omega))
      obtain ⟨q0, q1⟩ := box2 HB4.out
      clear ho4 hf4
      go_wp2_with fail
      refine HW.out.mono ?_
      rintro e w5 ⟨rfl, hm5, hf5⟩
      have HM5 := Lib.hid hm5
      have HS4 := Lib.hid ((Sl.of_own HO4.out).fr hf5 (fun k hk => by simp at hk; subst hk; exact HM4.out.noTxt))
      have HB5 := Lib.hid (HB4.out.fr hf5 (by have := hFS.out; simp; omega))
      have HT5 := Lib.hid (HT4.out.fr hf5 (by have := hFS.out; simp; omega))
      have HF5 := Lib.hid (HF4.out.step hf5 (by have := hFS.out; simp; omega))
      have Hn5 : Hid ((wrS st t at_ S).n = n) := Lib.hid (by rw [wrS_n]; exact Hst.out)
      have Hfs5 := Lib.hid (frames_any p F (wrS st t at_ S) w5 hm5)
      obtain ⟨E, hE⟩ : ∃ E, wrE st t at_ S = E := ⟨_, rfl⟩
      have HE := Lib.hid hE
      rw [hE]
      clear hm5 hf5 hE
      go_wp2_with fail
      refine Hfs5.out.mono ?_
      rintro e w6 ⟨v6, rfl, ho6, hf6⟩
      rw [Hn5.out] at ho6
      obtain ⟨A6, c6, rfl⟩ := own_shape ho6
      have HS6 := Lib.hid (Sl.of_own ho6)
      have HM6 := Lib.hid (HM5.out.to hf6 (by simp) (by simp))
      have HB6 := Lib.hid (HB5.out.fr hf6 (by simp))
      have HT6 := Lib.hid (HT5.out.fr hf6 (by simp))
      have HF6 := Lib.hid (HF5.out.trans hf6)
      have HS46 := Lib.hid (HS4.out.fr hf6 (by simp))
      have Hw0 : Hid (WantS (w6.alloc (.cells #[] 42)) w6.heap.size (.slice (some ⟨w6.heap.size, 0, none⟩) 0 0) 0 [] st.b) :=
        Lib.hid ⟨World.ownsRow_made (base := w6.heap.size) (e := 42) (size := 1) w6 #[] 0 (Nat.le_refl _) (by simp [maxLen]) (by simp), rfl, fun i x hx => by simp at hx, fun i j x y hx => by simp at hx⟩
      have hw06 : Hid (Fr [] w6 (w6.alloc (.cells #[] 42))) := Lib.hid ((Fr.refl [] w6).alloc _)
      have HM6n : Hid (MemAt w6 p F (wrS st t at_ S)) := HM6
      obtain ⟨wo, rfl⟩ : ∃ wo : World, wo = wr := ⟨_, rfl⟩
      clear ho6 hf6
      go_wp2_with fail
      go_loopg [12, 13] n (fun gg x i wr2 => ∃ (k : Nat) (B : Option Addr) (c : Nat) (gs : List (Nat × Nat)), k + gg = n ∧ i = .int .i64 k ∧ x = .slice B k c ∧ WantS wr2 w6.heap.size (.slice B k c) k gs st.b ∧ Fr [] w6 wr2)
      case atStart => exact ⟨0, _, _, [], by omega, rfl, rfl, Hw0.out, hw06.out⟩
      case round =>
        obtain ⟨k, B, c, gs, hk, rfl, rfl, hwt, hf⟩ := hrel
        have Hk := Lib.hid hk
        have HWt := Lib.hid hwt
        have Hf := Lib.hid hf
        by_cases hlt : k < n
        · have hki : (k : Int) < (n : Int) := by omega
          have hk0 : (0 : Int) ≤ (k : Int) := by omega
          obtain ⟨g4, o4, c4', e4, cell4⟩ := (HS46.out.fr hf (by simp)).str_at (show (framesL st n)[k]? = some (frS st k) by simp [framesL, hlt])
          injection e4 with e4 _ e4'
          subst e4; subst e4'
          have hcv := run_bytes_of_string (P := Try.prog) wr 9 42 5 (frS st k) Try.underlying9 Try.underlying42 Try.underlying5
          obtain ⟨C, hC, hC1, hC2⟩ : ∃ C, grownCap wr 256 0 5 = C ∧ 256 ≤ C ∧ C ≤ maxLen := ⟨_, rfl, by have := grownCap_ge wr 256 0 5; omega, grownCap_le_maxLen wr 256 0 5 (by simp [maxLen])⟩
          have hwb := Wb.made wr (frS st k) C (fun j => st.b (k * 256 + j)) (fun i hi => by
            have : (frS st k).data[i]? = (frB st k)[i]? := by simp [frS]
            rw [this]
            exact frB_at st k i (by rw [frS_size] at hi; exact hi))
          rw [frS_size] at hcv hwb
          rw [hC] at hcv
          have hsz := hf.size
          generalize hR : bytesRow (frS st k) C = R at *
          generalize frS st k = FS at *
          have HX := Lib.hid (own_fr hwt.1 ((((Fr.refl [] wr).alloc (.cells R 5 (R.size, R.size + 1))).alloc (.cells #[.slice (some ⟨wr.heap.size, 0, none⟩) 256 C] 42)).drew) (by simp))
          have hnb0 := (Blk.new (wr.alloc (.cells R 5 (R.size, R.size + 1))) 42 #[.slice (some ⟨wr.heap.size, 0, none⟩) 256 C]).drew.cell 0
          rw [World.size_alloc] at hnb0
          have Hnb : Hid (((wr.alloc (.cells R 5 (R.size, R.size + 1))).alloc (.cells #[.slice (some ⟨wr.heap.size, 0, none⟩) 256 C] 42)).drew.cell? ⟨wr.heap.size + 1, 0, none⟩ = some (.slice (some ⟨wr.heap.size, 0, none⟩) 256 C)) := Lib.hid hnb0
          have Hwb := Lib.hid ((hwb.fr ((Fr.refl [] _).alloc (.cells #[.slice (some ⟨wr.heap.size, 0, none⟩) 256 C] 42)) (by simp)).fr ((Fr.refl [] _).drew) (by simp))
          have Hfa : Hid (Fr [] wr ((wr.alloc (.cells R 5 (R.size, R.size + 1))).alloc (.cells #[.slice (some ⟨wr.heap.size, 0, none⟩) 256 C] 42)).drew) := Lib.hid (((Fr.refl [] wr).alloc _).alloc _).drew
          clear hk hf hwt hC hR hwb hnb0
          go_wp2_with (at_builtin; go_must (refine wpList_append_own _ rfl (.tmp 65) (.tmp 71) 46 rfl w6.heap.size 42 i0 (.slice none 0 0) 1 24 Try.underlying46 hi0 hz0 hz1 hz2 rfl (by decide) _ k _ rfl HX.out ⟨wr.heap.size + 1, 0, none⟩ 1 1 [.slice (some ⟨wr.heap.size, 0, none⟩) 256 C] rfl rfl (news1 Hnb.out) (by simp [Value.oneCell']) (by simp only [maxLen]; omega) (by omega) (by simp; omega) ?_; intro x' w7 hox7 hgx7 _; obtain ⟨A7, c7, rfl⟩ := own_shape hox7; have hwt7 := HWt.out.push Hfa.out (Nat.le_refl _) hsz hC1 hC2 Hwb.out hox7 hgx7; have hf7 := (Hf.out.trans Hfa.out).own HX.out hgx7))
          go_roundg (n - (k + 1))
          case measure => have := Hk.out; omega
          case rel => exact ⟨k + 1, A7, c7, gs ++ [(wr.heap.size, C)], by have := Hk.out; omega, by go_num, rfl, hwt7, hf7⟩
        · have hki : ¬ (k : Int) < (n : Int) := by omega
          obtain rfl : n = k := by omega
          obtain ⟨w7, rfl⟩ : ∃ w7 : World, w7 = wr := ⟨_, rfl⟩
          clear hk hf hwt Hk hlt
          obtain ⟨N3, B3, hb0, hbN, hN3, hstep⟩ : ∃ (N3 : Nat) (B3 : Nat → Nat → UInt8), B3 0 = st.b ∧ B3 N3 = (wrS st t at_ S).b ∧ (E = 0 ∧ N3 = S.size ∨ E ≠ 0 ∧ N3 = 0) ∧ ∀ k, k < N3 → ∃ (h : k < S.size) (a f : Nat) (pg : Pg), E = 0 ∧ at_ = (a : Int) ∧ a + k < t.length * 256 ∧ t.length ≤ 16 ∧ t[(a + k) / 256]? = some pg ∧ pg.f = (f : Int) ∧ f < n ∧ 0 ≤ pg.r ∧ pg.r ≤ 7 ∧ ¬ pg.r / 2 % 2 = 0 ∧ B3 (k + 1) = upd (B3 k) (f * 256 + (a + k) % 256) (S.data[k]'h) := by
            by_cases hE : E = 0
            · obtain ⟨hT, hs, hch, hwS⟩ := wr_done (HE.out.trans hE)
              refine ⟨S.size, fun k => wrB t st.b at_ (S.data.toList.take k), rfl, ?_, .inl ⟨hE, rfl⟩, fun k hk => ⟨hk, ?_⟩⟩
              · rw [hwS]
                show wrB t st.b at_ (S.data.toList.take S.size) = _
                rw [List.take_of_length_le (by simp)]
              · obtain ⟨a, _, ha, -⟩ := ch1_wr hT (hch 0 (by omega))
                have ha' : at_ = (a : Int) := by omega
                obtain ⟨q, pg, hq, hql, hpg, f0, f1, r0, r7, hr, hl⟩ := ch1_wr hT (hch k hk)
                obtain rfl : q = a + k := by omega
                refine ⟨a, pg.f.toNat, pg, hE, ha', hql, okT_len hT, hpg, by omega, by have := Hst.out; omega, r0, r7, hr, ?_⟩
                show wrB t st.b at_ (S.data.toList.take (k + 1)) = _
                rw [wrB_take hk, hl]
            · refine ⟨0, fun _ => st.b, rfl, ?_, .inr ⟨hE, rfl⟩, fun k hk => by omega⟩
              unfold wrS
              rw [if_neg (by rw [HE.out]; exact hE)]
          have HbN := Lib.hid hbN
          have HN3 := Lib.hid hN3
          have Hstep := Lib.hid hstep
          rw [← hb0] at HWt
          clear hb0 hbN hN3 hstep
          go_wp2_with fail
          go_loopg [14] N3 (fun gg i wr3 => ∃ k : Nat, k + gg = N3 ∧ i = .int .i64 k ∧ WantS wr3 w6.heap.size (.slice B n c) n gs (B3 k) ∧ Fr [] w6 wr3)
          case atStart => exact ⟨0, by omega, rfl, HWt.out, Hf.out⟩
          case round =>
            obtain ⟨k, hk, rfl, hwt, hf⟩ := hrel
            have Hk := Lib.hid hk
            have HWt3 := Lib.hid hwt
            have Hf3 := Lib.hid hf
            by_cases hlt : k < N3
            · obtain ⟨hkS, a, f, pg, rfl, rfl, hal, ht16, hpg, hpf, hfn, r0, r7, hr2, hB3⟩ := Hstep.out k hlt
              obtain ⟨x, hx⟩ : ∃ x, gs[f]? = some x := ⟨_, List.getElem?_eq_getElem (by rw [hwt.2.1]; exact hfn)⟩
              obtain ⟨gw, rfl, cw, _⟩ := hwt.at_ hx
              obtain ⟨off, rfl, hbl, cp0, cp1⟩ := (HT6.out.fr hf (by simp)).at_ hpg
              rw [hpf] at cp0
              obtain ⟨b0, b1⟩ := box2 (HB6.out.fr hf (by simp))
              have hxw := (hwt.2.2.1 f x hx).2.2.2
              have hcell := hxw.cell (i := (a + k) % 256) (by omega)
              have hfz : wr.drew.frozen? ⟨x.1, (a + k) % 256, none⟩ = false := hxw.frozen (by omega)
              have hput := hwt.put hx (o := (a + k) % 256) (by omega) (S.data[k]'hkS)
              rw [← hB3] at hput
              have hfp := hf.setCell (p := ⟨x.1, (a + k) % 256, none⟩) (.inr (hwt.2.2.1 f x hx).1) (.int .u8 ((S.data[k]'hkS).toNat : Int))
              have Hput := Lib.hid hput
              have Hfp := Lib.hid hfp
              have hkS2 : (k : Int) < (S.size : Int) := by omega
              have hm0 := hmt.out
              have hd0 : (0 : Int) ≤ (a : Int) + (k : Int) := by omega
              have hd1 : (a : Int) + (k : Int) < 4096 := by omega
              have hd2 : ((a : Int) + (k : Int)) / 256 < (m : Int) := by omega
              have hd3 : (0 : Int) ≤ ((a : Int) + (k : Int)) / 256 := by omega
              have hd4 : (0 : Int) ≤ ((a : Int) + (k : Int)) % 256 := by omega
              have hd5 : ((a : Int) + (k : Int)) % 256 < 256 := by omega
              have hkk : (0 : Int) ≤ (k : Int) := by omega
              have hf0 : (0 : Int) ≤ (f : Int) := by omega
              have hf1 : (f : Int) < (n : Int) := by omega
              have hr2b : (pg.r / 2 % 2 == 0) = false := by rw [beq_eq_false_iff_ne]; exact hr2
              generalize pg.r = rr at *
              clear hk hf hwt hpg hpf hal hx hput hfp hB3 hr2 hxw hm0 hbl
              go_wp2_with fail
              have hdv : IntKind.i64.wrap (((a : Int) + (k : Int)).tdiv 256) = ((a : Int) + (k : Int)) / 256 := by rw [Int.tdiv_eq_ediv_of_nonneg hd0]; exact IntWalk.i64_in _ (by omega)
              have hmd : ((a : Int) + (k : Int)).tmod 256 = ((a : Int) + (k : Int)) % 256 := Int.tmod_eq_emod_of_nonneg hd0
              have hdt : (((a : Int) + (k : Int)) / 256).toNat = (a + k) / 256 := by omega
              have hmt' : (((a : Int) + (k : Int)) % 256).toNat = (a + k) % 256 := by omega
              go_still_tail 16, (by kernel_rfl)
              change wpList _ _ _ _ _ wr.drew
              go_wp2_with fail
              go_roundg (N3 - (k + 1))
              case measure => have := Hk.out; omega
              case rel => exact ⟨k + 1, by have := Hk.out; omega, by go_num, Hput.out.fr ((Fr.refl [] _).drew), Hfp.out.drew⟩
            · have hkN : k = N3 := by omega
              rw [hkN, HbN.out] at hwt
              have HWt4 := Lib.hid hwt
              have hx : ¬ (k : Int) < (S.size : Int) ∨ ((k : Int) < (S.size : Int) ∧ (E == 0) = false) := by
                rcases HN3.out with ⟨h1, h2⟩ | ⟨h1, h2⟩
                · exact .inl (by omega)
                · by_cases h3 : (k : Int) < (S.size : Int)
                  · exact .inr ⟨h3, by rw [beq_eq_false_iff_ne]; exact h1⟩
                  · exact .inl h3
              obtain ⟨w8, rfl⟩ : ∃ w8 : World, w8 = wr := ⟨_, rfl⟩
              obtain ⟨b0, b1⟩ := box2 (HB6.out.fr hf (by simp))
              clear hk hf hwt hkN Hk hlt
              have hsz6 := Hf3.out.size
              rcases hx with hx | ⟨hx, hx2⟩
              all_goals
                go_wp2_with fail
                go_loopg [16] n (fun gg i wr4 => ∃ k : Nat, k + gg = n ∧ i = .int .i64 k ∧ Fr [] w8 wr4)
                case atStart => exact ⟨0, by omega, rfl, Fr.refl _ _⟩
                case round =>
                  obtain ⟨k4, hk4, rfl, hf4⟩ := hrel
                  have Hk4 := Lib.hid hk4
                  have Hf4 := Lib.hid hf4
                  by_cases hlt4 : k4 < n
                  · have hki4 : (k4 : Int) < (n : Int) := by omega
                    have hk40 : (0 : Int) ≤ (k4 : Int) := by omega
                    have hwt4 := HWt4.out.fr hf4
                    obtain ⟨x, hx4⟩ : ∃ x, gs[k4]? = some x := ⟨_, List.getElem?_eq_getElem (by rw [hwt4.2.1]; exact hlt4)⟩
                    obtain ⟨gw, hgw, cw, _⟩ := hwt4.at_ hx4
                    obtain ⟨g6, o6, c6', e6, cell6⟩ := ((HS6.out.fr Hf3.out (by simp)).fr hf4 (by simp)).str_at (show (framesL (wrS st t at_ S) n)[k4]? = some (frS (wrS st t at_ S) k4) by simp [framesL, hlt4])
                    injection e6 with e6 _ e6'
                    have hxw := (hwt4.2.2.1 k4 x hx4).2.2.2
                    have hcv4 : (convert 42 9 (.slice (some ⟨x.1, 0, none⟩) 256 x.2)).run Try.prog wr.drew = .ok (.string (frS (wrS st t at_ S) k4)) wr.drew := by
                      refine conv_list (frB (wrS st t at_ S) k4) (frB_len _ _) (fun j c hj => ?_)
                      have hj2 : j < 256 := by have := (List.getElem?_eq_some_iff.1 hj).1; rwa [frB_len] at this
                      rw [frB_at _ _ _ hj2] at hj
                      injection hj with hj
                      rw [← hj, Nat.zero_add]
                      exact hxw.cell hj2
                    generalize frS (wrS st t at_ S) k4 = FS at *
                    subst e6 hgw
                    clear hk4 hf4 hwt4 hx4 hxw e6'
                    go_wp2_with fail
                    go_region
                    all_goals go_wp2_with fail
                    go_roundg (n - (k4 + 1))
                    case measure => have := Hk4.out; omega
                    case rel => exact ⟨k4 + 1, by have := Hk4.out; omega, by go_num, Hf4.out.drew⟩
                  · have hki4 : ¬ (k4 : Int) < (n : Int) := by omega
                    clear hk4 hf4
                    go_wp2_with fail
                    go_ret
                    exact ⟨rfl, (HF6.out.trans Hf3.out).trans Hf4.out⟩
theorem lays_walk (many at_ : Int) (S : ByteArray) (tb m cap : Nat) (A : Option Addr) (t : List Pg) (w : World) (ht : Tb w tb (.slice A m cap) t) (htb : tb < w.heap.size ∨ tb = 0)
    (hat : -9223372036854775808 ≤ at_ ∧ at_ ≤ 9223372036854775807) :
    Calls Try.prog 5 #[.int .i64 many, .slice A m cap, .agg #[.int .i64 at_, .string S]] w fun e w' => e = .returned (.bool true) ∧ Fr [] w w' := by
  by_cases h : many < 1 ∨ 160 < many
  · exact lays_bad many at_ S w h A m cap
  · obtain ⟨n, rfl⟩ := Int.eq_ofNat_of_zero_le (by omega : 0 ≤ many)
    exact lays_ok n at_ S tb m cap A t w (by omega) (by omega) ht htb hat
end Go.Proofs.Ytdkihajajdhpnaa
