/- The reference's console: Draw. -/
import Derived.Test.YtkjahokffpihmaaDoorC28
import Derived.Test.YtkjahokffpihmaaDoorRd2
namespace Go.Proofs.YtkjahokffpihmaaDoor
open Go.RowKit
set_option linter.unusedVariables false
set_option linter.unusedSimpArgs false
set_option maxRecDepth 100000
/-- A row with one byte laid anew. -/
theorem put_rows {s : Sc} (hl : s.ln ≤ 5) (hc : s.cl < 24) (b : UInt8) : screenL (sput s b) = (screenL s).set s.ln ((rowB s s.ln).extract 0 s.cl ++ ⟨#[b]⟩ ++ (rowB s s.ln).extract (s.cl + 1) 24) := by
  apply List.ext_getElem?
  intro j
  by_cases hj : j < 6
  · have e1 : (screenL (sput s b))[j]? = some (rowB (sput s b) j) := by simp [screenL, hj]
    have e2 : (screenL s)[j]? = some (rowB s j) := by simp [screenL, hj]
    rw [e1, List.getElem?_set]
    by_cases hjl : s.ln = j
    · subst hjl
      rw [if_pos rfl, if_pos (by rw [screen_len]; omega)]
      congr 1
      apply ByteArray.ext
      apply Array.toList_inj.1
      have ed : ((rowB s s.ln).extract 0 s.cl ++ ⟨#[b]⟩ ++ (rowB s s.ln).extract (s.cl + 1) 24).data.toList = (rowL s s.ln).take s.cl ++ [b] ++ ((rowL s s.ln).drop (s.cl + 1)).take (24 - (s.cl + 1)) := by
        rw [ByteArray.data_append, ByteArray.data_append, ByteArray.data_extract, ByteArray.data_extract]
        simp only [Array.toList_append, Array.toList_extract, List.extract_eq_take_drop, List.drop_zero, Nat.sub_zero]
        rfl
      rw [ed]
      show (rowL (sput s b) s.ln).toArray.toList = _
      rw [List.toList_toArray]
      have hlen : ((rowL s s.ln).take s.cl).length = s.cl := by rw [List.length_take, rowL_len]; omega
      apply List.ext_getElem?
      intro c
      by_cases hc24 : c < 24
      · rw [rowL_at _ _ hc24]
        show some (if s.ln * 24 + c = s.ln * 24 + s.cl then b else s.g (s.ln * 24 + c)) = _
        by_cases h1 : c < s.cl
        · rw [if_neg (by omega), List.append_assoc, List.getElem?_append_left (by omega), List.getElem?_take, if_pos h1, rowL_at _ _ hc24]
        · by_cases h2 : c = s.cl
          · subst h2
            rw [if_pos rfl, List.append_assoc, List.getElem?_append_right (by omega), hlen, Nat.sub_self]
            rfl
          · rw [if_neg (by omega), List.getElem?_append_right (by rw [List.length_append, hlen]; simp; omega), List.length_append, hlen, List.getElem?_take, if_pos (by simp; omega), List.getElem?_drop, show s.cl + 1 + (c - (s.cl + [b].length)) = c by simp; omega, rowL_at _ _ hc24]
      · rw [List.getElem?_eq_none (by rw [rowL_len]; omega), List.getElem?_eq_none (by simp [rowL_len]; omega)]
    · rw [if_neg hjl, e2]
      congr 1
      apply ByteArray.ext
      show (rowL _ j).toArray = (rowL s j).toArray
      congr 1
      apply List.ext_getElem?
      intro c
      by_cases hc24 : c < 24
      · rw [rowL_at _ j hc24, rowL_at s j hc24]
        show some (if j * 24 + c = s.ln * 24 + s.cl then b else s.g (j * 24 + c)) = _
        rw [if_neg (by omega)]
      · rw [List.getElem?_eq_none (by rw [rowL_len]; omega), List.getElem?_eq_none (by rw [rowL_len]; omega)]
  · rw [List.getElem?_eq_none (by rw [screen_len]; omega), List.getElem?_eq_none (by rw [List.length_set, screen_len]; omega)]
theorem rowB_sz (s : Sc) (i : Nat) : (rowB s i).size = 24 := by
  show (rowL s i).toArray.size = 24
  rw [List.size_toArray, rowL_len]
/-- The world while a row's byte is laid: what has run of the slice's making (b18) and the store (b36). -/
structure DW (w3 : World) (y g N : Nat) (cy cs : Array Value) (X : ByteArray) (vb : Int) (xb : Nat) (b18 b36 : Bool) (w' : World) : Prop where
  b : Blk w' y 62 cy
  gb : Blk w' g 9 (bif b36 then cs.setIfInBounds N (.string X) else cs)
  a : b18 = true → b36 = false → w'.cell? ⟨xb, 0, none⟩ = some (.int .u8 vb)
  f : Fr [g] w3 w'
section
variable {w3 w' : World} {y g N xb : Nat} {cy cs : Array Value} {X : ByteArray} {vb : Int} {b18 b36 : Bool}
theorem DW.row {v : Value} (h : DW w3 y g N cy cs X vb xb b18 false w') (hc : cs[N]? = some v) : w'.cell? ⟨g, N, none⟩ = some v := (h.gb.cell N).trans hc
theorem DW.al (h : DW w3 y g N cy cs X vb xb false false w') : DW w3 y g N cy cs X vb w'.heap.size true false (w'.alloc (.cells #[.int .u8 vb] 5)) :=
  ⟨h.b.alloc _, h.gb.alloc _, fun _ _ => by simp, h.f.alloc _⟩
theorem DW.st (h : DW w3 y g N cy cs X vb xb b18 false w') : DW w3 y g N cy cs X vb xb b18 true (w'.setCell ⟨g, N, none⟩ (.string X)) := by
  by_cases hyg : y = g
  · exact absurd ((hyg ▸ h.b : Blk w' g 62 cy).eq h.gb).1 (by decide)
  · exact ⟨h.b.far hyg _, h.gb.set_ N _, (fun _ h9 => by cases h9), h.f.setCell (by simp) _⟩
end
theorem rows_set {l : List ByteArray} {cs : Array Value} {N : Nat} {X : ByteArray} (h : ∀ (i : Nat) (s : ByteArray), l[i]? = some s → cs[i]? = some (.string s)) (hN : N < l.length) : ∀ (i : Nat) (s : ByteArray), (l.set N X)[i]? = some s → (cs.setIfInBounds N (.string X))[i]? = some (.string s) := by
  intro i s hi
  rw [List.getElem?_set] at hi
  rw [Array.getElem?_setIfInBounds]
  split at hi
  · next hNi =>
    subst hNi
    injection hi with hi
    subst hi
    have := h N _ (List.getElem?_eq_getElem hN)
    have hs : N < cs.size := (Array.getElem?_eq_some_iff.1 this).1
    rw [if_pos rfl, if_pos hs]
  · next hNi =>
    rw [if_neg hNi]
    exact h i s hi
theorem vis_toNat (b : UInt8) : (vis b).toNat = if b.toNat < 32 ∨ 126 < b.toNat then 63 else b.toNat := by
  unfold vis
  simp only [UInt8.lt_iff_toNat_lt, Bool.or_eq_true, decide_eq_true_eq, show (32 : UInt8).toNat = 32 from rfl, show (126 : UInt8).toNat = 126 from rfl]
  split
  · rfl
  · rfl
set_option maxHeartbeats 4000000 in
theorem rdraw_any (w : World) (y r : Nat) (h0 h1 h2 h3 h4 h5 : Value) (s : Sc) (h : Rw w y h0 h1 h2 h3 h4 h5 r s) (t : ByteArray) (ht : t.size ≤ maxLen) : Calls Tryd.prog 45 #[ptr y, .string t] w (RwP w y h0 h1 h2 h3 h4 h5 (ssays s t.data.toList) fun r' => r' = r ∨ w.heap.size ≤ r') := by
  have HS := Lib.hid h
  have hts : t.size ≤ 9223372036854775807 := by simpa [maxLen] using ht
  obtain ⟨i0, hi0, hz0, hz1, hz2⟩ := info3 Tryd.info9
  have mx6 : 0 + 6 ≤ maxLen := by simp [maxLen]
  unfold RwP
  clear h ht
  go_enter Tryd.func45, Tryd.ntmps45
  go_wp2_with fail
  go_loopg [4, 5, 6] t.size (fun gg i r1 r2 wr => ∃ (k r' : Nat), k + gg = t.size ∧ i = .int .i64 k ∧ Rw wr y h0 h1 h2 h3 h4 h5 r' (ssays s (t.data.toList.take k)) ∧ Fr [y] w wr ∧ (r' = r ∨ w.heap.size ≤ r'))
  case atStart => exact ⟨0, r, by omega, rfl, HS.out, Fr.refl _ _, .inl rfl⟩
  case round =>
    obtain ⟨k, r', hk, rfl, hR, hf, hr⟩ := hrel
    have Hk := Lib.hid hk
    have HR := Lib.hid hR
    have HF := Lib.hid hf
    have Hr := Lib.hid hr
    by_cases hkl : k < t.size
    · have hkl' : (k : Int) < (t.size : Int) := by omega
      have hk0 : (0 : Int) ≤ (k : Int) := by omega
      have HSN : Hid (ssays s (t.data.toList.take (k + 1)) = sdraw (ssays s (t.data.toList.take k)) t[k]) := Lib.hid (by
        rw [List.take_succ_eq_append_getElem (by simpa using hkl), ssays_append]
        rfl)
      obtain ⟨s1, hs1⟩ : ∃ s1, ssays s (t.data.toList.take k) = s1 := ⟨_, rfl⟩
      rw [hs1] at HSN HR
      clear hk hR hf hr hs1
      by_cases hb : t[k].toNat = 10
      · have e1 : ((t[k].toNat : Int) == 10) = true := by rw [hb]; rfl
        have HE : Hid (ssays s (t.data.toList.take (k + 1)) = sfeed s1) := Lib.hid (by
          rw [HSN.out]
          unfold sdraw
          rw [if_pos (by apply UInt8.toNat_inj.1; exact hb)])
        have HFE := Lib.hid (rfeed_any wr y r' h0 h1 h2 h3 h4 h5 s1 HR.out)
        clear hb
        go_wp2_with (go_at_call 62; refine HFE.out.mono ?_; rintro e w2 ⟨rfl, r2, hR2, hf2, hr2⟩; have HR2 := Lib.hid hR2; have HF2 := Lib.hid (HF.out.trans hf2); have Hr2 := Lib.hid (show r2 = r ∨ w.heap.size ≤ r2 by have := Hr.out; have := HF.out.size; omega); clear hR2 hf2 hr2)
        go_roundg (t.size - (k + 1))
        case measure => have := Hk.out; omega
        case rel => exact ⟨k + 1, r2, by have := Hk.out; omega, by go_num, by rw [HE.out]; exact HR2.out, HF2.out, Hr2.out⟩
      · have e1 : ((t[k].toNat : Int) == 10) = false := beq_eq_false_iff_ne.2 (by omega)
        have HE : Hid (ssays s (t.data.toList.take (k + 1)) = sput (swrap s1) (vis t[k])) := Lib.hid (by
          rw [HSN.out]
          unfold sdraw
          rw [if_neg (by intro he; apply hb; rw [he]; rfl)])
        have hv := vis_toNat t[k]
        clear hb HSN
        obtain ⟨⟨cr0, hb0, hcr0⟩, hkr0, hok0⟩ := HR.out
        have c8 := hb0.cell 8
        simp at c8
        clear hb0 hcr0 hkr0
        go_upto_if 24 with (fail)
        go_cut [] (fun wx => ∃ r2, Rw wx y h0 h1 h2 h3 h4 h5 r2 (swrap s1) ∧ Fr [y] wr wx ∧ (r2 = r' ∨ wr.heap.size ≤ r2))
        case first =>
          by_cases h24 : s1.cl = 24
          · have e2 : ((s1.cl : Int) == 24) = true := by rw [h24]; rfl
            have HW : Hid (swrap s1 = sfeed s1) := Lib.hid (by unfold swrap; rw [if_pos h24])
            have HFE := Lib.hid (rfeed_any wr y r' h0 h1 h2 h3 h4 h5 s1 HR.out)
            clear h24 hok0
            go_wp2_with (go_at_call 62; refine HFE.out.mono ?_; rintro e w2 ⟨rfl, r2, hR2, hf2, hr2⟩; have HR2 := Lib.hid hR2; have HF2 := Lib.hid hf2; have Hr2 := Lib.hid hr2; clear hR2 hf2 hr2)
            go_meet
            exact ⟨r2, by rw [HW.out]; exact HR2.out, HF2.out, Hr2.out⟩
          · have e2 : ((s1.cl : Int) == 24) = false := beq_eq_false_iff_ne.2 (by omega)
            have HW : Hid (swrap s1 = s1) := Lib.hid (by unfold swrap; rw [if_neg h24])
            clear h24 hok0
            go_wp2_with fail
            go_meet
            exact ⟨r', by rw [HW.out]; exact HR.out, Fr.refl _ _, .inl rfl⟩
        case rest =>
          obtain ⟨r2, hR2, hf2, hr2⟩ := hcut
          have hsw := swrap_ok hok0
          have HF2 := Lib.hid (HF.out.trans hf2)
          have Hr2 := Lib.hid (show r2 = r ∨ w.heap.size ≤ r2 by have := Hr.out; have := HF.out.size; omega)
          obtain ⟨s2, hs2⟩ : ∃ s2, swrap s1 = s2 := ⟨_, rfl⟩
          rw [hs2] at HE hR2 hsw
          clear c8 hok0 hf2 hr2 hs2 HR HF Hr
          have HR2 := Lib.hid hR2
          clear hR2
          obtain ⟨odd, hodd⟩ : ∃ odd : Bool, decide (t[k].toNat < 32 ∨ 126 < t[k].toNat) = odd := ⟨_, rfl⟩
          go_upto_region 8 with (fail)
          go_cut [32] (fun v wx => v = .bool odd ∧ wx = wc)
          case first =>
            by_cases hb1 : t[k].toNat < 32
            · have d1 : (t[k].toNat : Int) < 32 := by omega
              have ho : odd = true := by rw [← hodd]; exact decide_eq_true (.inl hb1)
              clear hb1 hodd
              go_wp2_with fail
              go_meet
              exact ⟨by rw [ho], rfl⟩
            · have d1 : ¬ (t[k].toNat : Int) < 32 := by omega
              by_cases hb2 : 126 < t[k].toNat
              · have d2 : (126 : Int) < (t[k].toNat : Int) := by omega
                have ho : odd = true := by rw [← hodd]; exact decide_eq_true (.inr hb2)
                clear hb1 hb2 hodd
                go_wp2_with fail
                go_meet
                exact ⟨by rw [ho], rfl⟩
              · have d2 : ¬ (126 : Int) < (t[k].toNat : Int) := by omega
                have ho : odd = false := by rw [← hodd]; exact decide_eq_false (by omega)
                clear hb1 hb2 hodd
                go_wp2_with fail
                go_meet
                exact ⟨by rw [ho], rfl⟩
          case rest =>
          obtain ⟨rfl, rfl⟩ := hcut
          go_upto_if 32 with (fail)
          go_cut [5] (fun b5 wx => b5 = .int .u8 ((vis t[k]).toNat : Int) ∧ wx = wc)
          case first =>
            cases odd with
            | true =>
              rw [if_pos (of_decide_eq_true hodd)] at hv
              clear hodd
              go_wp2_with fail
              go_meet
              exact ⟨by rw [hv]; rfl, rfl⟩
            | false =>
              rw [if_neg (of_decide_eq_false hodd)] at hv
              clear hodd
              go_wp2_with fail
              go_meet
              exact ⟨by rw [hv], rfl⟩
          case rest =>
            obtain ⟨rfl, rfl⟩ := hcut
            clear hv hodd
            obtain ⟨bb, hbb⟩ : ∃ bb, vis t[k] = bb := ⟨_, rfl⟩
            rw [hbb] at HE ⊢
            clear hbb
            obtain ⟨⟨cr, hb, hcr⟩, hkr, hok⟩ := HR2.out
            obtain ⟨hl5, hc24⟩ := hsw
            have c6 := hb.cell 6
            have c7 := hb.cell 7
            have c8 := hb.cell 8
            simp at c6 c7 c8
            have f6 := hb.frozen 6
            have f8 := hb.frozen 8
            have hlt := hb.lt
            have HB := Lib.hid hb
            have HO1 := Lib.hid (own_made0 (W := wc) wc.heap.size (Nat.le_refl _) rfl)
            have HN1 := Lib.hid (news_strs (hkr.fr ((Fr.refl [] wc).alloc (.cells #[] 9)) (by simp)).strs)
            have HL1 : Hid ((strL (screenL s2)).length = 6 * 1) := Lib.hid (by rw [strL_len, screen_len])
            have HS1 := Lib.hid (strL_one (screenL s2))
            clear hb hkr
            go_wp2_with (first
              | (at_builtin; go_must (refine wpList_append_own _ rfl (.tmp 33) (.tmp 37) 36 rfl wc.heap.size 9 i0 (.string ⟨#[]⟩) 1 16 Tryd.underlying36 hi0 hz0 hz1 hz2 rfl (Nat.succ_pos 0) (.slice (some ⟨wc.heap.size, 0, none⟩) 0 0) 0 [] rfl HO1.out ⟨r2, 0, none⟩ 6 cr (strL (screenL s2)) rfl HL1.out HN1.out HS1.out mx6 (by omega) (by simp) ?_; intro v3 w3 ho3 hg3 hn3; rw [List.nil_append] at ho3; obtain ⟨g3, c3, rfl⟩ : ∃ g cap, v3 = .slice (some ⟨g, 0, none⟩) 6 cap := own_succ ho3; have HF3 : Hid (Fr [wc.heap.size] (wc.alloc (.cells #[] 9)) w3) := Lib.hid (Fr.of_own hg3); have HB3 := Lib.hid ((HB.out.alloc (.cells #[] 9)).fr HF3.out (by simp; omega)); have HK3 := Lib.hid (keys_own ho3); clear ho3 hg3 hn3 c6 c7 c8 f6 f8)))
            obtain ⟨cs3, hb3, hcs3⟩ := HK3.out.1
            have hrow : (screenL s2)[s2.ln]? = some (rowB s2 s2.ln) := by simp [screenL, show s2.ln < 6 by omega]
            have hc0 := hcs3 _ _ hrow
            have HRS : Hid ((rowB s2 s2.ln).size = 24) := Lib.hid (rowB_sz _ _)
            have HPR := Lib.hid (put_rows hl5 hc24 bb)
            have HKR := Lib.hid hcs3
            obtain ⟨RR, hRR⟩ : ∃ RR, rowB s2 s2.ln = RR := ⟨_, rfl⟩
            rw [hRR] at hc0 HRS HPR
            obtain ⟨N, hN⟩ : ∃ N, s2.ln = N := ⟨_, rfl⟩
            obtain ⟨M, hM⟩ : ∃ M, s2.cl = M := ⟨_, rfl⟩
            have HNM := Lib.hid (And.intro hN hM)
            have HB3' : Hid (Blk w3 y 62 #[h0, h1, h2, h3, h4, h5, .slice (some ⟨r2, 0, none⟩) 6 cr, .int .i64 (N : Int), .int .i64 (M : Int)]) := Lib.hid (by rw [← hN, ← hM]; exact HB3.out)
            rw [hN] at hc0 hl5 HPR
            rw [hM] at hc24 HPR
            obtain ⟨XX, hXX⟩ : ∃ XX, RR.extract 0 M ++ ⟨#[bb]⟩ ++ RR.extract (M + 1) 24 = XX := ⟨_, rfl⟩
            have HXX := Lib.hid hXX
            have hyg : y ≠ g3 := by have := HB3.out.ne_ hb3 (by decide); exact this
            clear hrow hRR hcs3 hXX HB3 hN hM
            have n0 : (0 : Int) ≤ (N : Int) := by omega
            have n6 : (N : Int) < 6 := by omega
            have m0 : (0 : Int) ≤ (M : Int) := by omega
            have m24 : (M : Int) ≤ 24 := by omega
            have hw : IntKind.i64.wrap ((M : Int) + 1) = (M : Int) + 1 := IntWalk.i64_in _ (by omega)
            have m25 : (M : Int) + 1 ≤ 24 := by omega
            have m1 : (0 : Int) ≤ (M : Int) + 1 := by omega
            have hRs := HRS.out
            have hx1 : (RR.extract 0 M).size = M := by rw [ByteArray.size_extract, hRs]; omega
            have hx2 : (RR.extract 0 M ++ ⟨#[bb]⟩ : ByteArray).size = M + 1 := by rw [ByteArray.size_append, hx1]; rfl
            have hx3 : (RR.extract (M + 1) 24).size = 24 - (M + 1) := by rw [ByteArray.size_extract, hRs]; omega
            have s1' : ¬ 9223372036854775807 < M + 1 := by omega
            have s2' : ¬ 9223372036854775807 < M + 1 + (23 - M) := by omega
            have HN6 := Lib.hid (show N < 6 by omega)
            have HLC := Lib.hid (show s2.ln ≤ 5 ∧ s2.cl < 24 by have := HNM.out; omega)
            have hD0 : DW w3 y g3 N #[h0, h1, h2, h3, h4, h5, .slice (some ⟨r2, 0, none⟩) 6 cr, .int .i64 (N : Int), .int .i64 (M : Int)] cs3 XX (bb.toNat : Int) 0 false false w3.drew := ⟨HB3'.out.drew, hb3.drew, (fun h => by cases h), (Fr.refl [g3] w3).drew⟩
            have HD0 := Lib.hid hD0
            have HB3g := Lib.hid hb3
            clear hD0 hb3 hl5 hc24
            have hmx : Tryd.prog.follows .mixedOrders = true := by kernel_rfl
            refine (wpIn_wide (n := 3)).1 ?_
            refine wpIn_region_inv2 hmx (by kernel_rfl) (fun L' a w' => ∃ xb, a = { tmps := #[ptr y, Value.string t, undef, undef, Value.int IntKind.i64 (k : Int), Value.int IntKind.u8 (bb.toNat : Int), Value.slice (some ⟨g3, 0, none⟩) 6 c3, u7, u8, u9, u10, u11, u12, u13, u14, u15, u16, u17, u18, u19, u20, u21, u22, u23, u24, u25, u26, u27, u28, u29, u30, u31, u32, Value.slice (some ⟨wc.heap.size, 0, none⟩) 0 0, ptr y, Value.pointer (some ⟨y, 0, none⟩), Value.pointer (some ⟨y, 6, none⟩), Value.slice (some ⟨r2, 0, none⟩) 6 cr, Value.slice (some ⟨g3, 0, none⟩) 6 c3, bif L'.getD 0 false then (.slice (some ⟨g3, 0, none⟩) 6 c3) else u39, bif L'.getD 1 false then ptr y else u40, bif L'.getD 2 false then (.pointer (some ⟨y, 0, none⟩)) else u41, bif L'.getD 3 false then (.pointer (some ⟨y, 7, none⟩)) else u42, bif L'.getD 4 false then (.int .i64 (N : Int)) else u43, bif L'.getD 5 false then (.slice (some ⟨g3, 0, none⟩) 6 c3) else u44, bif L'.getD 6 false then ptr y else u45, bif L'.getD 7 false then (.pointer (some ⟨y, 0, none⟩)) else u46, bif L'.getD 8 false then (.pointer (some ⟨y, 7, none⟩)) else u47, bif L'.getD 9 false then (.int .i64 (N : Int)) else u48, bif L'.getD 10 false then (.pointer (some ⟨g3, N, none⟩)) else u49, bif L'.getD 11 false then (.string RR) else u50, bif L'.getD 12 false then ptr y else u51, bif L'.getD 13 false then (.pointer (some ⟨y, 0, none⟩)) else u52, bif L'.getD 14 false then (.pointer (some ⟨y, 8, none⟩)) else u53, bif L'.getD 15 false then (.int .i64 (M : Int)) else u54, bif L'.getD 16 false then (.string (RR.extract 0 M)) else u55, bif L'.getD 17 false then (.int .u8 (bb.toNat : Int)) else u56, bif L'.getD 18 false then (.slice (some ⟨xb, 0, none⟩) 1 1) else u57, bif L'.getD 19 false then (.string ⟨#[bb]⟩) else u58, bif L'.getD 20 false then (.string (RR.extract 0 M ++ ⟨#[bb]⟩)) else u59, bif L'.getD 21 false then (.slice (some ⟨g3, 0, none⟩) 6 c3) else u60, bif L'.getD 22 false then ptr y else u61, bif L'.getD 23 false then (.pointer (some ⟨y, 0, none⟩)) else u62, bif L'.getD 24 false then (.pointer (some ⟨y, 7, none⟩)) else u63, bif L'.getD 25 false then (.int .i64 (N : Int)) else u64, bif L'.getD 26 false then (.pointer (some ⟨g3, N, none⟩)) else u65, bif L'.getD 27 false then (.string RR) else u66, bif L'.getD 28 false then ptr y else u67, bif L'.getD 29 false then (.pointer (some ⟨y, 0, none⟩)) else u68, bif L'.getD 30 false then (.pointer (some ⟨y, 8, none⟩)) else u69, bif L'.getD 31 false then (.int .i64 (M : Int)) else u70, bif L'.getD 32 false then (.int .i64 ((M : Int) + 1)) else u71, bif L'.getD 33 false then (.string (RR.extract (M + 1) 24)) else u72, bif L'.getD 34 false then (.string (RR.extract 0 M ++ ⟨#[bb]⟩ ++ RR.extract (M + 1) 24)) else u73, bif L'.getD 35 false then (.pointer (some ⟨g3, N, none⟩)) else u74, u75, u76, u77, u78, u79, u80, u81, u82, u83, u84, u85], defers := [] } ∧ DW w3 y g3 N #[h0, h1, h2, h3, h4, h5, .slice (some ⟨r2, 0, none⟩) 6 cr, .int .i64 (N : Int), .int .i64 (M : Int)] cs3 XX (bb.toNat : Int) xb (L'.getD 18 false) (L'.getD 36 false) w') ⟨0, rfl, HD0.out⟩ ?_ ?_
            · rintro ⟨L'⟩ _ w' i o hs ho hf hp hc ⟨xb, rfl, hR⟩
              match L', hs with
              | z0 :: z1 :: z2 :: z3 :: z4 :: z5 :: z6 :: z7 :: z8 :: z9 :: z10 :: z11 :: z12 :: z13 :: z14 :: z15 :: z16 :: z17 :: z18 :: z19 :: z20 :: z21 :: z22 :: z23 :: z24 :: z25 :: z26 :: z27 :: z28 :: z29 :: z30 :: z31 :: z32 :: z33 :: z34 :: z35 :: z36 :: [], _ =>
              have R : DW w3 y g3 N #[h0, h1, h2, h3, h4, h5, .slice (some ⟨r2, 0, none⟩) 6 cr, .int .i64 (N : Int), .int .i64 (M : Int)] cs3 XX (bb.toNat : Int) xb (z18) (z36) w' := hR
              clear hR
              match i, ho with
              | 0, ho =>
                injection ho with ho
                subst ho
                clear hc
                simp [Region.binds] at hf hp
                refine wpOpIn_step rfl (fun K' hK' => ?_)
                go_simp
                exact hK' _ _ ⟨xb, by simp [hf, hp], R⟩
              | 1, ho =>
                injection ho with ho
                subst ho
                clear hc
                simp [Region.binds] at hf hp
                refine wpOpIn_step rfl (fun K' hK' => ?_)
                go_simp
                exact hK' _ _ ⟨xb, by simp [hf, hp], R⟩
              | 2, ho =>
                injection ho with ho
                subst ho
                clear hc
                simp [Region.binds] at hf hp
                refine wpOpIn_step rfl (fun K' hK' => ?_)
                go_simp
                exact hK' _ _ ⟨xb, by simp [hf, hp], R⟩
              | 3, ho =>
                injection ho with ho
                subst ho
                clear hc
                simp [Region.binds] at hf hp
                refine wpOpIn_step rfl (fun K' hK' => ?_)
                go_simp
                exact hK' _ _ ⟨xb, by simp [hf, hp], R⟩
              | 4, ho =>
                injection ho with ho
                subst ho
                clear hc
                simp [Region.binds] at hf hp
                have cc := R.b.cell 7
                simp at cc
                refine wpOpIn_step rfl (fun K' hK' => ?_)
                go_simp
                exact hK' _ _ ⟨xb, by simp [hf, hp], R⟩
              | 5, ho =>
                injection ho with ho
                subst ho
                clear hc
                simp [Region.binds] at hf hp
                refine wpOpIn_step rfl (fun K' hK' => ?_)
                go_simp
                exact hK' _ _ ⟨xb, by simp [hf, hp], R⟩
              | 6, ho =>
                injection ho with ho
                subst ho
                clear hc
                simp [Region.binds] at hf hp
                refine wpOpIn_step rfl (fun K' hK' => ?_)
                go_simp
                exact hK' _ _ ⟨xb, by simp [hf, hp], R⟩
              | 7, ho =>
                injection ho with ho
                subst ho
                clear hc
                simp [Region.binds] at hf hp
                refine wpOpIn_step rfl (fun K' hK' => ?_)
                go_simp
                exact hK' _ _ ⟨xb, by simp [hf, hp], R⟩
              | 8, ho =>
                injection ho with ho
                subst ho
                clear hc
                simp [Region.binds] at hf hp
                refine wpOpIn_step rfl (fun K' hK' => ?_)
                go_simp
                exact hK' _ _ ⟨xb, by simp [hf, hp], R⟩
              | 9, ho =>
                injection ho with ho
                subst ho
                clear hc
                simp [Region.binds] at hf hp
                have cc := R.b.cell 7
                simp at cc
                refine wpOpIn_step rfl (fun K' hK' => ?_)
                go_simp
                exact hK' _ _ ⟨xb, by simp [hf, hp], R⟩
              | 10, ho =>
                injection ho with ho
                subst ho
                clear hc
                simp [Region.binds] at hf hp
                refine wpOpIn_step rfl (fun K' hK' => ?_)
                go_simp
                exact hK' _ _ ⟨xb, by simp [hf, hp], R⟩
              | 11, ho =>
                injection ho with ho
                subst ho
                simp [Region.binds] at hf hp
                have k36 : z36 = false := hc.off (i := 36) (j := 11) (by kernel_rfl) hf
                clear hc
                have R' := R
                rw [k36] at R'
                have cc := R'.row hc0
                clear R'
                refine wpOpIn_step rfl (fun K' hK' => ?_)
                go_simp
                exact hK' _ _ ⟨xb, by simp [hf, hp], R⟩
              | 12, ho =>
                injection ho with ho
                subst ho
                clear hc
                simp [Region.binds] at hf hp
                refine wpOpIn_step rfl (fun K' hK' => ?_)
                go_simp
                exact hK' _ _ ⟨xb, by simp [hf, hp], R⟩
              | 13, ho =>
                injection ho with ho
                subst ho
                clear hc
                simp [Region.binds] at hf hp
                refine wpOpIn_step rfl (fun K' hK' => ?_)
                go_simp
                exact hK' _ _ ⟨xb, by simp [hf, hp], R⟩
              | 14, ho =>
                injection ho with ho
                subst ho
                clear hc
                simp [Region.binds] at hf hp
                refine wpOpIn_step rfl (fun K' hK' => ?_)
                go_simp
                exact hK' _ _ ⟨xb, by simp [hf, hp], R⟩
              | 15, ho =>
                injection ho with ho
                subst ho
                clear hc
                simp [Region.binds] at hf hp
                have cc := R.b.cell 8
                simp at cc
                refine wpOpIn_step rfl (fun K' hK' => ?_)
                go_simp
                exact hK' _ _ ⟨xb, by simp [hf, hp], R⟩
              | 16, ho =>
                injection ho with ho
                subst ho
                clear hc
                simp [Region.binds] at hf hp
                refine wpOpIn_step rfl (fun K' hK' => ?_)
                go_simp
                exact hK' _ _ ⟨xb, by simp [hf, hp], R⟩
              | 17, ho =>
                injection ho with ho
                subst ho
                clear hc
                simp [Region.binds] at hf hp
                refine wpOpIn_step rfl (fun K' hK' => ?_)
                go_simp
                exact hK' _ _ ⟨xb, by simp [hf, hp], R⟩
              | 18, ho =>
                injection ho with ho
                subst ho
                simp [Region.binds] at hf hp
                have k36 : z36 = false := hc.off (i := 36) (j := 18) (by kernel_rfl) hf
                clear hc
                have R' := R
                rw [hf, k36] at R'
                have R2 := Lib.hid R'.al
                clear R R'
                refine wpOpIn_step rfl (fun K' hK' => ?_)
                go_simp
                exact hK' _ _ ⟨w'.heap.size, by simp [hf, hp], by rw [k36]; exact R2.out⟩
              | 19, ho =>
                injection ho with ho
                subst ho
                simp [Region.binds] at hf hp
                obtain k18 : z18 = true := by simp [hp]
                have k36 : z36 = false := hc.off (i := 36) (j := 19) (by kernel_rfl) hf
                clear hc
                have R' := R
                rw [k18, k36] at R'
                have cc := conv_one w' xb bb (R'.a rfl rfl)
                clear R'
                refine wpOpIn_step rfl (fun K' hK' => ?_)
                go_simp
                exact hK' _ _ ⟨xb, by simp [hf, hp], R⟩
              | 20, ho =>
                injection ho with ho
                subst ho
                clear hc
                simp [Region.binds] at hf hp
                refine wpOpIn_step rfl (fun K' hK' => ?_)
                go_simp
                exact hK' _ _ ⟨xb, by simp [hf, hp], R⟩
              | 21, ho =>
                injection ho with ho
                subst ho
                clear hc
                simp [Region.binds] at hf hp
                refine wpOpIn_step rfl (fun K' hK' => ?_)
                go_simp
                exact hK' _ _ ⟨xb, by simp [hf, hp], R⟩
              | 22, ho =>
                injection ho with ho
                subst ho
                clear hc
                simp [Region.binds] at hf hp
                refine wpOpIn_step rfl (fun K' hK' => ?_)
                go_simp
                exact hK' _ _ ⟨xb, by simp [hf, hp], R⟩
              | 23, ho =>
                injection ho with ho
                subst ho
                clear hc
                simp [Region.binds] at hf hp
                refine wpOpIn_step rfl (fun K' hK' => ?_)
                go_simp
                exact hK' _ _ ⟨xb, by simp [hf, hp], R⟩
              | 24, ho =>
                injection ho with ho
                subst ho
                clear hc
                simp [Region.binds] at hf hp
                refine wpOpIn_step rfl (fun K' hK' => ?_)
                go_simp
                exact hK' _ _ ⟨xb, by simp [hf, hp], R⟩
              | 25, ho =>
                injection ho with ho
                subst ho
                clear hc
                simp [Region.binds] at hf hp
                have cc := R.b.cell 7
                simp at cc
                refine wpOpIn_step rfl (fun K' hK' => ?_)
                go_simp
                exact hK' _ _ ⟨xb, by simp [hf, hp], R⟩
              | 26, ho =>
                injection ho with ho
                subst ho
                clear hc
                simp [Region.binds] at hf hp
                refine wpOpIn_step rfl (fun K' hK' => ?_)
                go_simp
                exact hK' _ _ ⟨xb, by simp [hf, hp], R⟩
              | 27, ho =>
                injection ho with ho
                subst ho
                simp [Region.binds] at hf hp
                have k36 : z36 = false := hc.off (i := 36) (j := 27) (by kernel_rfl) hf
                clear hc
                have R' := R
                rw [k36] at R'
                have cc := R'.row hc0
                clear R'
                refine wpOpIn_step rfl (fun K' hK' => ?_)
                go_simp
                exact hK' _ _ ⟨xb, by simp [hf, hp], R⟩
              | 28, ho =>
                injection ho with ho
                subst ho
                clear hc
                simp [Region.binds] at hf hp
                refine wpOpIn_step rfl (fun K' hK' => ?_)
                go_simp
                exact hK' _ _ ⟨xb, by simp [hf, hp], R⟩
              | 29, ho =>
                injection ho with ho
                subst ho
                clear hc
                simp [Region.binds] at hf hp
                refine wpOpIn_step rfl (fun K' hK' => ?_)
                go_simp
                exact hK' _ _ ⟨xb, by simp [hf, hp], R⟩
              | 30, ho =>
                injection ho with ho
                subst ho
                clear hc
                simp [Region.binds] at hf hp
                refine wpOpIn_step rfl (fun K' hK' => ?_)
                go_simp
                exact hK' _ _ ⟨xb, by simp [hf, hp], R⟩
              | 31, ho =>
                injection ho with ho
                subst ho
                clear hc
                simp [Region.binds] at hf hp
                have cc := R.b.cell 8
                simp at cc
                refine wpOpIn_step rfl (fun K' hK' => ?_)
                go_simp
                exact hK' _ _ ⟨xb, by simp [hf, hp], R⟩
              | 32, ho =>
                injection ho with ho
                subst ho
                clear hc
                simp [Region.binds] at hf hp
                refine wpOpIn_step rfl (fun K' hK' => ?_)
                go_simp
                exact hK' _ _ ⟨xb, by simp [hf, hp], R⟩
              | 33, ho =>
                injection ho with ho
                subst ho
                clear hc
                simp [Region.binds] at hf hp
                refine wpOpIn_step rfl (fun K' hK' => ?_)
                go_simp
                (try simp only [Act.put, List.setIfInBounds_toArray, List.set_cons_zero, List.set_cons_succ])
                exact hK' _ _ ⟨xb, by simp [hf, hp], R⟩
              | 34, ho =>
                injection ho with ho
                subst ho
                clear hc
                simp [Region.binds] at hf hp
                refine wpOpIn_step rfl (fun K' hK' => ?_)
                go_simp
                (try simp only [Act.put, List.setIfInBounds_toArray, List.set_cons_zero, List.set_cons_succ])
                exact hK' _ _ ⟨xb, by simp [hf, hp], R⟩
              | 35, ho =>
                injection ho with ho
                subst ho
                clear hc
                simp [Region.binds] at hf hp
                refine wpOpIn_step rfl (fun K' hK' => ?_)
                go_simp
                exact hK' _ _ ⟨xb, by simp [hf, hp], R⟩
              | 36, ho =>
                injection ho with ho
                subst ho
                clear hc
                simp [Region.binds] at hf hp
                have R' := R
                rw [hf] at R'
                have cc := R'.row hc0
                have ff := R'.gb.frozen N
                have R2 := Lib.hid R'.st
                clear R R'
                refine wpOpIn_step rfl (fun K' hK' => ?_)
                go_simp
                exact hK' _ _ ⟨xb, by simp [hf, hp], by rw [HXX.out]; exact R2.out⟩
              | i + 37, ho => simp at ho
            · rintro _ w' ⟨xb, rfl, hR⟩
              have R : DW w3 y g3 N #[h0, h1, h2, h3, h4, h5, .slice (some ⟨r2, 0, none⟩) 6 cr, .int .i64 (N : Int), .int .i64 (M : Int)] cs3 XX (bb.toNat : Int) xb (true) (true) w' := hR
              clear hR
              have c6' := R.b.cell 6
              have c8' := R.b.cell 8
              simp at c6' c8'
              have f6' := R.b.frozen 6
              have f8' := R.b.frozen 8
              have HR := Lib.hid R
              clear R
              obtain ⟨W3, rfl⟩ : ∃ W3, W3 = w' := ⟨_, rfl⟩
              go_wp2_with fail
              go_roundg (t.size - (k + 1))
              case measure => have := Hk.out; omega
              case rel =>
                have hff : Fr [y] W3 ((W3.setCell ⟨y, 6, none⟩ (.slice (some ⟨g3, 0, none⟩) 6 c3)).setCell ⟨y, 8, none⟩ (.int .i64 ((M : Int) + 1))) := ((Fr.refl [y] W3).setCell (by simp) _).setCell (by simp) _
                have hwc := HF2.out.size
                have hg3 := HK3.out.2.1
                refine ⟨k + 1, g3, by have := Hk.out; omega, by go_num, ?_, ?_, .inr (by omega)⟩
                · rw [HE.out]
                  refine ⟨⟨c3, ?_, HK3.out.2.2.1⟩, ?_, ?_⟩
                  · show Blk _ y 62 #[h0, h1, h2, h3, h4, h5, .slice (some ⟨g3, 0, none⟩) 6 c3, .int .i64 (s2.ln : Int), .int .i64 ((s2.cl + 1 : Nat) : Int)]
                    rw [HNM.out.1, HNM.out.2]
                    exact (HR.out.b.set_ 6 _).set_ 8 _
                  · refine KeysAt.fr ?_ hff (by simpa using Ne.symm hyg)
                    rw [HPR.out, HXX.out]
                    exact ⟨_, HR.out.gb, rows_set HKR.out (by rw [screen_len]; exact HN6.out)⟩
                  · exact ⟨by have := HLC.out.1; show s2.ln ≤ 5; omega, by have := HLC.out.2; show s2.cl + 1 ≤ 24; omega⟩
                · have h9 := ((Fr.refl [] wc).alloc (.cells #[] 9)).step HF3.out (fun k hk => by simp at hk; exact .inr (by omega))
                  have h10 := h9.step HR.out.f (fun k hk => by simp at hk; exact .inr (by omega))
                  exact (HF2.out.trans (h10.mono (by simp))).trans hff
    · have hkl' : ¬ (k : Int) < (t.size : Int) := by omega
      have hkn : k = t.size := by omega
      have ht : t.data.toList.take k = t.data.toList := by
        rw [hkn]
        exact List.take_length
      rw [ht] at HR
      clear hk hR hf hr hkn ht
      go_wp2_with fail
      go_end0
      exact ⟨rfl, r', HR.out, HF.out, Hr.out⟩
end Go.Proofs.YtkjahokffpihmaaDoor
