/- ConsoleScrolls: the walk. -/
import Derived.Test.YtkjahokffpihmaaDoorC26
import Derived.Test.YtkjahokffpihmaaDoorC22
namespace Go.Proofs.YtkjahokffpihmaaDoor
open Go.RowKit
set_option linter.unusedVariables false
set_option linter.unusedSimpArgs false
set_option maxRecDepth 100000
/-- A row of our own that lies behind a bound, beside turns below it. -/
theorem own_far {w w' : World} {S : List Nat} {base : Nat} {e : TypeId} {size : Nat} {v : Value} {n : Nat} {xs : List Value} (h : w.ownsRow base e size v n xs) (hf : Fr S w w') (hs : ∀ k, k ∈ S → k < base) : w'.ownsRow base e size v n xs := by
  refine ⟨h.1, ?_⟩
  rcases h.2 with h2 | ⟨g, cap, cur, hv, hb, hh, r⟩
  · exact .inl h2
  · exact .inr ⟨g, cap, cur, hv, hb, Blk.fr (show Blk w g e cur from hh) hf (fun hk => by have := hs g hk; omega), r⟩
/-- A console beside a row that lies behind it. -/
theorem Cn.own {w0 W W' : World} {c q B : Nat} {x : Con} (h : Cn w0 W c q x) (hc : c < B) (hq : q < B) (hB : w0.heap.size ≤ B) {e : TypeId} {size : Nat} {v : Value} {n : Nat} {xs : List Value} (ho : W.ownsRow B e size v n xs) (hg : W.grownBy W' v.ownBlock) : Cn w0 W' c q x := by
  have hf := Fr.of_own hg
  have hn : ∀ k, k ∈ v.ownBlock.toList → B ≤ k := fun k hk => (own_blk ho k hk).1
  exact ⟨h.a.fr hf (fun hm => by have := hn _ hm; omega) (fun hm => by have := hn _ hm; omega), h.f.step hf (fun k hk => .inr (Nat.le_trans hB (hn k hk))), h.c0, h.k0⟩
/-- The level's console with that screen. -/
def fS (lv : Nat) (lg : ByteArray) (sc : Sc) : Con := focC lv lg 0 (List.replicate lv empty) sc
theorem write_fS {lv : Nat} (lg : ByteArray) (sc : Sc) (t : List UInt8) (h : 1 ≤ lv) : write (fS lv lg sc) 0 t = fS lv lg (ssays sc t) ∧ wrE (fS lv lg sc) 0 = 0 := by
  have hi : isL (fS lv lg sc) 0 = true := by
    unfold isL
    rw [decide_eq_true (Int.le_refl 0), decide_eq_true (show (0 : Int) < ((fS lv lg sc).lv : Int) by show (0 : Int) < (lv : Int); omega)]
    rfl
  constructor
  · unfold write
    rw [if_pos hi, if_pos (show (fS lv lg sc).fo = 0 from rfl)]
    rfl
  · unfold wrE
    rw [if_pos hi]
theorem lineK_end (t : ByteArray) {k : Nat} (hk : k ≤ 24) (h : k = t.size ∨ k = 24) : lineK t k = lineK t 24 := by
  rcases h with h | rfl
  · unfold lineK
    have e : t.data.toList.length = t.size := rfl
    rw [List.take_of_length_le (show t.data.toList.length ≤ k by omega), List.take_of_length_le (show t.data.toList.length ≤ 24 by omega)]
  · rfl
def strL (l : List ByteArray) : List Value := l.map Value.string
theorem strL_snoc (l : List ByteArray) (s : ByteArray) : strL (l ++ [s]) = strL l ++ [.string s] := by simp [strL]
theorem strL_at {l : List ByteArray} {cs : Array Value} (h : ∀ (j : Nat) (u : Value), (strL l)[j]? = some u → cs[j]? = some u) {W : World} {g : Nat} (hb : Blk W g 9 cs) : StrsAt W g 0 l := fun i s hi => by
  rw [Nat.zero_add, hb.cell]
  exact h i _ (by unfold strL; rw [List.getElem?_map, hi]; rfl)
theorem StrsAt.drop {W : World} {g : Nat} {l : List ByteArray} (h : StrsAt W g 0 l) (d : Nat) : StrsAt W g d (l.drop d) := fun i s hi => by
  rw [List.getElem?_drop] at hi
  have := h (d + i) s hi
  rwa [Nat.zero_add] at this
theorem scrolls_no (w : World) (lv : Int) (lg : ByteArray) (hs : lg.size ≤ maxLen) (A : Option Addr) (n cap : Nat) (h : okNew lv lg = false) : Calls Tryd.prog 4 #[.int .i64 lv, .string lg, .slice A n cap] w (FixP w) := by
  have HF := Lib.hid (focused_no w lv lg 0 h)
  have HN := nil_end (w := w) lv lg hs h
  have HX := Lib.hid fixed_any
  clear h hs
  go_enter Tryd.func4, Tryd.ntmps4
  go_wp2_with (first
    | (go_at_call 18; refine HF.out.mono ?_; rintro e w1 ⟨rfl, hf⟩; have HF1 := Lib.hid hf; clear hf)
    | (go_at_call 10; refine (HN.out _).mono ?_; rintro e w2 ⟨rfl, rfl⟩)
    | (go_at_call 11; refine (HX.out _).mono ?_; rintro e w3 ⟨rfl, hf3⟩; have HP := Lib.hid (HF1.out.trans hf3); clear hf3))
  go_ret
  exact ⟨rfl, HP.out⟩
/-- What is behind k lines: the console, and the row of what is wanted. -/
structure Scr (w0 W : World) (c q B lv : Nat) (lg : ByteArray) (L : Nat → ByteArray) (k : Nat) (v : Value) : Prop where
  a : Cn w0 W c q (fS lv lg (scL L k))
  o : W.ownsRow B 9 1 v k (strL (wantL L k))
  b : B ≤ W.heap.size
theorem own_made0 {W W' : World} (B : Nat) (hB : B ≤ W.heap.size) (h : W' = W.alloc (.cells #[] 9)) : W'.ownsRow B 9 1 (.slice (some ⟨W.heap.size, 0, none⟩) 0 0) 0 [] := by
  rw [h]
  exact World.ownsRow_made W #[] 0 hB (Nat.zero_le _) (by simp)
set_option maxHeartbeats 6000000 in
theorem scrolls_yes (w : World) (L : Nat) (lg : ByteArray) (hs : lg.size ≤ maxLen) (A : Option Addr) (n cap : Nat) (T : Nat → ByteArray) (hT : StrsT w A n T) (h : okNew (L : Int) lg = true) : Calls Tryd.prog 4 #[.int .i64 (L : Int), .string lg, .slice A n cap] w (FixP w) := by
  obtain ⟨n', hn', l1, l8, -⟩ := okNew_spec h
  obtain rfl : n' = L := by omega
  have HF : Hid (Calls Tryd.prog 18 #[.int .i64 (n' : Int), .string lg, .int .i64 0] w fun e w' => ∃ c k, e = .returned (ptr c) ∧ Cn w w' c k (fS n' lg sclear)) := Lib.hid ((focused_yes w (n' : Int) lg 0 h (by omega)).mono fun e w' ⟨c, k, he, hc⟩ => ⟨c, k, he, by unfold fS; exact hc⟩)
  have HX := Lib.hid fixed_any
  have HRW := Lib.hid row_any
  have HTT := Lib.hid hT
  have hn : n ≤ 9223372036854775807 := by simpa [maxLen] using hT.1
  have hsp : sp24.size = 24 := rfl
  have HFO : Hid (∀ W c q sc, Cn w W c q (fS n' lg sc) → Calls Tryd.prog 17 #[ptr c] W fun e w' => e = .returned (.int .i64 0) ∧ W = w') := Lib.hid fun W c q sc hc => hc.focus
  have HWR : Hid (∀ W c q sc t, t.size ≤ maxLen → Cn w W c q (fS n' lg sc) → Calls Tryd.prog 19 #[ptr c, .int .i64 0, .string t] W (CnE w W c q (fS n' lg (ssays sc t.data.toList)) (.int .i64 0))) := Lib.hid fun W c q sc t ht hc => by
    have := hc.write 0 t ht
    rw [(write_fS lg sc t.data.toList l1).1, (write_fS lg sc t.data.toList l1).2] at this
    exact this
  have HSC : Hid (∀ W c q sc, Cn w W c q (fS n' lg sc) → Calls Tryd.prog 15 #[ptr c] W (RowP W (screenL sc))) := Lib.hid fun W c q sc hc => hc.screen
  obtain ⟨LL, hLL⟩ : ∃ LL : Nat → ByteArray, (fun i => lineK (T i) 24) = LL := ⟨_, rfl⟩
  have HLL : Hid (∀ i, LL i = lineK (T i) 24) := Lib.hid fun i => by rw [← hLL]
  have HLs : Hid (∀ i, (LL i).size ≤ 24) := Lib.hid fun i => by rw [HLL.out, lineK_size]; omega
  have HLv : Hid (∀ i, ∀ b ∈ (LL i).data.toList, seen b) := Lib.hid fun i => by rw [HLL.out]; exact lineK_seen _ _
  obtain ⟨i0, hi0, hz0, hz1, hz2⟩ := info3 Tryd.info9
  clear h hs hT hn' hLL l8
  go_enter Tryd.func4, Tryd.ntmps4
  go_wp2_with (first
    | (go_at_call 18; refine HF.out.mono ?_; rintro e w1 ⟨c, q, rfl, h1⟩)
    | (go_at_call 17; refine (HFO.out _ c q _ h1).mono ?_; rintro e wz ⟨rfl, rfl⟩))
  have hcq := h1.lt
  have hw1 := h1.f.size
  obtain ⟨B, hB⟩ : ∃ B, w1.heap.size = B := ⟨_, rfl⟩
  have HB := Lib.hid (show c < B ∧ q < B ∧ w.heap.size ≤ B by omega)
  have H0 : Hid (Scr w (w1.alloc (.cells #[] 9)) c q B n' lg LL 0 (.slice (some ⟨w1.heap.size, 0, none⟩) 0 0)) := Lib.hid ⟨h1.to ((Fr.refl [] w1).alloc _), own_made0 B (by omega) rfl, by simp; omega⟩
  clear h1 hcq hw1 hB
  go_loopg [10, 11, 12, 13, 14] n (fun gg l i r1 r2 r3 wr => ∃ (k cp : Nat) (D : Option Addr), k + gg = n ∧ i = .int .i64 k ∧ k ≤ 60 ∧ l = .slice D k cp ∧ Scr w wr c q B n' lg LL k (.slice D k cp))
  case atStart => exact ⟨0, _, _, by omega, rfl, by omega, rfl, H0.out⟩
  case round =>
    obtain ⟨i, cp, D, hi, rfl, hi60, rfl, hS⟩ := hrel
    have Hi := Lib.hid hi
    have HS := Lib.hid hS
    clear H0
    obtain ⟨V0, rfl⟩ : ∃ V0, V0 = wr := ⟨_, rfl⟩
    by_cases hgo : i < n ∧ i < 60
    · obtain ⟨hlt, h60⟩ := hgo
      have hlt' : (i : Int) < (n : Int) := by omega
      have hi0' : (0 : Int) ≤ (i : Int) := by omega
      have h60' : (i : Int) < 60 := by omega
      obtain ⟨b, off, rfl, hcell, hsz⟩ := HTT.out.2 i hlt
      obtain ⟨t, ht⟩ : ∃ t, T i = t := ⟨_, rfl⟩
      rw [ht] at hcell hsz
      have HCE := Lib.hid (fun W (hf : Fr [] w W) => hf.cell_some hcell (by simp))
      have hts : t.size ≤ 9223372036854775807 := by simpa [maxLen] using hsz
      have HLi := Lib.hid ((HLL.out i).trans (by rw [ht]))
      have HLsi := Lib.hid (HLs.out i)
      have q0 := HCE.out _ hS.a.f
      have HI2 := Lib.hid h60
      clear hi hi60 hS hcell hsz ht h60
      go_wp2_with fail
      clear q0
      go_loopg [12, 13, 14] t.size (fun gg s j r wr => ∃ k : Nat, k + gg = t.size ∧ j = .int .i64 k ∧ k ≤ 24 ∧ s = .string (lineK t k) ∧ Scr w wr c q B n' lg LL i (.slice D i cp))
      case atStart => exact ⟨0, by omega, rfl, by omega, rfl, HS.out⟩
      case round =>
        clear HS
        obtain ⟨k, hk, rfl, hk24, rfl, hS⟩ := hrel
        have Hk := Lib.hid hk
        have HS := Lib.hid hS
        have HK24 := Lib.hid hk24
        have q1 := HCE.out _ hS.a.f
        by_cases hgo : k < t.size ∧ k < 24
        · obtain ⟨hkl, hk2⟩ := hgo
          have hkl' : (k : Int) < (t.size : Int) := by omega
          have hk0 : (0 : Int) ≤ (k : Int) := by omega
          have hk2' : (k : Int) < 24 := by omega
          have HSN := Lib.hid (lineK_succ t hkl)
          have hls : ¬ 9223372036854775807 < (lineK t k).size + 1 := by rw [lineK_size]; omega
          have HK2 := Lib.hid hk2
          generalize lineK t k = s at *
          have hdt : (dot t[k]).toNat = if t[k].toNat < 32 ∨ 126 < t[k].toNat then 46 else t[k].toNat := by
            unfold dot
            split <;> rfl
          have HAL : Hid (∀ v, Scr w (wr.alloc (.cells #[v] 5)) c q B n' lg LL i (.slice D i cp)) := Lib.hid fun v => ⟨HS.out.a.to ((Fr.refl [] wr).alloc _), own_far HS.out.o ((Fr.refl [] wr).alloc _) (by simp), by have := HS.out.b; simp; omega⟩
          have hcv := conv_one (wr.alloc (.cells #[.int .u8 ((dot t[k]).toNat : Int)] 5)) wr.heap.size (dot t[k]) (by simp)
          clear hk hk24 hS hk2
          by_cases c1 : t[k].toNat < 32
          · have d1 : (t[k].toNat : Int) < 32 := by omega
            rw [hdt, if_pos (.inl c1), show ((46 : Nat) : Int) = 46 from rfl] at hcv
            clear hdt c1
            go_wp2_with fail
            go_roundg (t.size - (k + 1))
            case measure => have := Hk.out; omega
            case rel => exact ⟨k + 1, by have := Hk.out; omega, by go_num, by have := HK2.out; omega, by rw [HSN.out], HAL.out _⟩
          · have d1 : ¬ (t[k].toNat : Int) < 32 := by omega
            by_cases c2 : 126 < t[k].toNat
            · have d2 : (126 : Int) < (t[k].toNat : Int) := by omega
              rw [hdt, if_pos (.inr c2), show ((46 : Nat) : Int) = 46 from rfl] at hcv
              clear hdt c1 c2
              go_wp2_with fail
              go_roundg (t.size - (k + 1))
              case measure => have := Hk.out; omega
              case rel => exact ⟨k + 1, by have := Hk.out; omega, by go_num, by have := HK2.out; omega, by rw [HSN.out], HAL.out _⟩
            · have d2 : ¬ (126 : Int) < (t[k].toNat : Int) := by omega
              rw [hdt, if_neg (by omega)] at hcv
              clear hdt c1 c2
              go_wp2_with fail
              go_roundg (t.size - (k + 1))
              case measure => have := Hk.out; omega
              case rel => exact ⟨k + 1, by have := Hk.out; omega, by go_num, by have := HK2.out; omega, by rw [HSN.out], HAL.out _⟩
        · have hend : lineK t k = LL i := by rw [lineK_end t hk24 (by omega)]; exact HLi.out.symm
          rw [hend]
          obtain ⟨s, hsE⟩ : ∃ s, LL i = s := ⟨_, rfl⟩
          have HSE := Lib.hid hsE
          have hs24 : s.size ≤ 24 := by rw [← hsE]; exact HLs.out i
          have HSF := Lib.hid (fun h : i = 0 => scL_first LL (HLv.out 0) (HLs.out 0))
          have HSX := Lib.hid (fun h : i ≠ 0 => scL_next LL h (HLv.out i) (HLs.out i))
          rw [hsE] at HSX ⊢
          have hsm : s.size ≤ maxLen := by simp only [maxLen]; omega
          have hsc : ¬ 9223372036854775807 < s.size + 24 := by omega
          have hsz : (s ++ sp24).size = s.size + 24 := by rw [ByteArray.size_append]; rfl
          have hm1 : i + 1 ≤ maxLen := by simp only [maxLen]; have := HI2.out; omega
          have hm2 : (i + 1) * 16 ≤ 140737488355328 := by have := HI2.out; omega
          have h24 : (24 : Int) ≤ (s.size : Int) + 24 := by omega
          have hx := Lib.hid hgo
          clear hk hS hs24 hend hgo
          by_cases i0' : i = 0
          · have HE1 : Hid (ssays (scL LL i) s.data.toList = scL LL (i + 1)) := Lib.hid (by have h9 := HSF.out i0'; subst i0'; rw [HSE.out] at h9; exact h9)
            have d0 : ¬ (0 : Int) < (i : Int) := by omega
            have h2 := HS.out.a
            have HO2 := Lib.hid HS.out.o
            have HB2 := Lib.hid HS.out.b
            clear i0' HSX HSF hsE
            by_cases hks : k < t.size
            · have d1 : (k : Int) < (t.size : Int) := by omega
              have d2 : ¬ (k : Int) < 24 := by have := hx.out; have := HK24.out; omega
              clear hks
              go_wp2_with (first
                | (go_at_call 19; refine (HWR.out _ c q _ s hsm h2).mono ?_; rintro e w3 ⟨rfl, hQ3, hf3⟩; rw [HE1.out] at hQ3; have HQ3 := Lib.hid hQ3; have HO4 := Lib.hid (own_far (own_far HO2.out hf3 (by have := HB.out; simp; omega)) ((Fr.refl [] w3).alloc (.cells #[.string ((s ++ sp24).extract 0 24)] 9)) (by simp)); have HN4 := Lib.hid (news1 (w := w3.alloc (.cells #[.string ((s ++ sp24).extract 0 24)] 9)) (b := w3.heap.size) (x := .string ((s ++ sp24).extract 0 24)) (by simp)); have HB3 := Lib.hid (Nat.le_trans HB2.out hf3.size); have hb3 : B ≤ w3.heap.size + 1 := Nat.le_succ_of_le HB3.out; clear hQ3 hf3 h2)
                | (go_at_call 16; refine (HRW.out _).mono ?_; rintro e wz ⟨rfl, rfl⟩)
                | (at_builtin; go_must (refine wpList_append_own _ rfl (.tmp 86) (.tmp 91) 36 rfl B 9 i0 (.string ⟨#[]⟩) 1 16 Tryd.underlying36 hi0 hz0 hz1 hz2 rfl (Nat.succ_pos 0) (.slice D i cp) i (strL (wantL LL i)) rfl HO4.out ⟨w3.heap.size, 0, none⟩ 1 1 [.string ((s ++ sp24).extract 0 24)] rfl rfl HN4.out (by simp [Value.oneCell']) hm1 hm2 (by simp; omega) ?_; intro v5 w5 ho5 hg5 hn5; obtain ⟨g5, c5, rfl⟩ := own_succ ho5; have HA5 := Lib.hid ((HQ3.out.to ((Fr.refl [] w3).alloc _)).own HB.out.1 HB.out.2.1 HB.out.2.2 HO4.out hg5); have HO5 := Lib.hid ho5; have HB5 := Lib.hid (show B ≤ w5.heap.size by have := hg5.size; simp at this; omega); clear ho5 hg5 hn5)))
              go_roundg (n - (i + 1))
              case measure => have := Hi.out; omega
              case rel => exact ⟨i + 1, c5, _, by have := Hi.out; omega, by go_num, by have := HI2.out; omega, rfl, HA5.out, by have h9 := HO5.out; rw [wantL_succ, strL_snoc, HSE.out]; exact h9, HB5.out⟩
            · have d1 : ¬ (k : Int) < (t.size : Int) := by omega
              clear hks
              go_wp2_with (first
                | (go_at_call 19; refine (HWR.out _ c q _ s hsm h2).mono ?_; rintro e w3 ⟨rfl, hQ3, hf3⟩; rw [HE1.out] at hQ3; have HQ3 := Lib.hid hQ3; have HO4 := Lib.hid (own_far (own_far HO2.out hf3 (by have := HB.out; simp; omega)) ((Fr.refl [] w3).alloc (.cells #[.string ((s ++ sp24).extract 0 24)] 9)) (by simp)); have HN4 := Lib.hid (news1 (w := w3.alloc (.cells #[.string ((s ++ sp24).extract 0 24)] 9)) (b := w3.heap.size) (x := .string ((s ++ sp24).extract 0 24)) (by simp)); have HB3 := Lib.hid (Nat.le_trans HB2.out hf3.size); have hb3 : B ≤ w3.heap.size + 1 := Nat.le_succ_of_le HB3.out; clear hQ3 hf3 h2)
                | (go_at_call 16; refine (HRW.out _).mono ?_; rintro e wz ⟨rfl, rfl⟩)
                | (at_builtin; go_must (refine wpList_append_own _ rfl (.tmp 86) (.tmp 91) 36 rfl B 9 i0 (.string ⟨#[]⟩) 1 16 Tryd.underlying36 hi0 hz0 hz1 hz2 rfl (Nat.succ_pos 0) (.slice D i cp) i (strL (wantL LL i)) rfl HO4.out ⟨w3.heap.size, 0, none⟩ 1 1 [.string ((s ++ sp24).extract 0 24)] rfl rfl HN4.out (by simp [Value.oneCell']) hm1 hm2 (by simp; omega) ?_; intro v5 w5 ho5 hg5 hn5; obtain ⟨g5, c5, rfl⟩ := own_succ ho5; have HA5 := Lib.hid ((HQ3.out.to ((Fr.refl [] w3).alloc _)).own HB.out.1 HB.out.2.1 HB.out.2.2 HO4.out hg5); have HO5 := Lib.hid ho5; have HB5 := Lib.hid (show B ≤ w5.heap.size by have := hg5.size; simp at this; omega); clear ho5 hg5 hn5)))
              go_roundg (n - (i + 1))
              case measure => have := Hi.out; omega
              case rel => exact ⟨i + 1, c5, _, by have := Hi.out; omega, by go_num, by have := HI2.out; omega, rfl, HA5.out, by have h9 := HO5.out; rw [wantL_succ, strL_snoc, HSE.out]; exact h9, HB5.out⟩
          · have HE1 : Hid (ssays (ssays (scL LL i) [10]) s.data.toList = scL LL (i + 1)) := Lib.hid (HSX.out i0')
            have d0 : (0 : Int) < (i : Int) := by omega
            have h0 := HS.out.a
            clear i0' HSX HSF hsE
            by_cases hks : k < t.size
            · have d1 : (k : Int) < (t.size : Int) := by omega
              have d2 : ¬ (k : Int) < 24 := by have := hx.out; have := HK24.out; omega
              clear hks
              go_wp2_with (first
                | (go_at_call 19; refine (HWR.out _ c q _ s hsm h2).mono ?_; rintro e w3 ⟨rfl, hQ3, hf3⟩; rw [HE1.out] at hQ3; have HQ3 := Lib.hid hQ3; have HO4 := Lib.hid (own_far (own_far HO2.out hf3 (by have := HB.out; simp; omega)) ((Fr.refl [] w3).alloc (.cells #[.string ((s ++ sp24).extract 0 24)] 9)) (by simp)); have HN4 := Lib.hid (news1 (w := w3.alloc (.cells #[.string ((s ++ sp24).extract 0 24)] 9)) (b := w3.heap.size) (x := .string ((s ++ sp24).extract 0 24)) (by simp)); have HB3 := Lib.hid (Nat.le_trans HB2.out hf3.size); have hb3 : B ≤ w3.heap.size + 1 := Nat.le_succ_of_le HB3.out; clear hQ3 hf3 h2)
                | (go_at_call 19; refine (HWR.out _ c q _ ⟨#[10]⟩ (by simp [maxLen, ByteArray.size]) h0).mono ?_; rintro e w2 ⟨rfl, h2, hf2⟩; have HO2 := Lib.hid (own_far HS.out.o hf2 (by have := HB.out; simp; omega)); have HB2 := Lib.hid (Nat.le_trans HS.out.b hf2.size); clear hf2 h0)
                | (go_at_call 16; refine (HRW.out _).mono ?_; rintro e wz ⟨rfl, rfl⟩)
                | (at_builtin; go_must (refine wpList_append_own _ rfl (.tmp 86) (.tmp 91) 36 rfl B 9 i0 (.string ⟨#[]⟩) 1 16 Tryd.underlying36 hi0 hz0 hz1 hz2 rfl (Nat.succ_pos 0) (.slice D i cp) i (strL (wantL LL i)) rfl HO4.out ⟨w3.heap.size, 0, none⟩ 1 1 [.string ((s ++ sp24).extract 0 24)] rfl rfl HN4.out (by simp [Value.oneCell']) hm1 hm2 (by simp; omega) ?_; intro v5 w5 ho5 hg5 hn5; obtain ⟨g5, c5, rfl⟩ := own_succ ho5; have HA5 := Lib.hid ((HQ3.out.to ((Fr.refl [] w3).alloc _)).own HB.out.1 HB.out.2.1 HB.out.2.2 HO4.out hg5); have HO5 := Lib.hid ho5; have HB5 := Lib.hid (show B ≤ w5.heap.size by have := hg5.size; simp at this; omega); clear ho5 hg5 hn5)))
              go_roundg (n - (i + 1))
              case measure => have := Hi.out; omega
              case rel => exact ⟨i + 1, c5, _, by have := Hi.out; omega, by go_num, by have := HI2.out; omega, rfl, HA5.out, by have h9 := HO5.out; rw [wantL_succ, strL_snoc, HSE.out]; exact h9, HB5.out⟩
            · have d1 : ¬ (k : Int) < (t.size : Int) := by omega
              clear hks
              go_wp2_with (first
                | (go_at_call 19; refine (HWR.out _ c q _ s hsm h2).mono ?_; rintro e w3 ⟨rfl, hQ3, hf3⟩; rw [HE1.out] at hQ3; have HQ3 := Lib.hid hQ3; have HO4 := Lib.hid (own_far (own_far HO2.out hf3 (by have := HB.out; simp; omega)) ((Fr.refl [] w3).alloc (.cells #[.string ((s ++ sp24).extract 0 24)] 9)) (by simp)); have HN4 := Lib.hid (news1 (w := w3.alloc (.cells #[.string ((s ++ sp24).extract 0 24)] 9)) (b := w3.heap.size) (x := .string ((s ++ sp24).extract 0 24)) (by simp)); have HB3 := Lib.hid (Nat.le_trans HB2.out hf3.size); have hb3 : B ≤ w3.heap.size + 1 := Nat.le_succ_of_le HB3.out; clear hQ3 hf3 h2)
                | (go_at_call 19; refine (HWR.out _ c q _ ⟨#[10]⟩ (by simp [maxLen, ByteArray.size]) h0).mono ?_; rintro e w2 ⟨rfl, h2, hf2⟩; have HO2 := Lib.hid (own_far HS.out.o hf2 (by have := HB.out; simp; omega)); have HB2 := Lib.hid (Nat.le_trans HS.out.b hf2.size); clear hf2 h0)
                | (go_at_call 16; refine (HRW.out _).mono ?_; rintro e wz ⟨rfl, rfl⟩)
                | (at_builtin; go_must (refine wpList_append_own _ rfl (.tmp 86) (.tmp 91) 36 rfl B 9 i0 (.string ⟨#[]⟩) 1 16 Tryd.underlying36 hi0 hz0 hz1 hz2 rfl (Nat.succ_pos 0) (.slice D i cp) i (strL (wantL LL i)) rfl HO4.out ⟨w3.heap.size, 0, none⟩ 1 1 [.string ((s ++ sp24).extract 0 24)] rfl rfl HN4.out (by simp [Value.oneCell']) hm1 hm2 (by simp; omega) ?_; intro v5 w5 ho5 hg5 hn5; obtain ⟨g5, c5, rfl⟩ := own_succ ho5; have HA5 := Lib.hid ((HQ3.out.to ((Fr.refl [] w3).alloc _)).own HB.out.1 HB.out.2.1 HB.out.2.2 HO4.out hg5); have HO5 := Lib.hid ho5; have HB5 := Lib.hid (show B ≤ w5.heap.size by have := hg5.size; simp at this; omega); clear ho5 hg5 hn5)))
              go_roundg (n - (i + 1))
              case measure => have := Hi.out; omega
              case rel => exact ⟨i + 1, c5, _, by have := Hi.out; omega, by go_num, by have := HI2.out; omega, rfl, HA5.out, by have h9 := HO5.out; rw [wantL_succ, strL_snoc, HSE.out]; exact h9, HB5.out⟩
    · by_cases hlt : i < n
      · have d1 : (i : Int) < (n : Int) := by omega
        have d2 : ¬ (i : Int) < 60 := by omega
        clear hlt
        obtain ⟨d, hd⟩ : ∃ d, i - 6 = d := ⟨_, rfl⟩
        have HC := Lib.hid hS.a
        have HSC2 : Hid (∀ W, Cn w W c q (fS n' lg (scL LL i)) → Calls Tryd.prog 15 #[ptr c] W fun e w' => ∃ g cap, e = .returned (.slice (some ⟨g, 0, none⟩) 6 cap) ∧ KeysAt w' g (lastSix LL i) ∧ Fr [] W w') := Lib.hid fun W hc => (HSC.out W c q _ hc).mono fun e w' ⟨g, cap, he, _, _, hk, hf, _⟩ => ⟨g, cap, by rw [he, screen_len], by rw [scL_rows] at hk; exact hk, hf⟩
        have HSM : Hid (∀ W g1 c1 g2 o2 c2, KeysAt W g1 (lastSix LL i) → StrsAt W g2 o2 (lastSix LL i) → Calls Tryd.prog 14 #[.slice (some ⟨g1, 0, none⟩) 6 c1, .slice (some ⟨g2, o2, none⟩) 6 c2] W fun e w' => e = .returned (.bool true) ∧ Fr [] W w') := Lib.hid fun W g1 c1 g2 o2 c2 hk hs => by
          have hl := lastSix_len LL i
          have := same_any W g1 0 c1 g2 o2 c2 (lastSix LL i) (lastSix LL i) hk.strs hs (by rw [hl]; exact mx_le (by omega)) (by rw [hl]; exact mx_le (by omega))
          rw [hl] at this
          unfold SameP at this
          rw [decide_eq_true rfl] at this
          exact this
        by_cases h6 : 6 < i
        · have e6 : (6 : Int) < (i : Int) := by omega
          have e1 : IntKind.i64.wrap ((i : Int) - 6) = (d : Int) := by rw [IntWalk.i64_in _ (by omega)]; omega
          have e2 : (d : Int) ≤ (i : Int) := by omega
          have e3 : i - d = 6 := by omega
          obtain ⟨g, cp', cs, he, q1, q2, q3, q4, q5⟩ := own_some hS.o (fun h => by injection h with _ h _; omega)
          injection he with he1 _ he2
          subst he1; subst he2
          have HST : Hid (StrsAt V0 g d (lastSix LL i)) := Lib.hid (by unfold lastSix; rw [if_pos h6, hd]; exact (strL_at q5 q4).drop d)
          clear q1 q3 q4 q5 hS hi hd h6
          go_wp2_with fail
          go_loopg [10] 0 (fun gg l wr => gg = 0 ∧ l = .slice (some ⟨g, d, none⟩) 6 (cp - d) ∧ wr = V0)
          case atStart => exact ⟨rfl, rfl, rfl⟩
          case round =>
            obtain ⟨-, rfl, rfl⟩ := hrel
            go_wp2_with (first
              | (go_at_call 15; refine (HSC2.out _ HC.out).mono ?_; rintro e w4 ⟨g4, c4, rfl, hrow, hf4⟩; have HS14 := Lib.hid (HSM.out w4 g4 c4 g d (cp - d) hrow (HST.out.to hf4)); have HF4 := Lib.hid (HC.out.f.trans hf4); clear hf4 hrow)
              | (go_at_call 14; refine HS14.out.mono ?_; rintro e w5 ⟨rfl, hf5⟩; have HF5 := Lib.hid (HF4.out.trans hf5); clear hf5)
              | (go_at_call 11; refine (HX.out _).mono ?_; rintro e w6 ⟨rfl, hf6⟩; have HP := Lib.hid (HF5.out.trans hf6); clear hf6))
            go_ret
            exact ⟨rfl, HP.out⟩
        · exfalso; omega
      · have d1 : ¬ (i : Int) < (n : Int) := by omega
        clear hlt
        obtain ⟨d, hd⟩ : ∃ d, i - 6 = d := ⟨_, rfl⟩
        have HC := Lib.hid hS.a
        have HSC2 : Hid (∀ W, Cn w W c q (fS n' lg (scL LL i)) → Calls Tryd.prog 15 #[ptr c] W fun e w' => ∃ g cap, e = .returned (.slice (some ⟨g, 0, none⟩) 6 cap) ∧ KeysAt w' g (lastSix LL i) ∧ Fr [] W w') := Lib.hid fun W hc => (HSC.out W c q _ hc).mono fun e w' ⟨g, cap, he, _, _, hk, hf, _⟩ => ⟨g, cap, by rw [he, screen_len], by rw [scL_rows] at hk; exact hk, hf⟩
        have HSM : Hid (∀ W g1 c1 g2 o2 c2, KeysAt W g1 (lastSix LL i) → StrsAt W g2 o2 (lastSix LL i) → Calls Tryd.prog 14 #[.slice (some ⟨g1, 0, none⟩) 6 c1, .slice (some ⟨g2, o2, none⟩) 6 c2] W fun e w' => e = .returned (.bool true) ∧ Fr [] W w') := Lib.hid fun W g1 c1 g2 o2 c2 hk hs => by
          have hl := lastSix_len LL i
          have := same_any W g1 0 c1 g2 o2 c2 (lastSix LL i) (lastSix LL i) hk.strs hs (by rw [hl]; exact mx_le (by omega)) (by rw [hl]; exact mx_le (by omega))
          rw [hl] at this
          unfold SameP at this
          rw [decide_eq_true rfl] at this
          exact this
        by_cases h6 : 6 < i
        · have e6 : (6 : Int) < (i : Int) := by omega
          have e1 : IntKind.i64.wrap ((i : Int) - 6) = (d : Int) := by rw [IntWalk.i64_in _ (by omega)]; omega
          have e2 : (d : Int) ≤ (i : Int) := by omega
          have e3 : i - d = 6 := by omega
          obtain ⟨g, cp', cs, he, q1, q2, q3, q4, q5⟩ := own_some hS.o (fun h => by injection h with _ h _; omega)
          injection he with he1 _ he2
          subst he1; subst he2
          have HST : Hid (StrsAt V0 g d (lastSix LL i)) := Lib.hid (by unfold lastSix; rw [if_pos h6, hd]; exact (strL_at q5 q4).drop d)
          clear q1 q3 q4 q5 hS hi hd h6
          go_wp2_with fail
          go_loopg [10] 0 (fun gg l wr => gg = 0 ∧ l = .slice (some ⟨g, d, none⟩) 6 (cp - d) ∧ wr = V0)
          case atStart => exact ⟨rfl, rfl, rfl⟩
          case round =>
            obtain ⟨-, rfl, rfl⟩ := hrel
            go_wp2_with (first
              | (go_at_call 15; refine (HSC2.out _ HC.out).mono ?_; rintro e w4 ⟨g4, c4, rfl, hrow, hf4⟩; have HS14 := Lib.hid (HSM.out w4 g4 c4 g d (cp - d) hrow (HST.out.to hf4)); have HF4 := Lib.hid (HC.out.f.trans hf4); clear hf4 hrow)
              | (go_at_call 14; refine HS14.out.mono ?_; rintro e w5 ⟨rfl, hf5⟩; have HF5 := Lib.hid (HF4.out.trans hf5); clear hf5)
              | (go_at_call 11; refine (HX.out _).mono ?_; rintro e w6 ⟨rfl, hf6⟩; have HP := Lib.hid (HF5.out.trans hf6); clear hf6))
            go_ret
            exact ⟨rfl, HP.out⟩
        · have e6 : ¬ (6 : Int) < (i : Int) := by omega
          have HO0 : Hid (V0.ownsRow B 9 1 (.slice D i cp) i (strL (wantL LL i ++ List.replicate (i - i) sp24))) := Lib.hid (by rw [Nat.sub_self, List.replicate_zero, List.append_nil]; exact hS.o)
          have HI6 := Lib.hid (show i ≤ 6 by omega)
          have HB0 := Lib.hid hS.b
          have HLE : Hid (lastSix LL i = wantL LL i ++ List.replicate (6 - i) sp24) := Lib.hid (by unfold lastSix; rw [if_neg h6])
          clear hS hi hd h6
          go_wp2_with fail
          go_loopg [10] (6 - i) (fun gg l wr => ∃ (k cp : Nat) (D : Option Addr), k + gg = 6 ∧ i ≤ k ∧ l = .slice D k cp ∧ Cn w wr c q (fS n' lg (scL LL i)) ∧ wr.ownsRow B 9 1 (.slice D k cp) k (strL (wantL LL i ++ List.replicate (k - i) sp24)) ∧ B ≤ wr.heap.size)
          case atStart => exact ⟨i, cp, D, by have := HI6.out; omega, Nat.le_refl _, rfl, HC.out, HO0.out, HB0.out⟩
          case round =>
            clear HC
            obtain ⟨k, cp, D, hk, hik, rfl, hc, ho, hb⟩ := hrel
            have Hk := Lib.hid hk
            have HC := Lib.hid hc
            have HIK := Lib.hid hik
            by_cases hk6 : k < 6
            · have hk6' : (k : Int) < 6 := by omega
              have HRP : Hid (strL (wantL LL i ++ List.replicate (k + 1 - i) sp24) = strL (wantL LL i ++ List.replicate (k - i) sp24) ++ [.string sp24]) := Lib.hid (by rw [show k + 1 - i = (k - i) + 1 by omega, List.replicate_succ', ← List.append_assoc, strL_snoc])
              have HO4 := Lib.hid (own_far ho ((Fr.refl [] wr).alloc (.cells #[.string sp24] 9)) (by simp))
              have HN4 := Lib.hid (news1 (w := wr.alloc (.cells #[.string sp24] 9)) (b := wr.heap.size) (x := .string sp24) (by simp))
              have hm1 : k + 1 ≤ maxLen := by simp only [maxLen]; omega
              have hm2 : (k + 1) * 16 ≤ 140737488355328 := by omega
              have hb3 : B ≤ wr.heap.size + 1 := by omega
              clear hk hik hc ho hb
              go_wp2_with (first
                | (go_at_call 16; refine (HRW.out _).mono ?_; rintro e wz ⟨rfl, rfl⟩)
                | (at_builtin; go_must (refine wpList_append_own _ rfl (.tmp 104) (.tmp 106) 36 rfl B 9 i0 (.string ⟨#[]⟩) 1 16 Tryd.underlying36 hi0 hz0 hz1 hz2 rfl (Nat.succ_pos 0) (.slice D k cp) k (strL (wantL LL i ++ List.replicate (k - i) sp24)) rfl HO4.out ⟨wr.heap.size, 0, none⟩ 1 1 [.string (sp24)] rfl rfl HN4.out (by simp [Value.oneCell']) hm1 hm2 (by simp; omega) ?_; intro v5 w5 ho5 hg5 hn5; obtain ⟨g5, c5, rfl⟩ := own_succ ho5; have HA5 := Lib.hid ((HC.out.to ((Fr.refl [] wr).alloc _)).own HB.out.1 HB.out.2.1 HB.out.2.2 HO4.out hg5); have HO5 := Lib.hid ho5; have HB5 := Lib.hid (show B ≤ w5.heap.size by have := hg5.size; simp at this; omega); clear ho5 hg5 hn5)))
              go_roundg (6 - (k + 1))
              case measure => have := Hk.out; omega
              case rel => exact ⟨k + 1, c5, _, by have := Hk.out; omega, by have := HIK.out; omega, rfl, HA5.out, by rw [HRP.out]; exact HO5.out, HB5.out⟩
            · have hk6' : ¬ (k : Int) < 6 := by omega
              obtain rfl : k = 6 := by omega
              obtain ⟨g, cp', cs, he, q1, q2, q3, q4, q5⟩ := own_some ho (fun h => by injection h with _ h _; omega)
              injection he with he1 _ he2
              subst he1; subst he2
              have HST : Hid (StrsAt wr g 0 (lastSix LL i)) := Lib.hid (by rw [HLE.out]; exact strL_at q5 q4)
              clear q1 q3 q4 q5 hk hik hc ho hb hk6 hk6'
              go_wp2_with (first
                | (go_at_call 15; refine (HSC2.out _ HC.out).mono ?_; rintro e w4 ⟨g4, c4, rfl, hrow, hf4⟩; have HS14 := Lib.hid (HSM.out w4 g4 c4 g 0 (cp) hrow (HST.out.to hf4)); have HF4 := Lib.hid (HC.out.f.trans hf4); clear hf4 hrow)
                | (go_at_call 14; refine HS14.out.mono ?_; rintro e w5 ⟨rfl, hf5⟩; have HF5 := Lib.hid (HF4.out.trans hf5); clear hf5)
                | (go_at_call 11; refine (HX.out _).mono ?_; rintro e w6 ⟨rfl, hf6⟩; have HP := Lib.hid (HF5.out.trans hf6); clear hf6))
              go_ret
              exact ⟨rfl, HP.out⟩
theorem scrolls_walk (w : World) (lv : Int) (lg : ByteArray) (hs : lg.size ≤ maxLen) (A : Option Addr) (n cap : Nat) (T : Nat → ByteArray) (hT : StrsT w A n T) : Calls Tryd.prog 4 #[.int .i64 lv, .string lg, .slice A n cap] w (FixP w) := by
  cases h : okNew lv lg with
  | false => exact scrolls_no w lv lg hs A n cap h
  | true =>
    obtain ⟨L, rfl, -⟩ := okNew_spec h
    exact scrolls_yes w L lg hs A n cap T hT h
end Go.Proofs.YtkjahokffpihmaaDoor
