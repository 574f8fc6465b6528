/- What the document's New refuses; a row of blanks; a remainder; a console whose focus is a level. -/
import Derived.Test.YtkjahokffpihmaaDoorC19
namespace Go.Proofs.YtkjahokffpihmaaDoor
open Go.RowKit
set_option linter.unusedVariables false
set_option linter.unusedSimpArgs false
set_option maxRecDepth 100000
theorem rNew_bad (w : World) (lv : Int) (lg : ByteArray) (hs : lg.size ≤ maxLen) (h : okNew lv lg = false) : Calls Tryd.prog 10 #[.int .i64 lv, .string lg] w fun e w' => e = .returned (.tuple #[.pointer none, .int .i64 220]) ∧ w = w' := by
  have HL := Lib.hid (rLogin_any lg hs w)
  by_cases h1 : lv < 1
  · clear h hs
    go_enter Tryd.func10, Tryd.ntmps10
    go_wp2_with fail
    go_ret2
    exact ⟨rfl, rfl⟩
  · by_cases h2 : 8 < lv
    · clear h hs
      go_enter Tryd.func10, Tryd.ntmps10
      go_wp2_with fail
      go_ret2
      exact ⟨rfl, rfl⟩
    · have h3 : lgB lg = false := by
        unfold okNew at h
        simp only [Bool.and_eq_false_iff, decide_eq_false_iff_not] at h
        rcases h with (h | h) | h
        · omega
        · omega
        · exact h
      rw [h3] at HL
      clear h hs h3
      go_enter Tryd.func10, Tryd.ntmps10
      go_wp2_with (go_at_call 32; refine HL.out.mono ?_; rintro e w1 ⟨rfl, rfl⟩)
      go_ret2
      exact ⟨rfl, rfl⟩
theorem row_any (w : World) : Calls Tryd.prog 16 #[] w fun e w' => e = .returned (.string sp24) ∧ w = w' := by
  have HE := Lib.hid (rfl : sp24 = ⟨#[32, 32, 32, 32, 32, 32, 32, 32, 32, 32, 32, 32, 32, 32, 32, 32, 32, 32, 32, 32, 32, 32, 32, 32]⟩)
  rw [HE.out]
  go_enter Tryd.func16, Tryd.ntmps16
  go_wp2
  go_ret
  exact ⟨rfl, rfl⟩
/-- The remainder, 0 and above. -/
theorem place_any (x : Int) (m : Nat) (hm : 0 < m) (hm2 : m ≤ 4611686018427387904) (hx0 : -9223372036854775808 ≤ x) (hx1 : x ≤ 9223372036854775807) (w : World) :
    Calls Tryd.prog 22 #[.int .i64 x, .int .i64 (m : Int)] w fun e w' => e = .returned (.int .i64 (x % (m : Int))) ∧ w = w' := by
  have hm0 : ¬ (m : Int) = 0 := by omega
  have hb := Int.emod_nonneg x hm0
  have hb2 := Int.emod_lt_of_pos x (show (0 : Int) < m by omega)
  have ht : x.tmod m = if 0 ≤ x ∨ (m : Int) ∣ x then x % m else x % m - m := by
    rw [Int.tmod_eq_emod]
    by_cases h : 0 ≤ x ∨ (m : Int) ∣ x
    · rw [if_pos h, if_pos h]; omega
    · rw [if_neg h, if_neg h]
      simp
  obtain ⟨r, hr⟩ : ∃ r, x % (m : Int) = r := ⟨_, rfl⟩
  rw [hr] at hb hb2 ht ⊢
  by_cases h : 0 ≤ x ∨ (m : Int) ∣ x
  · rw [if_pos h] at ht
    have hn : ¬ r < 0 := by omega
    clear h hr
    go_enter Tryd.func22, Tryd.ntmps22
    go_wp2
    go_ret
    exact ⟨rfl, rfl⟩
  · rw [if_neg h] at ht
    have hnz : r ≠ 0 := by
      intro e
      apply h
      right
      exact Int.dvd_of_emod_eq_zero (by rw [hr, e])
    have hn : r - (m : Int) < 0 := by omega
    have hw : IntKind.i64.wrap (r - (m : Int) + (m : Int)) = r := by
      rw [show r - (m : Int) + (m : Int) = r from by omega]
      exact IntWalk.i64_in _ (by omega)
    clear h hr
    go_enter Tryd.func22, Tryd.ntmps22
    go_wp2
    go_ret
    exact ⟨rfl, rfl⟩
/-! A console whose focus is a level. -/
/-- Its state: its keys are ks. -/
def focC (lv : Nat) (lg : ByteArray) (f : Nat) (ks : List ByteArray) (sc : Sc) : Con := ⟨lv, lg, (f : Int), true, lg, ks, sc⟩
theorem key_letter {x : Con} {b : UInt8} (hf : x.fo = -1) (hc : x.ch = false) (h1 : b.toNat ≠ 1) (h13 : b.toNat ≠ 13) (ht : x.ty.size < 17) : key x b = { x with ty := appB x.ty b } := by
  unfold key
  rw [if_neg h1, if_neg (by simpa using hf), if_neg (by simp [hc])]
  unfold toPass ty1
  rw [if_pos h13, if_pos ht]
theorem appB_data (s : ByteArray) (b : UInt8) : (appB s b).data.toList = s.data.toList ++ [b] := by
  unfold appB
  rw [ByteArray.data_append]
  simp
theorem keys_letters : ∀ (l : List UInt8) (x : Con), x.fo = -1 → x.ch = false → (∀ b ∈ l, okb b = true) → x.ty.size + l.length ≤ 17 → ∃ t : ByteArray, keysX x l = { x with ty := t } ∧ t.data.toList = x.ty.data.toList ++ l
  | [], x, _, _, _, _ => ⟨x.ty, rfl, by simp⟩
  | b :: l, x, hf, hc, hb, ht => by
    have hb1 := hb b (by simp)
    unfold okb at hb1
    simp only [Bool.and_eq_true, decide_eq_true_eq] at hb1
    simp only [List.length_cons] at ht
    have hk := key_letter hf hc (show b.toNat ≠ 1 by omega) (show b.toNat ≠ 13 by omega) (by omega)
    obtain ⟨t, h1, h2⟩ := keys_letters l { x with ty := appB x.ty b } hf hc (fun c hcm => hb c (by simp [hcm])) (by rw [appB_size]; omega)
    refine ⟨t, ?_, ?_⟩
    · show keysX (key x b) l = _
      rw [hk, h1]
    · rw [h2, appB_data]
      simp
theorem focused_keys {lv : Nat} {lg : ByteArray} (hg : lgB lg = true) (h8 : lv ≤ 8) {f : Nat} (hf : f < lv) : keysX (newCon lv lg) (lg.data.toList ++ [13, dig f]) = focC lv lg f (List.replicate lv empty) sclear := by
  obtain ⟨g0, g1, g2⟩ := lgB_spec hg
  have hok : ∀ b ∈ lg.data.toList, okb b = true := List.all_eq_true.1 g0
  obtain ⟨t, h1, h2⟩ := keys_letters lg.data.toList (newCon lv lg) rfl rfl hok (by
    have e : (newCon lv lg).ty.size = 0 := rfl
    have e2 : lg.data.toList.length = lg.size := rfl
    omega)
  have ht : t = lg := by
    apply ByteArray.ext
    apply Array.toList_inj.1
    rw [h2]
    rfl
  have happ : keysX (newCon lv lg) (lg.data.toList ++ [13, dig f]) = key (key (keysX (newCon lv lg) lg.data.toList) 13) (dig f) := by
    unfold keysX
    rw [List.foldl_append]
    rfl
  rw [happ, h1, ht]
  have k1 : key { newCon lv lg with ty := lg } 13 = { newCon lv lg with ty := lg, ch := true, sc := ssays (newCon lv lg).sc levS } := by
    unfold key
    rw [if_neg (by decide), if_neg (by intro h; exact h rfl), if_neg (by simp [newCon, reset, trust])]
    unfold toPass
    rw [if_neg (by decide), if_pos (show ({ newCon lv lg with ty := lg } : Con).ty = ({ newCon lv lg with ty := lg } : Con).lg from rfl)]
  rw [k1]
  have hd : (dig f).toNat = 48 + f := dig_toNat (by omega)
  unfold key
  rw [if_neg (by omega), if_neg (by intro h; exact h rfl), if_pos rfl]
  unfold toChoice
  rw [if_pos (by
    rw [hd]
    refine ⟨by omega, ?_⟩
    show ((48 + f : Nat) : Int) - 48 < (lv : Int)
    omega)]
  unfold focC
  rw [hd]
  have e : ((48 + f : Nat) : Int) - 48 = (f : Int) := by omega
  rw [e]
  rfl
def FocP (w : World) (lv : Int) (lg : ByteArray) (f : Nat) (e : Ending) (w' : World) : Prop := ∃ c k, e = .returned (ptr c) ∧ Cn w w' c k (focC lv.toNat lg f (List.replicate lv.toNat empty) sclear)
theorem focused_no (w : World) (lv : Int) (lg : ByteArray) (f : Int) (h : okNew lv lg = false) : Calls Tryd.prog 18 #[.int .i64 lv, .string lg, .int .i64 f] w fun e w' => e = .returned (.pointer none) ∧ Fr [] w w' := by
  have HN : Hid (Calls Tryd.prog 21 #[.int .i64 lv, .string lg] w fun e w' => e = .returned (.tuple #[.pointer none, .int .i64 220]) ∧ Fr [] w w') := Lib.hid ((cn_new w w (Fr.refl _ _) lv lg).mono fun e w' hh => by
    rcases hh with ⟨-, he, hf⟩ | ⟨h1, -⟩
    · exact ⟨he, hf⟩
    · rw [h] at h1; cases h1)
  clear h
  go_enter Tryd.func18, Tryd.ntmps18
  go_wp2_with (go_at_call 21; refine HN.out.mono ?_; rintro e w1 ⟨rfl, hf⟩; have HF := Lib.hid hf; clear hf)
  go_ret
  exact ⟨rfl, HF.out⟩
theorem okNew_spec {lv : Int} {lg : ByteArray} (h : okNew lv lg = true) : ∃ n : Nat, lv = (n : Int) ∧ 1 ≤ n ∧ n ≤ 8 ∧ lgB lg = true := by
  unfold okNew at h
  simp only [Bool.and_eq_true, decide_eq_true_eq] at h
  obtain ⟨⟨h1, h8⟩, hg⟩ := h
  obtain ⟨n, rfl⟩ := Int.eq_ofNat_of_zero_le (show 0 ≤ lv by omega)
  exact ⟨n, rfl, by omega, by omega, hg⟩
set_option maxHeartbeats 1000000 in
theorem focused_yes (w : World) (lv : Int) (lg : ByteArray) (f : Nat) (h : okNew lv lg = true) (hf : (f : Int) < lv) : Calls Tryd.prog 18 #[.int .i64 lv, .string lg, .int .i64 (f : Int)] w (FocP w lv lg f) := by
  have HN : Hid (Calls Tryd.prog 21 #[.int .i64 lv, .string lg] w fun e w' => ∃ c k, e = .returned (.tuple #[ptr c, .int .i64 0]) ∧ Cn w w' c k (newCon lv.toNat lg)) := Lib.hid ((cn_new w w (Fr.refl _ _) lv lg).mono fun e w' hh => by
    rcases hh with ⟨h1, -⟩ | ⟨-, hh⟩
    · rw [h] at h1; cases h1
    · exact hh)
  obtain ⟨n, rfl, h1, h8, hg⟩ := okNew_spec h
  obtain ⟨g0, g1, g2⟩ := lgB_spec hg
  have hfn : f < n := by omega
  have hfk := focused_keys hg h8 hfn
  have hK : Hid (∀ W c k, Cn w W c k (newCon (n : Int).toNat lg) → Calls Tryd.prog 23 #[ptr c, .string (lg ++ ⟨#[13]⟩ ++ ⟨#[dig f]⟩)] W (CnE w W c k (focC (n : Int).toNat lg f (List.replicate (n : Int).toNat empty) sclear) (.tuple #[]))) := Lib.hid fun W c k hc => by
    have hsz : (lg ++ ⟨#[13]⟩ ++ ⟨#[dig f]⟩ : ByteArray).size ≤ maxLen := mx_le (by
      rw [ByteArray.size_append, ByteArray.size_append]
      have e1 : (⟨#[13]⟩ : ByteArray).size = 1 := rfl
      have e2 : (⟨#[dig f]⟩ : ByteArray).size = 1 := rfl
      omega)
    have := cn_keys hc (lg ++ ⟨#[13]⟩ ++ ⟨#[dig f]⟩) hsz
    have e : (lg ++ ⟨#[13]⟩ ++ ⟨#[dig f]⟩ : ByteArray).data.toList = lg.data.toList ++ [13, dig f] := by
      rw [ByteArray.data_append, ByteArray.data_append]
      simp
    rw [e] at this
    simp only [Int.toNat_natCast] at this ⊢
    rw [hfk] at this
    exact this
  have hdig : (((dig f).toNat : Nat) : Int) = 48 + (f : Int) := by rw [dig_toNat (by omega)]; omega
  have hw : IntKind.u8.wrap (48 + (f : Int)) = 48 + (f : Int) := IntWalk.u8_in _ (by omega)
  have hw2 : IntKind.i64.wrap (48 + (f : Int)) = 48 + (f : Int) := IntWalk.i64_in _ (by omega)
  have s1 : ¬ 9223372036854775807 < lg.size + 1 := by omega
  have s2 : ¬ 9223372036854775807 < lg.size + 1 + 1 := by omega
  have HD := Lib.hid hdig
  have hcv : Hid (∀ W : World, ∀ v, v = 48 + (f : Int) → (convert 40 9 (.slice (some ⟨W.heap.size, 0, none⟩) 1 1)).run Tryd.prog (W.alloc (.cells #[.int .u8 v] 5)) = .ok (.string ⟨#[dig f]⟩) (W.alloc (.cells #[.int .u8 v] 5))) := Lib.hid fun W v hv => conv_one _ _ _ (by rw [hv, ← HD.out]; simp)
  unfold FocP
  clear h h1 h8 hg g0 g1 g2 hfn hfk hdig
  go_enter Tryd.func18, Tryd.ntmps18
  go_wp2_with (go_at_call 21; refine HN.out.mono ?_; rintro e w1 ⟨c, k, rfl, h1⟩; have HCV := hcv.out w1 _ rfl; have HC := Lib.hid h1; clear h1)
  refine (hK.out _ c k (HC.out.to ((Fr.refl [] w1).alloc _))).mono ?_
  rintro e w2 hP
  obtain ⟨rfl, hQ, -⟩ := hP
  have HQ := Lib.hid hQ
  clear hQ
  go_wp2_with fail
  go_ret
  exact ⟨c, k, rfl, HQ.out⟩
end Go.Proofs.YtkjahokffpihmaaDoor
