/- ConsoleGuards: the walk. -/
import Derived.Test.YtkjahokffpihmaaDoorC22
namespace Go.Proofs.YtkjahokffpihmaaDoor
open Go.RowKit
set_option linter.unusedVariables false
set_option linter.unusedSimpArgs false
set_option maxRecDepth 100000
theorem strs6 {W : World} {g : Nat} {a0 a1 a2 a3 a4 a5 : ByteArray} (h : W.heap[g]? = some (.cells #[.string a0, .string a1, .string a2, .string a3, .string a4, .string a5] 9 (0, 0))) : StrsAt W g 0 [a0, a1, a2, a3, a4, a5] := by
  intro i s hi
  have hb : Blk W g 9 #[.string a0, .string a1, .string a2, .string a3, .string a4, .string a5] := h
  rw [Nat.zero_add, hb.cell]
  match i, hi with
  | 0, hi => simp at hi; subst hi; rfl
  | 1, hi => simp at hi; subst hi; rfl
  | 2, hi => simp at hi; subst hi; rfl
  | 3, hi => simp at hi; subst hi; rfl
  | 4, hi => simp at hi; subst hi; rfl
  | 5, hi => simp at hi; subst hi; rfl
  | i + 6, hi => simp at hi
/-- A screen against six rows of the law's own. -/
theorem same6 {W0 W : World} {g cap : Nat} {l : List ByteArray} (hl : l.length = 6) (hk : KeysAt W g l) (a0 a1 a2 a3 a4 a5 : ByteArray) : Calls Tryd.prog 14 #[.slice (some ⟨g, 0, none⟩) 6 cap, .slice (some ⟨W.heap.size, 0, none⟩) 6 6] (W.alloc (.cells #[.string a0, .string a1, .string a2, .string a3, .string a4, .string a5] 9)) (fun e w' => e = .returned (.bool (decide (l = [a0, a1, a2, a3, a4, a5]))) ∧ Fr [] (W.alloc (.cells #[.string a0, .string a1, .string a2, .string a3, .string a4, .string a5] 9)) w') := by
  have := same_any (W.alloc (.cells #[.string a0, .string a1, .string a2, .string a3, .string a4, .string a5] 9)) g 0 cap W.heap.size 0 6 l [a0, a1, a2, a3, a4, a5] (hk.fr ((Fr.refl [] W).alloc _) (by simp)).strs (strs6 (heap_alloc_new W _)) (by rw [hl]; exact mx_le (by omega)) (mx_le (by simp))
  rw [hl] at this
  exact this
theorem guards_no (w : World) (lv : Int) (lg : ByteArray) (hs : lg.size ≤ maxLen) (A : Option Addr) (n cap : Nat) (K : ByteArray) (h : okNew lv lg = false) : Calls Tryd.prog 3 #[.int .i64 lv, .string lg, .agg #[.slice A n cap, .string K]] w (FixP w) := by
  have HM := Lib.hid (fun W => made_no W lv lg A n cap h)
  have HN := nil_end (w := w) lv lg hs h
  have HX := Lib.hid fixed_any
  have HA := Lib.hid ((Fr.refl [] w).alloc (.cells #[.slice A n cap, .string K] 24))
  clear h hs
  go_enter Tryd.func3, Tryd.ntmps3
  go_wp2_with (first
    | (go_at_call 9; refine (HM.out _).mono ?_; rintro e w1 ⟨rfl, hf⟩; have HF1 := Lib.hid (HA.out.trans hf); clear hf)
    | (go_at_call 10; refine (HN.out _).mono ?_; rintro e w2 ⟨rfl, rfl⟩)
    | (go_at_call 11; refine (HX.out _).mono ?_; rintro e w3 ⟨rfl, hf3⟩; have HP := Lib.hid (HF1.out.trans hf3); clear hf3))
  go_ret
  exact ⟨rfl, HP.out⟩
/-- How stage, typed bytes and console go together. -/
def GS (lv : Nat) (lg : ByteArray) (s : Int) (typed : ByteArray) (x : Con) : Prop :=
  (s = 0 ∧ ∃ sc, x = g0 lv lg (t17 typed) sc) ∨ (s = 1 ∧ ∃ sc, x = g1 lv lg sc) ∨ (s = 2 ∧ ∃ f, f < lv ∧ x = fk lv lg f empty)
theorem GS.facts {lv : Nat} {lg : ByteArray} {s : Int} {typed : ByteArray} {x : Con} (h : GS lv lg s typed x) : x.lv = lv ∧ x.lg = lg ∧ x.ks = reps lv := by
  rcases h with ⟨-, sc, rfl⟩ | ⟨-, sc, rfl⟩ | ⟨-, f, -, rfl⟩
  · exact ⟨rfl, rfl, rfl⟩
  · exact ⟨rfl, rfl, rfl⟩
  · exact ⟨rfl, rfl, set_rep lv f⟩
def GRel (W0 wr : World) (c q lv : Nat) (lg : ByteArray) (s : Int) (typed : ByteArray) : Prop := ∃ x, GS lv lg s typed x ∧ Cn W0 wr c q x
set_option maxHeartbeats 6000000 in
theorem guards_yes (w : World) (L : Nat) (lg : ByteArray) (A : Option Addr) (n cap : Nat) (ops : Nat → OpC) (ho : OpsC w A n ops) (K : ByteArray) (hK : K.size ≤ 140737488355328) (h : okNew (L : Int) lg = true) : Calls Tryd.prog 3 #[.int .i64 (L : Int), .string lg, .agg #[.slice A n cap, .string K]] w (FixP w) := by
  obtain ⟨n', hn', l1, l8, hlg⟩ := okNew_spec h
  obtain rfl : n' = L := by omega
  obtain ⟨-, -, hg16⟩ := lgB_spec hlg
  obtain ⟨W0, hW0⟩ : ∃ W0, w.alloc (.cells #[.slice A n cap, .string K] 24) = W0 := ⟨_, rfl⟩
  have hF0 : Fr [] w W0 := by rw [← hW0]; exact (Fr.refl [] w).alloc _
  have hc1 : W0.cell? ⟨w.heap.size, 1, none⟩ = some (.string K) := by rw [← hW0]; simp
  have HB1 := Lib.hid (fun W (hf : Fr [] W0 W) => hf.cell_some hc1 (by simp))
  obtain ⟨y, hy⟩ : ∃ y, runC (newCon (n' : Int).toNat lg) ops n = y := ⟨_, rfl⟩
  have hylv : y.lv = n' ∧ y.lg = lg := by rw [← hy]; have := runC_lv (newCon (n' : Int).toNat lg) ops n; exact this
  have HM := Lib.hid (made_yes W0 (n' : Int) lg A n cap ops (ho.fr hF0) h)
  rw [hy] at HM
  have HTK := Lib.hid (fun m W c q (hc : Cn W0 W c q (tk y m)) => hc.take (m : Int))
  have HK1 : Hid (∀ W c q, Cn W0 W c q (tk y n') → Calls Tryd.prog 13 #[ptr c, .int .u8 1] W (CnE W0 W c q (g0 n' lg (t17 empty) pwSc) (.tuple #[]))) := Lib.hid fun W c q hc => by
    have hk := hc.key 1
    have hn0 : y.ks.length = y.lv ∨ True := .inr trivial
    have h1 := tk_lv y n'
    have hks : (tk y n').ks = reps n' := by
      have hlen : y.ks.length = y.lv := by
        have := hc.ok.n
        rw [h1.2.2, h1.1] at this
        exact this
      have := tk_all y hlen
      rw [hylv.1] at this
      exact this
    rw [g_secure_x (lv := n') (lg := lg) (tk y n') (h1.1.trans hylv.1) (h1.2.1.trans hylv.2) hks rfl] at hk
    exact hk
  have HSC : Hid (∀ W c q, Cn W0 W c q (g0 n' lg (t17 empty) pwSc) → Calls Tryd.prog 15 #[ptr c] W (RowP W [r1, sp24, sp24, sp24, sp24, sp24])) := Lib.hid fun W c q hc => by
    have := hc.screen
    rw [show (g0 n' lg (t17 empty) pwSc).sc = pwSc from rfl, pw_rows] at this
    exact this
  have HFO := Lib.hid (fun W c q x (hc : Cn W0 W c q x) => hc.focus)
  have HX := Lib.hid fixed_any
  have HW := Lib.hid hW0
  have HF0 := Lib.hid hF0
  have HL := Lib.hid l1
  have hl8 : (n' : Int) ≤ 8 := by omega
  have hKs : K.size ≤ 9223372036854775807 := by omega
  have HG16 := Lib.hid hg16
  have HKK := Lib.hid hK
  have HRW := Lib.hid row_any
  clear h hn' l1 l8 hlg hg16 hW0 hc1 ho hF0 hy hylv hK
  go_enter Tryd.func3, Tryd.ntmps3
  go_wp2_with fail
  rw [HW.out]
  refine HM.out.mono ?_
  rintro e w1 ⟨c, q, rfl, h1⟩
  clear HM
  go_wp2_with fail
  go_loopg [10] n' (fun gg i wr => ∃ k : Nat, k + gg = n' ∧ i = .int .i64 k ∧ Cn W0 wr c q (tk y k))
  case atStart => exact ⟨0, by omega, rfl, h1⟩
  case round =>
    clear h1
    obtain ⟨k, hk, rfl, hc⟩ := hrel
    have Hk := Lib.hid hk
    by_cases hlt : k < n'
    · have hlt' : (k : Int) < (n' : Int) := by omega
      have HT := Lib.hid (HTK.out k _ c q hc)
      clear hc hk
      go_wp2_with (go_at_call 12; refine HT.out.mono ?_; rintro e w2 hP; obtain ⟨rfl, hQ, -⟩ := hP; have HQ := Lib.hid hQ; clear hQ)
      go_roundg (n' - (k + 1))
      case measure => have := Hk.out; omega
      case rel => exact ⟨k + 1, by have := Hk.out; omega, by go_num, HQ.out⟩
    · have hkn : k = n' := by omega
      rw [hkn] at hc
      have HK1' := Lib.hid (HK1.out _ c q hc)
      clear hc hk hkn
      go_wp2_with (go_at_call 13; refine HK1'.out.mono ?_; rintro e w2 hP; obtain ⟨rfl, h2, -⟩ := hP)
      refine (HSC.out _ c q h2).mono ?_
      rintro e w3 ⟨g, gc, rfl, gl, gm, hrow, hf3, hg3⟩
      have h3 := h2.to hf3
      have HRO := Lib.hid hrow
      clear h2 hf3 hrow gl gm
      have hs6 := same6 (W0 := w3) (cap := gc) (show ([r1, sp24, sp24, sp24, sp24, sp24] : List ByteArray).length = 6 from rfl) HRO.out r1 sp24 sp24 sp24 sp24 sp24
      rw [decide_eq_true rfl] at hs6
      have HS6 := Lib.hid hs6
      clear hs6
      go_wp2_with (first
        | (go_at_call 16; refine (HRW.out _).mono ?_; rintro e wz ⟨rfl, rfl⟩)
        | (go_at_call 14; refine HS6.out.mono ?_; rintro e w4 ⟨rfl, hf4⟩; have h4 := (h3.to ((Fr.refl [] w3).alloc _)).to hf4; clear hf4 h3)
        | (go_at_call 17; refine (HFO.out _ c q _ h4).mono ?_; rintro e wz ⟨rfl, rfl⟩))
      have H4 := Lib.hid h4
      clear h4
      go_loopg [12, 13, 14] K.size (fun gg st ty i wr => ∃ (k : Nat) (s : Int) (typed : ByteArray), k + gg = K.size ∧ i = .int .i64 k ∧ st = .int .i64 s ∧ ty = .string typed ∧ typed.size ≤ k ∧ GRel W0 wr c q n' lg s typed)
      case atStart => exact ⟨0, 0, empty, by omega, rfl, rfl, rfl, by simp [empty, ByteArray.size], _, .inl ⟨rfl, _, rfl⟩, H4.out⟩
      case round =>
        obtain ⟨k, s, typed, hk, rfl, rfl, rfl, htk, x, hg, hx⟩ := hrel
        have Hk := Lib.hid hk
        have Htk := Lib.hid htk
        have kc := HB1.out _ hx.f
        obtain ⟨W1, rfl⟩ : ∃ W1, W1 = wr := ⟨_, rfl⟩
        by_cases hkl : k < K.size
        · have hkl' : (k : Int) < (K.size : Int) := by omega
          have hk0 : (0 : Int) ≤ (k : Int) := by omega
          have hb0 : (0 : Int) ≤ (K[k].toNat : Int) := by omega
          have hb1 : (K[k].toNat : Int) < 256 := by have := UInt8.toNat_lt K[k]; omega
          by_cases b1 : K[k].toNat = 1
          · have e1 : ((K[k].toNat : Int) == 1) = true := by rw [b1]; rfl
            have KX : Hid (∀ W, Cn W0 W c q (x) → Calls Tryd.prog 13 #[ptr c, .int .u8 (K[k].toNat : Int)] W (CnE W0 W c q (g0 n' lg (t17 empty) pwSc) (.tuple #[]))) := Lib.hid fun W hc => by
                have hh := hc.key K[k]
                rw [g_secure_x (lv := n') (lg := lg) x hg.facts.1 hg.facts.2.1 hg.facts.2.2 b1] at hh
                exact hh
            have FX := Lib.hid (fun W (hc : Cn W0 W c q (x)) => HFO.out W c q _ hc)
            have FY : Hid (∀ W, Cn W0 W c q (g0 n' lg (t17 empty) pwSc) → Calls Tryd.prog 17 #[ptr c] W fun e w' => e = .returned (.int .i64 (-1)) ∧ W = w') := Lib.hid fun W hc => by
                have hh := HFO.out W c q _ hc
                exact hh
            have TQ : Hid (∀ m, m < n' → ∀ W, Cn W0 W c q (g0 n' lg (t17 empty) pwSc) → Calls Tryd.prog 12 #[ptr c, .int .i64 (m : Int)] W (CnE W0 W c q (g0 n' lg (t17 empty) pwSc) (.tuple #[.string ⟨#[]⟩, .int .i64 0]))) := Lib.hid fun m hm W hc => by
                have hh := hc.take (m : Int)
                obtain ⟨t1, t2, t3⟩ := take_reps (lv := n') (x := g0 n' lg (t17 empty) pwSc) rfl rfl hm
                rw [t1, t2, t3] at hh
                exact hh
            have HG : Hid (GS n' lg 0 empty (g0 n' lg (t17 empty) pwSc)) := Lib.hid (.inl ⟨rfl, _, rfl⟩)
            generalize g0 n' lg (t17 empty) pwSc = y2 at *
            clear hk htk hg b1
            go_wp2_with (first
                | (go_at_call 17; have hq := FX.out _ hx; refine hq.mono ?_; clear hq; rintro e wf ⟨rfl, rfl⟩)
                | (go_at_call 17; have hq := FY.out _ hy; refine hq.mono ?_; clear hq; rintro e wf ⟨rfl, rfl⟩)
                | (go_at_call 13; have hq := KX.out _ hx; clear hx kc; refine hq.mono ?_; clear hq; rintro e wk hP; obtain ⟨rfl, hy0, -⟩ := hP; have hy := hy0; clear hy0))
            have HY := Lib.hid hy
            clear hy
            go_loopg [17] n' (fun gg m wr => ∃ j : Nat, j + gg = n' ∧ m = .int .i64 j ∧ Cn W0 wr c q (y2))
            case atStart => exact ⟨0, by omega, rfl, HY.out⟩
            case round =>
              obtain ⟨m, hm, rfl, hc⟩ := hrel
              have Hm := Lib.hid hm
              by_cases hml : m < n'
              · have hml' : (m : Int) < (n' : Int) := by omega
                have HTE := Lib.hid (TQ.out m hml _ hc)
                clear hm hc
                go_wp2_with (go_at_call 12; refine HTE.out.mono ?_; rintro e w2 hP; obtain ⟨rfl, hQ, -⟩ := hP; have HQ := Lib.hid hQ; clear hQ)
                go_roundg (n' - (m + 1))
                case measure => have := Hm.out; omega
                case rel => exact ⟨m + 1, by have := Hm.out; omega, by go_num, HQ.out⟩
              · have HQ := Lib.hid hc
                clear hc
                have hml' : ¬ (m : Int) < (n' : Int) := by omega
                clear hm
                go_wp2_with fail
                go_roundg (K.size - (k + 1))
                case measure => have := Hk.out; omega
                case rel => exact ⟨k + 1, 0, empty, by have := Hk.out; omega, by go_num, rfl, rfl, by have := Htk.out; rw [show (empty : ByteArray).size = 0 from rfl]; omega, _, HG.out, HQ.out⟩
          · have e1 : ((K[k].toNat : Int) == 1) = false := beq_eq_false_iff_ne.2 (by omega)
            rcases hg with ⟨rfl, sc, rfl⟩ | ⟨rfl, sc, rfl⟩ | ⟨rfl, f, hfl, rfl⟩
            · by_cases b13 : K[k].toNat = 13
              · have e13 : ((K[k].toNat : Int) == 13) = true := by rw [b13]; rfl
                by_cases hty : typed = lg
                · have e5 : (typed.toList == lg.toList) = true := by rw [hty]; simp
                  have KX : Hid (∀ W, Cn W0 W c q (g0 n' lg (t17 typed) sc) → Calls Tryd.prog 13 #[ptr c, .int .u8 (K[k].toNat : Int)] W (CnE W0 W c q (g1 n' lg (ssays sc levS)) (.tuple #[]))) := Lib.hid fun W hc => by
                      have hh := hc.key K[k]
                      rw [hty, show t17 lg = lg from t17_small (by have := HG16.out; omega), g0_right b13] at hh
                      exact hh
                  have FX := Lib.hid (fun W (hc : Cn W0 W c q (g0 n' lg (t17 typed) sc)) => HFO.out W c q _ hc)
                  have FY : Hid (∀ W, Cn W0 W c q (g1 n' lg (ssays sc levS)) → Calls Tryd.prog 17 #[ptr c] W fun e w' => e = .returned (.int .i64 (-1)) ∧ W = w') := Lib.hid fun W hc => by
                      have hh := HFO.out W c q _ hc
                      exact hh
                  have TQ : Hid (∀ m, m < n' → ∀ W, Cn W0 W c q (g1 n' lg (ssays sc levS)) → Calls Tryd.prog 12 #[ptr c, .int .i64 (m : Int)] W (CnE W0 W c q (g1 n' lg (ssays sc levS)) (.tuple #[.string ⟨#[]⟩, .int .i64 0]))) := Lib.hid fun m hm W hc => by
                      have hh := hc.take (m : Int)
                      obtain ⟨t1, t2, t3⟩ := take_reps (lv := n') (x := g1 n' lg (ssays sc levS)) rfl rfl hm
                      rw [t1, t2, t3] at hh
                      exact hh
                  have HG : Hid (GS n' lg 1 empty (g1 n' lg (ssays sc levS))) := Lib.hid (.inr (.inl ⟨rfl, _, rfl⟩))
                  generalize g1 n' lg (ssays sc levS) = y2 at *
                  clear hk htk b13 hty
                  go_wp2_with (first
                      | (go_at_call 17; have hq := FX.out _ hx; refine hq.mono ?_; clear hq; rintro e wf ⟨rfl, rfl⟩)
                      | (go_at_call 17; have hq := FY.out _ hy; refine hq.mono ?_; clear hq; rintro e wf ⟨rfl, rfl⟩)
                      | (go_at_call 13; have hq := KX.out _ hx; clear hx kc; refine hq.mono ?_; clear hq; rintro e wk hP; obtain ⟨rfl, hy0, -⟩ := hP; have hy := hy0; clear hy0))
                  have HY := Lib.hid hy
                  clear hy
                  go_loopg [17] n' (fun gg m wr => ∃ j : Nat, j + gg = n' ∧ m = .int .i64 j ∧ Cn W0 wr c q (y2))
                  case atStart => exact ⟨0, by omega, rfl, HY.out⟩
                  case round =>
                    obtain ⟨m, hm, rfl, hc⟩ := hrel
                    have Hm := Lib.hid hm
                    by_cases hml : m < n'
                    · have hml' : (m : Int) < (n' : Int) := by omega
                      have HTE := Lib.hid (TQ.out m hml _ hc)
                      clear hm hc
                      go_wp2_with (go_at_call 12; refine HTE.out.mono ?_; rintro e w2 hP; obtain ⟨rfl, hQ, -⟩ := hP; have HQ := Lib.hid hQ; clear hQ)
                      go_roundg (n' - (m + 1))
                      case measure => have := Hm.out; omega
                      case rel => exact ⟨m + 1, by have := Hm.out; omega, by go_num, HQ.out⟩
                    · have HQ := Lib.hid hc
                      clear hc
                      have hml' : ¬ (m : Int) < (n' : Int) := by omega
                      clear hm
                      go_wp2_with fail
                      go_roundg (K.size - (k + 1))
                      case measure => have := Hk.out; omega
                      case rel => exact ⟨k + 1, 1, empty, by have := Hk.out; omega, by go_num, rfl, rfl, by have := Htk.out; rw [show (empty : ByteArray).size = 0 from rfl]; omega, _, HG.out, HQ.out⟩
                · have e5 := str_ne hty
                  have KX : Hid (∀ W, Cn W0 W c q (g0 n' lg (t17 typed) sc) → Calls Tryd.prog 13 #[ptr c, .int .u8 (K[k].toNat : Int)] W (CnE W0 W c q (g0 n' lg (t17 empty) (ssays sc noS)) (.tuple #[]))) := Lib.hid fun W hc => by
                      have hh := hc.key K[k]
                      rw [show key (g0 n' lg (t17 typed) sc) K[k] = g0 n' lg (t17 empty) (ssays sc noS) from g0_wrong b13 (fun h => hty ((t17_login HG16.out).1 h))] at hh
                      exact hh
                  have FX := Lib.hid (fun W (hc : Cn W0 W c q (g0 n' lg (t17 typed) sc)) => HFO.out W c q _ hc)
                  have FY : Hid (∀ W, Cn W0 W c q (g0 n' lg (t17 empty) (ssays sc noS)) → Calls Tryd.prog 17 #[ptr c] W fun e w' => e = .returned (.int .i64 (-1)) ∧ W = w') := Lib.hid fun W hc => by
                      have hh := HFO.out W c q _ hc
                      exact hh
                  have TQ : Hid (∀ m, m < n' → ∀ W, Cn W0 W c q (g0 n' lg (t17 empty) (ssays sc noS)) → Calls Tryd.prog 12 #[ptr c, .int .i64 (m : Int)] W (CnE W0 W c q (g0 n' lg (t17 empty) (ssays sc noS)) (.tuple #[.string ⟨#[]⟩, .int .i64 0]))) := Lib.hid fun m hm W hc => by
                      have hh := hc.take (m : Int)
                      obtain ⟨t1, t2, t3⟩ := take_reps (lv := n') (x := g0 n' lg (t17 empty) (ssays sc noS)) rfl rfl hm
                      rw [t1, t2, t3] at hh
                      exact hh
                  have HG : Hid (GS n' lg 0 empty (g0 n' lg (t17 empty) (ssays sc noS))) := Lib.hid (.inl ⟨rfl, _, rfl⟩)
                  generalize g0 n' lg (t17 empty) (ssays sc noS) = y2 at *
                  clear hk htk b13 hty
                  go_wp2_with (first
                      | (go_at_call 17; have hq := FX.out _ hx; refine hq.mono ?_; clear hq; rintro e wf ⟨rfl, rfl⟩)
                      | (go_at_call 17; have hq := FY.out _ hy; refine hq.mono ?_; clear hq; rintro e wf ⟨rfl, rfl⟩)
                      | (go_at_call 13; have hq := KX.out _ hx; clear hx kc; refine hq.mono ?_; clear hq; rintro e wk hP; obtain ⟨rfl, hy0, -⟩ := hP; have hy := hy0; clear hy0))
                  have HY := Lib.hid hy
                  clear hy
                  go_loopg [17] n' (fun gg m wr => ∃ j : Nat, j + gg = n' ∧ m = .int .i64 j ∧ Cn W0 wr c q (y2))
                  case atStart => exact ⟨0, by omega, rfl, HY.out⟩
                  case round =>
                    obtain ⟨m, hm, rfl, hc⟩ := hrel
                    have Hm := Lib.hid hm
                    by_cases hml : m < n'
                    · have hml' : (m : Int) < (n' : Int) := by omega
                      have HTE := Lib.hid (TQ.out m hml _ hc)
                      clear hm hc
                      go_wp2_with (go_at_call 12; refine HTE.out.mono ?_; rintro e w2 hP; obtain ⟨rfl, hQ, -⟩ := hP; have HQ := Lib.hid hQ; clear hQ)
                      go_roundg (n' - (m + 1))
                      case measure => have := Hm.out; omega
                      case rel => exact ⟨m + 1, by have := Hm.out; omega, by go_num, HQ.out⟩
                    · have HQ := Lib.hid hc
                      clear hc
                      have hml' : ¬ (m : Int) < (n' : Int) := by omega
                      clear hm
                      go_wp2_with fail
                      go_roundg (K.size - (k + 1))
                      case measure => have := Hk.out; omega
                      case rel => exact ⟨k + 1, 0, empty, by have := Hk.out; omega, by go_num, rfl, rfl, by have := Htk.out; rw [show (empty : ByteArray).size = 0 from rfl]; omega, _, HG.out, HQ.out⟩
              · have e13 : ((K[k].toNat : Int) == 13) = false := beq_eq_false_iff_ne.2 (by omega)
                have hcl : ¬ 9223372036854775807 < typed.size + 1 := by have h1 := Htk.out; have h2 := HKK.out; omega
                obtain ⟨T, hT⟩ : ∃ T, appB typed K[k] = T := ⟨_, rfl⟩
                have HT1 : Hid (key (g0 n' lg (t17 typed) sc) K[k] = g0 n' lg (t17 T) sc) := Lib.hid (by rw [g0_letter b1 b13, ← t17_app, ← hT]; rfl)
                have HTZ := Lib.hid (show T.size = typed.size + 1 by rw [← hT]; exact appB_size _ _)
                have HT := Lib.hid hT
                clear hT
                have KX : Hid (∀ W, Cn W0 W c q (g0 n' lg (t17 typed) sc) → Calls Tryd.prog 13 #[ptr c, .int .u8 (K[k].toNat : Int)] W (CnE W0 W c q (g0 n' lg (t17 T) sc) (.tuple #[]))) := Lib.hid fun W hc => by
                    have hh := hc.key K[k]
                    rw [show key (g0 n' lg (t17 typed) sc) K[k] = g0 n' lg (t17 T) sc from HT1.out] at hh
                    exact hh
                have FX := Lib.hid (fun W (hc : Cn W0 W c q (g0 n' lg (t17 typed) sc)) => HFO.out W c q _ hc)
                have FY : Hid (∀ W, Cn W0 W c q (g0 n' lg (t17 T) sc) → Calls Tryd.prog 17 #[ptr c] W fun e w' => e = .returned (.int .i64 (-1)) ∧ W = w') := Lib.hid fun W hc => by
                    have hh := HFO.out W c q _ hc
                    exact hh
                have TQ : Hid (∀ m, m < n' → ∀ W, Cn W0 W c q (g0 n' lg (t17 T) sc) → Calls Tryd.prog 12 #[ptr c, .int .i64 (m : Int)] W (CnE W0 W c q (g0 n' lg (t17 T) sc) (.tuple #[.string ⟨#[]⟩, .int .i64 0]))) := Lib.hid fun m hm W hc => by
                    have hh := hc.take (m : Int)
                    obtain ⟨t1, t2, t3⟩ := take_reps (lv := n') (x := g0 n' lg (t17 T) sc) rfl rfl hm
                    rw [t1, t2, t3] at hh
                    exact hh
                have HG : Hid (GS n' lg 0 T (g0 n' lg (t17 T) sc)) := Lib.hid (.inl ⟨rfl, _, rfl⟩)
                generalize g0 n' lg (t17 T) sc = y2 at *
                clear hk htk b13
                go_wp2_with (first
                    | (go_at_call 17; have hq := FX.out _ hx; refine hq.mono ?_; clear hq; rintro e wf ⟨rfl, rfl⟩)
                    | (go_at_call 17; have hq := FY.out _ hy; refine hq.mono ?_; clear hq; rintro e wf ⟨rfl, rfl⟩)
                    | (go_at_call 13; have hq := KX.out _ hx; clear hx kc; refine hq.mono ?_; clear hq; rintro e wk hP; obtain ⟨rfl, hy0, -⟩ := hP; have hcv := conv_one (wk.alloc (.cells #[.int .u8 (K[k].toNat : Int)] 5)) wk.heap.size K[k] (by simp); have hy := hy0.to ((Fr.refl [] wk).alloc (.cells #[.int .u8 (K[k].toNat : Int)] 5)); clear hy0))
                have HY := Lib.hid hy
                clear hy
                go_loopg [17] n' (fun gg m wr => ∃ j : Nat, j + gg = n' ∧ m = .int .i64 j ∧ Cn W0 wr c q (y2))
                case atStart => exact ⟨0, by omega, rfl, HY.out⟩
                case round =>
                  obtain ⟨m, hm, rfl, hc⟩ := hrel
                  have Hm := Lib.hid hm
                  by_cases hml : m < n'
                  · have hml' : (m : Int) < (n' : Int) := by omega
                    have HTE := Lib.hid (TQ.out m hml _ hc)
                    clear hm hc
                    go_wp2_with (go_at_call 12; refine HTE.out.mono ?_; rintro e w2 hP; obtain ⟨rfl, hQ, -⟩ := hP; have HQ := Lib.hid hQ; clear hQ)
                    go_roundg (n' - (m + 1))
                    case measure => have := Hm.out; omega
                    case rel => exact ⟨m + 1, by have := Hm.out; omega, by go_num, HQ.out⟩
                  · have HQ := Lib.hid hc
                    clear hc
                    have hml' : ¬ (m : Int) < (n' : Int) := by omega
                    clear hm
                    go_wp2_with fail
                    go_roundg (K.size - (k + 1))
                    case measure => have := Hk.out; omega
                    case rel => exact ⟨k + 1, 0, T, by have := Hk.out; omega, by go_num, rfl, by rw [← HT.out]; rfl, by have := Htk.out; have h9 := HTZ.out; omega, _, HG.out, HQ.out⟩
            · by_cases ch1 : 48 ≤ K[k].toNat
              · have c48 : (48 : Int) ≤ (K[k].toNat : Int) := by omega
                by_cases ch2 : (K[k].toNat : Int) - 48 < (n' : Int)
                · have KX : Hid (∀ W, Cn W0 W c q (g1 n' lg sc) → Calls Tryd.prog 13 #[ptr c, .int .u8 (K[k].toNat : Int)] W (CnE W0 W c q (fk n' lg (K[k].toNat - 48) empty) (.tuple #[]))) := Lib.hid fun W hc => by
                    have hh := hc.key K[k]
                    rw [g1_choice b1 ch1 ch2] at hh
                    exact hh
                  have FX := Lib.hid (fun W (hc : Cn W0 W c q (g1 n' lg sc)) => HFO.out W c q _ hc)
                  have FY : Hid (∀ W, Cn W0 W c q (fk n' lg (K[k].toNat - 48) empty) → Calls Tryd.prog 17 #[ptr c] W fun e w' => e = .returned (.int .i64 ((K[k].toNat : Int) - 48)) ∧ W = w') := Lib.hid fun W hc => by
                      have hh := HFO.out W c q _ hc
                      rw [show (fk n' lg (K[k].toNat - 48) empty).fo = ((K[k].toNat : Int) - 48) from by show ((K[k].toNat - 48 : Nat) : Int) = _; omega] at hh
                      exact hh
                  have SC : Hid (∀ W, Cn W0 W c q (fk n' lg (K[k].toNat - 48) empty) → Calls Tryd.prog 15 #[ptr c] W (RowP W [sp24, sp24, sp24, sp24, sp24, sp24])) := Lib.hid fun W hc => by
                      have hh := hc.screen
                      rw [show (fk n' lg (K[k].toNat - 48) empty).sc = sclear from rfl, clear_rows] at hh
                      exact hh
                  have HG : Hid (GS n' lg 2 typed (fk n' lg (K[k].toNat - 48) empty)) := Lib.hid (.inr (.inr ⟨rfl, _, by omega, rfl⟩))
                  generalize fk n' lg (K[k].toNat - 48) empty = y2 at *
                  clear hk htk 
                  go_wp2_with (first
                      | (go_at_call 17; have hq := FX.out _ hx; refine hq.mono ?_; clear hq; rintro e wf ⟨rfl, rfl⟩)
                      | (go_at_call 17; have hq := FY.out _ hy; refine hq.mono ?_; clear hq; rintro e wf ⟨rfl, rfl⟩)
                      | (go_at_call 13; have hq := KX.out _ hx; clear hx kc; refine hq.mono ?_; clear hq; rintro e wk hP; obtain ⟨rfl, hy0, -⟩ := hP; have hy := hy0; clear hy0)
                      | fail)
                  refine (SC.out _ hy).mono ?_
                  rintro e w3 ⟨g, gc, rfl, gl, gm, hrow, hf3, hg3⟩
                  have h3 := hy.to hf3
                  have HRO := Lib.hid hrow
                  clear hy hf3 hrow gl gm
                  have hs6 := same6 (W0 := w3) (cap := gc) (show ([sp24, sp24, sp24, sp24, sp24, sp24] : List ByteArray).length = 6 from rfl) HRO.out sp24 sp24 sp24 sp24 sp24 sp24
                  rw [decide_eq_true rfl] at hs6
                  have HS6 := Lib.hid hs6
                  clear hs6
                  go_wp2_with (first
                      | (go_at_call 16; refine (HRW.out _).mono ?_; rintro e wz ⟨rfl, rfl⟩)
                      | (go_at_call 14; refine HS6.out.mono ?_; rintro e w4 ⟨rfl, hf4⟩; have h4 := Lib.hid ((h3.to ((Fr.refl [] w3).alloc _)).to hf4); clear hf4 h3))
                  go_roundg (K.size - (k + 1))
                  case measure => have := Hk.out; omega
                  case rel => exact ⟨k + 1, 2, typed, by have := Hk.out; omega, by go_num, rfl, rfl, by have := Htk.out; omega, _, HG.out, h4.out⟩
                · have KX : Hid (∀ W, Cn W0 W c q (g1 n' lg sc) → Calls Tryd.prog 13 #[ptr c, .int .u8 (K[k].toNat : Int)] W (CnE W0 W c q (g1 n' lg sc) (.tuple #[]))) := Lib.hid fun W hc => by
                    have hh := hc.key K[k]
                    rw [g1_other b1 (fun h => ch2 h.2)] at hh
                    exact hh
                  have FX := Lib.hid (fun W (hc : Cn W0 W c q (g1 n' lg sc)) => HFO.out W c q _ hc)
                  have FY : Hid (∀ W, Cn W0 W c q (g1 n' lg sc) → Calls Tryd.prog 17 #[ptr c] W fun e w' => e = .returned (.int .i64 (-1)) ∧ W = w') := Lib.hid fun W hc => by
                      have hh := HFO.out W c q _ hc
                      exact hh
                  have TQ : Hid (∀ m, m < n' → ∀ W, Cn W0 W c q (g1 n' lg sc) → Calls Tryd.prog 12 #[ptr c, .int .i64 (m : Int)] W (CnE W0 W c q (g1 n' lg sc) (.tuple #[.string ⟨#[]⟩, .int .i64 0]))) := Lib.hid fun m hm W hc => by
                      have hh := hc.take (m : Int)
                      obtain ⟨t1, t2, t3⟩ := take_reps (lv := n') (x := g1 n' lg sc) rfl rfl hm
                      rw [t1, t2, t3] at hh
                      exact hh
                  have HG : Hid (GS n' lg 1 typed (g1 n' lg sc)) := Lib.hid (.inr (.inl ⟨rfl, _, rfl⟩))
                  generalize g1 n' lg sc = y2 at *
                  clear hk htk 
                  go_wp2_with (first
                      | (go_at_call 17; have hq := FX.out _ hx; refine hq.mono ?_; clear hq; rintro e wf ⟨rfl, rfl⟩)
                      | (go_at_call 17; have hq := FY.out _ hy; refine hq.mono ?_; clear hq; rintro e wf ⟨rfl, rfl⟩)
                      | (go_at_call 13; have hq := KX.out _ hx; clear hx kc; refine hq.mono ?_; clear hq; rintro e wk hP; obtain ⟨rfl, hy0, -⟩ := hP; have hy := hy0; clear hy0))
                  have HY := Lib.hid hy
                  clear hy
                  go_loopg [17] n' (fun gg m wr => ∃ j : Nat, j + gg = n' ∧ m = .int .i64 j ∧ Cn W0 wr c q (y2))
                  case atStart => exact ⟨0, by omega, rfl, HY.out⟩
                  case round =>
                    obtain ⟨m, hm, rfl, hc⟩ := hrel
                    have Hm := Lib.hid hm
                    by_cases hml : m < n'
                    · have hml' : (m : Int) < (n' : Int) := by omega
                      have HTE := Lib.hid (TQ.out m hml _ hc)
                      clear hm hc
                      go_wp2_with (go_at_call 12; refine HTE.out.mono ?_; rintro e w2 hP; obtain ⟨rfl, hQ, -⟩ := hP; have HQ := Lib.hid hQ; clear hQ)
                      go_roundg (n' - (m + 1))
                      case measure => have := Hm.out; omega
                      case rel => exact ⟨m + 1, by have := Hm.out; omega, by go_num, HQ.out⟩
                    · have HQ := Lib.hid hc
                      clear hc
                      have hml' : ¬ (m : Int) < (n' : Int) := by omega
                      clear hm
                      go_wp2_with fail
                      go_roundg (K.size - (k + 1))
                      case measure => have := Hk.out; omega
                      case rel => exact ⟨k + 1, 1, typed, by have := Hk.out; omega, by go_num, rfl, rfl, by have := Htk.out; omega, _, HG.out, HQ.out⟩
              · have c48 : ¬ (48 : Int) ≤ (K[k].toNat : Int) := by omega
                have KX : Hid (∀ W, Cn W0 W c q (g1 n' lg sc) → Calls Tryd.prog 13 #[ptr c, .int .u8 (K[k].toNat : Int)] W (CnE W0 W c q (g1 n' lg sc) (.tuple #[]))) := Lib.hid fun W hc => by
                  have hh := hc.key K[k]
                  rw [g1_other b1 (fun h => ch1 h.1)] at hh
                  exact hh
                have FX := Lib.hid (fun W (hc : Cn W0 W c q (g1 n' lg sc)) => HFO.out W c q _ hc)
                have FY : Hid (∀ W, Cn W0 W c q (g1 n' lg sc) → Calls Tryd.prog 17 #[ptr c] W fun e w' => e = .returned (.int .i64 (-1)) ∧ W = w') := Lib.hid fun W hc => by
                    have hh := HFO.out W c q _ hc
                    exact hh
                have TQ : Hid (∀ m, m < n' → ∀ W, Cn W0 W c q (g1 n' lg sc) → Calls Tryd.prog 12 #[ptr c, .int .i64 (m : Int)] W (CnE W0 W c q (g1 n' lg sc) (.tuple #[.string ⟨#[]⟩, .int .i64 0]))) := Lib.hid fun m hm W hc => by
                    have hh := hc.take (m : Int)
                    obtain ⟨t1, t2, t3⟩ := take_reps (lv := n') (x := g1 n' lg sc) rfl rfl hm
                    rw [t1, t2, t3] at hh
                    exact hh
                have HG : Hid (GS n' lg 1 typed (g1 n' lg sc)) := Lib.hid (.inr (.inl ⟨rfl, _, rfl⟩))
                generalize g1 n' lg sc = y2 at *
                clear hk htk 
                go_wp2_with (first
                    | (go_at_call 17; have hq := FX.out _ hx; refine hq.mono ?_; clear hq; rintro e wf ⟨rfl, rfl⟩)
                    | (go_at_call 17; have hq := FY.out _ hy; refine hq.mono ?_; clear hq; rintro e wf ⟨rfl, rfl⟩)
                    | (go_at_call 13; have hq := KX.out _ hx; clear hx kc; refine hq.mono ?_; clear hq; rintro e wk hP; obtain ⟨rfl, hy0, -⟩ := hP; have hy := hy0; clear hy0))
                have HY := Lib.hid hy
                clear hy
                go_loopg [17] n' (fun gg m wr => ∃ j : Nat, j + gg = n' ∧ m = .int .i64 j ∧ Cn W0 wr c q (y2))
                case atStart => exact ⟨0, by omega, rfl, HY.out⟩
                case round =>
                  obtain ⟨m, hm, rfl, hc⟩ := hrel
                  have Hm := Lib.hid hm
                  by_cases hml : m < n'
                  · have hml' : (m : Int) < (n' : Int) := by omega
                    have HTE := Lib.hid (TQ.out m hml _ hc)
                    clear hm hc
                    go_wp2_with (go_at_call 12; refine HTE.out.mono ?_; rintro e w2 hP; obtain ⟨rfl, hQ, -⟩ := hP; have HQ := Lib.hid hQ; clear hQ)
                    go_roundg (n' - (m + 1))
                    case measure => have := Hm.out; omega
                    case rel => exact ⟨m + 1, by have := Hm.out; omega, by go_num, HQ.out⟩
                  · have HQ := Lib.hid hc
                    clear hc
                    have hml' : ¬ (m : Int) < (n' : Int) := by omega
                    clear hm
                    go_wp2_with fail
                    go_roundg (K.size - (k + 1))
                    case measure => have := Hk.out; omega
                    case rel => exact ⟨k + 1, 1, typed, by have := Hk.out; omega, by go_num, rfl, rfl, by have := Htk.out; omega, _, HG.out, HQ.out⟩
            · have KX : Hid (∀ W, Cn W0 W c q (fk n' lg f empty) → Calls Tryd.prog 13 #[ptr c, .int .u8 (K[k].toNat : Int)] W (CnE W0 W c q (fk n' lg f ⟨#[K[k]]⟩) (.tuple #[]))) := Lib.hid fun W hc => by
                have hh := hc.key K[k]
                rw [key_fk lg empty hfl b1, show key1 empty K[k] = ⟨#[K[k]]⟩ from rfl] at hh
                exact hh
              have FX : Hid (∀ W, Cn W0 W c q (fk n' lg f empty) → Calls Tryd.prog 17 #[ptr c] W fun e w' => e = .returned (.int .i64 (f : Int)) ∧ W = w') := Lib.hid fun W hc => HFO.out W c q _ hc
              have FY : Hid (∀ W, Cn W0 W c q (fk n' lg f ⟨#[K[k]]⟩) → Calls Tryd.prog 17 #[ptr c] W fun e w' => e = .returned (.int .i64 (f : Int)) ∧ W = w') := Lib.hid fun W hc => by
                  have hh := HFO.out W c q _ hc
                  exact hh
              have TL : Hid (∀ m, m < n' → ∀ W, Cn W0 W c q (fkm n' lg f ⟨#[K[k]]⟩ m) → Calls Tryd.prog 12 #[ptr c, .int .i64 (m : Int)] W (CnE W0 W c q (fkm n' lg f ⟨#[K[k]]⟩ (m + 1)) (.tuple #[.string (if m = f then ⟨#[K[k]]⟩ else ⟨#[]⟩), .int .i64 0]))) := Lib.hid fun m hm W hc => by
                  have hh := hc.take (m : Int)
                  obtain ⟨t1, t2, t3⟩ := take_fkm lg ⟨#[K[k]]⟩ hm hfl
                  rw [t1, t2, t3] at hh
                  exact hh
              have FM0 := Lib.hid (fkm_0 n' lg f ⟨#[K[k]]⟩)
              have FME := Lib.hid (fkm_end n' lg f ⟨#[K[k]]⟩ hfl)
              have HG := Lib.hid hfl
              have hfl' : (f : Int) < (n' : Int) := by omega
              clear hk htk 
              go_wp2_with (first
                  | (go_at_call 17; have hq := FX.out _ hx; refine hq.mono ?_; clear hq; rintro e wf ⟨rfl, rfl⟩)
                  | (go_at_call 17; have hq := FY.out _ hy; refine hq.mono ?_; clear hq; rintro e wf ⟨rfl, rfl⟩)
                  | (go_at_call 13; have hq := KX.out _ hx; clear hx kc; refine hq.mono ?_; clear hq; rintro e wk hP; obtain ⟨rfl, hy0, -⟩ := hP; have hy := hy0; clear hy0))
              have HY := Lib.hid hy
              clear hy
              go_loopg [17] n' (fun gg m wr => ∃ j : Nat, j + gg = n' ∧ m = .int .i64 j ∧ Cn W0 wr c q (fkm n' lg f ⟨#[K[k]]⟩ j))
              case atStart => exact ⟨0, by omega, rfl, by rw [FM0.out]; exact HY.out⟩
              case round =>
                obtain ⟨m, hm, rfl, hc⟩ := hrel
                have Hm := Lib.hid hm
                by_cases hml : m < n'
                · have hml' : (m : Int) < (n' : Int) := by omega
                  have HTE := Lib.hid (TL.out m hml _ hc)
                  clear hm hc
                  by_cases hmf : m = f
                  · rw [if_pos hmf] at HTE
                    subst hmf
                    go_wp2_with (go_at_call 12; refine HTE.out.mono ?_; rintro e w2 hP; obtain ⟨rfl, hQ, -⟩ := hP; have hcv := conv_one (w2.alloc (.cells #[.int .u8 (K[k].toNat : Int)] 5)) w2.heap.size K[k] (by simp); have HQ := Lib.hid (hQ.to ((Fr.refl [] w2).alloc (.cells #[.int .u8 (K[k].toNat : Int)] 5))); clear hQ)
                    go_roundg (n' - (m + 1))
                    case measure => have := Hm.out; omega
                    case rel => exact ⟨m + 1, by have := Hm.out; omega, by go_num, HQ.out⟩
                  · rw [if_neg hmf] at HTE
                    have e2 : ((m : Int) == (f : Int)) = false := beq_eq_false_iff_ne.2 (by omega)
                    have e4 : (m == f) = false := beq_eq_false_iff_ne.2 hmf
                    go_wp2_with (go_at_call 12; refine HTE.out.mono ?_; rintro e w2 hP; obtain ⟨rfl, hQ, -⟩ := hP; have HQ := Lib.hid hQ; clear hQ)
                    go_roundg (n' - (m + 1))
                    case measure => have := Hm.out; omega
                    case rel => exact ⟨m + 1, by have := Hm.out; omega, by go_num, HQ.out⟩
                · have hmn : m = n' := by omega
                  have hml' : ¬ (m : Int) < (n' : Int) := by omega
                  rw [hmn, FME.out] at hc
                  have HQ := Lib.hid hc
                  clear hc hmn
                  clear hm
                  go_wp2_with fail
                  go_roundg (K.size - (k + 1))
                  case measure => have := Hk.out; omega
                  case rel => exact ⟨k + 1, 2, typed, by have := Hk.out; omega, by go_num, rfl, rfl, by have := Htk.out; omega, _, .inr (.inr ⟨rfl, f, HG.out, rfl⟩), HQ.out⟩
        · obtain rfl : k = K.size := by omega
          have HQ := Lib.hid hx.f
          clear hg hx hk htk
          go_wp2_with (go_at_call 11; refine (HX.out _).mono ?_; rintro e w9 ⟨rfl, hf9⟩; have HP := Lib.hid ((HF0.out.trans HQ.out).trans hf9); clear hf9)
          go_ret
          exact ⟨rfl, HP.out⟩
theorem guards_walk (w : World) (lv : Int) (lg : ByteArray) (hs : lg.size ≤ maxLen) (A : Option Addr) (n cap : Nat) (ops : Nat → OpC) (ho : OpsC w A n ops) (K : ByteArray) (hK : K.size ≤ 140737488355328) : Calls Tryd.prog 3 #[.int .i64 lv, .string lg, .agg #[.slice A n cap, .string K]] w (FixP w) := by
  cases h : okNew lv lg with
  | false => exact guards_no w lv lg hs A n cap K h
  | true =>
    obtain ⟨L, rfl, -⟩ := okNew_spec h
    exact guards_yes w L lg A n cap ops ho K hK h
end Go.Proofs.YtkjahokffpihmaaDoor
