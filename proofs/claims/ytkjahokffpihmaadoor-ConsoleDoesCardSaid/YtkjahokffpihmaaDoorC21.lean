/- ConsoleTypes: the walk. -/
import Derived.Test.YtkjahokffpihmaaDoorC20
namespace Go.Proofs.YtkjahokffpihmaaDoor
open Go.RowKit
set_option linter.unusedVariables false
set_option linter.unusedSimpArgs false
set_option maxRecDepth 100000
/-- A row of strings that came in. -/
def StrsT (w : World) (A : Option Addr) (n : Nat) (T : Nat → ByteArray) : Prop := n ≤ maxLen ∧ ∀ i, i < n → ∃ b off, A = some ⟨b, off, .none⟩ ∧ w.cell? ⟨b, off + i, none⟩ = some (.string (T i)) ∧ (T i).size ≤ maxLen
/-- A level's console: the level's keys are s. -/
def fk (lv : Nat) (lg : ByteArray) (f : Nat) (s : ByteArray) : Con := focC lv lg f ((List.replicate lv empty).set f s) sclear
theorem set_rep (lv f : Nat) : (List.replicate lv empty).set f empty = List.replicate lv empty := by
  apply List.ext_getElem?
  intro i
  rw [List.getElem?_set]
  split
  · next h =>
    subst h
    split
    · next hl => rw [List.getElem?_replicate, if_pos (by simpa using hl)]
    · next hl => rw [List.getElem?_eq_none (by simpa using hl)]
  · rfl
theorem fk_empty (lv : Nat) (lg : ByteArray) (f : Nat) : fk lv lg f empty = focC lv lg f (List.replicate lv empty) sclear := by
  unfold fk
  rw [set_rep]
theorem getD_set (lv f : Nat) (s : ByteArray) (i : Nat) (hf : f < lv) : ((List.replicate lv empty).set f s).getD i empty = if i = f then s else empty := by
  rw [List.getD_eq_getElem?_getD, List.getElem?_set]
  by_cases h : f = i
  · subst h
    rw [if_pos rfl, if_pos (by simpa using hf), if_pos rfl]
    rfl
  · rw [if_neg h, if_neg (Ne.symm h), List.getElem?_replicate]
    split <;> rfl
theorem key_fk {lv f : Nat} (lg s : ByteArray) {b : UInt8} (hf : f < lv) (hb : b.toNat ≠ 1) : key (fk lv lg f s) b = fk lv lg f (key1 s b) := by
  unfold key
  rw [if_neg hb, if_pos (show (fk lv lg f s).fo ≠ -1 from by show (f : Int) ≠ -1; omega)]
  show toLevel (focC lv lg f ((List.replicate lv empty).set f s) sclear) b = _
  unfold toLevel focC
  simp only [Int.toNat_natCast]
  rw [getD_set lv f s f hf, if_pos rfl, List.set_set]
  rfl
theorem isL_fk {lv f : Nat} (lg s : ByteArray) {m : Nat} (hm : m < lv) : isL (fk lv lg f s) (m : Int) = true := by
  unfold isL
  rw [Bool.and_eq_true, decide_eq_true_eq, decide_eq_true_eq]
  exact ⟨by omega, by show (m : Int) < (lv : Int); omega⟩
theorem take_fk {lv f : Nat} (lg s : ByteArray) {m : Nat} (hm : m < lv) (hf : f < lv) : takeS (fk lv lg f s) (m : Int) = (if m = f then s else empty) ∧ takeX (fk lv lg f s) (m : Int) = fk lv lg f (if m = f then empty else s) ∧ wrE (fk lv lg f s) (m : Int) = 0 := by
  have hi := isL_fk (f := f) lg s hm
  refine ⟨?_, ?_, ?_⟩
  · unfold takeS
    rw [if_pos hi, Int.toNat_natCast]
    exact getD_set lv f s m hf
  · unfold takeX
    rw [if_pos hi, Int.toNat_natCast]
    by_cases h : m = f
    · subst h
      rw [if_pos rfl]
      unfold fk focC
      simp only [List.set_set]
    · rw [if_neg h]
      unfold fk focC
      simp only [Con.mk.injEq, true_and, and_true]
      apply List.ext_getElem?
      intro i
      rw [List.getElem?_set]
      split
      · next hmi =>
        subst hmi
        split
        · next hl =>
          have := getD_set lv f s m hf
          rw [if_neg h, List.getD_eq_getElem?_getD, List.getElem?_eq_getElem hl] at this
          rw [List.getElem?_eq_getElem hl]
          exact congrArg some (Eq.symm this)
        · next hl => rw [List.getElem?_eq_none (by omega)]
      · rfl
  · unfold wrE
    rw [if_pos hi]
/-- What the level gets of a text. -/
def wantT (l : List UInt8) : ByteArray := l.foldl (fun s b => if b.toNat = 1 then s else key1 s b) empty
theorem wantT_snoc (t : ByteArray) {k : Nat} (hk : k < t.size) : wantT (t.data.toList.take (k + 1)) = if t[k].toNat = 1 then wantT (t.data.toList.take k) else key1 (wantT (t.data.toList.take k)) t[k] := by
  rw [List.take_succ_eq_append_getElem (by simpa using hk)]
  unfold wantT
  rw [List.foldl_append]
  rfl
theorem wantT_size : ∀ (l : List UInt8) (s : ByteArray), s.size ≤ 16 → (l.foldl (fun s b => if b.toNat = 1 then s else key1 s b) s).size ≤ 16
  | [], s, h => h
  | b :: l, s, h => wantT_size l _ (by
    show (if b.toNat = 1 then s else key1 s b).size ≤ 16
    split
    · exact h
    · unfold key1
      split
      · rw [appB_size]; omega
      · exact h)
theorem nil_end {w : World} (lv : Int) (lg : ByteArray) (hs : lg.size ≤ maxLen) (h : okNew lv lg = false) : Hid (∀ W, Calls Tryd.prog 10 #[.int .i64 lv, .string lg] W fun e w' => e = .returned (.tuple #[.pointer none, .int .i64 220]) ∧ W = w') := Lib.hid fun W => rNew_bad W lv lg hs h
set_option maxHeartbeats 2000000 in
theorem types_no (w : World) (lv : Int) (lg : ByteArray) (hs : lg.size ≤ maxLen) (A : Option Addr) (n cap : Nat) (hn : n ≤ maxLen) (h : okNew lv lg = false) : Calls Tryd.prog 5 #[.int .i64 lv, .string lg, .slice A n cap] w (FixP w) := by
  have HF := Lib.hid (fun f => focused_no w lv lg f h)
  have HN := nil_end (w := w) lv lg hs h
  have HX := Lib.hid fixed_any
  have hn' : n ≤ 9223372036854775807 := by simpa [maxLen] using hn
  clear h hs hn
  have fin : ∀ {e : Ending} {w1 w' : World}, Fr [] w w1 → FixP w1 e w' → FixP w e w' := fun h1 h2 => ⟨h2.1, h1.trans h2.2⟩
  by_cases h0 : 0 < lv
  · by_cases h8 : 8 < lv
    · have e1 : min (8 : Int) lv = 8 := by omega
      go_enter Tryd.func5, Tryd.ntmps5
      go_wp2_with (first
        | (go_at_call 18; refine (HF.out _).mono ?_; rintro e w1 ⟨rfl, hf⟩; have HF1 := Lib.hid hf; clear hf)
        | (go_at_call 10; refine (HN.out _).mono ?_; rintro e w2 ⟨rfl, rfl⟩)
        | (go_at_call 11; refine (HX.out _).mono ?_; rintro e w3 hP; have HP := Lib.hid (fin HF1.out hP); obtain ⟨rfl, -⟩ := hP))
      all_goals
        go_ret
        exact HP.out
    · go_enter Tryd.func5, Tryd.ntmps5
      go_wp2_with (first
        | (go_at_call 18; refine (HF.out _).mono ?_; rintro e w1 ⟨rfl, hf⟩; have HF1 := Lib.hid hf; clear hf)
        | (go_at_call 10; refine (HN.out _).mono ?_; rintro e w2 ⟨rfl, rfl⟩)
        | (go_at_call 11; refine (HX.out _).mono ?_; rintro e w3 hP; have HP := Lib.hid (fin HF1.out hP); obtain ⟨rfl, -⟩ := hP))
      all_goals
        go_ret
        exact HP.out
  · go_enter Tryd.func5, Tryd.ntmps5
    go_wp2_with (first
      | (go_at_call 18; refine (HF.out _).mono ?_; rintro e w1 ⟨rfl, hf⟩; have HF1 := Lib.hid hf; clear hf)
      | (go_at_call 10; refine (HN.out _).mono ?_; rintro e w2 ⟨rfl, rfl⟩)
      | (go_at_call 11; refine (HX.out _).mono ?_; rintro e w3 hP; have HP := Lib.hid (fin HF1.out hP); obtain ⟨rfl, -⟩ := hP))
    go_ret
    exact HP.out
/-- The level's console behind so many takes. -/
def fkm (lv : Nat) (lg : ByteArray) (f : Nat) (s : ByteArray) (m : Nat) : Con := fk lv lg f (if m ≤ f then s else empty)
theorem fkm_0 (lv : Nat) (lg : ByteArray) (f : Nat) (s : ByteArray) : fkm lv lg f s 0 = fk lv lg f s := by unfold fkm; rw [if_pos (by omega)]
theorem fkm_end (lv : Nat) (lg : ByteArray) (f : Nat) (s : ByteArray) (h : f < lv) : fkm lv lg f s lv = fk lv lg f empty := by unfold fkm; rw [if_neg (by omega)]
theorem take_fkm {lv f : Nat} (lg s : ByteArray) {m : Nat} (hm : m < lv) (hf : f < lv) : takeS (fkm lv lg f s m) (m : Int) = (if m = f then s else ⟨#[]⟩) ∧ takeX (fkm lv lg f s m) (m : Int) = fkm lv lg f s (m + 1) ∧ wrE (fkm lv lg f s m) (m : Int) = 0 := by
  obtain ⟨h1, h2, h3⟩ := take_fk lg (if m ≤ f then s else empty) hm hf
  unfold fkm
  refine ⟨?_, ?_, h3⟩
  · rw [h1]
    by_cases h : m = f
    · rw [if_pos h, if_pos h, if_pos (by omega)]
    · rw [if_neg h, if_neg h]; rfl
  · rw [h2]
    by_cases h : m = f
    · rw [if_pos h, if_neg (by omega)]
    · rw [if_neg h]
      by_cases h4 : m ≤ f
      · rw [if_pos h4, if_pos (by omega)]
      · rw [if_neg h4, if_neg (by omega)]
set_option maxHeartbeats 4000000 in
theorem types_yes (w : World) (L : Nat) (lg : ByteArray) (hs : lg.size ≤ maxLen) (A : Option Addr) (n cap : Nat) (T : Nat → ByteArray) (hT : StrsT w A n T) (h : okNew (L : Int) lg = true) : Calls Tryd.prog 5 #[.int .i64 (L : Int), .string lg, .slice A n cap] w (FixP w) := by
  obtain ⟨n', hn', l1, l8, -⟩ := okNew_spec h
  obtain rfl : n' = L := by omega
  obtain ⟨f, hf⟩ : ∃ f, n % n' = f := ⟨_, rfl⟩
  have hfl : f < n' := by rw [← hf]; exact Nat.mod_lt _ (by omega)
  have hmod : ((n : Nat) : Int) % ((n' : Nat) : Int) = (f : Int) := by rw [← hf]; omega
  have HF : Hid (Calls Tryd.prog 18 #[.int .i64 (n' : Int), .string lg, .int .i64 (f : Int)] w fun e w' => ∃ c k, e = .returned (ptr c) ∧ Cn w w' c k (fk n' lg f empty)) := Lib.hid ((focused_yes w (n' : Int) lg f h (by omega)).mono fun e w' ⟨c, k, he, hc⟩ => ⟨c, k, he, by rw [fk_empty]; exact hc⟩)
  have HX := Lib.hid fixed_any
  have HTT := Lib.hid hT
  have hn : n ≤ 9223372036854775807 := by simpa [maxLen] using hT.1
  have HKY : Hid (∀ s b, b.toNat ≠ 1 → ∀ W c k, Cn w W c k (fk n' lg f s) → Calls Tryd.prog 13 #[ptr c, .int .u8 (b.toNat : Int)] W (CnE w W c k (fk n' lg f (key1 s b)) (.tuple #[]))) := Lib.hid fun s b hb W c k hc => by
    have := hc.key b
    rw [key_fk lg s hfl hb] at this
    exact this
  have HTK : Hid (∀ s m, m < n' → ∀ W c k, Cn w W c k (fkm n' lg f s m) → Calls Tryd.prog 12 #[ptr c, .int .i64 (m : Int)] W (CnE w W c k (fkm n' lg f s (m + 1)) (.tuple #[.string (if m = f then s else ⟨#[]⟩), .int .i64 0]))) := Lib.hid fun s m hm W c k hc => by
    have := hc.take (m : Int)
    obtain ⟨h1, h2, h3⟩ := take_fkm lg s hm hfl
    rw [h1, h2, h3] at this
    exact this
  have HFO : Hid (∀ s W c k, Cn w W c k (fk n' lg f s) → Calls Tryd.prog 17 #[ptr c] W fun e w' => e = .returned (.int .i64 (f : Int)) ∧ W = w') := Lib.hid fun s W c k hc => hc.focus
  have H0 := Lib.hid (fkm_0 n' lg f)
  have HE := Lib.hid (fun s => fkm_end n' lg f s hfl)
  have z1 : (0 : Int) < (n' : Int) := by omega
  have z2 : ¬ (8 : Int) < (n' : Int) := by omega
  have z3 : (n' : Int) ≤ 8 := by omega
  have z4 : ((n' : Int) == 0) = false := beq_eq_false_iff_ne.2 (by omega)
  have z5 : (if (n' : Int) < 8 then (n' : Int) else 8) = (n' : Int) := by split <;> omega
  have Hmod := Lib.hid hmod
  have hfl' : (f : Int) < (n' : Int) := by omega
  clear h hs hT hf hn' l1 l8
  generalize fkm n' lg f = FM at *
  generalize fk n' lg f = FK at *
  go_enter Tryd.func5, Tryd.ntmps5
  go_wp2_with (go_at_call 18; refine HF.out.mono ?_; rintro e w1 ⟨c, q, rfl, h1⟩)
  clear z1 z2 z4 z5 hmod
  go_loopg [11] n (fun gg i wr => ∃ k : Nat, k + gg = n ∧ i = .int .i64 k ∧ Cn w wr c q (FK empty))
  case atStart => exact ⟨0, by omega, rfl, h1⟩
  case round =>
    clear h1
    obtain ⟨i, hi, rfl, hc⟩ := hrel
    have Hi := Lib.hid hi
    by_cases hlt : i < n
    · have hlt' : (i : Int) < (n : Int) := by omega
      have hi0 : (0 : Int) ≤ (i : Int) := by omega
      obtain ⟨b, off, rfl, hcell, hsz⟩ := HTT.out.2 i hlt
      obtain ⟨t, ht⟩ : ∃ t, T i = t := ⟨_, rfl⟩
      rw [ht] at hcell hsz
      have HCE := Lib.hid (fun W (hf : Fr [] w W) => hf.cell_some hcell (by simp))
      have hts : t.size ≤ 9223372036854775807 := by simpa [maxLen] using hsz
      have HC := Lib.hid hc
      clear hi hc hcell hsz ht
      obtain ⟨W0, rfl⟩ : ∃ W0, W0 = wr := ⟨_, rfl⟩
      go_wp2_with fail
      go_loopg [12, 13] t.size (fun gg s j wr => ∃ k : Nat, k + gg = t.size ∧ j = .int .i64 k ∧ s = .string (wantT (t.data.toList.take k)) ∧ Cn w wr c q (FK (wantT (t.data.toList.take k))))
      case atStart => exact ⟨0, by omega, rfl, rfl, HC.out⟩
      case round =>
        obtain ⟨k, hk, rfl, rfl, hc⟩ := hrel
        have Hk := Lib.hid hk
        have q1 := HCE.out _ hc.f
        by_cases hkl : k < t.size
        · have hkl' : (k : Int) < (t.size : Int) := by omega
          have hk0 : (0 : Int) ≤ (k : Int) := by omega
          have HSN := Lib.hid (wantT_snoc t hkl)
          have hs16 := wantT_size (t.data.toList.take k) empty (by simp [empty, ByteArray.size])
          change (wantT (t.data.toList.take k)).size ≤ 16 at hs16
          have HC2 := Lib.hid hc
          have HKE := Lib.hid (fun (h : t[k].toNat ≠ 1) => HKY.out (wantT (t.data.toList.take k)) t[k] h wr c q hc)
          obtain ⟨s, hs⟩ : ∃ s, wantT (t.data.toList.take k) = s := ⟨_, rfl⟩
          rw [hs] at HSN hs16 HC2 HKE ⊢
          clear hs hc hk
          by_cases hb1 : t[k].toNat = 1
          · have e1 : ((t[k].toNat : Int) == 1) = true := by rw [hb1]; rfl
            rw [if_pos hb1] at HSN
            clear hb1
            go_wp2_with fail
            go_roundg (t.size - (k + 1))
            case measure => have := Hk.out; omega
            case rel => exact ⟨k + 1, by have := Hk.out; omega, by go_num, by rw [HSN.out], by rw [HSN.out]; exact HC2.out⟩
          · rw [if_neg hb1] at HSN
            have e1 : ((t[k].toNat : Int) == 1) = false := beq_eq_false_iff_ne.2 (by omega)
            have HKE2 := Lib.hid (HKE.out hb1)
            clear hb1 HKE
            by_cases h16 : s.size < 16
            · have d1 : (s.size : Int) < 16 := by omega
              have hcs : ¬ 9223372036854775807 < s.size + 1 := by omega
              have HAP : Hid (key1 s t[k] = s ++ ⟨#[t[k]]⟩) := Lib.hid (by unfold key1; rw [if_pos h16]; rfl)
              clear h16
              go_wp2_with (go_at_call 13; refine HKE2.out.mono ?_; rintro e w2 hP; obtain ⟨rfl, hQ, -⟩ := hP; have q2 := HCE.out _ hQ.f; have hcv := conv_one (w2.alloc (.cells #[.int .u8 (t[k].toNat : Int)] 5)) w2.heap.size t[k] (by simp); have HQ := Lib.hid (hQ.to ((Fr.refl [] w2).alloc (.cells #[.int .u8 (t[k].toNat : Int)] 5))); clear hQ)
              go_roundg (t.size - (k + 1))
              case measure => have := Hk.out; omega
              case rel => exact ⟨k + 1, by have := Hk.out; omega, by go_num, by rw [HSN.out, HAP.out], by rw [HSN.out]; exact HQ.out⟩
            · have d1 : ¬ (s.size : Int) < 16 := by omega
              have HAP : Hid (key1 s t[k] = s) := Lib.hid (by unfold key1; rw [if_neg h16])
              clear h16
              go_wp2_with (go_at_call 13; refine HKE2.out.mono ?_; rintro e w2 hP; obtain ⟨rfl, hQ, -⟩ := hP; have HQ := Lib.hid hQ; clear hQ)
              go_roundg (t.size - (k + 1))
              case measure => have := Hk.out; omega
              case rel => exact ⟨k + 1, by have := Hk.out; omega, by go_num, by rw [HSN.out, HAP.out], by rw [HSN.out]; exact HQ.out⟩
        · have hkl' : ¬ (k : Int) < (t.size : Int) := by omega
          obtain ⟨s, hs⟩ : ∃ s, wantT (t.data.toList.take k) = s := ⟨_, rfl⟩
          rw [hs] at hc ⊢
          have HC2 := Lib.hid hc
          have HS0 := Lib.hid (H0.out s)
          have HSE := Lib.hid (HE.out s)
          clear hc hk hs
          obtain ⟨W1, rfl⟩ : ∃ W1, W1 = wr := ⟨_, rfl⟩
          go_wp2_with fail
          clear q1
          go_loopg [14] n' (fun gg m wr => ∃ k : Nat, k + gg = n' ∧ m = .int .i64 k ∧ Cn w wr c q (FM s k))
          case atStart => exact ⟨0, by omega, rfl, by rw [HS0.out]; exact HC2.out⟩
          case round =>
            obtain ⟨m, hm, rfl, hc⟩ := hrel
            have Hm := Lib.hid hm
            by_cases hml : m < n'
            · have hml' : (m : Int) < (n' : Int) := by omega
              have HTE := Lib.hid (HTK.out s m hml wr c q hc)
              clear hm hc
              by_cases hmf : m = f
              · rw [if_pos hmf] at HTE
                subst hmf
                go_wp2_with (go_at_call 12; refine HTE.out.mono ?_; rintro e w2 hP; obtain ⟨rfl, hQ, -⟩ := hP; have HQ := Lib.hid hQ; clear hQ)
                go_roundg (n' - (m + 1))
                case measure => have := Hm.out; omega
                case rel => exact ⟨m + 1, by have := Hm.out; omega, by go_num, HQ.out⟩
              · rw [if_neg hmf] at HTE
                have e2 : ((m : Int) == (f : Int)) = false := beq_eq_false_iff_ne.2 (by omega)
                have e3 : ((m : Int) != (f : Int)) = true := by rw [bne_iff_ne]; omega
                have e4 : (m == f) = false := beq_eq_false_iff_ne.2 hmf
                go_wp2_with (go_at_call 12; refine HTE.out.mono ?_; rintro e w2 hP; obtain ⟨rfl, hQ, -⟩ := hP; have HQ := Lib.hid hQ; clear hQ)
                go_roundg (n' - (m + 1))
                case measure => have := Hm.out; omega
                case rel => exact ⟨m + 1, by have := Hm.out; omega, by go_num, HQ.out⟩
            · obtain rfl : m = n' := by omega
              rw [HSE.out] at hc
              have HQ := Lib.hid hc
              have HFE := Lib.hid (HFO.out empty wr c q hc)
              clear hc hm
              go_wp2_with (go_at_call 17; refine HFE.out.mono ?_; rintro e w2 ⟨rfl, rfl⟩)
              go_roundg (n - (i + 1))
              case measure => have := Hi.out; omega
              case rel => exact ⟨i + 1, by have := Hi.out; omega, by go_num, HQ.out⟩
    · obtain rfl : i = n := by omega
      have HFr := Lib.hid hc.f
      clear hc hi
      go_wp2_with (go_at_call 11; refine (HX.out _).mono ?_; rintro e w3 ⟨rfl, hf3⟩; have HP := Lib.hid (HFr.out.trans hf3); clear hf3)
      go_ret
      exact ⟨rfl, HP.out⟩
theorem types_walk (w : World) (lv : Int) (lg : ByteArray) (hs : lg.size ≤ maxLen) (A : Option Addr) (n cap : Nat) (T : Nat → ByteArray) (hT : StrsT w A n T) : Calls Tryd.prog 5 #[.int .i64 lv, .string lg, .slice A n cap] w (FixP w) := by
  cases h : okNew lv lg with
  | false => exact types_no w lv lg hs A n cap hT.1 h
  | true =>
    obtain ⟨L, rfl, -⟩ := okNew_spec h
    exact types_yes w L lg hs A n cap T hT h
end Go.Proofs.YtkjahokffpihmaaDoor
