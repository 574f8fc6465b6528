/- Parse, of the program, over what read tells. Check, Encode, Print, Parse at whatever comes; the answers that 'fixed' asks, plain. A program that is assembled is a row of whole fours, of 4096 bytes at most (no program in sight). -/
import Derived.Test.YtbmaecdlkchkeaaGreatDoorI3
import Derived.Test.YtbmaecdlkchkeaaGreatDoorI22
import Derived.Test.YtbmaecdlkchkeaaGreatDoorLb
import Derived.Test.YtbmaecdlkchkeaaGreatDoorI19
namespace Go.Proofs.YtbmaecdlkchkeaaGreatDoor
open Go.RowKit
set_option linter.unusedVariables false
set_option linter.unusedSimpArgs false
set_option maxRecDepth 100000
end Go.Proofs.YtbmaecdlkchkeaaGreatDoor
namespace Go.Proofs.YtbmaecdlkchkeaaGreatDoor
open Go.RowKit Go.Maps
set_option linter.unusedVariables false
set_option linter.unusedSimpArgs false
set_option maxRecDepth 100000
def mayB (i : In) : Bool := decide (0 ≤ i.op) && decide (i.op < 30) && okL i i.op.toNat
theorem mayB_iff (i : In) : mayB i = true ↔ ∃ k : Nat, k < 30 ∧ i.op = (k : Int) ∧ okL i k = true := by
  unfold mayB
  rw [Bool.and_eq_true, Bool.and_eq_true, decide_eq_true_eq, decide_eq_true_eq]
  constructor
  · rintro ⟨⟨h1, h2⟩, h3⟩
    exact ⟨i.op.toNat, by omega, by omega, h3⟩
  · rintro ⟨k, h1, h2, h3⟩
    have : i.op.toNat = k := by omega
    rw [this]
    exact ⟨⟨by omega, by omega⟩, h3⟩
theorem mayB_at {i : In} {k : Nat} (hk : k < 30) (hop : i.op = (k : Int)) : mayB i = okL i k := by
  unfold mayB
  rw [hop, Int.toNat_natCast, decide_eq_true (by omega : (0 : Int) ≤ (k : Int)), decide_eq_true (by omega : (k : Int) < 30)]
  rfl
theorem Check_any (i : In) (w : World) : Calls Tryz.prog 26 #[i.v] w fun e w' => e = .returned (.int .i64 (if mayB i = true then 0 else 90)) ∧ Fr [] w w' := by
  by_cases h : 0 ≤ i.op ∧ i.op < 30
  · obtain ⟨k, hk⟩ : ∃ k : Nat, i.op = (k : Int) := ⟨i.op.toNat, by omega⟩
    rw [mayB_at (by omega) hk]
    have h2 := Check_in i k (by omega) hk w
    rw [okI_eq _ (by omega)] at h2
    exact h2
  · have hm : mayB i = false := by
      unfold mayB
      by_cases h1 : 0 ≤ i.op
      · rw [decide_eq_false (by omega : ¬ i.op < 30)]
        simp
      · rw [decide_eq_false h1]
        rfl
    rw [hm]
    obtain ⟨op, a, b, m⟩ := i
    simp only at h
    have H0 : Hid (Fr [] w (w.alloc (.cells #[.int .i64 op, .int .i64 a, .int .i64 b, .int .i64 m] 55))) := Lib.hid ((Fr.refl [] w).alloc _)
    have hc : (w.alloc (.cells #[.int .i64 op, .int .i64 a, .int .i64 b, .int .i64 m] 55)).cell? ⟨w.heap.size, 0, none⟩ = some (.int .i64 op) := (Blk.new w 55 #[.int .i64 op, .int .i64 a, .int .i64 b, .int .i64 m]).cell 0
    by_cases h1 : op < 0
    · clear h hm
      go_enter Tryz.func26, Tryz.ntmps26
      go_wp2_with fail
      go_ret
      exact ⟨rfl, H0.out⟩
    · have h2 : (30 : Int) ≤ op := by omega
      clear h hm
      go_enter Tryz.func26, Tryz.ntmps26
      go_wp2_with fail
      go_ret
      exact ⟨rfl, H0.out⟩
theorem may_no {i : In} (h : mayB i = false) (w : World) : Calls Tryz.prog 26 #[i.v] w fun e w' => e = .returned (.int .i64 90) ∧ Fr [] w w' := by
  have h2 := Check_any i w
  rw [h] at h2
  exact h2
theorem Encode_any (i : In) (w : World) : Calls Tryz.prog 27 #[i.v] w fun e w' => e = .returned (.tuple #[.string ⟨(if mayB i = true then encL i else []).toArray⟩, .int .i64 (if mayB i = true then 0 else 90)]) ∧ Fr [] w w' := by
  cases h : mayB i with
  | true =>
    obtain ⟨k, hk, hop, ho⟩ := (mayB_iff i).1 h
    exact Encode_good i k hk hop ho w
  | false =>
    have HC := Lib.hid (fun W => may_no h W)
    obtain ⟨op, a, b, m⟩ := i
    have HB0 := Lib.hid (Blk.new w 55 #[.int .i64 op, .int .i64 a, .int .i64 b, .int .i64 m])
    have H0 : Hid (Fr [] w (w.alloc (.cells #[.int .i64 op, .int .i64 a, .int .i64 b, .int .i64 m] 55))) := Lib.hid ((Fr.refl [] w).alloc _)
    clear h
    go_enter Tryz.func27, Tryz.ntmps27
    go_wp2_with (first
      | (go_at_call 26; refine (HC.out _).mono ?_; rintro e w1 ⟨rfl, hf⟩; have H1 := Lib.hid (H0.out.trans hf); clear hf)
      | fail)
    all_goals
      exact bodyPost_ret (v := .tuple #[.string ⟨#[]⟩, .int .i64 90]) (results_tmp2 Tryz.results27 _ _ _) rfl ⟨rfl, H1.out⟩
theorem Print_any (i : In) (w : World) (hw : Std w) : Calls Tryz.prog 40 #[i.v] w fun e w' => e = .returned (.tuple #[.string ⟨(if mayB i = true then textL i [] i.op.toNat else []).toArray⟩, .int .i64 (if mayB i = true then 0 else 90)]) ∧ Fr [] w w' := by
  cases h : mayB i with
  | true =>
    obtain ⟨k, hk, hop, ho⟩ := (mayB_iff i).1 h
    have e : i.op.toNat = k := by omega
    rw [e]
    exact Print_good i k hk hop ho w hw
  | false =>
    have HC := Lib.hid (fun W => may_no h W)
    obtain ⟨op, a, b, m⟩ := i
    have HB0 := Lib.hid (Blk.new w 55 #[.int .i64 op, .int .i64 a, .int .i64 b, .int .i64 m])
    have H0 : Hid (Fr [] w (w.alloc (.cells #[.int .i64 op, .int .i64 a, .int .i64 b, .int .i64 m] 55))) := Lib.hid ((Fr.refl [] w).alloc _)
    clear h
    go_enter Tryz.func40, Tryz.ntmps40
    go_wp2_with (first
      | (go_at_call 26; refine (HC.out _).mono ?_; rintro e w1 ⟨rfl, hf⟩; have H1 := Lib.hid (H0.out.trans hf); clear hf)
      | fail)
    all_goals
      exact bodyPost_ret (v := .tuple #[.string ⟨#[]⟩, .int .i64 90]) (results_tmp2 Tryz.results40 _ _ _) rfl ⟨rfl, H1.out⟩
def parseV (s : List UInt8) : In × Int := if (readV false s).2.2 = true then ((readV false s).1, 0) else (In0, 92)
theorem parseV_some {s : List UInt8} {i : In} {lb : List UInt8} (h : readG numP (fun _ => numP) false s = some (i, lb)) : parseV s = (i, 0) := by
  unfold parseV
  rw [readV_some h]
  rfl
theorem parseV_none {s : List UInt8} (h : readG numP (fun _ => numP) false s = none) : parseV s = (In0, 92) := by
  unfold parseV
  rw [readV_none h]
  rfl
/-! What 'fixed' asks. -/
theorem itoa_300 : Lib.itoa 300 = [51, 48, 48] := by
  rw [show (300 : Int) = ((300 : Nat) : Int) from rfl, itoa_nat, decDigits_big (by decide), decDigits_big (by decide), decDigits_small (by decide)]
  rfl
theorem itoa_dig (u : Nat) (h : u < 10) : Lib.itoa (u : Int) = [UInt8.ofNat (48 + u)] := by rw [itoa_nat, decDigits_small h]
theorem itoa_m1 : Lib.itoa (-1) = [45, 49] := by
  rw [show (-1 : Int) = -((1 : Nat) : Int) from rfl, itoa_neg (by decide), decDigits_small (by decide)]
  rfl
theorem big_num : Lib.decDigits 4278190081 = [52, 50, 55, 56, 49, 57, 48, 48, 56, 49] := by
  rw [decDigits_big (by decide), decDigits_big (by decide), decDigits_big (by decide), decDigits_big (by decide), decDigits_big (by decide), decDigits_big (by decide), decDigits_big (by decide), decDigits_big (by decide), decDigits_big (by decide), decDigits_small (by decide)]
  rfl
def get4T : List UInt8 := [103, 101, 116, 52, 32, 114, 49, 32, 114, 50, 32, 51, 48, 48]
theorem fx_get4 : parseV get4T = (⟨21, 1, 2, 300⟩, 0) := by
  refine parseV_some (lb := []) ((readG_iff numP_ok).2 ⟨21, by decide, rfl, by decide, ?_, .inl rfl⟩)
  have h1 := itoa_dig 1 (by decide)
  have h2 := itoa_dig 2 (by decide)
  show _ = nmL 21 ++ ([97, 98, 117].map (fieldT ⟨21, 1, 2, 300⟩ [])).flatMap (32 :: ·)
  simp only [List.map_cons, List.map_nil, fieldT]
  rw [show (1 : Int) = ((1 : Nat) : Int) from rfl, show (2 : Int) = ((2 : Nat) : Int) from rfl, h1, h2, itoa_300]
  rfl
theorem num_m0 : numP [45, 48] = none := by
  cases h : numP [45, 48] with
  | none => rfl
  | some n =>
    have h1 := numP_some h
    exfalso
    by_cases hn : 0 ≤ n
    · exact itoa_nonneg_head hn (by rw [← h1]; rfl)
    · obtain ⟨u, hu⟩ := Int.eq_ofNat_of_zero_le (show 0 ≤ -n by omega)
      obtain rfl : n = -(u : Int) := by omega
      rw [itoa_neg (by omega)] at h1
      injection h1 with _ h1
      have hv := decDigits_val u
      rw [← h1] at hv
      have : dval 0 [48] = 0 := by decide
      omega
def jumpm0 : List UInt8 := [106, 117, 109, 112, 32, 45, 48]
theorem fx_jump : parseV jumpm0 = (In0, 92) := by
  apply parseV_none
  have e : splitC 32 jumpm0 = [[106, 117, 109, 112], [45, 48]] := by decide
  have e2 : opOf [106, 117, 109, 112] = some 24 := by decide +kernel
  unfold readG
  rw [e]
  simp only
  rw [e2]
  simp only
  rw [if_pos (by decide)]
  show (match fieldsG numP (fun _ => numP) false 24 (115 :: []) ([45, 48] :: []) ⟨24, 0, 0, 0⟩ [] with | none => none | some (i, lb) => if okL i 24 = true then some (i, lb) else none) = none
  rw [fg_num (.inr rfl) (by rintro ⟨h, -⟩; cases h), num_m0]
def asm1T : List UInt8 := [97, 58, 10, 112, 108, 117, 115, 32, 114, 49, 32, 45, 49, 10, 115, 111, 109, 101, 32, 114, 49, 32, 64, 97, 10, 106, 117, 109, 112, 32, 64, 98, 10, 119, 111, 114, 100, 32, 55, 10, 98, 58, 10, 115, 116, 111, 112, 10]
theorem lk_plus : lineK [112, 108, 117, 115, 32, 114, 49, 32, 45, 49] = .ins ⟨19, 1, 0, -1⟩ [] := by
  have h := @lineK_text ⟨19, 1, 0, -1⟩ [] 19 (by decide) rfl (by decide) (.inl rfl)
  have e : textL ⟨19, 1, 0, -1⟩ [] 19 = [112, 108, 117, 115, 32, 114, 49, 32, 45, 49] := by
    show nmL 19 ++ ([97, 115].map (fieldT ⟨19, 1, 0, -1⟩ [])).flatMap (32 :: ·) = _
    simp only [List.map_cons, List.map_nil, fieldT]
    rw [itoa_m1, show (1 : Int) = ((1 : Nat) : Int) from rfl, itoa_dig 1 (by decide)]
    rfl
  rw [e] at h
  exact h
theorem lk_some : lineK [115, 111, 109, 101, 32, 114, 49, 32, 64, 97] = .ins ⟨26, 1, 0, 0⟩ [97] := by
  have h := @lineK_text ⟨26, 1, 0, 0⟩ [97] 26 (by decide) rfl (by decide) (.inr ⟨by decide, rfl, by decide, by decide⟩)
  have e : textL ⟨26, 1, 0, 0⟩ [97] 26 = [115, 111, 109, 101, 32, 114, 49, 32, 64, 97] := by
    show nmL 26 ++ ([97, 115].map (fieldT ⟨26, 1, 0, 0⟩ [97])).flatMap (32 :: ·) = _
    simp only [List.map_cons, List.map_nil, fieldT]
    rw [show (1 : Int) = ((1 : Nat) : Int) from rfl, itoa_dig 1 (by decide)]
    rfl
  rw [e] at h
  exact h
theorem lk_jump : lineK [106, 117, 109, 112, 32, 64, 98] = .ins ⟨24, 0, 0, 0⟩ [98] := jump_line (l := [98]) (by decide)
theorem lk_word : lineK [119, 111, 114, 100, 32, 55] = .wrd 7 := by
  have h := lineK_word (n := 7) (by decide)
  rw [decDigits_small (by decide)] at h
  exact h
theorem lk_stop : lineK [115, 116, 111, 112] = .ins ⟨1, 0, 0, 0⟩ [] := @lineK_text ⟨1, 0, 0, 0⟩ [] 1 (by decide) rfl (by decide) (.inl rfl)
theorem fx_asm1 : asm asm1T = ([19, 16, 255, 255, 26, 16, 255, 254, 24, 0, 0, 1, 0, 0, 0, 7, 1, 0, 0, 0], 0, 0) := by
  have e : splitC 10 asm1T = [[97, 58], [112, 108, 117, 115, 32, 114, 49, 32, 45, 49], [115, 111, 109, 101, 32, 114, 49, 32, 64, 97], [106, 117, 109, 112, 32, 64, 98], [119, 111, 114, 100, 32, 55], [98, 58], [115, 116, 111, 112], []] := by decide
  have ea : lineK [97, 58] = .lab [97] := lab_line (l := [97]) (by decide)
  have eb : lineK [98, 58] = .lab [98] := lab_line (l := [98]) (by decide)
  unfold asm
  rw [if_neg (by decide), e]
  simp only [List.map_cons, List.map_nil]
  rw [ea, eb, lk_plus, lk_some, lk_jump, lk_word, lk_stop, show lineK [] = .blank from rfl]
  decide +kernel
def asm2T : List UInt8 := [97, 58, 10, 97, 58, 10]
theorem fx_asm2 : asm asm2T = ([], 2, 93) := by
  have e : splitC 10 asm2T = [[97, 58], [97, 58], []] := by decide
  have ea : lineK [97, 58] = .lab [97] := lab_line (l := [97]) (by decide)
  unfold asm
  rw [if_neg (by decide), e]
  simp only [List.map_cons, List.map_nil]
  rw [ea, show lineK [] = .blank from rfl]
  decide +kernel
theorem fx_list : listP [1, 0, 0, 0, 255, 0, 0, 1] = ([115, 116, 111, 112, 10, 119, 111, 114, 100, 32, 52, 50, 55, 56, 49, 57, 48, 48, 56, 49, 10], 0) := by
  have h1 : lineOf ⟨1, 0, 0, 0⟩ = [115, 116, 111, 112] := by
    have hd : decL ⟨1, 0, 0, 0⟩ = some ⟨1, 0, 0, 0⟩ := by decide +kernel
    unfold lineOf
    rw [hd]
    decide +kernel
  have h2 : lineOf ⟨255, 0, 0, 1⟩ = [119, 111, 114, 100, 32] ++ [52, 50, 55, 56, 49, 57, 48, 48, 56, 49] := by
    have hd : decL ⟨255, 0, 0, 1⟩ = none := by decide +kernel
    unfold lineOf
    rw [hd]
    show [119, 111, 114, 100, 32] ++ Lib.decDigits 4278190081 = _
    rw [big_num]
  show (lineOf ⟨1, 0, 0, 0⟩ ++ [10] ++ (lineOf ⟨255, 0, 0, 1⟩ ++ [10] ++ []), (0 : Int)) = _
  rw [h1, h2]
  rfl
end Go.Proofs.YtbmaecdlkchkeaaGreatDoor
namespace Go.Proofs.YtbmaecdlkchkeaaGreatDoor
set_option linter.unusedVariables false
set_option linter.unusedSimpArgs false
theorem pass1_size : ∀ (ks : List LK) (n size : Nat) (pl : Pl) {z : Nat} {ql : Pl}, pass1 ks n size pl = .fine (z, ql) → size ≤ 4096 → size % 4 = 0 → size ≤ z ∧ z ≤ 4096 ∧ z % 4 = 0
  | [], n, size, pl, z, ql, h, h1, h2 => by
    injection h with h
    injection h with h3 h4
    subst h3
    exact ⟨Nat.le_refl _, h1, h2⟩
  | .blank :: ks, n, size, pl, z, ql, h, h1, h2 => pass1_size ks (n + 1) size pl h h1 h2
  | .lab l :: ks, n, size, pl, z, ql, h, h1, h2 => by
    unfold pass1 at h
    split at h
    · cases h
    · exact pass1_size ks (n + 1) size _ h h1 h2
  | .ins i lb :: ks, n, size, pl, z, ql, h, h1, h2 => by
    unfold pass1 at h
    split at h
    · cases h
    · have := pass1_size ks (n + 1) (size + 4) _ h (by omega) (by omega)
      omega
  | .wrd w :: ks, n, size, pl, z, ql, h, h1, h2 => by
    unfold pass1 at h
    split at h
    · cases h
    · have := pass1_size ks (n + 1) (size + 4) _ h (by omega) (by omega)
      omega
  | .bad :: ks, n, size, pl, z, ql, h, h1, h2 => by cases h
theorem pass2_size : ∀ (ks : List LK) (n size : Nat) (pl : Pl) {z : Nat} {ql : Pl}, pass1 ks n size pl = .fine (z, ql) → size ≤ 4096 → size % 4 = 0 → ∀ (m : Nat) (out : List UInt8) (rl : Pl) {r : List UInt8}, pass2 ks m out rl = .fine r → r.length + size = out.length + z
  | [], n, size, pl, z, ql, h, h1, h2, m, out, rl, r, hr => by
    injection h with h
    injection h with h3 h4
    injection hr with hr
    subst h3
    subst hr
    rfl
  | .blank :: ks, n, size, pl, z, ql, h, h1, h2, m, out, rl, r, hr => pass2_size ks (n + 1) size pl h h1 h2 (m + 1) out rl hr
  | .lab l :: ks, n, size, pl, z, ql, h, h1, h2, m, out, rl, r, hr => by
    unfold pass1 at h
    split at h
    · cases h
    · exact pass2_size ks (n + 1) size _ h h1 h2 (m + 1) out rl hr
  | .ins i lb :: ks, n, size, pl, z, ql, h, h1, h2, m, out, rl, r, hr => by
    unfold pass1 at h
    split at h
    · cases h
    · rw [pass2_ins] at hr
      split at hr
      · have := pass2_size ks (n + 1) (size + 4) _ h (by omega) (by omega) (m + 1) _ rl hr
        rw [List.length_append, encL_len] at this
        omega
      · split at hr
        · cases hr
        · split at hr
          · have := pass2_size ks (n + 1) (size + 4) _ h (by omega) (by omega) (m + 1) _ rl hr
            rw [List.length_append, encL_len] at this
            omega
          · cases hr
  | .wrd w :: ks, n, size, pl, z, ql, h, h1, h2, m, out, rl, r, hr => by
    unfold pass1 at h
    split at h
    · cases h
    · have := pass2_size ks (n + 1) (size + 4) _ h (by omega) (by omega) (m + 1) (out ++ fourB w) rl hr
      rw [List.length_append, fourB_len] at this
      omega
  | .bad :: ks, n, size, pl, z, ql, h, h1, h2, m, out, rl, r, hr => by cases h
theorem asm_cases (t : List UInt8) : (∃ n e, asm t = ([], n, e) ∧ e ≠ 0) ∨ ∃ p, asm t = (p, 0, 0) ∧ p.length ≤ 4096 ∧ p.length % 4 = 0 := by
  unfold asm
  by_cases hb : 32768 < t.length
  · rw [if_pos hb]
    exact .inl ⟨_, _, rfl, by decide⟩
  · rw [if_neg hb]
    unfold asmK
    cases h1 : pass1 ((splitC 10 t).map lineK) 0 0 [] with
    | bad n e =>
      obtain ⟨-, he⟩ := pass1_bad _ _ _ _ _ _ h1
      exact .inl ⟨n, e, rfl, by omega⟩
    | fine q =>
      obtain ⟨z, pl⟩ := q
      simp only
      have hz := pass1_size _ _ _ _ h1 (by decide) rfl
      cases h2 : pass2 ((splitC 10 t).map lineK) 0 [] pl with
      | bad n e =>
        obtain ⟨-, he⟩ := pass2_bad _ _ _ _ _ _ h2
        exact .inl ⟨n, e, rfl, by omega⟩
      | fine p =>
        have := pass2_size _ _ _ _ h1 (by decide) rfl _ _ _ h2
        simp only [List.length_nil] at this
        exact .inr ⟨p, rfl, by omega, by omega⟩
theorem list_ok {p : List UInt8} (h : p.length ≤ 4096) (h4 : p.length % 4 = 0) : (listP p).2 = 0 ∧ asm (listP p).1 = (p, 0, 0) := by
  have e : (listP p).2 = 0 := by
    unfold listP
    rw [if_neg (by omega), if_neg (by omega)]
  exact ⟨e, list_back p e⟩
def runT : List UInt8 := [115, 101, 116, 32, 114, 49, 32, 55, 10, 115, 116, 111, 112, 10]
theorem lk_set : lineK [115, 101, 116, 32, 114, 49, 32, 55] = .ins ⟨2, 1, 0, 7⟩ [] := by
  have h := @lineK_text ⟨2, 1, 0, 7⟩ [] 2 (by decide) rfl (by decide) (.inl rfl)
  have e : textL ⟨2, 1, 0, 7⟩ [] 2 = [115, 101, 116, 32, 114, 49, 32, 55] := by
    show nmL 2 ++ ([97, 117].map (fieldT ⟨2, 1, 0, 7⟩ [])).flatMap (32 :: ·) = _
    simp only [List.map_cons, List.map_nil, fieldT]
    rw [show (1 : Int) = ((1 : Nat) : Int) from rfl, itoa_dig 1 (by decide), show (7 : Int) = ((7 : Nat) : Int) from rfl, itoa_dig 7 (by decide)]
    rfl
  rw [e] at h
  exact h
theorem fx_run : asm runT = ([2, 16, 0, 7, 1, 0, 0, 0], 0, 0) := by
  have e : splitC 10 runT = [[115, 101, 116, 32, 114, 49, 32, 55], [115, 116, 111, 112], []] := by decide
  unfold asm
  rw [if_neg (by decide), e]
  simp only [List.map_cons, List.map_nil]
  rw [lk_set, lk_stop, show lineK [] = .blank from rfl]
  decide +kernel
end Go.Proofs.YtbmaecdlkchkeaaGreatDoor
