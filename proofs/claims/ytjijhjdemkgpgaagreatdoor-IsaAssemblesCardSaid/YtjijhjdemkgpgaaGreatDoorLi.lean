/- Programs listed, plain: bytes and instructions, each line's kind; what is listed is assembled again. No program in sight. -/
import Derived.Test.YtjijhjdemkgpgaaGreatDoorA2
namespace Go.Proofs.YtjijhjdemkgpgaaGreatDoor
set_option linter.unusedVariables false
set_option linter.unusedSimpArgs false
/-- Four bytes. -/
structure W4 where
  a : UInt8
  b : UInt8
  c : UInt8
  d : UInt8
def W4.l (w : W4) : List UInt8 := [w.a, w.b, w.c, w.d]
def W4.n (w : W4) : Nat := w.a.toNat * 16777216 + w.b.toNat * 65536 + w.c.toNat * 256 + w.d.toNat
def W4.lo (w : W4) : Nat := w.c.toNat * 256 + w.d.toNat
/-- The instruction that four bytes say. -/
def mkL (w : W4) : In := ⟨w.a.toNat, (w.b.toNat / 16 : Nat), (w.b.toNat % 16 : Nat), if (fmL w.a.toNat).contains 115 = true ∧ 32768 ≤ w.lo then (w.lo : Int) - 65536 else w.lo⟩
def decL (w : W4) : Option In := if w.a.toNat < 30 ∧ okL (mkL w) w.a.toNat = true then some (mkL w) else none
theorem byte_toNat (b : UInt8) : byte b.toNat = b := by
  apply UInt8.toNat_inj.1
  unfold byte
  rw [UInt8.toNat_ofNat']
  have := b.toNat_lt
  omega
theorem byte_nat (n : Nat) : (byte n).toNat = n % 256 := by
  unfold byte
  rw [UInt8.toNat_ofNat']
  omega
theorem byte_of {n : Nat} {b : UInt8} (h : n % 256 = b.toNat) : byte n = b := by
  apply UInt8.toNat_inj.1
  rw [byte_nat, h]
/-- Bytes that are one have no other form. -/
theorem enc_mk (w : W4) : encL (mkL w) = w.l := by
  have ha := w.a.toNat_lt
  have hb := w.b.toNat_lt
  have hc := w.c.toNat_lt
  have hd := w.d.toNat_lt
  have hm : ((mkL w).m % 65536).toNat = w.lo := by
    have h6 : w.lo < 65536 := by unfold W4.lo; omega
    have e : (mkL w).m = if (fmL w.a.toNat).contains 115 = true ∧ 32768 ≤ w.lo then (w.lo : Int) - 65536 else w.lo := rfl
    rw [e]
    generalize w.lo = x at h6 ⊢
    split
    · have : ((x : Int) - 65536) % 65536 = x := by omega
      rw [this]
      omega
    · have : (x : Int) % 65536 = x := by omega
      rw [this]
      omega
  unfold encL W4.l
  rw [hm]
  have e1 : byte (mkL w).op.toNat = w.a := byte_of (by show ((w.a.toNat : Int).toNat) % 256 = _; omega)
  have e2 : byte (16 * (mkL w).a + (mkL w).b).toNat = w.b := byte_of (by
    show (16 * ((w.b.toNat / 16 : Nat) : Int) + ((w.b.toNat % 16 : Nat) : Int)).toNat % 256 = _
    omega)
  have e3 : byte (w.lo / 256) = w.c := byte_of (by unfold W4.lo; omega)
  have e4 : byte w.lo = w.d := byte_of (by unfold W4.lo; omega)
  rw [e1, e2, e3, e4]
def encW (i : In) : W4 := ⟨byte i.op.toNat, byte (16 * i.a + i.b).toNat, byte ((i.m % 65536).toNat / 256), byte (i.m % 65536).toNat⟩
theorem encW_l (i : In) : (encW i).l = encL i := rfl
theorem ok_bounds {i : In} {k : Nat} (hk : k < 30) (h : okL i k = true) : (0 ≤ i.a ∧ i.a ≤ 15) ∧ (0 ≤ i.b ∧ i.b ≤ 15) ∧ (if (fmL k).contains 115 = true then -32768 ≤ i.m ∧ i.m ≤ 32767 else 0 ≤ i.m ∧ i.m ≤ 65535) := by
  refine ⟨?_, ?_, ?_⟩
  · cases hc : (fmL k).contains 97 with
    | true => exact ok_a h hc
    | false => rw [ok_na h hc]; decide
  · cases hc : (fmL k).contains 98 with
    | true => exact ok_b h hc
    | false => rw [ok_nb h hc]; decide
  · cases hs : (fmL k).contains 115 with
    | true => rw [if_pos rfl]; exact ok_s h hs
    | false =>
      rw [if_neg (by decide)]
      cases hu : (fmL k).contains 117 with
      | true => exact ok_u h hu hs
      | false => rw [ok_nm h hu hs]; decide
/-- An instruction is read from its bytes as what it was. -/
theorem dec_enc {i : In} {k : Nat} (hk : k < 30) (hop : i.op = (k : Int)) (h : okL i k = true) : decL (encW i) = some i := by
  obtain ⟨⟨a0, a1⟩, ⟨b0, b1⟩, hm⟩ := ok_bounds hk h
  have e0 : (encW i).a.toNat = k := by
    show (byte i.op.toNat).toNat = k
    rw [byte_nat, hop]
    omega
  have e1 : (encW i).b.toNat = (16 * i.a + i.b).toNat := by
    show (byte _).toNat = _
    rw [byte_nat]
    omega
  have e2 : (encW i).lo = (i.m % 65536).toNat := by
    unfold W4.lo
    show (byte _).toNat * 256 + (byte _).toNat = _
    rw [byte_nat, byte_nat]
    omega
  have hmk : mkL (encW i) = i := by
    unfold mkL
    rw [e0, e1, e2]
    obtain ⟨op, a, b, m⟩ := i
    simp only at *
    subst hop
    congr 1
    · omega
    · omega
    · cases hs : (fmL k).contains 115 with
      | true =>
        rw [hs, if_pos rfl] at hm
        split
        · next hc => omega
        · next hc =>
          have : ¬ 32768 ≤ (m % 65536).toNat := fun hh => hc ⟨rfl, hh⟩
          omega
      | false =>
        rw [hs, if_neg (by decide)] at hm
        rw [if_neg (by rintro ⟨hh, -⟩; cases hh)]
        omega
  unfold decL
  rw [hmk, e0, if_pos ⟨hk, h⟩]
/-- A line of a listing. -/
def lineOf (w : W4) : List UInt8 := match decL w with | some i => textL i [] i.op.toNat | none => [119, 111, 114, 100, 32] ++ Lib.decDigits w.n
def kindOf (w : W4) : LK := match decL w with | some i => .ins i [] | none => .wrd w.n
theorem decL_some {w : W4} {i : In} (h : decL w = some i) : ∃ k : Nat, k < 30 ∧ i.op = (k : Int) ∧ okL i k = true ∧ encL i = w.l := by
  unfold decL at h
  split at h
  · next hc =>
    injection h with h
    subst h
    exact ⟨w.a.toNat, hc.1, rfl, hc.2, enc_mk w⟩
  · cases h
theorem nm_byte {k : Nat} (hk : k < 30) : ∀ b ∈ nmL k, isLd b = true := by
  have h : ∀ k : Fin 30, ∀ b ∈ nmL k.val, isLd b = true := by decide +kernel
  exact h ⟨k, hk⟩
theorem nm_ne {k : Nat} (hk : k < 30) : nmL k ≠ [] := by
  have h : ∀ k : Fin 30, nmL k.val ≠ [] := by decide +kernel
  exact h ⟨k, hk⟩
/-- Which bytes a text has. -/
theorem text_byte {i : In} {to : List UInt8} {k : Nat} (hk : k < 30) (ht : to = [] ∨ isLab to = true) : ∀ b ∈ textL i to k, isLd b = true ∨ b.toNat = 32 ∨ b.toNat = 45 ∨ b.toNat = 64 := by
  have hi : ∀ n, ∀ b ∈ Lib.itoa n, isLd b = true ∨ b.toNat = 32 ∨ b.toNat = 45 ∨ b.toNat = 64 := fun n b hb => by
    rcases itoa_byte b hb with h | h
    · exact .inr (.inr (.inl h))
    · left
      unfold isLd
      rw [Bool.or_eq_true]
      right
      simpa [isDig] using h
  intro b hb
  unfold textL at hb
  rcases List.mem_append.1 hb with hb | hb
  · exact .inl (nm_byte hk b hb)
  · obtain ⟨x, hx, hb⟩ := List.mem_flatMap.1 hb
    obtain ⟨c, -, rfl⟩ := List.mem_map.1 hx
    rcases List.mem_cons.1 hb with rfl | hb
    · exact .inr (.inl rfl)
    · unfold fieldT at hb
      split at hb
      · rcases List.mem_cons.1 hb with rfl | hb
        · exact .inl (by decide)
        · exact hi _ b hb
      · split at hb
        · rcases List.mem_cons.1 hb with rfl | hb
          · exact .inl (by decide)
          · exact hi _ b hb
        · split at hb
          · next hne =>
            rcases List.mem_cons.1 hb with rfl | hb
            · exact .inr (.inr (.inr rfl))
            · rcases ht with rfl | ht
              · exact absurd rfl hne
              · exact .inl (lab_byte ht b hb)
          · exact hi _ b hb
theorem text_no {i : In} {to : List UInt8} {k : Nat} (hk : k < 30) (ht : to = [] ∨ isLab to = true) {c : UInt8} (hc : isLd c = false ∧ c.toNat ≠ 32 ∧ c.toNat ≠ 45 ∧ c.toNat ≠ 64) : c ∉ textL i to k := fun hm => by
  rcases text_byte hk ht c hm with h | h | h | h
  · rw [hc.1] at h; cases h
  · exact hc.2.1 h
  · exact hc.2.2.1 h
  · exact hc.2.2.2 h
/-- An instruction's line, with a label or without. -/
theorem lineK_text {i : In} {to : List UInt8} {k : Nat} (hk : k < 30) (hop : i.op = (k : Int)) (h : okL i k = true) (ht : to = [] ∨ (isLab to = true ∧ i.m = 0 ∧ (fmL k).contains 115 = true ∧ k ≠ 19)) : lineK (textL i to k) = .ins i to := by
  have ht' : to = [] ∨ isLab to = true := ht.imp_right fun h => h.1
  have hr : readG numP (fun _ => numP) true (textL i to k) = some (i, to) := (readG_iff numP_ok).2 ⟨k, hk, hop, h, rfl, ht.imp_right fun h => ⟨rfl, h⟩⟩
  have hne : textL i to k ≠ [] := by
    unfold textL
    intro he
    exact nm_ne hk (List.append_eq_nil_iff.1 he).1
  have h58 : (textL i to k).getLast? ≠ some 58 := fun he => text_no hk ht' (c := 58) (by decide) (List.mem_of_getLast? he)
  unfold lineK
  rw [if_neg hne, if_neg (fun hh => h58 hh.1), hr]
theorem word_split (l : List UInt8) (h : (32 : UInt8) ∉ l) : splitC 32 ([119, 111, 114, 100, 32] ++ l) = [[119, 111, 114, 100], l] := by
  show splitC 32 ([119, 111, 114, 100] ++ 32 :: l) = _
  rw [splitC_app (by decide), splitC_none h]
theorem dec_no {n : Nat} {c : UInt8} (h : ¬ isDig c) : c ∉ Lib.decDigits n := fun hm => h (decDigits_dig n c hm)
theorem lineK_word {n : Nat} (hn : n < 4294967296) : lineK ([119, 111, 114, 100, 32] ++ Lib.decDigits n) = .wrd n := by
  have hop : opOf [119, 111, 114, 100] = none := by decide +kernel
  have hr : readG numP (fun _ => numP) true ([119, 111, 114, 100, 32] ++ Lib.decDigits n) = none := by
    unfold readG
    rw [word_split _ (dec_no (by decide))]
    simp only
    rw [hop]
  have h58 : ([119, 111, 114, 100, 32] ++ Lib.decDigits n).getLast? ≠ some 58 := fun he => by
    rcases List.mem_append.1 (List.mem_of_getLast? he) with h | h
    · exact absurd h (by decide)
    · exact dec_no (c := 58) (by decide) h
  have hw : wordK ([119, 111, 114, 100, 32] ++ Lib.decDigits n) = some n := by
    unfold wordK
    rw [if_pos (show List.take 5 ([119, 111, 114, 100, 32] ++ Lib.decDigits n) = [119, 111, 114, 100, 32] from rfl)]
    show (match numP (Lib.decDigits n) with | some m => if 0 ≤ m ∧ m < 4294967296 then some m.toNat else none | none => none) = _
    rw [← itoa_nat, (numP_iff (by omega) (by omega)).2 rfl]
    simp only
    rw [if_pos (by omega)]
    rfl
  unfold lineK
  rw [if_neg (by simp), if_neg (fun hh => h58 hh.1), hr, hw]
theorem W4.n_lt (w : W4) : w.n < 4294967296 := by
  have ha := w.a.toNat_lt
  have hb := w.b.toNat_lt
  have hc := w.c.toNat_lt
  have hd := w.d.toNat_lt
  unfold W4.n
  omega
theorem fourB_n (w : W4) : fourB w.n = w.l := by
  have ha := w.a.toNat_lt
  have hb := w.b.toNat_lt
  have hc := w.c.toNat_lt
  have hd := w.d.toNat_lt
  unfold fourB W4.l
  rw [byte_of (b := w.a) (by unfold W4.n; omega), byte_of (b := w.b) (by unfold W4.n; omega), byte_of (b := w.c) (by unfold W4.n; omega), byte_of (b := w.d) (by unfold W4.n; omega)]
theorem lineK_of (w : W4) : lineK (lineOf w) = kindOf w := by
  unfold lineOf kindOf
  cases h : decL w with
  | some i =>
    obtain ⟨k, hk, hop, ho, -⟩ := decL_some h
    simp only
    rw [hop, Int.toNat_natCast]
    exact lineK_text hk hop ho (.inl rfl)
  | none => exact lineK_word w.n_lt
theorem line_no10 (w : W4) : (10 : UInt8) ∉ lineOf w := by
  unfold lineOf
  cases h : decL w with
  | some i =>
    obtain ⟨k, hk, hop, ho, -⟩ := decL_some h
    simp only
    rw [hop, Int.toNat_natCast]
    exact text_no hk (.inl rfl) (by decide)
  | none =>
    simp only [List.mem_append]
    rintro (h | h)
    · exact absurd h (by decide)
    · exact dec_no (by decide) h
/-! What is listed is assembled. -/
def rowsB (ws : List W4) : List UInt8 := ws.flatMap fun w => lineOf w ++ [10]
def bytesW (ws : List W4) : List UInt8 := ws.flatMap W4.l
theorem bytesW_len : ∀ ws : List W4, (bytesW ws).length = 4 * ws.length
  | [] => rfl
  | w :: ws => by
    show (w.l ++ bytesW ws).length = _
    rw [List.length_append, bytesW_len ws, List.length_cons]
    show 4 + _ = _
    omega
theorem splitC_rows : ∀ (ws : List W4) (t : List UInt8), splitC 10 (rowsB ws ++ t) = ws.map lineOf ++ splitC 10 t
  | [], t => rfl
  | w :: ws, t => by
    show splitC 10 (((lineOf w ++ [10]) ++ rowsB ws) ++ t) = _
    rw [show ((lineOf w ++ [10]) ++ rowsB ws) ++ t = lineOf w ++ 10 :: (rowsB ws ++ t) by simp, splitC_app (line_no10 w), splitC_rows ws t]
    rfl
theorem pass1_rows : ∀ (ws : List W4) (ks : List LK) (n size : Nat) (pl : Pl), size + 4 * ws.length ≤ 4096 → pass1 (ws.map kindOf ++ ks) n size pl = pass1 ks (n + ws.length) (size + 4 * ws.length) pl
  | [], ks, n, size, pl, _ => rfl
  | w :: ws, ks, n, size, pl, h => by
    rw [List.length_cons] at h ⊢
    have ih := pass1_rows ws ks (n + 1) (size + 4) pl (by omega)
    rw [show n + (ws.length + 1) = n + 1 + ws.length by omega, show size + 4 * (ws.length + 1) = size + 4 + 4 * ws.length by omega, ← ih]
    show pass1 (kindOf w :: (ws.map kindOf ++ ks)) n size pl = _
    unfold kindOf
    cases decL w with
    | some i =>
      show (if 4096 < size + 4 then AR.bad (n + 1) 94 else pass1 (ws.map kindOf ++ ks) (n + 1) (size + 4) pl) = _
      rw [if_neg (by omega)]
      rfl
    | none =>
      show (if 4096 < size + 4 then AR.bad (n + 1) 94 else pass1 (ws.map kindOf ++ ks) (n + 1) (size + 4) pl) = _
      rw [if_neg (by omega)]
      rfl
theorem pass2_rows : ∀ (ws : List W4) (ks : List LK) (n : Nat) (out : List UInt8) (pl : Pl), pass2 (ws.map kindOf ++ ks) n out pl = pass2 ks (n + ws.length) (out ++ bytesW ws) pl
  | [], ks, n, out, pl => by
    show pass2 ks n out pl = pass2 ks n (out ++ []) pl
    rw [List.append_nil]
  | w :: ws, ks, n, out, pl => by
    have ih := pass2_rows ws ks (n + 1) (out ++ w.l) pl
    rw [List.length_cons, show n + (ws.length + 1) = n + 1 + ws.length by omega]
    show pass2 (kindOf w :: (ws.map kindOf ++ ks)) n out pl = pass2 ks _ (out ++ (w.l ++ bytesW ws)) pl
    rw [← List.append_assoc, ← ih]
    unfold kindOf
    cases h : decL w with
    | some i =>
      obtain ⟨k, -, -, -, he⟩ := decL_some h
      show pass2 (ws.map kindOf ++ ks) (n + 1) (out ++ encL i) pl = _
      rw [he]
      rfl
    | none =>
      show pass2 (ws.map kindOf ++ ks) (n + 1) (out ++ fourB w.n) pl = _
      rw [fourB_n]
      rfl
/-- ROWS OF A LISTING, IN ANY ORDER, ARE THE PROGRAM IN THAT ORDER. -/
theorem asm_rows (ws : List W4) (h1 : 4 * ws.length ≤ 4096) (h2 : (rowsB ws).length ≤ 32768) : asm (rowsB ws) = (bytesW ws, 0, 0) := by
  have e := splitC_rows ws []
  rw [List.append_nil] at e
  have ek : (splitC 10 (rowsB ws)).map lineK = ws.map kindOf ++ [LK.blank] := by
    rw [e, List.map_append, List.map_map]
    congr 1
    apply List.map_congr_left
    intro w _
    exact lineK_of w
  unfold asm asmK
  rw [if_neg (by omega), ek, pass1_rows ws _ 0 0 [] (by omega)]
  show told (pass2 (ws.map kindOf ++ [LK.blank]) 0 [] []) = _
  rw [pass2_rows]
  rfl
end Go.Proofs.YtjijhjdemkgpgaaGreatDoor
