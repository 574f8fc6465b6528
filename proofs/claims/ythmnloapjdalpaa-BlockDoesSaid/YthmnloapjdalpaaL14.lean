/- BlockBack: the plain part. -/
import Derived.Test.YthmnloapjdalpaaL13
import Derived.Laws.BitsAllLaws
namespace Go.Proofs.Ythmnloapjdalpaa
open Go.RowKit
set_option linter.unusedVariables false
set_option linter.unusedSimpArgs false
theorem putL_all (n many : Nat) : putL n many many = numB n many := rfl
theorem big_putL (n many : Nat) (hn : n < 256 ^ many) : ∀ k, k ≤ many → big (putL n many k) = n / 256 ^ (many - k) := by
  intro k
  induction k with
  | zero =>
    intro _
    have : n / 256 ^ (many - 0) = 0 := Nat.div_eq_of_lt (by simpa using hn)
    rw [this]
    rfl
  | succ k ih =>
    intro hk
    rw [putL_next, big_snoc, ih (by omega), UInt8.toNat_ofNat']
    have e : 256 ^ (many - k) = 256 ^ (many - 1 - k) * 256 := by rw [← Nat.pow_succ]; congr 1; omega
    rw [e, ← Nat.div_div_eq_div_mul, show many - (k + 1) = many - 1 - k by omega]
    have := Nat.div_add_mod (n / 256 ^ (many - 1 - k)) 256
    show 256 * _ + _ % 256 = _
    omega
theorem big_numB (n many : Nat) (hn : n < 256 ^ many) : big (numB n many) = n := by
  rw [← putL_all, big_putL n many hn many (Nat.le_refl _), Nat.sub_self]
  simp
theorem big_inj : ∀ (n : Nat) (l l' : List UInt8), l.length = n → l'.length = n → big l = big l' → l = l' := by
  intro n
  induction n with
  | zero =>
    intro l l' h1 h2 _
    rw [List.eq_nil_of_length_eq_zero h1, List.eq_nil_of_length_eq_zero h2]
  | succ n ih =>
    intro l l' h1 h2 h
    have hl : l ≠ [] := fun e => by rw [e] at h1; cases h1
    have hl' : l' ≠ [] := fun e => by rw [e] at h2; cases h2
    obtain ⟨a, x, rfl⟩ : ∃ a x, l = a ++ [x] := ⟨l.dropLast, l.getLast hl, (List.dropLast_concat_getLast hl).symm⟩
    obtain ⟨b, y, rfl⟩ : ∃ a x, l' = a ++ [x] := ⟨l'.dropLast, l'.getLast hl', (List.dropLast_concat_getLast hl').symm⟩
    rw [List.length_append] at h1 h2
    simp at h1 h2
    rw [big_snoc, big_snoc] at h
    have hx := x.toNat_lt
    have hy := y.toNat_lt
    rw [ih a b h1 h2 (by omega), UInt8.toNat_inj.1 (show x.toNat = y.toNat by omega)]
theorem ext_list (s : ByteArray) (a b : Nat) : (s.extract a b).data.toList = (s.data.toList.drop a).take (b - a) := by
  rw [ByteArray.data_extract, Array.toList_extract]
/-- What a block's bytes tell, laid out. -/
theorem parse_list {s : ByteArray} {P Q R : List UInt8} (h : s.data.toList = (P ++ Q) ++ R) (hP : P.length = 116) (hQ : Q.length = 4) (hR : R.length = 8) :
    s.size = 128 ∧ (s.extract 0 116).data.toList = P ∧ sumOf s = big Q ∧ stampOf s = big R := by
  have hs : s.size = 128 := by
    have : s.size = s.data.toList.length := rfl
    rw [this, h, List.length_append, List.length_append, hP, hQ, hR]
  refine ⟨hs, ?_, ?_, ?_⟩
  · rw [ext_list, h, List.drop_zero, Nat.sub_zero, List.append_assoc, List.take_append_of_le_length (by omega), List.take_of_length_le (by omega)]
  · unfold sumOf
    rw [ext_list, h, List.append_assoc, List.drop_append, hP, List.drop_eq_nil_of_le (by omega), List.nil_append, show 116 - 116 = 0 by rfl, List.drop_zero, List.take_append_of_le_length (by omega), List.take_of_length_le (by omega)]
  · unfold stampOf
    rw [ext_list, h, hs, List.drop_append, List.length_append, hP, hQ, List.drop_eq_nil_of_le (by rw [List.length_append]; omega), List.nil_append, show 120 - (116 + 4) = 0 by rfl, List.drop_zero, List.take_of_length_le (by omega)]
theorem bytesV_list {t : ByteArray} {n : Int} (h : bytesE t n = 0) : (bytesV t n).data.toList = ((padB t).data.toList ++ numB (crc (padB t).data.toList).toNat 4) ++ numB n.toNat 8 := by
  unfold bytesV
  rw [if_pos h]
  rfl
theorem bytesE_ok {t : ByteArray} {n : Int} (h : bytesE t n = 0) : t.size ≤ 116 ∧ 0 ≤ n ∧ n ≤ 4611686018427387904 := by
  unfold bytesE at h
  split at h
  · cases h
  · split at h
    · cases h
    · omega
/-- There and back. -/
theorem parse_bytes {t : ByteArray} {n : Int} (h : bytesE t n = 0) : parseE (bytesV t n) = 0 ∧ (bytesV t n).extract 0 116 = padB t ∧ stampOf (bytesV t n) = n.toNat ∧ sumOf (bytesV t n) = (crc (padB t).data.toList).toNat := by
  obtain ⟨h1, h2, h3⟩ := bytesE_ok h
  obtain ⟨e1, e2, e3, e4⟩ := parse_list (bytesV_list h) (padB_len t) (numB_len _ _) (numB_len _ _)
  have hc := (crc (padB t).data.toList).isLt
  rw [big_numB _ 4 (Nat.lt_of_lt_of_le hc (by decide))] at e3
  rw [big_numB _ 8 (Nat.lt_of_le_of_lt (show n.toNat ≤ 4611686018427387904 by omega) (by decide))] at e4
  have e5 : (bytesV t n).extract 0 116 = padB t := list_string e2
  refine ⟨?_, e5, e4, e3⟩
  unfold parseE
  rw [if_neg (by omega), e4, e3, e5, if_neg (by omega)]
theorem parseR_bytes {t : ByteArray} {n : Int} (h : bytesE t n = 0) : ParseR (bytesV t n) = .tuple #[.string (padB t), .int .i64 n, .int .i64 0] := by
  obtain ⟨h1, h2, h3⟩ := bytesE_ok h
  obtain ⟨e1, e2, e3, e4⟩ := parse_bytes h
  unfold ParseR parseD parseN
  rw [e1, if_pos rfl, if_pos rfl, e2, e3, show ((n.toNat : Nat) : Int) = n by omega]
theorem bs_set (f : Nat → UInt8) (m : Nat) (x : UInt8) (o n : Nat) (hm : o ≤ m) (hn : m < o + n) : (bs (upd f m x) o n).data.toList = (bs f o n).data.toList.set (m - o) x := by
  refine List.ext_getElem? fun j => ?_
  have hb : ∀ (g : Nat → UInt8), (bs g o n).data.toList = (List.range n).map fun i => g (o + i) := fun g => rfl
  rw [hb, hb, List.getElem?_set, List.length_map, List.length_range]
  by_cases hj : j < n
  · rw [List.getElem?_map, List.getElem?_range hj, List.getElem?_map, List.getElem?_range hj]
    by_cases e : m - o = j
    · rw [if_pos e, if_pos (by omega)]
      show some (upd f m x (o + j)) = some x
      rw [show o + j = m by omega, upd_same]
    · rw [if_neg e]
      show some (upd f m x (o + j)) = some (f (o + j))
      rw [upd_ne (by omega)]
  · rw [List.getElem?_eq_none (by simp; omega), List.getElem?_eq_none (by simp; omega)]
    split
    · rename_i e
      rw [if_neg (by omega)]
    · rfl
theorem set_split {L : List UInt8} {m : Nat} {x : UInt8} (h : m < 116) (hl : L.length = 116) : L.set m x = L.take m ++ x :: L.drop (m + 1) := by
  rw [List.set_eq_take_append_cons_drop, if_pos (by omega)]
/-- One turned bit of data or sum is told. -/
theorem turned_told {s : ByteArray} (hs : s.size = 128) (he : parseE s = 0) (m : Nat) (hm : m < 120) (d : UInt8) (hd : d ≠ 0) : parseE (bs (upd (at8 s) m (at8 s m ^^^ d)) 0 128) = 153 := by
  have hsum : sumOf s = (crc (s.extract 0 116).data.toList).toNat := by
    unfold parseE at he
    rw [if_neg (by omega)] at he
    split at he
    · cases he
    · rename_i h
      exact Classical.byContradiction fun h2 => h (.inr h2)
  have hsb : s = bs (at8 s) 0 128 := (bs_all' hs).symm
  obtain ⟨f, hf⟩ : ∃ f, at8 s = f := ⟨_, rfl⟩
  rw [hf] at hsb ⊢
  obtain ⟨x, hx⟩ : ∃ x, f m ^^^ d = x := ⟨_, rfl⟩
  have eD : ∀ g : Nat → UInt8, (bs g 0 128).extract 0 116 = bs g 0 116 := fun g => by rw [bs_extract _ _ _ _ _ (by omega) (by omega)]
  have eS : ∀ g : Nat → UInt8, (bs g 0 128).extract 116 120 = bs g 116 4 := fun g => by rw [bs_extract _ _ _ _ _ (by omega) (by omega)]
  have hsum2 : big (bs f 116 4).data.toList = (crc (bs f 0 116).data.toList).toNat := by
    have : sumOf s = big (s.extract 116 120).data.toList := rfl
    rw [this, hsb, eS, eD] at hsum
    exact hsum
  unfold parseE
  rw [if_neg (by rw [bs_size]; omega)]
  refine if_pos (.inr ?_)
  show big ((bs _ 0 128).extract 116 120).data.toList ≠ _
  rw [eS, eD, hx]
  by_cases h : m < 116
  · have e1 : bs (upd f m x) 116 4 = bs f 116 4 := bs_congr fun i hi => by rw [upd_ne (by omega)]
    rw [e1, hsum2, bs_set f m x 0 116 (by omega) (by omega), Nat.sub_zero]
    have hl : (bs f 0 116).data.toList.length = 116 := by show ((List.range 116).map _).length = 116; simp
    have hg : (bs f 0 116).data.toList[m]? = some (f m) := by
      have := bs_get f 0 116 m h
      rw [Nat.zero_add] at this
      simpa using this
    generalize (bs f 0 116).data.toList = L at *
    have e2 : L = L.take m ++ f m :: L.drop (m + 1) := by
      rw [← set_split h hl]
      exact (List.ext_getElem? fun j => by
        rw [List.getElem?_set]
        split
        · rename_i e
          subst e
          rw [if_pos (by omega), hg]
        · rfl)
    have e3 : L.set m x = L.take m ++ x :: L.drop (m + 1) := set_split h hl
    intro e
    have e4 := BitVec.eq_of_toNat_eq e
    rw [e3] at e4
    have := crc_turned (L.take m) (L.drop (m + 1)) (f m) d hd
    rw [hx, ← e2] at this
    exact this e4.symm
  · have e1 : bs (upd f m x) 0 116 = bs f 0 116 := bs_congr fun i hi => by rw [upd_ne (by omega)]
    rw [e1, ← hsum2]
    intro e
    have hlen : ∀ g : Nat → UInt8, (bs g 116 4).data.toList.length = 4 := fun g => by show ((List.range 4).map _).length = 4; simp
    have e5 := big_inj 4 _ _ (hlen _) (hlen _) e
    have e6 : bs (upd f m x) 116 4 = bs f 116 4 := list_string e5
    have e7 := bs_inj e6 (m - 116) (by omega)
    rw [show 116 + (m - 116) = m by omega, upd_same] at e7
    rw [← hx] at e7
    have e8 : d = 0 := by
      have : f m ^^^ (f m ^^^ d) = f m ^^^ f m := by rw [e7]
      simpa [← UInt8.xor_assoc] using this
    exact hd e8
end Go.Proofs.Ythmnloapjdalpaa
