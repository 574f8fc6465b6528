/- Numerals, plain: strconv's as one reads them back; the document's. No program in sight. Lines of a program's text, plain: instructions, their fields, labels. No program in sight. -/
import Derived.Lib.ItoaNum
import Derived.Lib.AtoiAll
namespace Go.Proofs.YtbmaecdlkchkeaaGreatDoor
set_option linter.unusedVariables false
set_option linter.unusedSimpArgs false
/-- A digit. -/
def isDig (b : UInt8) : Prop := 48 ≤ b.toNat ∧ b.toNat ≤ 57
instance (b : UInt8) : Decidable (isDig b) := by unfold isDig; infer_instance
/-- The value of a row of digits behind acc. -/
def dval (acc : Nat) (l : List UInt8) : Nat := l.foldl (fun n b => 10 * n + (b.toNat - 48)) acc
theorem dval_snoc (acc : Nat) (l : List UInt8) (b : UInt8) : dval acc (l ++ [b]) = 10 * dval acc l + (b.toNat - 48) := by
  unfold dval
  rw [List.foldl_append]
  rfl
theorem dig_of {d : Nat} (h : d < 10) : (UInt8.ofNat (48 + d)).toNat = 48 + d := by
  rw [UInt8.toNat_ofNat']
  omega
theorem decDigits_small {u : Nat} (h : u < 10) : Lib.decDigits u = [UInt8.ofNat (48 + u)] := Lib.decDigits_one h
theorem decDigits_big {u : Nat} (h : ¬ u < 10) : Lib.decDigits u = Lib.decDigits (u / 10) ++ [UInt8.ofNat (48 + u % 10)] := by rw [Lib.decDigits, dif_neg h]
theorem decDigits_dig (u : Nat) : ∀ b ∈ Lib.decDigits u, isDig b := by
  induction u using Nat.strongRecOn with
  | _ u ih =>
    intro b hb
    by_cases h : u < 10
    · rw [decDigits_small h, List.mem_singleton] at hb
      subst hb
      unfold isDig
      rw [dig_of h]
      omega
    · rw [decDigits_big h, List.mem_append, List.mem_singleton] at hb
      rcases hb with hb | rfl
      · exact ih (u / 10) (by omega) b hb
      · unfold isDig
        rw [dig_of (by omega)]
        omega
theorem decDigits_val (u : Nat) : dval 0 (Lib.decDigits u) = u := by
  induction u using Nat.strongRecOn with
  | _ u ih =>
    by_cases h : u < 10
    · rw [decDigits_small h]
      show 10 * 0 + ((UInt8.ofNat (48 + u)).toNat - 48) = u
      rw [dig_of h]
      omega
    · rw [decDigits_big h, dval_snoc, ih (u / 10) (by omega), dig_of (by omega)]
      omega
theorem decDigits_ne (u : Nat) : Lib.decDigits u ≠ [] := by
  by_cases h : u < 10
  · rw [decDigits_small h]; simp
  · rw [decDigits_big h]; simp
/-- No nought ahead, but in "0". -/
theorem decDigits_head (u : Nat) : ∀ b r, Lib.decDigits u = b :: r → r ≠ [] → b.toNat ≠ 48 := by
  induction u using Nat.strongRecOn with
  | _ u ih =>
    intro b r he hr
    by_cases h : u < 10
    · rw [decDigits_small h] at he
      injection he with _ he
      exact absurd he.symm hr
    · rw [decDigits_big h] at he
      cases hd : Lib.decDigits (u / 10) with
      | nil => exact absurd hd (decDigits_ne _)
      | cons c q =>
        rw [hd, List.cons_append] at he
        injection he with h1 h2
        subst h1
        by_cases hq : q = []
        · subst hq
          by_cases h2 : u / 10 < 10
          · rw [decDigits_small h2] at hd
            injection hd with hd _
            rw [← hd, dig_of h2]
            omega
          · rw [decDigits_big h2] at hd
            have h3 := decDigits_ne (u / 10 / 10)
            have h5 := congrArg List.length hd
            rw [List.length_append, List.length_singleton, List.length_singleton] at h5
            exact absurd (List.length_eq_zero_iff.1 (by omega)) h3
        · exact ih (u / 10) (by omega) c q hd hq
/-- Digits with no nought ahead are the numeral of their value. -/
theorem decDigits_of : ∀ (n : Nat) (l : List UInt8), l.length = n → l ≠ [] → (∀ b ∈ l, isDig b) → (∀ b r, l = b :: r → r ≠ [] → b.toNat ≠ 48) → Lib.decDigits (dval 0 l) = l := by
  intro n
  induction n with
  | zero => intro l hl hne; exact absurd (List.length_eq_zero_iff.1 hl) hne
  | succ n ih =>
    intro l hl hne hd hz
    obtain ⟨q, b, rfl⟩ : ∃ q b, l = q ++ [b] := ⟨l.dropLast, l.getLast hne, (List.dropLast_concat_getLast hne).symm⟩
    have hb := hd b (by simp)
    have hbv : UInt8.ofNat (48 + (b.toNat - 48)) = b := by
      apply UInt8.toNat_inj.1
      rw [dig_of (by have := hb.2; omega)]
      have := hb.1
      omega
    by_cases hq : q = []
    · subst hq
      show Lib.decDigits (10 * 0 + (b.toNat - 48)) = [b]
      rw [Nat.mul_zero, Nat.zero_add, decDigits_small (by have := hb.2; omega), hbv]
    · have hql : q.length = n := by simp at hl; exact hl
      have hqd := ih q hql hq (fun c hc => hd c (by simp [hc])) (fun c r he hr => hz c (r ++ [b]) (by rw [he]; rfl) (by simp))
      rw [dval_snoc]
      have hpos : 1 ≤ dval 0 q := by
        cases hv : dval 0 q with
        | succ k => omega
        | zero =>
          exfalso
          rw [hv] at hqd
          rw [decDigits_small (by omega)] at hqd
          cases q with
          | nil => exact hq rfl
          | cons c r =>
            injection hqd with h1 h2
            exact hz c (r ++ [b]) rfl (by simp) (by rw [← h1]; rfl)
      have hm : (10 * dval 0 q + (b.toNat - 48)) / 10 = dval 0 q := by have := hb.2; omega
      have hr : (10 * dval 0 q + (b.toNat - 48)) % 10 = b.toNat - 48 := by have := hb.2; omega
      rw [decDigits_big (by omega), hm, hr, hqd, hbv]
theorem dval_lt : ∀ (l : List UInt8) (acc : Nat), (∀ b ∈ l, isDig b) → dval acc l < (acc + 1) * 10 ^ l.length
  | [], acc, _ => by simp [dval]
  | b :: l, acc, h => by
    have hb := h b (by simp)
    have h1 := dval_lt l (10 * acc + (b.toNat - 48)) (fun c hc => h c (by simp [hc]))
    show dval (10 * acc + (b.toNat - 48)) l < _
    rw [List.length_cons, Nat.pow_succ]
    refine Nat.lt_of_lt_of_le h1 ?_
    have : 10 * acc + (b.toNat - 48) + 1 ≤ (acc + 1) * 10 := by have := hb.2; omega
    calc (10 * acc + (b.toNat - 48) + 1) * 10 ^ l.length ≤ ((acc + 1) * 10) * 10 ^ l.length := Nat.mul_le_mul_right _ this
      _ = (acc + 1) * (10 ^ l.length * 10) := by rw [Nat.mul_assoc, Nat.mul_comm 10]
theorem dval_ge : ∀ (l : List UInt8) (acc : Nat), acc * 10 ^ l.length ≤ dval acc l
  | [], acc => by simp [dval]
  | b :: l, acc => by
    have h1 := dval_ge l (10 * acc + (b.toNat - 48))
    show _ ≤ dval (10 * acc + (b.toNat - 48)) l
    rw [List.length_cons, Nat.pow_succ]
    refine Nat.le_trans ?_ h1
    calc acc * (10 ^ l.length * 10) = (10 * acc) * 10 ^ l.length := by rw [Nat.mul_comm (10 ^ l.length), ← Nat.mul_assoc, Nat.mul_comm acc]
      _ ≤ _ := Nat.mul_le_mul_right _ (by omega)
/-- A numeral of at most so many digits. -/
theorem decDigits_len {u k : Nat} (hk : 1 ≤ k) : (Lib.decDigits u).length ≤ k ↔ u < 10 ^ k := by
  constructor
  · intro h
    have h1 := dval_lt (Lib.decDigits u) 0 (decDigits_dig u)
    rw [decDigits_val] at h1
    have : 10 ^ (Lib.decDigits u).length ≤ 10 ^ k := Nat.pow_le_pow_right (by omega) h
    omega
  · intro h
    by_cases hl : (Lib.decDigits u).length ≤ k
    · exact hl
    · exfalso
      cases hd : Lib.decDigits u with
      | nil => exact absurd hd (decDigits_ne u)
      | cons b r =>
        have hr : r ≠ [] := by
          rintro rfl
          rw [hd] at hl
          simp at hl
          omega
        have hz := decDigits_head u b r hd hr
        have hb := decDigits_dig u b (by rw [hd]; simp)
        have hv := decDigits_val u
        rw [hd] at hv hl
        have h2 := dval_ge r (10 * 0 + (b.toNat - 48))
        have h3 : dval (10 * 0 + (b.toNat - 48)) r = u := hv
        rw [h3] at h2
        have h4 : 10 ^ k ≤ 10 ^ r.length := Nat.pow_le_pow_right (by omega) (by simp at hl; omega)
        have h5 : 1 * 10 ^ r.length ≤ (10 * 0 + (b.toNat - 48)) * 10 ^ r.length := Nat.mul_le_mul_right _ (by have := hb.1; omega)
        omega
/-! strconv's: what is told again as it was. -/
theorem parseUint10_dec : ∀ (l : List UInt8) (acc : Nat), (∀ b ∈ l, isDig b) → dval acc l < 18446744073709551616 → Lib.parseUint10 acc l = .ok (dval acc l)
  | [], acc, _, _ => rfl
  | b :: l, acc, h, hv => by
    have hb := h b (by simp)
    have hv' : dval (10 * acc + (b.toNat - 48)) l < 18446744073709551616 := hv
    have h1 := dval_ge l (10 * acc + (b.toNat - 48))
    have h2 : 1 ≤ 10 ^ l.length := Nat.one_le_pow _ _ (by omega)
    have h3 : (10 * acc + (b.toNat - 48)) * 1 ≤ (10 * acc + (b.toNat - 48)) * 10 ^ l.length := Nat.mul_le_mul_left _ h2
    unfold Lib.parseUint10
    rw [if_pos (show 48 ≤ b.toNat ∧ b.toNat ≤ 57 from hb), if_neg (by omega), if_neg (by omega), Nat.mul_comm acc 10]
    exact parseUint10_dec l _ (fun c hc => h c (by simp [hc])) hv'
theorem atoi_itoa {n : Int} (h0 : -9223372036854775808 ≤ n) (h1 : n ≤ 9223372036854775807) : Lib.atoiAll (Lib.itoa n) = .ok n := by
  unfold Lib.itoa
  by_cases hn : n < 0
  · rw [if_pos hn]
    unfold Lib.atoiAll
    have hp : Lib.parseMag (Lib.decDigits n.natAbs) = .ok n.natAbs := by
      unfold Lib.parseMag
      rw [if_neg (decDigits_ne _), parseUint10_dec _ _ (decDigits_dig _) (by rw [decDigits_val]; omega), decDigits_val]
    simp only [show (45 : UInt8).toNat = 45 from rfl, show ¬ (45 : Nat) = 43 by decide, or_true, if_true, hp]
    rw [if_neg (by simp), if_neg (by omega)]
    congr 1
    omega
  · rw [if_neg hn]
    cases hd : Lib.decDigits n.toNat with
    | nil => exact absurd hd (decDigits_ne _)
    | cons b r =>
      have hb := decDigits_dig n.toNat b (by rw [hd]; simp)
      have hp : Lib.parseMag (b :: r) = .ok n.toNat := by
        rw [← hd]
        unfold Lib.parseMag
        rw [if_neg (decDigits_ne _), parseUint10_dec _ _ (decDigits_dig _) (by rw [decDigits_val]; omega), decDigits_val]
      have e1 : ¬ b.toNat = 43 := by have := hb.1; omega
      have e2 : ¬ b.toNat = 45 := by have := hb.1; omega
      unfold Lib.atoiAll
      simp only [e1, e2, or_self, if_false, hp]
      rw [if_neg (by omega), if_neg (by simp)]
      congr 1
      omega
/-- The program's number: digits, as they are told. -/
def numP (l : List UInt8) : Option Int := match Lib.atoiAll l with | .ok n => if Lib.itoa n = l then some n else none | _ => none
theorem numP_iff {l : List UInt8} {n : Int} (h0 : -9223372036854775808 ≤ n) (h1 : n ≤ 9223372036854775807) : numP l = some n ↔ l = Lib.itoa n := by
  constructor
  · intro h
    unfold numP at h
    split at h
    · split at h
      · next hi => injection h with h; rw [← h, hi]
      · cases h
    · cases h
  · rintro rfl
    unfold numP
    rw [atoi_itoa h0 h1]
    simp
/-- The document's number: digits, at most ten, no nought ahead. -/
def numR (l : List UInt8) : Option Nat := if l ≠ [] ∧ l.length ≤ 10 ∧ (l.all fun b => decide (isDig b)) = true ∧ (2 ≤ l.length → l.head?.map (·.toNat) ≠ some 48) then some (dval 0 l) else none
theorem numR_iff {l : List UInt8} {u : Nat} : numR l = some u ↔ l = Lib.decDigits u ∧ u < 10 ^ 10 := by
  unfold numR
  constructor
  · intro h
    split at h
    · next hc =>
      obtain ⟨c1, c2, c3, c4⟩ := hc
      injection h with h
      have hd : ∀ b ∈ l, isDig b := fun b hb => by simpa using List.all_eq_true.1 c3 b hb
      have he := decDigits_of l.length l rfl c1 hd (fun b r he hr hz => by
        subst he
        have : 2 ≤ (b :: r).length := by
          cases r with
          | nil => exact absurd rfl hr
          | cons x y => simp
        exact c4 this (by simp [hz]))
      rw [h] at he
      exact ⟨he.symm, (decDigits_len (by omega)).1 (by rw [he]; exact c2)⟩
    · cases h
  · rintro ⟨rfl, hu⟩
    rw [if_pos, decDigits_val]
    refine ⟨decDigits_ne u, (decDigits_len (by omega)).2 hu, ?_, ?_⟩
    · rw [List.all_eq_true]
      intro b hb
      simpa using decDigits_dig u b hb
    · intro h2
      cases hd : Lib.decDigits u with
      | nil => simp
      | cons b r =>
        have hr : r ≠ [] := by
          rintro rfl
          rw [hd] at h2
          simp at h2
        have := decDigits_head u b r hd hr
        simpa using this
/-- Both read alike what is no more than ten digits long. -/
theorem numP_numR {l : List UInt8} {u : Nat} (hu : u < 10 ^ 10) : numP l = some (u : Int) ↔ numR l = some u := by
  have h10 : (10 : Nat) ^ 10 = 10000000000 := by decide
  rw [numP_iff (by omega) (by omega), numR_iff]
  have e : Lib.itoa (u : Int) = Lib.decDigits u := by
    unfold Lib.itoa
    rw [if_neg (by omega)]
    rfl
  rw [e]
  exact ⟨fun h => ⟨h, hu⟩, fun h => h.1⟩
theorem itoa_nat (u : Nat) : Lib.itoa (u : Int) = Lib.decDigits u := by
  unfold Lib.itoa
  rw [if_neg (by omega)]
  rfl
theorem itoa_neg {u : Nat} (h : 0 < u) : Lib.itoa (-(u : Int)) = 45 :: Lib.decDigits u := by
  unfold Lib.itoa
  rw [if_pos (by omega)]
  congr 2
  omega
theorem itoa_inj {a b : Int} (h : Lib.itoa a = Lib.itoa b) : a = b := by
  have key : ∀ u v : Nat, Lib.decDigits u = Lib.decDigits v → u = v := fun u v he => by rw [← decDigits_val u, ← decDigits_val v, he]
  have nd : ∀ u v : Nat, 45 :: Lib.decDigits u ≠ Lib.decDigits v := fun u v he => by
    have := decDigits_dig v 45 (by rw [← he]; simp)
    exact absurd this.1 (by decide)
  unfold Lib.itoa at h
  by_cases ha : a < 0
  · by_cases hb : b < 0
    · rw [if_pos ha, if_pos hb] at h
      injection h with _ h
      have := key _ _ h
      omega
    · rw [if_pos ha, if_neg hb] at h
      exact absurd h (nd _ _)
  · by_cases hb : b < 0
    · rw [if_neg ha, if_pos hb] at h
      exact absurd h.symm (nd _ _)
    · rw [if_neg ha, if_neg hb] at h
      have := key _ _ h
      omega
end Go.Proofs.YtbmaecdlkchkeaaGreatDoor
namespace Go.Proofs.YtbmaecdlkchkeaaGreatDoor
set_option linter.unusedVariables false
set_option linter.unusedSimpArgs false
/-- An instruction. -/
structure In where
  op : Int
  a : Int
  b : Int
  m : Int
  deriving DecidableEq
def nameL : List (List UInt8) := [[110, 111, 112], [115, 116, 111, 112], [115, 101, 116], [104, 105, 103, 104], [109, 111, 118, 101], [97, 100, 100], [115, 117, 98], [109, 117, 108], [100, 105, 118], [114, 101, 109], [97, 110, 100], [111, 114], [120, 111, 114], [110, 111, 116], [115, 104, 108], [115, 104, 114], [108, 101, 115, 115], [98, 101, 108, 111, 119], [115, 97, 109, 101], [112, 108, 117, 115], [103, 101, 116, 49], [103, 101, 116, 52], [112, 117, 116, 49], [112, 117, 116, 52], [106, 117, 109, 112], [122, 101, 114, 111], [115, 111, 109, 101], [116, 111], [99, 97, 108, 108], [97, 115, 107]]
def formL : List (List UInt8) := [[], [], [97, 117], [97, 117], [97, 98], [97, 98], [97, 98], [97, 98], [97, 98], [97, 98], [97, 98], [97, 98], [97, 98], [97], [97, 98], [97, 98], [97, 98], [97, 98], [97, 98], [97, 115], [97, 98, 117], [97, 98, 117], [97, 98, 117], [97, 98, 117], [115], [97, 115], [97, 115], [97], [97, 115], [117]]
def nmL (k : Nat) : List UInt8 := nameL.getD k []
def fmL (k : Nat) : List UInt8 := formL.getD k []
def fitsL (is : Bool) (n lo hi : Int) : Bool := if is then decide (lo ≤ n) && decide (n ≤ hi) else decide (n = 0)
/-- May the rest of it be, of operation k? -/
def okL (i : In) (k : Nat) : Bool := fitsL ((fmL k).contains 97) i.a 0 15 && fitsL ((fmL k).contains 98) i.b 0 15 && fitsL ((fmL k).contains 117 || (fmL k).contains 115) i.m (if (fmL k).contains 115 then -32768 else 0) (if (fmL k).contains 115 then 32767 else 65535)
/-- A row cut at each c. -/
def splitC (c : UInt8) : List UInt8 → List (List UInt8)
  | [] => [[]]
  | b :: r => if b = c then [] :: splitC c r else match splitC c r with | [] => [[b]] | h :: t => (b :: h) :: t
theorem splitC_ne (c : UInt8) : ∀ l, splitC c l ≠ []
  | [] => by simp [splitC]
  | b :: r => by
    unfold splitC
    split
    · simp
    · split <;> simp
theorem splitC_join (c : UInt8) : ∀ l, ∃ h t, splitC c l = h :: t ∧ l = h ++ t.flatMap (c :: ·) ∧ c ∉ h ∧ ∀ x ∈ t, c ∉ x
  | [] => ⟨[], [], rfl, rfl, by simp, by simp⟩
  | b :: r => by
    obtain ⟨h, t, e, hj, hh, ht⟩ := splitC_join c r
    unfold splitC
    by_cases hb : b = c
    · rw [if_pos hb]
      refine ⟨[], splitC c r, rfl, ?_, by simp, ?_⟩
      · rw [e, hb, List.flatMap_cons, hj]
        rfl
      · rw [e]
        intro x hx
        rcases List.mem_cons.1 hx with rfl | hx
        · exact hh
        · exact ht x hx
    · rw [if_neg hb, e]
      exact ⟨b :: h, t, rfl, by rw [hj]; rfl, by simp [hh, Ne.symm hb], ht⟩
theorem splitC_none {c : UInt8} {l : List UInt8} (h : c ∉ l) : splitC c l = [l] := by
  induction l with
  | nil => rfl
  | cons b r ih =>
    have hb : b ≠ c := fun he => h (by rw [he]; simp)
    unfold splitC
    rw [if_neg hb, ih (fun hm => h (by simp [hm]))]
theorem splitC_app {c : UInt8} {h r : List UInt8} (hh : c ∉ h) : splitC c (h ++ c :: r) = h :: splitC c r := by
  induction h with
  | nil =>
    show splitC c (c :: r) = _
    rw [splitC, if_pos rfl]
  | cons b h ih =>
    have hb : b ≠ c := fun he => hh (by rw [he]; simp)
    show splitC c (b :: (h ++ c :: r)) = _
    rw [splitC, if_neg hb, ih (fun hm => hh (by simp [hm]))]
theorem splitC_of {c : UInt8} : ∀ (t : List (List UInt8)) (h : List UInt8), c ∉ h → (∀ x ∈ t, c ∉ x) → splitC c (h ++ t.flatMap (c :: ·)) = h :: t
  | [], h, hh, _ => by simpa using splitC_none hh
  | x :: t, h, hh, ht => by
    rw [List.flatMap_cons]
    show splitC c (h ++ c :: (x ++ t.flatMap (c :: ·))) = _
    rw [splitC_app hh, splitC_of t x (ht x (by simp)) (fun z hz => ht z (by simp [hz]))]
/-- A label. -/
def isLc (b : UInt8) : Bool := decide (97 ≤ b.toNat) && decide (b.toNat ≤ 122)
def isLd (b : UInt8) : Bool := isLc b || (decide (48 ≤ b.toNat) && decide (b.toNat ≤ 57))
def isLab : List UInt8 → Bool
  | [] => false
  | b :: r => isLc b && r.all isLd && decide (r.length ≤ 11)
/-- The operation of a name. -/
def opOf (w : List UInt8) : Option Nat := (List.range 30).find? fun k => nmL k == w
theorem opOf_some {w : List UInt8} {k : Nat} (h : opOf w = some k) : k < 30 ∧ nmL k = w := by
  unfold opOf at h
  refine ⟨?_, ?_⟩
  · have := List.mem_of_find?_eq_some h
    exact List.mem_range.1 this
  · have := List.find?_some h
    simpa using this
theorem opOf_nm {k : Nat} (hk : k < 30) : opOf (nmL k) = some k := by
  have h : ∀ k : Fin 30, opOf (nmL k.val) = some k.val := by decide +kernel
  exact h ⟨k, hk⟩
theorem nm_no32 {k : Nat} (hk : k < 30) : (32 : UInt8) ∉ nmL k := by
  have h : ∀ k : Fin 30, (32 : UInt8) ∉ nmL k.val := by decide +kernel
  exact h ⟨k, hk⟩
/-- The fields, read by a reader of registers and one of numbers. -/
def fieldsG (rd : List UInt8 → Option Int) (rm : UInt8 → List UInt8 → Option Int) (lab : Bool) (k : Nat) : List UInt8 → List (List UInt8) → In → List UInt8 → Option (In × List UInt8)
  | [], _, i, to => some (i, to)
  | _ :: _, [], _, _ => none
  | c :: f, v :: vs, i, to =>
    if c = 97 ∨ c = 98 then
      match v with
      | 114 :: r => match rd r with
        | some n => fieldsG rd rm lab k f vs (if c = 97 then { i with a := n } else { i with b := n }) to
        | none => none
      | _ => none
    else if lab = true ∧ c = 115 ∧ k ≠ 19 ∧ v.head? = some 64 ∧ isLab v.tail = true then fieldsG rd rm lab k f vs i v.tail
    else match rm c v with
      | some n => fieldsG rd rm lab k f vs { i with m := n } to
      | none => none
/-- A line read. -/
def readG (rd : List UInt8 → Option Int) (rm : UInt8 → List UInt8 → Option Int) (lab : Bool) (s : List UInt8) : Option (In × List UInt8) :=
  match splitC 32 s with
  | [] => none
  | w :: vs => match opOf w with
    | none => none
    | some k => if vs.length = (fmL k).length then
        match fieldsG rd rm lab k (fmL k) vs ⟨k, 0, 0, 0⟩ [] with
        | none => none
        | some (i, to) => if okL i k then some (i, to) else none
      else none
/-- A field told. -/
def fieldT (i : In) (to : List UInt8) (c : UInt8) : List UInt8 := if c = 97 then 114 :: Lib.itoa i.a else if c = 98 then 114 :: Lib.itoa i.b else if to ≠ [] then 64 :: to else Lib.itoa i.m
/-- An instruction's text. -/
def textL (i : In) (to : List UInt8) (k : Nat) : List UInt8 := nmL k ++ ((fmL k).map (fieldT i to)).flatMap (32 :: ·)
def Reads (s : List UInt8) (lab : Bool) (i : In) (to : List UInt8) : Prop :=
  ∃ k : Nat, k < 30 ∧ i.op = (k : Int) ∧ okL i k = true ∧ s = textL i to k ∧ (to = [] ∨ (lab = true ∧ isLab to = true ∧ i.m = 0 ∧ (fmL k).contains 115 = true ∧ k ≠ 19))
theorem itoa_byte {n : Int} : ∀ b ∈ Lib.itoa n, b.toNat = 45 ∨ isDig b := by
  intro b hb
  unfold Lib.itoa at hb
  split at hb
  · rcases List.mem_cons.1 hb with rfl | hb
    · exact .inl rfl
    · exact .inr (decDigits_dig _ b hb)
  · exact .inr (decDigits_dig _ b hb)
theorem itoa_no {n : Int} {c : UInt8} (h : c.toNat ≠ 45) (h2 : ¬ isDig c) : c ∉ Lib.itoa n := fun hm => (itoa_byte c hm).elim h h2
theorem lab_byte {l : List UInt8} (h : isLab l = true) : ∀ b ∈ l, isLd b = true := by
  cases l with
  | nil => cases h
  | cons b r =>
    simp only [isLab, Bool.and_eq_true, List.all_eq_true] at h
    intro c hc
    rcases List.mem_cons.1 hc with rfl | hc
    · unfold isLd; rw [h.1.1]; rfl
    · exact h.1.2 c hc
theorem lab_no {l : List UInt8} {c : UInt8} (h : isLab l = true) (hc : isLd c = false) : c ∉ l := fun hm => by
  have := lab_byte h c hm
  rw [hc] at this
  cases this
theorem fieldT_no32 (i : In) {to : List UInt8} (ht : to = [] ∨ isLab to = true) (c : UInt8) : (32 : UInt8) ∉ fieldT i to c := by
  have h0 : ∀ n, (32 : UInt8) ∉ Lib.itoa n := fun n => itoa_no (by decide) (by decide)
  unfold fieldT
  split
  · simp [h0]
  · split
    · simp [h0]
    · split
      · next hne =>
        rcases ht with rfl | ht
        · exact absurd rfl hne
        · simp [lab_no ht (show isLd 32 = false by decide)]
      · exact h0 _
theorem splitC_text {i : In} {to : List UInt8} {k : Nat} (hk : k < 30) (ht : to = [] ∨ isLab to = true) : splitC 32 (textL i to k) = nmL k :: (fmL k).map (fieldT i to) := by
  unfold textL
  refine splitC_of _ _ (nm_no32 hk) fun x hx => ?_
  obtain ⟨c, -, rfl⟩ := List.mem_map.1 hx
  exact fieldT_no32 i ht c
/-- The forms. -/
theorem fm_cases {k : Nat} (hk : k < 30) : fmL k = [] ∨ fmL k = [97] ∨ fmL k = [97, 98] ∨ fmL k = [97, 98, 117] ∨ fmL k = [97, 117] ∨ fmL k = [97, 115] ∨ fmL k = [115] ∨ fmL k = [117] := by
  have h : ∀ k : Fin 30, fmL k.val = [] ∨ fmL k.val = [97] ∨ fmL k.val = [97, 98] ∨ fmL k.val = [97, 98, 117] ∨ fmL k.val = [97, 117] ∨ fmL k.val = [97, 115] ∨ fmL k.val = [115] ∨ fmL k.val = [117] := by decide +kernel
  exact h ⟨k, hk⟩
/-- What a reader of registers, of numbers must know. -/
structure RdOk (rd : List UInt8 → Option Int) (rm : UInt8 → List UInt8 → Option Int) : Prop where
  r : ∀ (v : List UInt8) (n : Int), 0 ≤ n → n ≤ 15 → (rd v = some n ↔ v = Lib.itoa n)
  u : ∀ (v : List UInt8) (n : Int), 0 ≤ n → n ≤ 65535 → (rm 117 v = some n ↔ v = Lib.itoa n)
  s : ∀ (v : List UInt8) (n : Int), -32768 ≤ n → n ≤ 32767 → (rm 115 v = some n ↔ v = Lib.itoa n)
theorem numP_ok : RdOk numP (fun _ => numP) :=
  ⟨fun v n h0 h1 => numP_iff (by omega) (by omega), fun v n h0 h1 => numP_iff (by omega) (by omega), fun v n h0 h1 => numP_iff (by omega) (by omega)⟩
def rdR (v : List UInt8) : Option Int := (numR v).map fun (u : Nat) => (u : Int)
def rmR (c : UInt8) (v : List UInt8) : Option Int := if c = 115 ∧ v.head? = some 45 ∧ v ≠ [45, 48] then (numR v.tail).map fun (u : Nat) => -(u : Int) else rdR v
theorem rdR_iff {v : List UInt8} {n : Int} (h0 : 0 ≤ n) (h1 : n < 10000000000) : rdR v = some n ↔ v = Lib.itoa n := by
  obtain ⟨u, rfl⟩ := Int.eq_ofNat_of_zero_le h0
  have hu : u < 10 ^ 10 := by have : (10 : Nat) ^ 10 = 10000000000 := by decide
                              omega
  unfold rdR
  rw [Option.map_eq_some_iff]
  constructor
  · rintro ⟨x, hx, he⟩
    obtain rfl : x = u := by omega
    exact (numP_iff (by omega) (by omega)).1 ((numP_numR hu).2 hx)
  · intro h
    exact ⟨u, (numP_numR hu).1 ((numP_iff (by omega) (by omega)).2 h), rfl⟩
theorem itoa_nonneg_head {n : Int} (h : 0 ≤ n) : (Lib.itoa n).head? ≠ some 45 := by
  intro hh
  have hm : (45 : UInt8) ∈ Lib.itoa n := List.mem_of_head? hh
  unfold Lib.itoa at hm
  rw [if_neg (by omega)] at hm
  exact absurd (decDigits_dig _ _ hm).1 (by decide)
theorem numR_ok : RdOk rdR rmR := by
  refine ⟨fun v n h0 h1 => rdR_iff h0 (by omega), fun v n h0 h1 => ?_, fun v n h0 h1 => ?_⟩
  · unfold rmR
    rw [if_neg (by simp)]
    exact rdR_iff h0 (by omega)
  · unfold rmR
    by_cases hc : v.head? = some 45 ∧ v ≠ [45, 48]
    · rw [if_pos ⟨rfl, hc⟩]
      obtain ⟨r, rfl⟩ : ∃ r, v = 45 :: r := by
        cases v with
        | nil => simp at hc
        | cons b r => simp at hc; exact ⟨r, by rw [hc.1]⟩
      rw [Option.map_eq_some_iff]
      show (∃ a, numR r = some a ∧ _) ↔ _
      constructor
      · rintro ⟨u, hu, rfl⟩
        obtain ⟨he, -⟩ := numR_iff.1 hu
        have hpos : 0 < u := by
          cases u with
          | succ u => omega
          | zero =>
            exfalso
            apply hc.2
            rw [he, decDigits_small (by omega)]
            rfl
        rw [itoa_neg hpos, he]
      · intro h
        have hn : n < 0 := by
          by_cases hn : n < 0
          · exact hn
          · exfalso
            exact itoa_nonneg_head (show 0 ≤ n by omega) (by rw [← h]; rfl)
        obtain ⟨u, hu⟩ := Int.eq_ofNat_of_zero_le (show 0 ≤ -n by omega)
        obtain rfl : n = -(u : Int) := by omega
        rw [itoa_neg (by omega)] at h
        injection h with _ h
        exact ⟨u, numR_iff.2 ⟨h, by have : (10 : Nat) ^ 10 = 10000000000 := by decide
                                    omega⟩, rfl⟩
    · rw [if_neg (fun h => hc h.2)]
      by_cases hn : 0 ≤ n
      · exact rdR_iff hn (by omega)
      · constructor
        · intro h
          unfold rdR at h
          rw [Option.map_eq_some_iff] at h
          obtain ⟨u, -, he⟩ := h
          omega
        · intro h
          exfalso
          apply hc
          have hi : Lib.itoa n = 45 :: Lib.decDigits n.natAbs := by unfold Lib.itoa; rw [if_pos (by omega)]
          rw [h, hi]
          refine ⟨rfl, fun he => ?_⟩
          injection he with _ he
          have hv := decDigits_val n.natAbs
          rw [he] at hv
          have : dval 0 [48] = 0 := by decide
          omega
end Go.Proofs.YtbmaecdlkchkeaaGreatDoor
