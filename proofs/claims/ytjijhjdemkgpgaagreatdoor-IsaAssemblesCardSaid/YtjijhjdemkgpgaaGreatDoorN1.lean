/- Numerals, plain: strconv's as one reads them back; the document's. No program in sight. -/
import Derived.Lib.ItoaNum
import Derived.Lib.AtoiAll
namespace Go.Proofs.YtjijhjdemkgpgaaGreatDoor
set_option linter.unusedVariables false
set_option linter.unusedSimpArgs false
/-- A digit. -/
def isDig (b : UInt8) : Prop := 48 ≤ b.toNat ∧ b.toNat ≤ 57
instance (b : UInt8) : Decidable (isDig b) := by unfold isDig; infer_instance
/-- The value of a row of digits behind acc. -/
def dval (acc : Nat) (l : List UInt8) : Nat := l.foldl (fun n b => 10 * n + (b.toNat - 48)) acc
theorem dval_snoc (acc : Nat) (l : List UInt8) (b : UInt8) : dval acc (l ++ [b]) = 10 * dval acc l + (b.toNat - 48) := by
  unfold dval
  rw [List.foldl_append]
  rfl
theorem dig_of {d : Nat} (h : d < 10) : (UInt8.ofNat (48 + d)).toNat = 48 + d := by
  rw [UInt8.toNat_ofNat']
  omega
theorem decDigits_small {u : Nat} (h : u < 10) : Lib.decDigits u = [UInt8.ofNat (48 + u)] := Lib.decDigits_one h
theorem decDigits_big {u : Nat} (h : ¬ u < 10) : Lib.decDigits u = Lib.decDigits (u / 10) ++ [UInt8.ofNat (48 + u % 10)] := by rw [Lib.decDigits, dif_neg h]
theorem decDigits_dig (u : Nat) : ∀ b ∈ Lib.decDigits u, isDig b := by
  induction u using Nat.strongRecOn with
  | _ u ih =>
    intro b hb
    by_cases h : u < 10
    · rw [decDigits_small h, List.mem_singleton] at hb
      subst hb
      unfold isDig
      rw [dig_of h]
      omega
    · rw [decDigits_big h, List.mem_append, List.mem_singleton] at hb
      rcases hb with hb | rfl
      · exact ih (u / 10) (by omega) b hb
      · unfold isDig
        rw [dig_of (by omega)]
        omega
theorem decDigits_val (u : Nat) : dval 0 (Lib.decDigits u) = u := by
  induction u using Nat.strongRecOn with
  | _ u ih =>
    by_cases h : u < 10
    · rw [decDigits_small h]
      show 10 * 0 + ((UInt8.ofNat (48 + u)).toNat - 48) = u
      rw [dig_of h]
      omega
    · rw [decDigits_big h, dval_snoc, ih (u / 10) (by omega), dig_of (by omega)]
      omega
theorem decDigits_ne (u : Nat) : Lib.decDigits u ≠ [] := by
  by_cases h : u < 10
  · rw [decDigits_small h]; simp
  · rw [decDigits_big h]; simp
/-- No nought ahead, but in "0". -/
theorem decDigits_head (u : Nat) : ∀ b r, Lib.decDigits u = b :: r → r ≠ [] → b.toNat ≠ 48 := by
  induction u using Nat.strongRecOn with
  | _ u ih =>
    intro b r he hr
    by_cases h : u < 10
    · rw [decDigits_small h] at he
      injection he with _ he
      exact absurd he.symm hr
    · rw [decDigits_big h] at he
      cases hd : Lib.decDigits (u / 10) with
      | nil => exact absurd hd (decDigits_ne _)
      | cons c q =>
        rw [hd, List.cons_append] at he
        injection he with h1 h2
        subst h1
        by_cases hq : q = []
        · subst hq
          by_cases h2 : u / 10 < 10
          · rw [decDigits_small h2] at hd
            injection hd with hd _
            rw [← hd, dig_of h2]
            omega
          · rw [decDigits_big h2] at hd
            have h3 := decDigits_ne (u / 10 / 10)
            have h5 := congrArg List.length hd
            rw [List.length_append, List.length_singleton, List.length_singleton] at h5
            exact absurd (List.length_eq_zero_iff.1 (by omega)) h3
        · exact ih (u / 10) (by omega) c q hd hq
/-- Digits with no nought ahead are the numeral of their value. -/
theorem decDigits_of : ∀ (n : Nat) (l : List UInt8), l.length = n → l ≠ [] → (∀ b ∈ l, isDig b) → (∀ b r, l = b :: r → r ≠ [] → b.toNat ≠ 48) → Lib.decDigits (dval 0 l) = l := by
  intro n
  induction n with
  | zero => intro l hl hne; exact absurd (List.length_eq_zero_iff.1 hl) hne
  | succ n ih =>
    intro l hl hne hd hz
    obtain ⟨q, b, rfl⟩ : ∃ q b, l = q ++ [b] := ⟨l.dropLast, l.getLast hne, (List.dropLast_concat_getLast hne).symm⟩
    have hb := hd b (by simp)
    have hbv : UInt8.ofNat (48 + (b.toNat - 48)) = b := by
      apply UInt8.toNat_inj.1
      rw [dig_of (by have := hb.2; omega)]
      have := hb.1
      omega
    by_cases hq : q = []
    · subst hq
      show Lib.decDigits (10 * 0 + (b.toNat - 48)) = [b]
      rw [Nat.mul_zero, Nat.zero_add, decDigits_small (by have := hb.2; omega), hbv]
    · have hql : q.length = n := by simp at hl; exact hl
      have hqd := ih q hql hq (fun c hc => hd c (by simp [hc])) (fun c r he hr => hz c (r ++ [b]) (by rw [he]; rfl) (by simp))
      rw [dval_snoc]
      have hpos : 1 ≤ dval 0 q := by
        cases hv : dval 0 q with
        | succ k => omega
        | zero =>
          exfalso
          rw [hv] at hqd
          rw [decDigits_small (by omega)] at hqd
          cases q with
          | nil => exact hq rfl
          | cons c r =>
            injection hqd with h1 h2
            exact hz c (r ++ [b]) rfl (by simp) (by rw [← h1]; rfl)
      have hm : (10 * dval 0 q + (b.toNat - 48)) / 10 = dval 0 q := by have := hb.2; omega
      have hr : (10 * dval 0 q + (b.toNat - 48)) % 10 = b.toNat - 48 := by have := hb.2; omega
      rw [decDigits_big (by omega), hm, hr, hqd, hbv]
theorem dval_lt : ∀ (l : List UInt8) (acc : Nat), (∀ b ∈ l, isDig b) → dval acc l < (acc + 1) * 10 ^ l.length
  | [], acc, _ => by simp [dval]
  | b :: l, acc, h => by
    have hb := h b (by simp)
    have h1 := dval_lt l (10 * acc + (b.toNat - 48)) (fun c hc => h c (by simp [hc]))
    show dval (10 * acc + (b.toNat - 48)) l < _
    rw [List.length_cons, Nat.pow_succ]
    refine Nat.lt_of_lt_of_le h1 ?_
    have : 10 * acc + (b.toNat - 48) + 1 ≤ (acc + 1) * 10 := by have := hb.2; omega
    calc (10 * acc + (b.toNat - 48) + 1) * 10 ^ l.length ≤ ((acc + 1) * 10) * 10 ^ l.length := Nat.mul_le_mul_right _ this
      _ = (acc + 1) * (10 ^ l.length * 10) := by rw [Nat.mul_assoc, Nat.mul_comm 10]
theorem dval_ge : ∀ (l : List UInt8) (acc : Nat), acc * 10 ^ l.length ≤ dval acc l
  | [], acc => by simp [dval]
  | b :: l, acc => by
    have h1 := dval_ge l (10 * acc + (b.toNat - 48))
    show _ ≤ dval (10 * acc + (b.toNat - 48)) l
    rw [List.length_cons, Nat.pow_succ]
    refine Nat.le_trans ?_ h1
    calc acc * (10 ^ l.length * 10) = (10 * acc) * 10 ^ l.length := by rw [Nat.mul_comm (10 ^ l.length), ← Nat.mul_assoc, Nat.mul_comm acc]
      _ ≤ _ := Nat.mul_le_mul_right _ (by omega)
/-- A numeral of at most so many digits. -/
theorem decDigits_len {u k : Nat} (hk : 1 ≤ k) : (Lib.decDigits u).length ≤ k ↔ u < 10 ^ k := by
  constructor
  · intro h
    have h1 := dval_lt (Lib.decDigits u) 0 (decDigits_dig u)
    rw [decDigits_val] at h1
    have : 10 ^ (Lib.decDigits u).length ≤ 10 ^ k := Nat.pow_le_pow_right (by omega) h
    omega
  · intro h
    by_cases hl : (Lib.decDigits u).length ≤ k
    · exact hl
    · exfalso
      cases hd : Lib.decDigits u with
      | nil => exact absurd hd (decDigits_ne u)
      | cons b r =>
        have hr : r ≠ [] := by
          rintro rfl
          rw [hd] at hl
          simp at hl
          omega
        have hz := decDigits_head u b r hd hr
        have hb := decDigits_dig u b (by rw [hd]; simp)
        have hv := decDigits_val u
        rw [hd] at hv hl
        have h2 := dval_ge r (10 * 0 + (b.toNat - 48))
        have h3 : dval (10 * 0 + (b.toNat - 48)) r = u := hv
        rw [h3] at h2
        have h4 : 10 ^ k ≤ 10 ^ r.length := Nat.pow_le_pow_right (by omega) (by simp at hl; omega)
        have h5 : 1 * 10 ^ r.length ≤ (10 * 0 + (b.toNat - 48)) * 10 ^ r.length := Nat.mul_le_mul_right _ (by have := hb.1; omega)
        omega
/-! strconv's: what is told again as it was. -/
theorem parseUint10_dec : ∀ (l : List UInt8) (acc : Nat), (∀ b ∈ l, isDig b) → dval acc l < 18446744073709551616 → Lib.parseUint10 acc l = .ok (dval acc l)
  | [], acc, _, _ => rfl
  | b :: l, acc, h, hv => by
    have hb := h b (by simp)
    have hv' : dval (10 * acc + (b.toNat - 48)) l < 18446744073709551616 := hv
    have h1 := dval_ge l (10 * acc + (b.toNat - 48))
    have h2 : 1 ≤ 10 ^ l.length := Nat.one_le_pow _ _ (by omega)
    have h3 : (10 * acc + (b.toNat - 48)) * 1 ≤ (10 * acc + (b.toNat - 48)) * 10 ^ l.length := Nat.mul_le_mul_left _ h2
    unfold Lib.parseUint10
    rw [if_pos (show 48 ≤ b.toNat ∧ b.toNat ≤ 57 from hb), if_neg (by omega), if_neg (by omega), Nat.mul_comm acc 10]
    exact parseUint10_dec l _ (fun c hc => h c (by simp [hc])) hv'
theorem atoi_itoa {n : Int} (h0 : -9223372036854775808 ≤ n) (h1 : n ≤ 9223372036854775807) : Lib.atoiAll (Lib.itoa n) = .ok n := by
  unfold Lib.itoa
  by_cases hn : n < 0
  · rw [if_pos hn]
    unfold Lib.atoiAll
    have hp : Lib.parseMag (Lib.decDigits n.natAbs) = .ok n.natAbs := by
      unfold Lib.parseMag
      rw [if_neg (decDigits_ne _), parseUint10_dec _ _ (decDigits_dig _) (by rw [decDigits_val]; omega), decDigits_val]
    simp only [show (45 : UInt8).toNat = 45 from rfl, show ¬ (45 : Nat) = 43 by decide, or_true, if_true, hp]
    rw [if_neg (by simp), if_neg (by omega)]
    congr 1
    omega
  · rw [if_neg hn]
    cases hd : Lib.decDigits n.toNat with
    | nil => exact absurd hd (decDigits_ne _)
    | cons b r =>
      have hb := decDigits_dig n.toNat b (by rw [hd]; simp)
      have hp : Lib.parseMag (b :: r) = .ok n.toNat := by
        rw [← hd]
        unfold Lib.parseMag
        rw [if_neg (decDigits_ne _), parseUint10_dec _ _ (decDigits_dig _) (by rw [decDigits_val]; omega), decDigits_val]
      have e1 : ¬ b.toNat = 43 := by have := hb.1; omega
      have e2 : ¬ b.toNat = 45 := by have := hb.1; omega
      unfold Lib.atoiAll
      simp only [e1, e2, or_self, if_false, hp]
      rw [if_neg (by omega), if_neg (by simp)]
      congr 1
      omega
/-- The program's number: digits, as they are told. -/
def numP (l : List UInt8) : Option Int := match Lib.atoiAll l with | .ok n => if Lib.itoa n = l then some n else none | _ => none
theorem numP_iff {l : List UInt8} {n : Int} (h0 : -9223372036854775808 ≤ n) (h1 : n ≤ 9223372036854775807) : numP l = some n ↔ l = Lib.itoa n := by
  constructor
  · intro h
    unfold numP at h
    split at h
    · split at h
      · next hi => injection h with h; rw [← h, hi]
      · cases h
    · cases h
  · rintro rfl
    unfold numP
    rw [atoi_itoa h0 h1]
    simp
/-- The document's number: digits, at most ten, no nought ahead. -/
def numR (l : List UInt8) : Option Nat := if l ≠ [] ∧ l.length ≤ 10 ∧ (l.all fun b => decide (isDig b)) = true ∧ (2 ≤ l.length → l.head?.map (·.toNat) ≠ some 48) then some (dval 0 l) else none
theorem numR_iff {l : List UInt8} {u : Nat} : numR l = some u ↔ l = Lib.decDigits u ∧ u < 10 ^ 10 := by
  unfold numR
  constructor
  · intro h
    split at h
    · next hc =>
      obtain ⟨c1, c2, c3, c4⟩ := hc
      injection h with h
      have hd : ∀ b ∈ l, isDig b := fun b hb => by simpa using List.all_eq_true.1 c3 b hb
      have he := decDigits_of l.length l rfl c1 hd (fun b r he hr hz => by
        subst he
        have : 2 ≤ (b :: r).length := by
          cases r with
          | nil => exact absurd rfl hr
          | cons x y => simp
        exact c4 this (by simp [hz]))
      rw [h] at he
      exact ⟨he.symm, (decDigits_len (by omega)).1 (by rw [he]; exact c2)⟩
    · cases h
  · rintro ⟨rfl, hu⟩
    rw [if_pos, decDigits_val]
    refine ⟨decDigits_ne u, (decDigits_len (by omega)).2 hu, ?_, ?_⟩
    · rw [List.all_eq_true]
      intro b hb
      simpa using decDigits_dig u b hb
    · intro h2
      cases hd : Lib.decDigits u with
      | nil => simp
      | cons b r =>
        have hr : r ≠ [] := by
          rintro rfl
          rw [hd] at h2
          simp at h2
        have := decDigits_head u b r hd hr
        simpa using this
/-- Both read alike what is no more than ten digits long. -/
theorem numP_numR {l : List UInt8} {u : Nat} (hu : u < 10 ^ 10) : numP l = some (u : Int) ↔ numR l = some u := by
  have h10 : (10 : Nat) ^ 10 = 10000000000 := by decide
  rw [numP_iff (by omega) (by omega), numR_iff]
  have e : Lib.itoa (u : Int) = Lib.decDigits u := by
    unfold Lib.itoa
    rw [if_neg (by omega)]
    rfl
  rw [e]
  exact ⟨fun h => ⟨h, hu⟩, fun h => h.1⟩
theorem itoa_nat (u : Nat) : Lib.itoa (u : Int) = Lib.decDigits u := by
  unfold Lib.itoa
  rw [if_neg (by omega)]
  rfl
theorem itoa_neg {u : Nat} (h : 0 < u) : Lib.itoa (-(u : Int)) = 45 :: Lib.decDigits u := by
  unfold Lib.itoa
  rw [if_pos (by omega)]
  congr 2
  omega
theorem itoa_inj {a b : Int} (h : Lib.itoa a = Lib.itoa b) : a = b := by
  have key : ∀ u v : Nat, Lib.decDigits u = Lib.decDigits v → u = v := fun u v he => by rw [← decDigits_val u, ← decDigits_val v, he]
  have nd : ∀ u v : Nat, 45 :: Lib.decDigits u ≠ Lib.decDigits v := fun u v he => by
    have := decDigits_dig v 45 (by rw [← he]; simp)
    exact absurd this.1 (by decide)
  unfold Lib.itoa at h
  by_cases ha : a < 0
  · by_cases hb : b < 0
    · rw [if_pos ha, if_pos hb] at h
      injection h with _ h
      have := key _ _ h
      omega
    · rw [if_pos ha, if_neg hb] at h
      exact absurd h (nd _ _)
  · by_cases hb : b < 0
    · rw [if_neg ha, if_pos hb] at h
      exact absurd h.symm (nd _ _)
    · rw [if_neg ha, if_neg hb] at h
      have := key _ _ h
      omega
end Go.Proofs.YtjijhjdemkgpgaaGreatDoor
