/- Lines of a program's text, plain: instructions, their fields, labels. No program in sight. -/
import Derived.Test.YtjijhjdemkgpgaaGreatDoorN1
namespace Go.Proofs.YtjijhjdemkgpgaaGreatDoor
set_option linter.unusedVariables false
set_option linter.unusedSimpArgs false
/-- An instruction. -/
structure In where
  op : Int
  a : Int
  b : Int
  m : Int
  deriving DecidableEq
def nameL : List (List UInt8) := [[110, 111, 112], [115, 116, 111, 112], [115, 101, 116], [104, 105, 103, 104], [109, 111, 118, 101], [97, 100, 100], [115, 117, 98], [109, 117, 108], [100, 105, 118], [114, 101, 109], [97, 110, 100], [111, 114], [120, 111, 114], [110, 111, 116], [115, 104, 108], [115, 104, 114], [108, 101, 115, 115], [98, 101, 108, 111, 119], [115, 97, 109, 101], [112, 108, 117, 115], [103, 101, 116, 49], [103, 101, 116, 52], [112, 117, 116, 49], [112, 117, 116, 52], [106, 117, 109, 112], [122, 101, 114, 111], [115, 111, 109, 101], [116, 111], [99, 97, 108, 108], [97, 115, 107]]
def formL : List (List UInt8) := [[], [], [97, 117], [97, 117], [97, 98], [97, 98], [97, 98], [97, 98], [97, 98], [97, 98], [97, 98], [97, 98], [97, 98], [97], [97, 98], [97, 98], [97, 98], [97, 98], [97, 98], [97, 115], [97, 98, 117], [97, 98, 117], [97, 98, 117], [97, 98, 117], [115], [97, 115], [97, 115], [97], [97, 115], [117]]
def nmL (k : Nat) : List UInt8 := nameL.getD k []
def fmL (k : Nat) : List UInt8 := formL.getD k []
def fitsL (is : Bool) (n lo hi : Int) : Bool := if is then decide (lo ≤ n) && decide (n ≤ hi) else decide (n = 0)
/-- May the rest of it be, of operation k? -/
def okL (i : In) (k : Nat) : Bool := fitsL ((fmL k).contains 97) i.a 0 15 && fitsL ((fmL k).contains 98) i.b 0 15 && fitsL ((fmL k).contains 117 || (fmL k).contains 115) i.m (if (fmL k).contains 115 then -32768 else 0) (if (fmL k).contains 115 then 32767 else 65535)
/-- A row cut at each c. -/
def splitC (c : UInt8) : List UInt8 → List (List UInt8)
  | [] => [[]]
  | b :: r => if b = c then [] :: splitC c r else match splitC c r with | [] => [[b]] | h :: t => (b :: h) :: t
theorem splitC_ne (c : UInt8) : ∀ l, splitC c l ≠ []
  | [] => by simp [splitC]
  | b :: r => by
    unfold splitC
    split
    · simp
    · split <;> simp
theorem splitC_join (c : UInt8) : ∀ l, ∃ h t, splitC c l = h :: t ∧ l = h ++ t.flatMap (c :: ·) ∧ c ∉ h ∧ ∀ x ∈ t, c ∉ x
  | [] => ⟨[], [], rfl, rfl, by simp, by simp⟩
  | b :: r => by
    obtain ⟨h, t, e, hj, hh, ht⟩ := splitC_join c r
    unfold splitC
    by_cases hb : b = c
    · rw [if_pos hb]
      refine ⟨[], splitC c r, rfl, ?_, by simp, ?_⟩
      · rw [e, hb, List.flatMap_cons, hj]
        rfl
      · rw [e]
        intro x hx
        rcases List.mem_cons.1 hx with rfl | hx
        · exact hh
        · exact ht x hx
    · rw [if_neg hb, e]
      exact ⟨b :: h, t, rfl, by rw [hj]; rfl, by simp [hh, Ne.symm hb], ht⟩
theorem splitC_none {c : UInt8} {l : List UInt8} (h : c ∉ l) : splitC c l = [l] := by
  induction l with
  | nil => rfl
  | cons b r ih =>
    have hb : b ≠ c := fun he => h (by rw [he]; simp)
    unfold splitC
    rw [if_neg hb, ih (fun hm => h (by simp [hm]))]
theorem splitC_app {c : UInt8} {h r : List UInt8} (hh : c ∉ h) : splitC c (h ++ c :: r) = h :: splitC c r := by
  induction h with
  | nil =>
    show splitC c (c :: r) = _
    rw [splitC, if_pos rfl]
  | cons b h ih =>
    have hb : b ≠ c := fun he => hh (by rw [he]; simp)
    show splitC c (b :: (h ++ c :: r)) = _
    rw [splitC, if_neg hb, ih (fun hm => hh (by simp [hm]))]
theorem splitC_of {c : UInt8} : ∀ (t : List (List UInt8)) (h : List UInt8), c ∉ h → (∀ x ∈ t, c ∉ x) → splitC c (h ++ t.flatMap (c :: ·)) = h :: t
  | [], h, hh, _ => by simpa using splitC_none hh
  | x :: t, h, hh, ht => by
    rw [List.flatMap_cons]
    show splitC c (h ++ c :: (x ++ t.flatMap (c :: ·))) = _
    rw [splitC_app hh, splitC_of t x (ht x (by simp)) (fun z hz => ht z (by simp [hz]))]
/-- A label. -/
def isLc (b : UInt8) : Bool := decide (97 ≤ b.toNat) && decide (b.toNat ≤ 122)
def isLd (b : UInt8) : Bool := isLc b || (decide (48 ≤ b.toNat) && decide (b.toNat ≤ 57))
def isLab : List UInt8 → Bool
  | [] => false
  | b :: r => isLc b && r.all isLd && decide (r.length ≤ 11)
/-- The operation of a name. -/
def opOf (w : List UInt8) : Option Nat := (List.range 30).find? fun k => nmL k == w
theorem opOf_some {w : List UInt8} {k : Nat} (h : opOf w = some k) : k < 30 ∧ nmL k = w := by
  unfold opOf at h
  refine ⟨?_, ?_⟩
  · have := List.mem_of_find?_eq_some h
    exact List.mem_range.1 this
  · have := List.find?_some h
    simpa using this
theorem opOf_nm {k : Nat} (hk : k < 30) : opOf (nmL k) = some k := by
  have h : ∀ k : Fin 30, opOf (nmL k.val) = some k.val := by decide +kernel
  exact h ⟨k, hk⟩
theorem nm_no32 {k : Nat} (hk : k < 30) : (32 : UInt8) ∉ nmL k := by
  have h : ∀ k : Fin 30, (32 : UInt8) ∉ nmL k.val := by decide +kernel
  exact h ⟨k, hk⟩
/-- The fields, read by a reader of registers and one of numbers. -/
def fieldsG (rd : List UInt8 → Option Int) (rm : UInt8 → List UInt8 → Option Int) (lab : Bool) (k : Nat) : List UInt8 → List (List UInt8) → In → List UInt8 → Option (In × List UInt8)
  | [], _, i, to => some (i, to)
  | _ :: _, [], _, _ => none
  | c :: f, v :: vs, i, to =>
    if c = 97 ∨ c = 98 then
      match v with
      | 114 :: r => match rd r with
        | some n => fieldsG rd rm lab k f vs (if c = 97 then { i with a := n } else { i with b := n }) to
        | none => none
      | _ => none
    else if lab = true ∧ c = 115 ∧ k ≠ 19 ∧ v.head? = some 64 ∧ isLab v.tail = true then fieldsG rd rm lab k f vs i v.tail
    else match rm c v with
      | some n => fieldsG rd rm lab k f vs { i with m := n } to
      | none => none
/-- A line read. -/
def readG (rd : List UInt8 → Option Int) (rm : UInt8 → List UInt8 → Option Int) (lab : Bool) (s : List UInt8) : Option (In × List UInt8) :=
  match splitC 32 s with
  | [] => none
  | w :: vs => match opOf w with
    | none => none
    | some k => if vs.length = (fmL k).length then
        match fieldsG rd rm lab k (fmL k) vs ⟨k, 0, 0, 0⟩ [] with
        | none => none
        | some (i, to) => if okL i k then some (i, to) else none
      else none
/-- A field told. -/
def fieldT (i : In) (to : List UInt8) (c : UInt8) : List UInt8 := if c = 97 then 114 :: Lib.itoa i.a else if c = 98 then 114 :: Lib.itoa i.b else if to ≠ [] then 64 :: to else Lib.itoa i.m
/-- An instruction's text. -/
def textL (i : In) (to : List UInt8) (k : Nat) : List UInt8 := nmL k ++ ((fmL k).map (fieldT i to)).flatMap (32 :: ·)
def Reads (s : List UInt8) (lab : Bool) (i : In) (to : List UInt8) : Prop :=
  ∃ k : Nat, k < 30 ∧ i.op = (k : Int) ∧ okL i k = true ∧ s = textL i to k ∧ (to = [] ∨ (lab = true ∧ isLab to = true ∧ i.m = 0 ∧ (fmL k).contains 115 = true ∧ k ≠ 19))
theorem itoa_byte {n : Int} : ∀ b ∈ Lib.itoa n, b.toNat = 45 ∨ isDig b := by
  intro b hb
  unfold Lib.itoa at hb
  split at hb
  · rcases List.mem_cons.1 hb with rfl | hb
    · exact .inl rfl
    · exact .inr (decDigits_dig _ b hb)
  · exact .inr (decDigits_dig _ b hb)
theorem itoa_no {n : Int} {c : UInt8} (h : c.toNat ≠ 45) (h2 : ¬ isDig c) : c ∉ Lib.itoa n := fun hm => (itoa_byte c hm).elim h h2
theorem lab_byte {l : List UInt8} (h : isLab l = true) : ∀ b ∈ l, isLd b = true := by
  cases l with
  | nil => cases h
  | cons b r =>
    simp only [isLab, Bool.and_eq_true, List.all_eq_true] at h
    intro c hc
    rcases List.mem_cons.1 hc with rfl | hc
    · unfold isLd; rw [h.1.1]; rfl
    · exact h.1.2 c hc
theorem lab_no {l : List UInt8} {c : UInt8} (h : isLab l = true) (hc : isLd c = false) : c ∉ l := fun hm => by
  have := lab_byte h c hm
  rw [hc] at this
  cases this
theorem fieldT_no32 (i : In) {to : List UInt8} (ht : to = [] ∨ isLab to = true) (c : UInt8) : (32 : UInt8) ∉ fieldT i to c := by
  have h0 : ∀ n, (32 : UInt8) ∉ Lib.itoa n := fun n => itoa_no (by decide) (by decide)
  unfold fieldT
  split
  · simp [h0]
  · split
    · simp [h0]
    · split
      · next hne =>
        rcases ht with rfl | ht
        · exact absurd rfl hne
        · simp [lab_no ht (show isLd 32 = false by decide)]
      · exact h0 _
theorem splitC_text {i : In} {to : List UInt8} {k : Nat} (hk : k < 30) (ht : to = [] ∨ isLab to = true) : splitC 32 (textL i to k) = nmL k :: (fmL k).map (fieldT i to) := by
  unfold textL
  refine splitC_of _ _ (nm_no32 hk) fun x hx => ?_
  obtain ⟨c, -, rfl⟩ := List.mem_map.1 hx
  exact fieldT_no32 i ht c
/-- The forms. -/
theorem fm_cases {k : Nat} (hk : k < 30) : fmL k = [] ∨ fmL k = [97] ∨ fmL k = [97, 98] ∨ fmL k = [97, 98, 117] ∨ fmL k = [97, 117] ∨ fmL k = [97, 115] ∨ fmL k = [115] ∨ fmL k = [117] := by
  have h : ∀ k : Fin 30, fmL k.val = [] ∨ fmL k.val = [97] ∨ fmL k.val = [97, 98] ∨ fmL k.val = [97, 98, 117] ∨ fmL k.val = [97, 117] ∨ fmL k.val = [97, 115] ∨ fmL k.val = [115] ∨ fmL k.val = [117] := by decide +kernel
  exact h ⟨k, hk⟩
/-- What a reader of registers, of numbers must know. -/
structure RdOk (rd : List UInt8 → Option Int) (rm : UInt8 → List UInt8 → Option Int) : Prop where
  r : ∀ (v : List UInt8) (n : Int), 0 ≤ n → n ≤ 15 → (rd v = some n ↔ v = Lib.itoa n)
  u : ∀ (v : List UInt8) (n : Int), 0 ≤ n → n ≤ 65535 → (rm 117 v = some n ↔ v = Lib.itoa n)
  s : ∀ (v : List UInt8) (n : Int), -32768 ≤ n → n ≤ 32767 → (rm 115 v = some n ↔ v = Lib.itoa n)
theorem numP_ok : RdOk numP (fun _ => numP) :=
  ⟨fun v n h0 h1 => numP_iff (by omega) (by omega), fun v n h0 h1 => numP_iff (by omega) (by omega), fun v n h0 h1 => numP_iff (by omega) (by omega)⟩
def rdR (v : List UInt8) : Option Int := (numR v).map fun (u : Nat) => (u : Int)
def rmR (c : UInt8) (v : List UInt8) : Option Int := if c = 115 ∧ v.head? = some 45 ∧ v ≠ [45, 48] then (numR v.tail).map fun (u : Nat) => -(u : Int) else rdR v
theorem rdR_iff {v : List UInt8} {n : Int} (h0 : 0 ≤ n) (h1 : n < 10000000000) : rdR v = some n ↔ v = Lib.itoa n := by
  obtain ⟨u, rfl⟩ := Int.eq_ofNat_of_zero_le h0
  have hu : u < 10 ^ 10 := by have : (10 : Nat) ^ 10 = 10000000000 := by decide
                              omega
  unfold rdR
  rw [Option.map_eq_some_iff]
  constructor
  · rintro ⟨x, hx, he⟩
    obtain rfl : x = u := by omega
    exact (numP_iff (by omega) (by omega)).1 ((numP_numR hu).2 hx)
  · intro h
    exact ⟨u, (numP_numR hu).1 ((numP_iff (by omega) (by omega)).2 h), rfl⟩
theorem itoa_nonneg_head {n : Int} (h : 0 ≤ n) : (Lib.itoa n).head? ≠ some 45 := by
  intro hh
  have hm : (45 : UInt8) ∈ Lib.itoa n := List.mem_of_head? hh
  unfold Lib.itoa at hm
  rw [if_neg (by omega)] at hm
  exact absurd (decDigits_dig _ _ hm).1 (by decide)
theorem numR_ok : RdOk rdR rmR := by
  refine ⟨fun v n h0 h1 => rdR_iff h0 (by omega), fun v n h0 h1 => ?_, fun v n h0 h1 => ?_⟩
  · unfold rmR
    rw [if_neg (by simp)]
    exact rdR_iff h0 (by omega)
  · unfold rmR
    by_cases hc : v.head? = some 45 ∧ v ≠ [45, 48]
    · rw [if_pos ⟨rfl, hc⟩]
      obtain ⟨r, rfl⟩ : ∃ r, v = 45 :: r := by
        cases v with
        | nil => simp at hc
        | cons b r => simp at hc; exact ⟨r, by rw [hc.1]⟩
      rw [Option.map_eq_some_iff]
      show (∃ a, numR r = some a ∧ _) ↔ _
      constructor
      · rintro ⟨u, hu, rfl⟩
        obtain ⟨he, -⟩ := numR_iff.1 hu
        have hpos : 0 < u := by
          cases u with
          | succ u => omega
          | zero =>
            exfalso
            apply hc.2
            rw [he, decDigits_small (by omega)]
            rfl
        rw [itoa_neg hpos, he]
      · intro h
        have hn : n < 0 := by
          by_cases hn : n < 0
          · exact hn
          · exfalso
            exact itoa_nonneg_head (show 0 ≤ n by omega) (by rw [← h]; rfl)
        obtain ⟨u, hu⟩ := Int.eq_ofNat_of_zero_le (show 0 ≤ -n by omega)
        obtain rfl : n = -(u : Int) := by omega
        rw [itoa_neg (by omega)] at h
        injection h with _ h
        exact ⟨u, numR_iff.2 ⟨h, by have : (10 : Nat) ^ 10 = 10000000000 := by decide
                                    omega⟩, rfl⟩
    · rw [if_neg (fun h => hc h.2)]
      by_cases hn : 0 ≤ n
      · exact rdR_iff hn (by omega)
      · constructor
        · intro h
          unfold rdR at h
          rw [Option.map_eq_some_iff] at h
          obtain ⟨u, -, he⟩ := h
          omega
        · intro h
          exfalso
          apply hc
          have hi : Lib.itoa n = 45 :: Lib.decDigits n.natAbs := by unfold Lib.itoa; rw [if_pos (by omega)]
          rw [h, hi]
          refine ⟨rfl, fun he => ?_⟩
          injection he with _ he
          have hv := decDigits_val n.natAbs
          rw [he] at hv
          have : dval 0 [48] = 0 := by decide
          omega
end Go.Proofs.YtjijhjdemkgpgaaGreatDoor
