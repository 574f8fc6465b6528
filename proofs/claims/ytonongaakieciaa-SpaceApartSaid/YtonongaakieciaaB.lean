/- Memories and tables: what they are, and what is told of them, in plain words (no program). -/
import Derived.WalkKit
namespace Go.Proofs.Ytonongaakieciaa
open Go.RowKit
set_option linter.unusedVariables false

/-- A page. -/
structure Pg where
  f : Int
  r : Int
/-- A memory: how many frames, and the byte at each place (256 a frame). -/
structure St where
  n : Nat
  b : Nat → UInt8
/-- May a page be? -/
def okP (n : Nat) (p : Pg) : Bool := decide (-1 ≤ p.f) && decide (p.f < n) && decide (0 ≤ p.r) && decide (p.r ≤ 7) && (decide (0 ≤ p.f) || decide (p.r = 0))
theorem okP_iff (n : Nat) (p : Pg) : okP n p = true ↔ (-1 ≤ p.f ∧ p.f < n ∧ 0 ≤ p.r ∧ p.r ≤ 7 ∧ (p.f < 0 → p.r = 0)) := by
  unfold okP
  simp only [Bool.and_eq_true, Bool.or_eq_true, decide_eq_true_eq]
  omega
theorem okP_not (n : Nat) (p : Pg) (h : ¬ (-1 ≤ p.f ∧ p.f < n ∧ 0 ≤ p.r ∧ p.r ≤ 7 ∧ (p.f < 0 → p.r = 0))) : okP n p = false := by
  cases hm : okP n p with
  | false => rfl
  | true => exact absurd ((okP_iff n p).1 hm) h
/-- May a table be? -/
def okT (n : Nat) (t : List Pg) : Bool := decide (t.length ≤ 16) && t.all (okP n)
theorem okT_at {n : Nat} {t : List Pg} (h : okT n t = true) {i : Nat} {p : Pg} (hp : t[i]? = some p) : -1 ≤ p.f ∧ p.f < n ∧ 0 ≤ p.r ∧ p.r ≤ 7 ∧ (p.f < 0 → p.r = 0) := by
  unfold okT at h
  simp only [Bool.and_eq_true, List.all_eq_true] at h
  exact (okP_iff n p).1 (h.2 p (List.mem_of_getElem? hp))
theorem okT_len {n : Nat} {t : List Pg} (h : okT n t = true) : t.length ≤ 16 := by
  unfold okT at h
  simp only [Bool.and_eq_true, decide_eq_true_eq] at h
  exact h.1
/-- What Check tells. -/
def chT (n : Nat) (t : List Pg) : Int := if okT n t then 0 else 84

/-- The page of an address. -/
def pgAt (t : List Pg) (a : Int) : Option Pg := if a < 0 then none else t[(a / 256).toNat]?
/-- Is a byte there, with a right? -/
def ch1 (t : List Pg) (right a : Int) : Int :=
  match pgAt t a with
  | none => 81
  | some p => if p.f < 0 then 81 else if bits .and .i64 p.r right = 0 then 82 else 0
/-- Are n bytes there? -/
def thr (t : List Pg) (right : Int) : Int → Nat → Int
  | _, 0 => 0
  | a, n + 1 => if ch1 t right a = 0 then thr t right (a + 1) n else ch1 t right a
/-- Where the byte of an address lies. -/
def loc (t : List Pg) (a : Int) : Nat :=
  match pgAt t a with
  | none => 0
  | some p => p.f.toNat * 256 + (a % 256).toNat
theorem pgAt_neg {t : List Pg} {a : Int} (h : a < 0) : pgAt t a = none := by simp [pgAt, h]
theorem pgAt_nat (t : List Pg) (a : Nat) : pgAt t (a : Int) = t[a / 256]? := by
  unfold pgAt
  rw [if_neg (by omega)]
  have : ((a : Int) / 256).toNat = a / 256 := by omega
  rw [this]
theorem ch1_neg {t : List Pg} {right a : Int} (h : a < 0) : ch1 t right a = 81 := by simp [ch1, pgAt_neg h]
theorem ch1_far {t : List Pg} {right : Int} {a : Nat} (h : t.length * 256 ≤ a) : ch1 t right a = 81 := by
  have : t[a / 256]? = none := List.getElem?_eq_none (by omega)
  simp [ch1, pgAt_nat, this]
theorem ch1_at {t : List Pg} {right : Int} {a : Nat} {p : Pg} (h : t[a / 256]? = some p) : ch1 t right a = if p.f < 0 then 81 else if bits .and .i64 p.r right = 0 then 82 else 0 := by
  simp [ch1, pgAt_nat, h]
theorem loc_at {t : List Pg} {a : Nat} {p : Pg} (h : t[a / 256]? = some p) : loc t a = p.f.toNat * 256 + a % 256 := by
  unfold loc
  rw [pgAt_nat, h]
  simp only
  have : ((a : Int) % 256).toNat = a % 256 := by omega
  rw [this]
theorem thr_succ (t : List Pg) (right a : Int) (n : Nat) : thr t right a (n + 1) = if ch1 t right a = 0 then thr t right (a + 1) n else ch1 t right a := rfl
theorem thr_no {t : List Pg} {right a : Int} {n : Nat} {e : Int} (h : ch1 t right a = e) (he : e ≠ 0) (hn : 0 < n) : thr t right a n = e := by
  obtain ⟨k, rfl⟩ : ∃ k, n = k + 1 := ⟨n - 1, by omega⟩
  rw [thr_succ, h, if_neg he]
theorem thr_yes {t : List Pg} {right a : Int} {n : Nat} (h : ch1 t right a = 0) (hn : 0 < n) : thr t right a n = thr t right (a + 1) (n - 1) := by
  obtain ⟨k, rfl⟩ : ∃ k, n = k + 1 := ⟨n - 1, by omega⟩
  rw [thr_succ, if_pos h]
  rfl
/-- A byte is put at a place. -/
def upd (b : Nat → UInt8) (k : Nat) (c : UInt8) : Nat → UInt8 := fun j => if j = k then c else b j
theorem upd_same (b : Nat → UInt8) (k : Nat) (c : UInt8) : upd b k c k = c := if_pos rfl
theorem upd_ne {b : Nat → UInt8} {k : Nat} {c : UInt8} {j : Nat} (h : j ≠ k) : upd b k c j = b j := if_neg h
/-- Bytes are put from a place on. -/
def putL : (Nat → UInt8) → Nat → List UInt8 → (Nat → UInt8)
  | b, _, [] => b
  | b, k, c :: s => putL (upd b k c) (k + 1) s
theorem putL_out : ∀ (s : List UInt8) (b : Nat → UInt8) (k j : Nat), (j < k ∨ k + s.length ≤ j) → putL b k s j = b j := by
  intro s
  induction s with
  | nil => intro b k j _; rfl
  | cons c s ih =>
    intro b k j h
    simp only [List.length_cons] at h
    rw [putL, ih _ _ _ (by omega), upd_ne (by omega)]
theorem putL_in : ∀ (s : List UInt8) (b : Nat → UInt8) (k i : Nat) (c : UInt8), s[i]? = some c → putL b k s (k + i) = c := by
  intro s
  induction s with
  | nil => intro b k i c h; simp at h
  | cons d s ih =>
    intro b k i c h
    rw [putL]
    cases i with
    | zero =>
      simp at h
      subst h
      rw [putL_out _ _ _ _ (by omega)]
      exact upd_same _ _ _
    | succ i =>
      simp at h
      have := ih (upd b k d) (k + 1) i c h
      rw [show k + (i + 1) = k + 1 + i from by omega]
      exact this
/-- Bytes are written at an address, through a table. -/
def wrB (t : List Pg) : (Nat → UInt8) → Int → List UInt8 → (Nat → UInt8)
  | b, _, [] => b
  | b, a, c :: s => wrB t (upd b (loc t a) c) (a + 1) s
/-- A frame's bytes. -/
def frB (st : St) (f : Nat) : List UInt8 := (List.range 256).map fun i => st.b (f * 256 + i)
def frS (st : St) (f : Nat) : ByteArray := ⟨(frB st f).toArray⟩
theorem frB_len (st : St) (f : Nat) : (frB st f).length = 256 := by simp [frB]
theorem frB_at (st : St) (f i : Nat) (hi : i < 256) : (frB st f)[i]? = some (st.b (f * 256 + i)) := by simp [frB, hi]
theorem frS_size (st : St) (f : Nat) : (frS st f).size = 256 := by
  have : (frS st f).size = (frB st f).length := rfl
  rw [this, frB_len]
theorem frS_list (st : St) (f : Nat) : (frS st f).data.toList = frB st f := rfl
end Go.Proofs.Ytonongaakieciaa
