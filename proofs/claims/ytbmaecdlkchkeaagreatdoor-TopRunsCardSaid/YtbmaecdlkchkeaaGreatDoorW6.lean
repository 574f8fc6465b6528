/- Memories and tables: what they are, and what is told of them, in plain words (no program). What the iterator over bytes at an address tells, in plain words. What a caller makes of all that the iterator tells. Memories in the program's memory; Check, of the program. The reference's memories; its Check; there. The reference's there. The program's memories: New, Frames, Frame, Lay, Clear, Clone. The program's memories: Lay, Clear, Clone. The program's memories: Clone. -/
import Derived.WalkKit
import Derived.Test.YtbmaecdlkchkeaaGreatDoorRows
import Derived.Test.YtbmaecdlkchkeaaGreatDoorLib2
import Derived.WalkSpells
import Derived.WalkLawsBesides
import Derived.Deep.QuietTactic
import Derived.BigQuiet
import Derived.Lib.Hide
import Derived.Deep.LoopGhost
import Derived.Deep.DeepMust
import Derived.Deep.RegionHeld3
import Derived.Laws.EntriesVeiled
import Derived.IntWalk
import Derived.Outline
import Derived.Laws.IdiomStrings
import Derived.Lib.BufferWrite
import Derived.Lib.SlBuf
import Derived.Deep.MidRow
import Derived.Laws.CopyOwn
import Derived.Lib.SliceRun
namespace Go.Proofs.YtbmaecdlkchkeaaGreatDoor
open Go.RowKit
set_option linter.unusedVariables false

/-- A page. -/
structure Pg where
  f : Int
  r : Int
/-- A memory: how many frames, and the byte at each place (256 a frame). -/
structure St where
  n : Nat
  b : Nat → UInt8
/-- May a page be? -/
def okP (n : Nat) (p : Pg) : Bool := decide (-1 ≤ p.f) && decide (p.f < n) && decide (0 ≤ p.r) && decide (p.r ≤ 7) && (decide (0 ≤ p.f) || decide (p.r = 0))
theorem okP_iff (n : Nat) (p : Pg) : okP n p = true ↔ (-1 ≤ p.f ∧ p.f < n ∧ 0 ≤ p.r ∧ p.r ≤ 7 ∧ (p.f < 0 → p.r = 0)) := by
  unfold okP
  simp only [Bool.and_eq_true, Bool.or_eq_true, decide_eq_true_eq]
  omega
theorem okP_not (n : Nat) (p : Pg) (h : ¬ (-1 ≤ p.f ∧ p.f < n ∧ 0 ≤ p.r ∧ p.r ≤ 7 ∧ (p.f < 0 → p.r = 0))) : okP n p = false := by
  cases hm : okP n p with
  | false => rfl
  | true => exact absurd ((okP_iff n p).1 hm) h
/-- May a table be? -/
def okT (n : Nat) (t : List Pg) : Bool := decide (t.length ≤ 16) && t.all (okP n)
theorem okT_at {n : Nat} {t : List Pg} (h : okT n t = true) {i : Nat} {p : Pg} (hp : t[i]? = some p) : -1 ≤ p.f ∧ p.f < n ∧ 0 ≤ p.r ∧ p.r ≤ 7 ∧ (p.f < 0 → p.r = 0) := by
  unfold okT at h
  simp only [Bool.and_eq_true, List.all_eq_true] at h
  exact (okP_iff n p).1 (h.2 p (List.mem_of_getElem? hp))
theorem okT_len {n : Nat} {t : List Pg} (h : okT n t = true) : t.length ≤ 16 := by
  unfold okT at h
  simp only [Bool.and_eq_true, decide_eq_true_eq] at h
  exact h.1
/-- What Check tells. -/
def chT (n : Nat) (t : List Pg) : Int := if okT n t then 0 else 84

/-- The page of an address. -/
def pgAt (t : List Pg) (a : Int) : Option Pg := if a < 0 then none else t[(a / 256).toNat]?
/-- Is a byte there, with a right? -/
def ch1 (t : List Pg) (right a : Int) : Int :=
  match pgAt t a with
  | none => 81
  | some p => if p.f < 0 then 81 else if bits .and .i64 p.r right = 0 then 82 else 0
/-- Are n bytes there? -/
def thr (t : List Pg) (right : Int) : Int → Nat → Int
  | _, 0 => 0
  | a, n + 1 => if ch1 t right a = 0 then thr t right (a + 1) n else ch1 t right a
/-- Where the byte of an address lies. -/
def loc (t : List Pg) (a : Int) : Nat :=
  match pgAt t a with
  | none => 0
  | some p => p.f.toNat * 256 + (a % 256).toNat
theorem pgAt_neg {t : List Pg} {a : Int} (h : a < 0) : pgAt t a = none := by simp [pgAt, h]
theorem pgAt_nat (t : List Pg) (a : Nat) : pgAt t (a : Int) = t[a / 256]? := by
  unfold pgAt
  rw [if_neg (by omega)]
  have : ((a : Int) / 256).toNat = a / 256 := by omega
  rw [this]
theorem ch1_neg {t : List Pg} {right a : Int} (h : a < 0) : ch1 t right a = 81 := by simp [ch1, pgAt_neg h]
theorem ch1_far {t : List Pg} {right : Int} {a : Nat} (h : t.length * 256 ≤ a) : ch1 t right a = 81 := by
  have : t[a / 256]? = none := List.getElem?_eq_none (by omega)
  simp [ch1, pgAt_nat, this]
theorem ch1_at {t : List Pg} {right : Int} {a : Nat} {p : Pg} (h : t[a / 256]? = some p) : ch1 t right a = if p.f < 0 then 81 else if bits .and .i64 p.r right = 0 then 82 else 0 := by
  simp [ch1, pgAt_nat, h]
theorem loc_at {t : List Pg} {a : Nat} {p : Pg} (h : t[a / 256]? = some p) : loc t a = p.f.toNat * 256 + a % 256 := by
  unfold loc
  rw [pgAt_nat, h]
  simp only
  have : ((a : Int) % 256).toNat = a % 256 := by omega
  rw [this]
theorem thr_succ (t : List Pg) (right a : Int) (n : Nat) : thr t right a (n + 1) = if ch1 t right a = 0 then thr t right (a + 1) n else ch1 t right a := rfl
theorem thr_no {t : List Pg} {right a : Int} {n : Nat} {e : Int} (h : ch1 t right a = e) (he : e ≠ 0) (hn : 0 < n) : thr t right a n = e := by
  obtain ⟨k, rfl⟩ : ∃ k, n = k + 1 := ⟨n - 1, by omega⟩
  rw [thr_succ, h, if_neg he]
theorem thr_yes {t : List Pg} {right a : Int} {n : Nat} (h : ch1 t right a = 0) (hn : 0 < n) : thr t right a n = thr t right (a + 1) (n - 1) := by
  obtain ⟨k, rfl⟩ : ∃ k, n = k + 1 := ⟨n - 1, by omega⟩
  rw [thr_succ, if_pos h]
  rfl
/-- A byte is put at a place. -/
def upd (b : Nat → UInt8) (k : Nat) (c : UInt8) : Nat → UInt8 := fun j => if j = k then c else b j
theorem upd_same (b : Nat → UInt8) (k : Nat) (c : UInt8) : upd b k c k = c := if_pos rfl
theorem upd_ne {b : Nat → UInt8} {k : Nat} {c : UInt8} {j : Nat} (h : j ≠ k) : upd b k c j = b j := if_neg h
/-- Bytes are put from a place on. -/
def putL : (Nat → UInt8) → Nat → List UInt8 → (Nat → UInt8)
  | b, _, [] => b
  | b, k, c :: s => putL (upd b k c) (k + 1) s
theorem putL_out : ∀ (s : List UInt8) (b : Nat → UInt8) (k j : Nat), (j < k ∨ k + s.length ≤ j) → putL b k s j = b j := by
  intro s
  induction s with
  | nil => intro b k j _; rfl
  | cons c s ih =>
    intro b k j h
    simp only [List.length_cons] at h
    rw [putL, ih _ _ _ (by omega), upd_ne (by omega)]
theorem putL_in : ∀ (s : List UInt8) (b : Nat → UInt8) (k i : Nat) (c : UInt8), s[i]? = some c → putL b k s (k + i) = c := by
  intro s
  induction s with
  | nil => intro b k i c h; simp at h
  | cons d s ih =>
    intro b k i c h
    rw [putL]
    cases i with
    | zero =>
      simp at h
      subst h
      rw [putL_out _ _ _ _ (by omega)]
      exact upd_same _ _ _
    | succ i =>
      simp at h
      have := ih (upd b k d) (k + 1) i c h
      rw [show k + (i + 1) = k + 1 + i from by omega]
      exact this
/-- Bytes are written at an address, through a table. -/
def wrB (t : List Pg) : (Nat → UInt8) → Int → List UInt8 → (Nat → UInt8)
  | b, _, [] => b
  | b, a, c :: s => wrB t (upd b (loc t a) c) (a + 1) s
/-- A frame's bytes. -/
def frB (st : St) (f : Nat) : List UInt8 := (List.range 256).map fun i => st.b (f * 256 + i)
def frS (st : St) (f : Nat) : ByteArray := ⟨(frB st f).toArray⟩
theorem frB_len (st : St) (f : Nat) : (frB st f).length = 256 := by simp [frB]
theorem frB_at (st : St) (f i : Nat) (hi : i < 256) : (frB st f)[i]? = some (st.b (f * 256 + i)) := by simp [frB, hi]
theorem frS_size (st : St) (f : Nat) : (frS st f).size = 256 := by
  have : (frS st f).size = (frB st f).length := rfl
  rw [this, frB_len]
theorem frS_list (st : St) (f : Nat) : (frS st f).data.toList = frB st f := rfl
end Go.Proofs.YtbmaecdlkchkeaaGreatDoor
namespace Go.Proofs.YtbmaecdlkchkeaaGreatDoor
open Go.RowKit
set_option linter.unusedVariables false

theorem ch1_cases (t : List Pg) (right a : Int) : ch1 t right a = 0 ∨ ch1 t right a = 81 ∨ ch1 t right a = 82 := by
  unfold ch1
  split
  · simp
  · split
    · simp
    · split <;> simp
/-- A place of a byte that is there lies in the memory. -/
theorem loc_lt {n : Nat} {t : List Pg} (hT : okT n t = true) {right a : Int} (h : ch1 t right a = 0) : loc t a < n * 256 := by
  unfold ch1 at h
  unfold loc
  split at h
  · omega
  · rename_i p hp
    split at h
    · omega
    · rename_i hf
      have hm : t[(a / 256).toNat]? = some p := by
        unfold pgAt at hp
        split at hp
        · cases hp
        · exact hp
      have h1 := (okT_at hT hm).2.1
      have h2 : (a % 256).toNat < 256 := by omega
      have h3 : p.f.toNat < n := by omega
      have h4 : p.f.toNat * 256 + 256 ≤ n * 256 := by
        have : (p.f.toNat + 1) * 256 ≤ n * 256 := Nat.mul_le_mul_right _ h3
        omega
      omega
/-- What the iterator tells: a place, or an error. -/
inductive Yb (N : Nat) where
  | ok (j : Nat) (h : j < N)
  | bad (e : Int) (h : e = 81 ∨ e = 82)
def y1 (N : Nat) (t : List Pg) (right a : Int) : Yb N := if h : ch1 t right a = 0 ∧ loc t a < N then .ok (loc t a) h.2 else if ch1 t right a = 82 then .bad 82 (.inr rfl) else .bad 81 (.inl rfl)
theorem y1_ok {N : Nat} {t : List Pg} {right a : Int} (h : ch1 t right a = 0) (h2 : loc t a < N) : y1 N t right a = .ok (loc t a) h2 := by
  unfold y1
  rw [dif_pos ⟨h, h2⟩]
theorem y1_bad {N : Nat} {t : List Pg} {right a e : Int} (h : ch1 t right a = e) (he : e = 81 ∨ e = 82) : y1 N t right a = .bad e he := by
  unfold y1
  rw [dif_neg (by omega)]
  rcases he with rfl | rfl
  · rw [if_neg (by omega)]
  · rw [if_pos h]
def ytk (N : Nat) (t : List Pg) (right a : Int) (k : Nat) : List (Yb N) := (List.range k).map fun (i : Nat) => y1 N t right (a + (i : Int))
theorem ytk_succ (N : Nat) (t : List Pg) (right a : Int) (k : Nat) : ytk N t right a (k + 1) = ytk N t right a k ++ [y1 N t right (a + k)] := by
  unfold ytk
  rw [List.range_succ, List.map_append]
  rfl
theorem ytk_len (N : Nat) (t : List Pg) (right a : Int) (k : Nat) : (ytk N t right a k).length = k := by simp [ytk]
/-- The first of n bytes that is not there, as a number; n, if all are. -/
def good (t : List Pg) (right : Int) : Int → Nat → Nat
  | _, 0 => 0
  | a, n + 1 => if ch1 t right a = 0 then good t right (a + 1) n + 1 else 0
theorem good_le (t : List Pg) (right : Int) : ∀ (n : Nat) (a : Int), good t right a n ≤ n := by
  intro n
  induction n with
  | zero => intro a; exact Nat.le_refl _
  | succ n ih =>
    intro a
    rw [good]
    split
    · have := ih (a + 1); omega
    · omega
theorem good_ok (t : List Pg) (right : Int) : ∀ (n : Nat) (a : Int) (i : Nat), i < good t right a n → ch1 t right (a + i) = 0 := by
  intro n
  induction n with
  | zero => intro a i h; simp [good] at h
  | succ n ih =>
    intro a i h
    rw [good] at h
    split at h
    · cases i with
      | zero => simpa using ‹ch1 t right a = 0›
      | succ i =>
        have := ih (a + 1) i (by omega)
        rwa [show a + ((i + 1 : Nat) : Int) = a + 1 + i from by omega]
    · omega
theorem thr_good (t : List Pg) (right : Int) : ∀ (n : Nat) (a : Int), thr t right a n = if good t right a n = n then 0 else ch1 t right (a + good t right a n) := by
  intro n
  induction n with
  | zero => intro a; rfl
  | succ n ih =>
    intro a
    rw [thr_succ, good]
    by_cases h : ch1 t right a = 0
    · rw [if_pos h, if_pos h, ih (a + 1)]
      by_cases h2 : good t right (a + 1) n = n
      · rw [if_pos h2, if_pos (by omega)]
      · rw [if_neg h2, if_neg (by omega)]
        rw [show a + ((good t right (a + 1) n + 1 : Nat) : Int) = a + 1 + (good t right (a + 1) n : Nat) from by omega]
    · rw [if_neg h, if_neg h, if_neg (by omega)]
      simp
theorem good_bad (t : List Pg) (right : Int) : ∀ (n : Nat) (a : Int), good t right a n < n → ch1 t right (a + good t right a n) ≠ 0 := by
  intro n
  induction n with
  | zero => intro a h; omega
  | succ n ih =>
    intro a h
    rw [good] at h ⊢
    by_cases h1 : ch1 t right a = 0
    · rw [if_pos h1] at h ⊢
      have := ih (a + 1) (by omega)
      rwa [show a + ((good t right (a + 1) n + 1 : Nat) : Int) = a + 1 + (good t right (a + 1) n : Nat) from by omega]
    · rw [if_neg h1]
      simpa using h1
theorem good_eq {t : List Pg} {right a : Int} {n k : Nat} (hk : k < n) (h : ∀ i, i < k → ch1 t right (a + i) = 0) (hb : ch1 t right (a + k) ≠ 0) : good t right a n = k := by
  have h1 : ¬ good t right a n < k := by
    intro hlt
    exact good_bad t right n a (by omega) (h _ hlt)
  have h2 : ¬ k < good t right a n := by
    intro hlt
    exact hb (good_ok t right n a k hlt)
  omega
theorem good_full {t : List Pg} {right a : Int} {n : Nat} (h : ∀ i, i < n → ch1 t right (a + i) = 0) : good t right a n = n := by
  have := good_le t right n a
  have h1 : ¬ good t right a n < n := by
    intro hlt
    exact good_bad t right n a hlt (h _ hlt)
  omega
/-- All that the iterator tells, if nobody stops it. -/
def yl (N : Nat) (t : List Pg) (right a : Int) (n : Nat) : List (Yb N) := ytk N t right a (if good t right a n = n then n else good t right a n + 1)
theorem yl_bad {N : Nat} {t : List Pg} {right a e : Int} {n k : Nat} (hk : k < n) (h : ∀ i, i < k → ch1 t right (a + (i : Nat)) = 0) (hb : ch1 t right (a + (k : Nat)) = e) (he : e = 81 ∨ e = 82) : ytk N t right a k ++ [.bad e he] = yl N t right a n := by
  have hg := good_eq hk h (by omega)
  unfold yl
  rw [hg, if_neg (by omega), ytk_succ, y1_bad hb he]
theorem yl_ok {N : Nat} {t : List Pg} {right a : Int} {k : Nat} (h : ch1 t right (a + (k : Nat)) = 0) (h2 : loc t (a + (k : Nat)) < N) : ytk N t right a k ++ [.ok (loc t (a + (k : Nat))) h2] = ytk N t right a (k + 1) := by
  rw [ytk_succ, y1_ok h h2]
theorem ytk_pre (N : Nat) (t : List Pg) (right a : Int) : ∀ (d k : Nat), ytk N t right a k <+: ytk N t right a (k + d) := by
  intro d
  induction d with
  | zero => intro k; exact List.prefix_refl _
  | succ d ih => intro k; rw [← Nat.add_assoc, ytk_succ]; exact (ih k).trans (List.prefix_append _ _)
theorem yl_pre {N : Nat} {t : List Pg} {right a : Int} {n k : Nat} (hk : k ≤ n) (h : ∀ i, i < k → ch1 t right (a + (i : Nat)) = 0) : ytk N t right a k <+: yl N t right a n := by
  unfold yl
  have h1 := good_le t right n a
  have h2 : k ≤ good t right a n := by
    apply Nat.le_of_not_lt
    intro hlt
    exact good_bad t right n a (by omega) (h _ hlt)
  split
  · obtain ⟨d, rfl⟩ : ∃ d, n = k + d := ⟨n - k, by omega⟩
    exact ytk_pre N t right a d k
  · obtain ⟨d, hd⟩ : ∃ d, good t right a n + 1 = k + d := ⟨good t right a n + 1 - k, by omega⟩
    rw [hd]
    exact ytk_pre N t right a d k
theorem ok_succ {t : List Pg} {right a : Int} {k : Nat} (h : ∀ i, i < k → ch1 t right (a + (i : Nat)) = 0) (h2 : ch1 t right (a + (k : Nat)) = 0) : ∀ i, i < k + 1 → ch1 t right (a + (i : Nat)) = 0 := by
  intro i hi
  by_cases hik : i = k
  · rw [hik]; exact h2
  · exact h i (by omega)
end Go.Proofs.YtbmaecdlkchkeaaGreatDoor
namespace Go.Proofs.YtbmaecdlkchkeaaGreatDoor
open Go.RowKit
set_option linter.unusedVariables false
def allOk {N : Nat} (l : List (Yb N)) : Prop := ∀ x ∈ l, ∃ j h, x = Yb.ok j h
/-- The byte of a place. -/
def yb (b : Nat → UInt8) {N : Nat} : Yb N → UInt8
  | .ok j _ => b j
  | .bad _ _ => 0
theorem y1_of {n : Nat} {t : List Pg} (hT : okT n t = true) {r a : Int} (h : ch1 t r a = 0) : y1 (n * 256) t r a = .ok (loc t a) (loc_lt hT h) := y1_ok h _
theorem y1_no {N : Nat} {t : List Pg} {r a : Int} (h : ch1 t r a ≠ 0) : ∃ he, y1 N t r a = .bad (ch1 t r a) he := by
  have he : ch1 t r a = 81 ∨ ch1 t r a = 82 := by rcases ch1_cases t r a with h1 | h1 | h1; exact absurd h1 h; exact .inl h1; exact .inr h1
  exact ⟨he, y1_bad rfl he⟩
theorem ytk_map {n : Nat} {t : List Pg} (hT : okT n t = true) {r a : Int} {k : Nat} (h : ∀ i, i < k → ch1 t r (a + (i : Nat)) = 0) (b : Nat → UInt8) : (ytk (n * 256) t r a k).map (yb b) = (List.range k).map fun (i : Nat) => b (loc t (a + (i : Int))) := by
  unfold ytk
  rw [List.map_map]
  refine List.map_congr_left (fun i hi => ?_)
  have hi' := List.mem_range.1 hi
  show yb b (y1 (n * 256) t r (a + (i : Int))) = _
  rw [y1_of hT (h i hi')]
  rfl
theorem yl_done {n : Nat} {t : List Pg} (hT : okT n t = true) {r a : Int} {k : Nat} (h : allOk (yl (n * 256) t r a k)) : (∀ i, i < k → ch1 t r (a + (i : Nat)) = 0) ∧ yl (n * 256) t r a k = ytk (n * 256) t r a k := by
  by_cases hg : good t r a k = k
  · refine ⟨fun i hi => good_ok t r k a i (by omega), ?_⟩
    unfold yl
    rw [if_pos hg]
  · exfalso
    have h1 := good_le t r k a
    have h2 := good_bad t r k a (by omega)
    unfold yl at h
    rw [if_neg hg, ytk_succ] at h
    obtain ⟨he, h3⟩ := y1_no (N := n * 256) h2
    rw [h3] at h
    obtain ⟨j, hj, h4⟩ := h (.bad (ch1 t r (a + (good t r a k : Nat))) he) (by simp)
    cases h4
theorem thr_zero {t : List Pg} {r a : Int} {k : Nat} (h : ∀ i, i < k → ch1 t r (a + (i : Nat)) = 0) : thr t r a k = 0 := by rw [thr_good, if_pos (good_full h)]
theorem thr_of_zero {t : List Pg} {r a : Int} {k : Nat} (h : thr t r a k = 0) : ∀ i, i < k → ch1 t r (a + (i : Nat)) = 0 := by
  have h1 := good_le t r k a
  rw [thr_good] at h
  by_cases hg : good t r a k = k
  · exact fun i hi => good_ok t r k a i (by omega)
  · rw [if_neg hg] at h
    exact absurd h (good_bad t r k a (by omega))
theorem ytk_at {N : Nat} {t : List Pg} {r a : Int} {K k : Nat} (h : k < K) : (ytk N t r a K)[k]? = some (y1 N t r (a + (k : Nat))) := by simp [ytk, h]
theorem yl_stop {n : Nat} {t : List Pg} (hT : okT n t = true) {r a e : Int} {k : Nat} {pre : List (Yb (n * 256))} {he : e = 81 ∨ e = 82} (h : pre ++ [.bad e he] <+: yl (n * 256) t r a k) : thr t r a k = e := by
  obtain ⟨rest, hr⟩ := h
  have hat : (yl (n * 256) t r a k)[pre.length]? = some (.bad e he) := by rw [← hr]; simp
  have key : ∀ K, yl (n * 256) t r a k = ytk (n * 256) t r a K → pre.length < K ∧ ch1 t r (a + (pre.length : Nat)) = e := by
    intro K hK
    rw [hK] at hat
    have hlt : pre.length < K := by
      have := (List.getElem?_eq_some_iff.1 hat).1
      rwa [ytk_len] at this
    rw [ytk_at hlt] at hat
    refine ⟨hlt, ?_⟩
    injection hat with hat
    by_cases hc : ch1 t r (a + (pre.length : Nat)) = 0
    · rw [y1_of hT hc] at hat; cases hat
    · obtain ⟨he', h3⟩ := y1_no (N := n * 256) hc
      rw [h3] at hat
      injection hat
  have h1 := good_le t r k a
  rw [thr_good]
  by_cases hg : good t r a k = k
  · obtain ⟨h2, h3⟩ := key k (by unfold yl; rw [if_pos hg])
    have := good_ok t r k a pre.length (by omega)
    omega
  · obtain ⟨h2, h3⟩ := key (good t r a k + 1) (by unfold yl; rw [if_neg hg])
    rw [if_neg hg]
    by_cases h4 : pre.length < good t r a k
    · have := good_ok t r k a pre.length h4
      omega
    · rw [show good t r a k = pre.length from by omega]
      exact h3
end Go.Proofs.YtbmaecdlkchkeaaGreatDoor
namespace Go.Proofs.YtbmaecdlkchkeaaGreatDoor
open Go.RowKit
set_option linter.unusedVariables false
set_option linter.unusedSimpArgs false

theorem ret_bool {a b : Bool} (h : a = b) : Ending.returned (.bool a) = .returned (.bool b) := by rw [h]
theorem ret_int {k : IntKind} {a b : Int} (h : a = b) : Ending.returned (.int k a) = .returned (.int k b) := by rw [h]
abbrev ptr (p : Nat) : Value := .pointer (some ⟨p, 0, none⟩)

/-- A slice of pages, in block b. -/
structure Tb (w : World) (b : Nat) (v : Value) (t : List Pg) : Prop where
  len : t.length ≤ maxLen
  form : ∃ A cap, v = .slice A t.length cap ∧ ∀ i p, t[i]? = some p → ∃ off, A = some ⟨b, off, none⟩ ∧ b < w.heap.size ∧ w.cell? ⟨b, off + i * 2, none⟩ = some (.int .i64 p.f) ∧ w.cell? ⟨b, off + i * 2 + 1, none⟩ = some (.int .i64 p.r)
theorem Tb.at_ {w : World} {b : Nat} {A : Option Addr} {n cap : Nat} {t : List Pg} (h : Tb w b (.slice A n cap) t) {i : Nat} {p : Pg} (hi : t[i]? = some p) : ∃ off, A = some ⟨b, off, none⟩ ∧ b < w.heap.size ∧ w.cell? ⟨b, off + i * 2, none⟩ = some (.int .i64 p.f) ∧ w.cell? ⟨b, off + i * 2 + 1, none⟩ = some (.int .i64 p.r) := by
  obtain ⟨_, A', cap', h1, h2⟩ := h
  injection h1 with hA _ _
  obtain ⟨off, h3, h4⟩ := h2 i p hi
  exact ⟨off, hA.trans h3, h4⟩
theorem Tb.fr {S : List Nat} {w w' : World} {b : Nat} {v : Value} {t : List Pg} (h : Tb w b v t) (hf : Fr S w w') (hb : b ∉ S) : Tb w' b v t := by
  obtain ⟨h0, A, cap, h1, h2⟩ := h
  refine ⟨h0, A, cap, h1, fun i p hi => ?_⟩
  obtain ⟨off, hA, hb', c0, c1⟩ := h2 i p hi
  have hs := hf.size
  exact ⟨off, hA, by omega, hf.cell_some c0 hb, hf.cell_some c1 hb⟩
theorem Tb.n_eq {w : World} {b : Nat} {A : Option Addr} {n cap : Nat} {t : List Pg} (h : Tb w b (.slice A n cap) t) : n = t.length := by
  obtain ⟨_, A', cap', h1, _⟩ := h
  injection h1

/-- The head of a memory: the slice of its frames. -/
structure Hd (w : World) (p F n : Nat) : Prop where
  hd : ∃ cap, Blk w p 123 #[.slice (some ⟨F, 0, none⟩) n cap] ∧ n ≤ cap ∧ cap ≤ maxLen
  n1 : 1 ≤ n
  n2 : n ≤ 160
theorem Hd.fr {S : List Nat} {w w' : World} {p F n : Nat} (h : Hd w p F n) (hf : Fr S w w') (hp : p ∉ S) : Hd w' p F n := by
  obtain ⟨⟨cap, hb, h1⟩, h2, h3⟩ := h
  exact ⟨⟨cap, hb.fr hf hp, h1⟩, h2, h3⟩
theorem Hd.lt {w : World} {p F n : Nat} (h : Hd w p F n) : p < w.heap.size := by
  obtain ⟨⟨cap, hb, h1⟩, h2, h3⟩ := h
  exact hb.lt
theorem Hd.cell {w : World} {p F n : Nat} (h : Hd w p F n) : ∃ cap, w.cell? ⟨p, 0, none⟩ = some (.slice (some ⟨F, 0, none⟩) n cap) ∧ n ≤ cap ∧ cap ≤ maxLen := by
  obtain ⟨⟨cap, hb, h1⟩, h2, h3⟩ := h
  exact ⟨cap, by rw [hb.cell]; rfl, h1⟩

theorem bad_cases (n : Nat) (f r : Int) : f < -1 ∨ (-1 ≤ f ∧ (n : Int) ≤ f) ∨ (-1 ≤ f ∧ f < n ∧ r < 0) ∨ (-1 ≤ f ∧ f < n ∧ 7 < r) ∨ (f = -1 ∧ 0 ≤ r ∧ r ≤ 7 ∧ r ≠ 0) ∨ (f = -1 ∧ r = 0) ∨ (0 ≤ f ∧ f < n ∧ 0 ≤ r ∧ r ≤ 7) := by omega
set_option maxHeartbeats 2000000 in
theorem bad_any (f r : Int) (p F n k : Nat) (w : World) (h : Hd w p F n) (hk : w.cell? ⟨k, 0, none⟩ = some (ptr p)) :
    Calls Tryz.prog 97 #[.agg #[.int .i64 f, .int .i64 r], ptr k] w fun e w' => e = .returned (.bool (!okP n ⟨f, r⟩)) ∧ Fr [] w w' := by
  obtain ⟨cap, hc, -, -⟩ := h.cell
  have hn := h.n1
  have hpl := h.lt
  have hkl : k < w.heap.size := World.block_lt_of_cell? w _ hk
  clear h
  rcases bad_cases n f r with h1 | ⟨h0, h1⟩ | ⟨h0, h1, h2⟩ | ⟨h0, h1, h2⟩ | ⟨rfl, h1, h2, h3⟩ | ⟨rfl, rfl⟩ | ⟨h0, h1, h2, h3⟩
  · have e := Lib.hid (okP_not n ⟨f, r⟩ (by simp only; omega))
    have d0 : decide (f < -1) = true := by rw [decide_eq_true_iff]; omega
    go_enter Tryz.func97, Tryz.ntmps97
    go_wp2_with fail
    go_quiet (fail)
    go_wp2_with fail
    go_ret
    exact ⟨ret_bool (by rw [e.out]; rfl), ((Fr.refl _ w).alloc _).drewN _⟩
  · have e := Lib.hid (okP_not n ⟨f, r⟩ (by simp only; omega))
    have d0 : decide (f < -1) = false := by rw [decide_eq_false_iff_not]; omega
    have d1 : decide ((n : Int) ≤ f) = true := by rw [decide_eq_true_iff]; omega
    go_enter Tryz.func97, Tryz.ntmps97
    go_wp2_with fail
    go_quiet (fail)
    go_wp2_with fail
    go_ret
    exact ⟨ret_bool (by rw [e.out]; rfl), ((Fr.refl _ w).alloc _).drewN _⟩
  · have e := Lib.hid (okP_not n ⟨f, r⟩ (by simp only; omega))
    have d0 : decide (f < -1) = false := by rw [decide_eq_false_iff_not]; omega
    have d1 : decide ((n : Int) ≤ f) = false := by rw [decide_eq_false_iff_not]; omega
    have d2 : decide (r < 0) = true := by rw [decide_eq_true_iff]; omega
    go_enter Tryz.func97, Tryz.ntmps97
    go_wp2_with fail
    go_quiet (fail)
    go_wp2_with fail
    go_ret
    exact ⟨ret_bool (by rw [e.out]; rfl), ((Fr.refl _ w).alloc _).drewN _⟩
  · have e := Lib.hid (okP_not n ⟨f, r⟩ (by simp only; omega))
    have d0 : decide (f < -1) = false := by rw [decide_eq_false_iff_not]; omega
    have d1 : decide ((n : Int) ≤ f) = false := by rw [decide_eq_false_iff_not]; omega
    have d2 : decide (r < 0) = false := by rw [decide_eq_false_iff_not]; omega
    have d3 : decide (7 < r) = true := by rw [decide_eq_true_iff]; omega
    go_enter Tryz.func97, Tryz.ntmps97
    go_wp2_with fail
    go_quiet (fail)
    go_wp2_with fail
    go_ret
    exact ⟨ret_bool (by rw [e.out]; rfl), ((Fr.refl _ w).alloc _).drewN _⟩
  · have e := Lib.hid (okP_not n ⟨-1, r⟩ (by simp only; omega))
    have d0 : decide ((n : Int) ≤ -1) = false := by rw [decide_eq_false_iff_not]; omega
    have d1 : decide (r < 0) = false := by rw [decide_eq_false_iff_not]; omega
    have d2 : decide (7 < r) = false := by rw [decide_eq_false_iff_not]; omega
    have d3 : (r != 0) = true := by rw [bne_iff_ne]; omega
    go_enter Tryz.func97, Tryz.ntmps97
    go_wp2_with fail
    go_quiet (fail)
    go_wp2_with fail
    go_ret
    exact ⟨ret_bool (by rw [e.out]; rfl), ((Fr.refl _ w).alloc _).drewN _⟩
  · have e := Lib.hid ((okP_iff n ⟨-1, 0⟩).2 ⟨by simp, by simp only; omega, by simp, by simp, fun _ => rfl⟩)
    have d0 : decide ((n : Int) ≤ -1) = false := by rw [decide_eq_false_iff_not]; omega
    go_enter Tryz.func97, Tryz.ntmps97
    go_wp2_with fail
    go_quiet (fail)
    go_wp2_with fail
    go_ret
    exact ⟨ret_bool (by rw [e.out]; rfl), ((Fr.refl _ w).alloc _).drewN _⟩
  · have e := Lib.hid ((okP_iff n ⟨f, r⟩).2 (by simp only; omega))
    have d0 : decide (f < -1) = false := by rw [decide_eq_false_iff_not]; omega
    have d1 : decide ((n : Int) ≤ f) = false := by rw [decide_eq_false_iff_not]; omega
    have d2 : decide (r < 0) = false := by rw [decide_eq_false_iff_not]; omega
    have d3 : decide (7 < r) = false := by rw [decide_eq_false_iff_not]; omega
    have d4 : decide (f < 0) = false := by rw [decide_eq_false_iff_not]; omega
    go_enter Tryz.func97, Tryz.ntmps97
    go_wp2_with fail
    go_quiet (fail)
    go_wp2_with fail
    go_ret
    exact ⟨ret_bool (by rw [e.out]; rfl), ((Fr.refl _ w).alloc _).drewN _⟩

/-- What IndexFunc finds: the first page that may not be. -/
def IdxP (w : World) (n : Nat) (t : List Pg) (e : Ending) (w' : World) : Prop := ∃ k : Int, e = .returned (.int .i64 k) ∧ (decide (0 ≤ k) = !t.all (okP n)) ∧ Fr [] w w'
set_option maxHeartbeats 1000000 in
theorem idx_any (b p F n k m cap : Nat) (A : Option Addr) (t : List Pg) (w : World) (ht : Tb w b (.slice A m cap) t) (h : Hd w p F n) (hk : w.cell? ⟨k, 0, none⟩ = some (ptr p)) (hm : m ≤ 16) :
    Calls Tryz.prog 117 #[.slice A m cap, .func (.func 97) #[] #[ptr k]] w (IdxP w n t) := by
  have H := Lib.hid ht
  have hl := Lib.hid ht.n_eq
  have HH := Lib.hid h
  have HK := Lib.hid hk
  clear ht h hk
  go_enter Tryz.func117, Tryz.ntmps117
  go_wp2
  go_loopg [8] m (fun g i wr => ∃ j : Nat, j + g = m ∧ i = .int .i64 j ∧ (t.take j).all (okP n) = true ∧ Fr [] w wr)
  case atStart => exact ⟨0, by omega, rfl, by simp, Fr.refl _ _⟩
  case round =>
    obtain ⟨j, hj, rfl, hall, hfr⟩ := hrel
    have Hj := Lib.hid hj
    have Hall := Lib.hid hall
    clear hj hall
    by_cases hlt : j < m
    · obtain ⟨⟨f, r⟩, hx⟩ : ∃ x, t[j]? = some x := ⟨_, List.getElem?_eq_getElem (by have := hl.out; omega)⟩
      obtain ⟨off, hA, hbl, c0, c1⟩ := (H.out.fr hfr (by simp)).at_ hx
      subst hA
      have Hx := Lib.hid hx
      clear hx
      simp only at c0 c1
      have hb := bad_any f r p F n k wr (HH.out.fr hfr (by simp)) (hfr.cell_some HK.out (by simp))
      cases hm' : okP n ⟨f, r⟩ with
      | true =>
        rw [hm'] at hb
        have Hb := Lib.hid hb
        have Hm := Lib.hid hm'
        clear hb hm'
        go_wp2_with (first
          | (go_at_call 97; go_must ((with_reducible refine (Hb.out).mono ?_); rintro e w1 ⟨rfl, hf1⟩))
          | fail)
        go_roundg (m - (j + 1))
        case measure => have := Hj.out; omega
        case rel => exact ⟨j + 1, by have := Hj.out; omega, by go_num, by rw [List.take_add_one, Hx.out]; simp [Hm.out]; simpa using Hall.out, hfr.trans hf1⟩
      | false =>
        rw [hm'] at hb
        have Hb := Lib.hid hb
        have Hm := Lib.hid hm'
        clear hb hm'
        go_wp2_with (first
          | (go_at_call 97; go_must ((with_reducible refine (Hb.out).mono ?_); rintro e w1 ⟨rfl, hf1⟩))
          | fail)
        go_ret
        refine ⟨j, rfl, ?_, hfr.trans hf1⟩
        have : t.all (okP n) = false := by
          rw [List.all_eq_false]
          exact ⟨⟨f, r⟩, List.mem_of_getElem? Hx.out, by simp [Hm.out]⟩
        simp [this]
    · go_wp2
      go_ret
      refine ⟨-1, rfl, ?_, hfr⟩
      have h1 := Hall.out
      rw [List.take_of_length_le (by have := hl.out; omega)] at h1
      simp [h1]
set_option maxHeartbeats 400000 in
theorem contains_any (b p F n k m cap : Nat) (A : Option Addr) (t : List Pg) (w : World) (ht : Tb w b (.slice A m cap) t) (h : Hd w p F n) (hk : w.cell? ⟨k, 0, none⟩ = some (ptr p)) (hm : m ≤ 16) :
    Calls Tryz.prog 98 #[.slice A m cap, .func (.func 97) #[] #[ptr k]] w fun e w' => e = .returned (.bool (!t.all (okP n))) ∧ Fr [] w w' := by
  have HI := Lib.hid (idx_any b p F n k m cap A t w ht h hk hm)
  clear ht h hk
  go_enter Tryz.func98, Tryz.ntmps98
  go_wp2_with (go_at_call 117; go_must ((with_reducible refine HI.out.mono ?_); rintro e w1 ⟨m, rfl, hm, hf1⟩; have Hm := Lib.hid hm; clear hm))
  go_ret
  exact ⟨by rw [← Hm.out]; rfl, hf1⟩
set_option maxHeartbeats 400000 in
theorem MCheck_any (b p F n m cap : Nat) (A : Option Addr) (t : List Pg) (w : World) (ht : Tb w b (.slice A m cap) t) (h : Hd w p F n) :
    Calls Tryz.prog 77 #[ptr p, .slice A m cap] w fun e w' => e = .returned (.int .i64 (chT n t)) ∧ Fr [] w w' := by
  have hl := Lib.hid ht.n_eq
  have hml : m ≤ 9223372036854775807 := by have := ht.len; have := hl.out; simp only [maxLen] at *; omega
  by_cases hb : 16 < m
  · have e := Lib.hid (show chT n t = 84 from by
      unfold chT okT
      rw [if_neg]
      simp
      intro h
      have := hl.out
      omega)
    clear ht h
    go_enter Tryz.func77, Tryz.ntmps77
    go_wp2_with fail
    go_ret
    exact ⟨ret_int (by rw [e.out]), (Fr.refl _ _).alloc _⟩
  · have hb' : m ≤ 16 := by omega
    have hc := contains_any b p F n w.heap.size m cap A t (w.alloc (.cells #[ptr p] 41)) (ht.fr ((Fr.refl [] w).alloc _) (by simp)) (h.fr ((Fr.refl [] w).alloc _) (by simp)) ((Blk.new w 41 #[ptr p]).cell 0) hb'
    cases hm : t.all (okP n) with
    | true =>
      rw [hm] at hc
      have Hc := Lib.hid hc
      have e := Lib.hid (show chT n t = 0 from by
        unfold chT okT
        rw [if_pos]
        simp [hm]
        have := hl.out
        omega)
      clear hc hm ht h
      go_enter Tryz.func77, Tryz.ntmps77
      go_wp2_with (go_at_call 98; go_must ((with_reducible refine Hc.out.mono ?_); rintro e w1 ⟨rfl, hf1⟩))
      go_ret
      exact ⟨ret_int (by rw [e.out]), ((Fr.refl _ _).alloc _).trans hf1⟩
    | false =>
      rw [hm] at hc
      have Hc := Lib.hid hc
      have e := Lib.hid (show chT n t = 84 from by
        unfold chT okT
        rw [if_neg]
        simp [hm])
      clear hc hm ht h
      go_enter Tryz.func77, Tryz.ntmps77
      go_wp2_with (go_at_call 98; go_must ((with_reducible refine Hc.out.mono ?_); rintro e w1 ⟨rfl, hf1⟩))
      go_ret
      exact ⟨ret_int (by rw [e.out]), ((Fr.refl _ _).alloc _).trans hf1⟩
end Go.Proofs.YtbmaecdlkchkeaaGreatDoor
namespace Go.Proofs.YtbmaecdlkchkeaaGreatDoor
open Go.RowKit
set_option linter.unusedVariables false
set_option linter.unusedSimpArgs false

theorem chT_bad {n : Nat} {t : List Pg} {j : Nat} {p : Pg} (hp : t[j]? = some p) (h : okP n p = false) : (84 : Int) = chT n t := by
  unfold chT okT
  rw [if_neg]
  have : t.all (okP n) = false := by
    rw [List.all_eq_false]
    exact ⟨p, List.mem_of_getElem? hp, by simp [h]⟩
  simp [this]
theorem all_step {n : Nat} {t : List Pg} {j : Nat} {p : Pg} (hp : t[j]? = some p) (ha : (t.take j).all (okP n) = true) (h : okP n p = true) : (t.take (j + 1)).all (okP n) = true := by
  rw [List.take_add_one, hp]
  simp only [List.all_append, ha, Option.toList_some, List.all_cons, h, List.all_nil, Bool.and_true]
end Go.Proofs.YtbmaecdlkchkeaaGreatDoor
namespace Go.Proofs.YtbmaecdlkchkeaaGreatDoor
open Go.RowKit
set_option linter.unusedVariables false
set_option linter.unusedSimpArgs false
end Go.Proofs.YtbmaecdlkchkeaaGreatDoor
namespace Go.Proofs.YtbmaecdlkchkeaaGreatDoor
open Go.RowKit
set_option linter.unusedVariables false
set_option maxRecDepth 100000
set_option linter.unusedSimpArgs false
/-- A memory of the program. -/
structure MemAt (w : World) (p F : Nat) (st : St) : Prop where
  hd : Hd w p F st.n
  fr : ∃ cs, Blk w F 125 cs ∧ ∀ j, j < st.n * 256 → cs[j]? = some (.int .u8 ((st.b j).toNat : Int))
theorem MemAt.to {S : List Nat} {w w' : World} {p F : Nat} {st : St} (h : MemAt w p F st) (hf : Fr S w w') (hp : p ∉ S) (hF : F ∉ S) : MemAt w' p F st := by
  obtain ⟨hd, cs, hb, hc⟩ := h
  exact ⟨hd.fr hf hp, cs, hb.fr hf hF, hc⟩
theorem MemAt.ltF {w : World} {p F : Nat} {st : St} (h : MemAt w p F st) : F < w.heap.size := by
  obtain ⟨hd, cs, hb, hc⟩ := h
  exact hb.lt
theorem MemAt.ne {w : World} {p F : Nat} {st : St} (h : MemAt w p F st) : p ≠ F := by
  obtain ⟨⟨⟨cap, hb', _⟩, _⟩, cs, hb, hc⟩ := h
  exact hb'.ne_ hb (by decide)
theorem MemAt.cell {w : World} {p F : Nat} {st : St} (h : MemAt w p F st) {j : Nat} (hj : j < st.n * 256) : w.cell? ⟨F, j, none⟩ = some (.int .u8 ((st.b j).toNat : Int)) := by
  obtain ⟨hd, cs, hb, hc⟩ := h
  rw [hb.cell, hc j hj]
theorem MemAt.frozen {w : World} {p F : Nat} {st : St} (h : MemAt w p F st) (j : Nat) : w.frozen? ⟨F, j, none⟩ = false := by
  obtain ⟨hd, cs, hb, hc⟩ := h
  exact hb.frozen j

set_option maxHeartbeats 400000 in
theorem New_bad (k : Int) (w : World) (h : k < 1 ∨ 160 < k) : Calls Tryz.prog 33 #[.int .i64 k] w fun e w' => e = .returned (.tuple #[.pointer none, .int .i64 80]) ∧ w = w' := by
  rcases h with h | h
  · go_enter Tryz.func33, Tryz.ntmps33
    go_wp2
    go_ret2
    exact ⟨rfl, rfl⟩
  · have h' : ¬ k < 1 := by omega
    go_enter Tryz.func33, Tryz.ntmps33
    go_wp2
    go_ret2
    exact ⟨rfl, rfl⟩
theorem Tryz.info125 : (Tryz.prog.info? 125).map (fun i => (i.size, i.bytes)) = some (256, 256) := by kernel_rfl
theorem Tryz.zero125 : (Tryz.prog.info? 125).map (fun i => i.zero) = some (some (.agg (Array.replicate 256 (.int .u8 0)))) := by kernel_rfl
/-- A make of frames: zeros. -/
theorem make_frames (n : Nat) (hn : n ≤ 160) : ∃ Z : Array Value, (∀ w : World, (Instr.makeSlice 121 (.int .i64 n) (.int .i64 n)).run Tryz.prog w = .ok (.slice (some ⟨w.heap.size, 0, none⟩) n n) (w.alloc (.cells Z 125))) ∧ ∀ j, j < n * 256 → Z[j]? = some (.int .u8 0) := by
  have h1 := Tryz.info125
  have h2 := Tryz.zero125
  cases hi : Tryz.prog.info? 125 with
  | none => rw [hi] at h1; cases h1
  | some i =>
    rw [hi] at h1 h2
    simp only [Option.map_some, Option.some.injEq, Prod.mk.injEq] at h1 h2
    refine ⟨madeCells (Value.agg (Array.replicate 256 (.int .u8 0))).cells (n * 256), fun w => ?_, fun j hj => ?_⟩
    · have := run_make (P := Tryz.prog) w 121 125 i _ Tryz.underlying121 hi h2 .i64 .i64 n n (by omega) (by omega) (by rw [h1.2]; omega) (by omega)
      rw [h1.1] at this
      simpa using this
    · have h3 : (Value.agg (Array.replicate 256 (.int .u8 0))).cells = Array.replicate 256 (.int .u8 0) := rfl
      rw [h3]
      simp [madeCells, hj, Array.getElem?_range]
      rw [Array.getElem!_eq_getD, Array.getD_eq_getD_getElem?]
      have : j % 256 < 256 := Nat.mod_lt _ (by omega)
      simp [this]
theorem New_ok (n : Nat) (w : World) (h1 : 1 ≤ n) (h2 : n ≤ 160) : Calls Tryz.prog 33 #[.int .i64 n] w fun e w' => e = .returned (.tuple #[ptr (w.heap.size + 1), .int .i64 0]) ∧ MemAt w' (w.heap.size + 1) w.heap.size ⟨n, fun _ => 0⟩ ∧ Fr [] w w' := by
  have h1' : ¬ (n : Int) < 1 := by omega
  have h2' : ¬ (160 : Int) < n := by omega
  obtain ⟨Z, hmk, hz⟩ := make_frames n h2
  have Hz := Lib.hid hz
  clear hz
  go_enter Tryz.func33, Tryz.ntmps33
  go_wp2
  go_ret2
  refine ⟨rfl, ⟨⟨⟨n, ?_, Nat.le_refl _, by simp [maxLen]; omega⟩, h1, h2⟩, Z, (Blk.new w 125 Z).alloc _, fun j hj => Hz.out j hj⟩, ((Fr.refl _ _).alloc _).alloc _⟩
  have := Blk.new (w.alloc (.cells Z 125)) 123 #[.slice (some ⟨w.heap.size, 0, none⟩) n n]
  rwa [World.size_alloc] at this
/-- A string made of bytes in memory. -/
theorem conv_list {w : World} {g o n cap : Nat} (l : List UInt8) (hn : l.length = n) (hc : ∀ (j : Nat) (c : UInt8), l[j]? = some c → w.cell? ⟨g, o + j, none⟩ = some (.int .u8 (c.toNat : Int))) : (convert 64 9 (.slice (some ⟨g, o, none⟩) n cap)).run Tryz.prog w = .ok (.string ⟨l.toArray⟩) w := by
  subst hn
  refine run_convert_bytes_back (P := Tryz.prog) w 64 9 5 ⟨g, o, none⟩ cap l Tryz.underlying64 Tryz.underlying5 Tryz.underlying9 (fun j hj => ?_)
  rw [addr_add]
  exact hc j _ (List.getElem?_eq_getElem hj)
theorem conv_frame {w : World} {p F : Nat} {st : St} (h : MemAt w p F st) {f : Nat} (hf : f < st.n) : (convert 64 9 (.slice (some ⟨F, f * 256, none⟩) 256 256)).run Tryz.prog w = .ok (.string (frS st f)) w := by
  refine conv_list (frB st f) (frB_len st f) (fun j c hj => ?_)
  have hj' : j < 256 := by have := (List.getElem?_eq_some_iff.1 hj).1; rwa [frB_len] at this
  rw [frB_at st f j hj'] at hj
  injection hj with hj
  subst hj
  exact h.cell (by omega)
end Go.Proofs.YtbmaecdlkchkeaaGreatDoor
namespace Go.Proofs.YtbmaecdlkchkeaaGreatDoor
open Go.RowKit
set_option linter.unusedVariables false
set_option maxRecDepth 100000
set_option linter.unusedSimpArgs false
theorem Fr.setRow {S : List Nat} {w0 w : World} (h : Fr S w0 w) {g : Nat} (hg : g ∈ S ∨ w0.heap.size ≤ g) (cs : Array Value) : Fr S w0 (w.setRow g cs) :=
  ⟨h.os, h.tape, h.output, by simpa [World.setRow] using h.size, fun k hk hn => (setRow_other w g k cs (by
    rintro rfl
    rcases hg with hg | hg
    · exact hn hg
    · omega)).trans (h.block k hk hn)⟩
/-- The cells say the bytes. -/
def Says (cs : Array Value) (n : Nat) (b : Nat → UInt8) : Prop := ∀ j, j < n → cs[j]? = some (.int .u8 ((b j).toNat : Int))
theorem Says.upd {cs : Array Value} {n : Nat} {b : Nat → UInt8} (h : Says cs n b) (k : Nat) (c : UInt8) : Says (cs.setIfInBounds k (.int .u8 (c.toNat : Int))) n (upd b k c) := by
  intro j hj
  have h1 := h j hj
  by_cases hjk : j = k
  · subst hjk
    rw [Array.getElem?_setIfInBounds_self_of_lt (Array.getElem?_eq_some_iff.1 h1).1]
    unfold Go.Proofs.YtbmaecdlkchkeaaGreatDoor.upd
    rw [if_pos rfl]
  · rw [Array.getElem?_setIfInBounds_ne (Ne.symm hjk), h1, upd_ne hjk]
def bv (c : UInt8) : Value := .int .u8 (c.toNat : Int)
/-- The cells once bytes were stored from a place on. -/
def putC : Array Value → Nat → List Value → Array Value
  | cs, _, [] => cs
  | cs, k, v :: vs => putC (cs.setIfInBounds k v) (k + 1) vs
theorem Blk.setCells {g : Nat} {t : TypeId} : ∀ (vs : List Value) (cs : Array Value) (k : Nat) (w : World), Blk w g t cs → Blk (w.setCells g k vs) g t (putC cs k vs) := by
  intro vs
  induction vs with
  | nil => intro cs k w h; exact h
  | cons v vs ih => intro cs k w h; exact ih _ _ _ (h.set_ k v)
theorem Fr.setCells {S : List Nat} {w : World} {g : Nat} (hg : g ∈ S ∨ w.heap.size ≤ g) : ∀ (vs : List Value) (k : Nat) (w' : World), Fr S w w' → Fr S w (w'.setCells g k vs) := by
  intro vs
  induction vs with
  | nil => intro k w' h; exact h
  | cons v vs ih => intro k w' h; exact ih _ _ (h.setCell hg v)
theorem Says.putC {n : Nat} : ∀ (s : List UInt8) (cs : Array Value) (k : Nat) (b : Nat → UInt8), Says cs n b → Says (putC cs k (s.map bv)) n (putL b k s) := by
  intro s
  induction s with
  | nil => intro cs k b h; exact h
  | cons c s ih => intro cs k b h; exact ih _ _ _ (h.upd k c)
theorem byteCells_bv (s : List UInt8) : Lib.byteCells s = s.map bv := rfl
/-- What a copy of a text lays. -/
theorem Says.splice {n : Nat} {cs : Array Value} {b : Nat → UInt8} (h : Says cs n b) (k : Nat) (s : List UInt8) (hk : k + s.length ≤ n) : Says (cs.toList.take k ++ Lib.byteCells s ++ cs.toList.drop (k + s.length)).toArray n (putL b k s) := by
  intro j hj
  have hsz : n ≤ cs.size := by
    cases hn : n with
    | zero => omega
    | succ m =>
      have := (Array.getElem?_eq_some_iff.1 (h m (by omega))).1
      omega
  rw [byteCells_bv]
  simp only [List.getElem?_toArray]
  by_cases h1 : j < k
  · rw [List.append_assoc, List.getElem?_append_left (by simp; omega), List.getElem?_take, if_pos h1, putL_out _ _ _ _ (by omega)]
    have := h j hj
    simpa using this
  · by_cases h2 : j < k + s.length
    · obtain ⟨c, hc⟩ : ∃ c, s[j - k]? = some c := ⟨_, List.getElem?_eq_getElem (by omega)⟩
      have := putL_in s b k (j - k) c hc
      rw [show k + (j - k) = j from by omega] at this
      rw [this, List.getElem?_append_left (by simp; omega), List.getElem?_append_right (by simp; omega)]
      simp only [List.length_take, Array.length_toList, Nat.min_eq_left (by omega : k ≤ cs.size), List.getElem?_map, hc, Option.map_some]
      rfl
    · rw [List.getElem?_append_right (by simp; omega), putL_out _ _ _ _ (by omega)]
      have := h j hj
      simp only [List.length_append, List.length_take, Array.length_toList, Nat.min_eq_left (by omega : k ≤ cs.size), List.length_map, List.getElem?_drop]
      rw [show k + s.length + (j - (k + s.length)) = j from by omega]
      simpa using this
theorem MemAt.of {w : World} {p F : Nat} {n : Nat} {b : Nat → UInt8} {cs : Array Value} (hd : Hd w p F n) (hb : Blk w F 125 cs) (h : Says cs (n * 256) b) : MemAt w p F ⟨n, b⟩ := ⟨hd, cs, hb, h⟩
theorem MemAt.says {w : World} {p F : Nat} {st : St} (h : MemAt w p F st) : ∃ cs, Blk w F 125 cs ∧ Says cs (st.n * 256) st.b := h.fr

/-- What Lay leaves, and tells. -/
def layE (n : Nat) (f a : Int) (s : ByteArray) : Int := if f < 0 ∨ (n : Int) ≤ f then 83 else if a < 0 ∨ 256 < a ∨ 256 - a < s.size then 80 else 0
def LayP (w : World) (p F : Nat) (st : St) (f a : Int) (s : ByteArray) (e : Ending) (w' : World) : Prop :=
  e = .returned (.int .i64 (layE st.n f a s)) ∧ MemAt w' p F (if layE st.n f a s = 0 then ⟨st.n, putL st.b (f.toNat * 256 + a.toNat) s.data.toList⟩ else st) ∧ Fr [F] w w'
set_option maxHeartbeats 400000 in
theorem Lay_bad (p F : Nat) (st : St) (w : World) (f a : Int) (s : ByteArray) (h : MemAt w p F st) (hs : s.size ≤ 1152921504606846976) (hb : (f < 0 ∨ (st.n : Int) ≤ f) ∨ (a < 0 ∨ 256 < a ∨ 256 - a < s.size)) :
    Calls Tryz.prog 37 #[ptr p, .int .i64 f, .int .i64 a, .string s] w fun e w' => e = .returned (.int .i64 (layE st.n f a s)) ∧ w = w' := by
  obtain ⟨cap, hc, -, -⟩ := h.hd.cell
  have e0 : (if f < 0 ∨ (st.n : Int) ≤ f then (83 : Int) else 80) = layE st.n f a s := by
    unfold layE
    by_cases h1 : f < 0 ∨ (st.n : Int) ≤ f
    · rw [if_pos h1, if_pos h1]
    · rw [if_neg h1, if_neg h1, if_pos (hb.resolve_left h1)]
  have E := Lib.hid e0
  clear h e0
  obtain ⟨N, hN⟩ : ∃ N, s.size = N := ⟨_, rfl⟩
  rw [hN] at hb hs
  by_cases h1 : f < 0
  · rw [if_pos (.inl h1)] at E
    go_enter Tryz.func37, Tryz.ntmps37
    go_wp2
    go_ret
    exact ⟨ret_int E.out, rfl⟩
  · by_cases h2 : (st.n : Int) ≤ f
    · rw [if_pos (.inr h2)] at E
      go_enter Tryz.func37, Tryz.ntmps37
      go_wp2
      go_ret
      exact ⟨ret_int E.out, rfl⟩
    · rw [if_neg (by omega)] at E
      have hb' := hb.resolve_left (by omega)
      by_cases h3 : a < 0
      · clear hb hb'
        go_enter Tryz.func37, Tryz.ntmps37
        go_wp2
        go_ret
        exact ⟨ret_int E.out, rfl⟩
      · by_cases h4 : 256 < a
        · clear hb hb'
          go_enter Tryz.func37, Tryz.ntmps37
          go_wp2
          go_ret
          exact ⟨ret_int E.out, rfl⟩
        · have h5 : 256 - a < (N : Int) := by omega
          clear hb hb'
          go_enter Tryz.func37, Tryz.ntmps37
          go_wp2
          go_ret
          exact ⟨ret_int E.out, rfl⟩
theorem Tryz.size5 : (Tryz.prog.info? 5).map (fun i => i.size) = some 1 := by kernel_rfl
theorem Tryz.size5' : ((Tryz.prog.info? 5).map (fun i => i.size)).isSome = true := by kernel_rfl
set_option maxRecDepth 100000 in
set_option maxHeartbeats 400000 in
theorem Lay_ok (p F : Nat) (st : St) (w : World) (f a : Nat) (s : ByteArray) (h : MemAt w p F st) (hf : f < st.n) (ha : a + s.size ≤ 256) :
    Calls Tryz.prog 37 #[ptr p, .int .i64 f, .int .i64 a, .string s] w fun e w' => e = .returned (.int .i64 0) ∧ MemAt w' p F ⟨st.n, putL st.b (f * 256 + a) s.data.toList⟩ ∧ Fr [F] w w' := by
  obtain ⟨cap, hc, hcap, hcm⟩ := h.hd.cell
  obtain ⟨cs, hb, hsay⟩ := h.says
  have hd := h.hd
  have hne := h.ne
  have eS : s.data.toList.length = s.size := rfl
  have hcs : st.n * 256 ≤ cs.size := by
    have hn := h.hd.n1
    have := (Array.getElem?_eq_some_iff.1 (hsay (st.n * 256 - 1) (by omega))).1
    omega
  have h1 : ¬ (st.n : Int) ≤ (f : Int) := by omega
  have h1' : (f : Int) < (st.n : Int) := by omega
  have h2 : ¬ (256 : Int) < (a : Int) := by omega
  by_cases h0 : s.size = 0
  · have hr := fun d dl dc => Lib.run_copy_empty_string (P := Tryz.prog) w 64 9 3 5 d dl dc s Tryz.underlying64 Tryz.size5' h0
    have e0 : putL st.b (f * 256 + a) s.data.toList = st.b := by
      rw [List.eq_nil_of_length_eq_zero (by omega : s.data.toList.length = 0)]
      rfl
    have HM := Lib.hid h
    have E0 := Lib.hid e0
    have h3 : ¬ (256 : Int) - (a : Int) < 0 := by omega
    have h4 : (a : Int) ≤ 256 := by omega
    have h5 : (0 : Int) ≤ (a : Int) := by omega
    clear h hb hsay hd e0 eS ha
    by_cases ha' : a = 256
    · subst ha'
      go_enter Tryz.func37, Tryz.ntmps37
      go_wp2_with (with_reducible refine Lib.wpList_copy_run _ rfl (.tmp 40) (.tmp 41) 64 9 rfl _ _ rfl rfl (hr _ _ _) ?_)
      go_ret
      refine ⟨rfl, ?_, Fr.refl _ _⟩
      rw [E0.out]
      exact HM.out
    · go_enter Tryz.func37, Tryz.ntmps37
      go_wp2_with (with_reducible refine Lib.wpList_copy_run _ rfl (.tmp 40) (.tmp 41) 64 9 rfl _ _ rfl rfl (hr _ _ _) ?_)
      go_ret
      refine ⟨rfl, ?_, Fr.refl _ _⟩
      rw [E0.out]
      exact HM.out
  · have hr := fun dc => Lib.run_copy_row_string (P := Tryz.prog) w 64 9 3 5 F (f * 256 + a) (256 - a) dc s cs 125 Tryz.underlying64 Tryz.size5 hb (by omega) (by omega)
    have hblk : Blk (w.setRow F (cs.toList.take (f * 256 + a) ++ Lib.byteCells s.data.toList ++ cs.toList.drop (f * 256 + a + s.size)).toArray) F 125 (cs.toList.take (f * 256 + a) ++ Lib.byteCells s.data.toList ++ cs.toList.drop (f * 256 + a + s.size)).toArray := setRow_heap w F _ _ 125 _ hb
    have hfr : Fr [F] w (w.setRow F (cs.toList.take (f * 256 + a) ++ Lib.byteCells s.data.toList ++ cs.toList.drop (f * 256 + a + s.size)).toArray) := (Fr.refl _ w).setRow (.inl (by simp)) _
    have hs2 := hsay.splice (f * 256 + a) s.data.toList (by omega)
    rw [eS] at hs2
    have HM : Hid (MemAt _ p F ⟨st.n, putL st.b (f * 256 + a) s.data.toList⟩) := Lib.hid (MemAt.of (hd.fr hfr (by simpa using hne)) hblk hs2)
    have HF := Lib.hid hfr
    have ha2 : a < 256 := by omega
    obtain ⟨N, hN⟩ : ∃ N, s.size = N := ⟨_, rfl⟩
    have h3 : ¬ (256 : Int) - (a : Int) < (N : Int) := by omega
    have h4 : (a : Int) ≤ 256 := by omega
    have h5 : (0 : Int) ≤ (a : Int) := by omega
    have h6 : ¬ a = 256 := by omega
    clear h hb hsay hd eS ha hs2 hblk hfr
    generalize w.setRow F (cs.toList.take (f * 256 + a) ++ Lib.byteCells s.data.toList ++ cs.toList.drop (f * 256 + a + s.size)).toArray = W at *
    rw [hN] at hr
    go_enter Tryz.func37, Tryz.ntmps37
    go_wp2_with (with_reducible refine Lib.wpList_copy_run _ rfl (.tmp 40) (.tmp 41) 64 9 rfl _ _ rfl rfl (hr _) ?_)
    go_ret
    exact ⟨rfl, HM.out, HF.out⟩
theorem Lay_any (p F : Nat) (st : St) (w : World) (f a : Int) (s : ByteArray) (h : MemAt w p F st) (hs : s.size ≤ 1152921504606846976) : Calls Tryz.prog 37 #[ptr p, .int .i64 f, .int .i64 a, .string s] w (LayP w p F st f a s) := by
  by_cases hb : (f < 0 ∨ (st.n : Int) ≤ f) ∨ (a < 0 ∨ 256 < a ∨ 256 - a < s.size)
  · refine (Lay_bad p F st w f a s h hs hb).mono fun e w' ⟨he, hw⟩ => ?_
    subst hw
    refine ⟨he, ?_, Fr.refl _ _⟩
    have hne : layE st.n f a s ≠ 0 := by
      unfold layE
      rcases hb with h1 | h1
      · rw [if_pos h1]; omega
      · split
        · omega
        · first | omega | (rw [if_pos h1]; omega)
    rw [if_neg hne]
    exact h
  · obtain ⟨f', rfl⟩ := Int.eq_ofNat_of_zero_le (by omega : 0 ≤ f)
    obtain ⟨a', rfl⟩ := Int.eq_ofNat_of_zero_le (by omega : 0 ≤ a)
    have h0 : layE st.n f' a' s = 0 := by
      unfold layE
      rw [if_neg (by omega), if_neg (by omega)]
    refine (Lay_ok p F st w f' a' s h (by omega) (by omega)).mono fun e w' ⟨he, hm, hf⟩ => ⟨by rw [h0]; exact he, ?_, hf⟩
    rw [if_pos h0]
    exact hm
/-- Zeros. -/
def zs256 : List UInt8 := List.replicate 256 0
theorem zs256_len : zs256.length = 256 := List.length_replicate
theorem zs256_bv : zs256.map bv = List.replicate 256 (.int .u8 0) := List.map_replicate
def clE (n : Nat) (f : Int) : Int := if f < 0 ∨ (n : Int) ≤ f then 83 else 0
def ClearP (w : World) (p F : Nat) (st : St) (f : Int) (e : Ending) (w' : World) : Prop :=
  e = .returned (.int .i64 (clE st.n f)) ∧ MemAt w' p F (if clE st.n f = 0 then ⟨st.n, putL st.b (f.toNat * 256) zs256⟩ else st) ∧ Fr [F] w w'
set_option maxHeartbeats 400000 in
theorem Clear_bad (p F : Nat) (st : St) (w : World) (f : Int) (h : MemAt w p F st) (hb : f < 0 ∨ (st.n : Int) ≤ f) : Calls Tryz.prog 36 #[ptr p, .int .i64 f] w fun e w' => e = .returned (.int .i64 83) ∧ w = w' := by
  obtain ⟨cap, hc, -, -⟩ := h.hd.cell
  clear h
  rcases hb with hb | hb
  · go_enter Tryz.func36, Tryz.ntmps36
    go_wp2
    go_ret
    exact ⟨rfl, rfl⟩
  · have hf' : ¬ f < 0 := by omega
    go_enter Tryz.func36, Tryz.ntmps36
    go_wp2
    go_ret
    exact ⟨rfl, rfl⟩
theorem zero_frame : ∃ Z : Array Value, (∀ w : World, (zeroValue 125).run Tryz.prog w = .ok (.agg Z) w) ∧ Z.toList = zs256.map bv ∧ Z.size = 256 ∧ Z.all (·.oneCell') = true :=
  ⟨Array.replicate 256 (.int .u8 0), fun w => by kernel_rfl, by rw [zs256_bv, Array.toList_replicate], Array.size_replicate, by rw [Array.all_eq_true_iff_forall_mem]; intro x hx; rw [Array.mem_replicate] at hx; rw [hx.2]; rfl⟩
set_option maxRecDepth 100000 in
set_option maxHeartbeats 400000 in
theorem Clear_ok (p F : Nat) (st : St) (w : World) (f : Nat) (h : MemAt w p F st) (hf : f < st.n) : Calls Tryz.prog 36 #[ptr p, .int .i64 f] w fun e w' => e = .returned (.int .i64 0) ∧ MemAt w' p F ⟨st.n, putL st.b (f * 256) zs256⟩ ∧ Fr [F] w w' := by
  obtain ⟨cap, hc, hcap, hcm⟩ := h.hd.cell
  have hf' : ¬ (st.n : Int) ≤ (f : Int) := by omega
  have hf2 : (f : Int) < (st.n : Int) := by omega
  obtain ⟨Z, hz, hzl, hzs, hz1⟩ := zero_frame
  have hinfo : (Tryz.prog.info? 125).map (·.size) = some Z.size := by
    rw [hzs]
    have := Tryz.info125
    cases hi : Tryz.prog.info? 125 with
    | none => rw [hi] at this; cases this
    | some i => rw [hi] at this; simp at this; simp [this.1]
  obtain ⟨cs, hb, hsay⟩ := h.says
  have hth : w.there F (f * 256) Z.size := fun j hj => ⟨by rw [h.cell (by omega)]; rfl, h.frozen _⟩
  have HM : Hid (MemAt (w.setCells F (f * 256) Z.toList) p F ⟨st.n, putL st.b (f * 256) zs256⟩) := by
    refine Lib.hid (MemAt.of (h.hd.fr (Fr.setCells (S := [F]) (.inl (by simp)) _ _ _ (Fr.refl _ w)) (by simpa using h.ne)) (hb.setCells _ _ _ _) ?_)
    rw [hzl]
    exact hsay.putC _ _ _ _
  have HF : Hid (Fr [F] w (w.setCells F (f * 256) Z.toList)) := Lib.hid (Fr.setCells (S := [F]) (.inl (by simp)) _ _ _ (Fr.refl _ w))
  have Hth := Lib.hid hth
  have Hi := Lib.hid hinfo
  clear h hb hsay hth hzl hzs hinfo
  go_enter Tryz.func36, Tryz.ntmps36
  go_wp2_with (with_reducible refine wpList_store_mid rfl 125 (.tmp 22) (.tmp 21) rfl F (f * 256) Z rfl rfl Hth.out Hi.out hz1 ?_)
  go_ret
  exact ⟨rfl, HM.out, HF.out⟩
theorem Clear_any (p F : Nat) (st : St) (w : World) (f : Int) (h : MemAt w p F st) : Calls Tryz.prog 36 #[ptr p, .int .i64 f] w (ClearP w p F st f) := by
  by_cases hb : f < 0 ∨ (st.n : Int) ≤ f
  · refine (Clear_bad p F st w f h hb).mono fun e w' ⟨he, hw⟩ => ?_
    subst hw
    have h0 : clE st.n f = 83 := if_pos hb
    refine ⟨by rw [h0]; exact he, ?_, Fr.refl _ _⟩
    rw [h0, if_neg (by omega)]
    exact h
  · obtain ⟨f', rfl⟩ := Int.eq_ofNat_of_zero_le (by omega : 0 ≤ f)
    have h0 : clE st.n f' = 0 := if_neg hb
    refine (Clear_ok p F st w f' h (by omega)).mono fun e w' ⟨he, hm, hf⟩ => ⟨by rw [h0]; exact he, ?_, hf⟩
    rw [if_pos h0]
    exact hm
end Go.Proofs.YtbmaecdlkchkeaaGreatDoor
namespace Go.Proofs.YtbmaecdlkchkeaaGreatDoor
open Go.RowKit
set_option linter.unusedVariables false
set_option maxRecDepth 100000
set_option linter.unusedSimpArgs false
theorem frame_info : ∃ i z, Tryz.prog.info? 125 = some i ∧ i.zero = some z ∧ i.size = 256 ∧ i.bytes = 256 ∧ z.cells.size = 256 := by
  have h1 := Tryz.info125
  have h2 := Tryz.zero125
  cases hi : Tryz.prog.info? 125 with
  | none => rw [hi] at h1; cases h1
  | some i =>
    rw [hi] at h1 h2
    simp only [Option.map_some, Option.some.injEq, Prod.mk.injEq] at h1 h2
    exact ⟨i, _, rfl, h2, h1.1, h1.2, Array.size_replicate⟩
theorem Says.list {cs : Array Value} {n : Nat} {b : Nat → UInt8} (h : Says cs n b) (hn : n ≤ cs.size) : (cs.toList.take n).length = n ∧ (∀ u ∈ cs.toList.take n, u.oneCell' = true) ∧ ∀ (j : Nat) (u : Value), (cs.toList.take n)[j]? = some u → cs[j]? = some u ∧ j < n := by
  have hj : ∀ (j : Nat) (u : Value), (cs.toList.take n)[j]? = some u → cs[j]? = some u ∧ j < n := by
    intro j u hu
    rw [List.getElem?_take] at hu
    split at hu
    · exact ⟨by simpa using hu, by assumption⟩
    · cases hu
  refine ⟨by simp [hn], fun u hu => ?_, hj⟩
  obtain ⟨j, hju⟩ := List.mem_iff_getElem?.1 hu
  obtain ⟨h1, h2⟩ := hj j u hju
  rw [h j h2] at h1
  injection h1 with h1
  subst h1
  rfl
theorem Says.size {cs : Array Value} {n : Nat} {b : Nat → UInt8} (h : Says cs n b) : n ≤ cs.size := by
  cases hn : n with
  | zero => omega
  | succ m =>
    have := (Array.getElem?_eq_some_iff.1 (h m (by omega))).1
    omega
def CloneP (w : World) (n : Nat) (b : Nat → UInt8) (e : Ending) (w' : World) : Prop := ∃ g cap cs, e = .returned (.slice (some ⟨g, 0, none⟩) n cap) ∧ Blk w' g 125 cs ∧ Says cs (n * 256) b ∧ n ≤ cap ∧ cap ≤ maxLen ∧ Fr [] w w' ∧ w.heap.size ≤ g
def ClP (w : World) (st : St) (e : Ending) (w' : World) : Prop := ∃ p F, e = .returned (ptr p) ∧ MemAt w' p F st ∧ Fr [] w w' ∧ w.heap.size ≤ p ∧ w.heap.size ≤ F
end Go.Proofs.YtbmaecdlkchkeaaGreatDoor
