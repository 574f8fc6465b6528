/- Memories and tables: what they are, and what is told of them, in plain words (no program). What the iterator over bytes at an address tells, in plain words. What a caller makes of all that the iterator tells. -/
import Derived.WalkKit
namespace Go.Proofs.Ytonongaakieciaa
open Go.RowKit
set_option linter.unusedVariables false

/-- A page. -/
structure Pg where
  f : Int
  r : Int
/-- A memory: how many frames, and the byte at each place (256 a frame). -/
structure St where
  n : Nat
  b : Nat → UInt8
/-- May a page be? -/
def okP (n : Nat) (p : Pg) : Bool := decide (-1 ≤ p.f) && decide (p.f < n) && decide (0 ≤ p.r) && decide (p.r ≤ 7) && (decide (0 ≤ p.f) || decide (p.r = 0))
theorem okP_iff (n : Nat) (p : Pg) : okP n p = true ↔ (-1 ≤ p.f ∧ p.f < n ∧ 0 ≤ p.r ∧ p.r ≤ 7 ∧ (p.f < 0 → p.r = 0)) := by
  unfold okP
  simp only [Bool.and_eq_true, Bool.or_eq_true, decide_eq_true_eq]
  omega
theorem okP_not (n : Nat) (p : Pg) (h : ¬ (-1 ≤ p.f ∧ p.f < n ∧ 0 ≤ p.r ∧ p.r ≤ 7 ∧ (p.f < 0 → p.r = 0))) : okP n p = false := by
  cases hm : okP n p with
  | false => rfl
  | true => exact absurd ((okP_iff n p).1 hm) h
/-- May a table be? -/
def okT (n : Nat) (t : List Pg) : Bool := decide (t.length ≤ 16) && t.all (okP n)
theorem okT_at {n : Nat} {t : List Pg} (h : okT n t = true) {i : Nat} {p : Pg} (hp : t[i]? = some p) : -1 ≤ p.f ∧ p.f < n ∧ 0 ≤ p.r ∧ p.r ≤ 7 ∧ (p.f < 0 → p.r = 0) := by
  unfold okT at h
  simp only [Bool.and_eq_true, List.all_eq_true] at h
  exact (okP_iff n p).1 (h.2 p (List.mem_of_getElem? hp))
theorem okT_len {n : Nat} {t : List Pg} (h : okT n t = true) : t.length ≤ 16 := by
  unfold okT at h
  simp only [Bool.and_eq_true, decide_eq_true_eq] at h
  exact h.1
/-- What Check tells. -/
def chT (n : Nat) (t : List Pg) : Int := if okT n t then 0 else 84

/-- The page of an address. -/
def pgAt (t : List Pg) (a : Int) : Option Pg := if a < 0 then none else t[(a / 256).toNat]?
/-- Is a byte there, with a right? -/
def ch1 (t : List Pg) (right a : Int) : Int :=
  match pgAt t a with
  | none => 81
  | some p => if p.f < 0 then 81 else if bits .and .i64 p.r right = 0 then 82 else 0
/-- Are n bytes there? -/
def thr (t : List Pg) (right : Int) : Int → Nat → Int
  | _, 0 => 0
  | a, n + 1 => if ch1 t right a = 0 then thr t right (a + 1) n else ch1 t right a
/-- Where the byte of an address lies. -/
def loc (t : List Pg) (a : Int) : Nat :=
  match pgAt t a with
  | none => 0
  | some p => p.f.toNat * 256 + (a % 256).toNat
theorem pgAt_neg {t : List Pg} {a : Int} (h : a < 0) : pgAt t a = none := by simp [pgAt, h]
theorem pgAt_nat (t : List Pg) (a : Nat) : pgAt t (a : Int) = t[a / 256]? := by
  unfold pgAt
  rw [if_neg (by omega)]
  have : ((a : Int) / 256).toNat = a / 256 := by omega
  rw [this]
theorem ch1_neg {t : List Pg} {right a : Int} (h : a < 0) : ch1 t right a = 81 := by simp [ch1, pgAt_neg h]
theorem ch1_far {t : List Pg} {right : Int} {a : Nat} (h : t.length * 256 ≤ a) : ch1 t right a = 81 := by
  have : t[a / 256]? = none := List.getElem?_eq_none (by omega)
  simp [ch1, pgAt_nat, this]
theorem ch1_at {t : List Pg} {right : Int} {a : Nat} {p : Pg} (h : t[a / 256]? = some p) : ch1 t right a = if p.f < 0 then 81 else if bits .and .i64 p.r right = 0 then 82 else 0 := by
  simp [ch1, pgAt_nat, h]
theorem loc_at {t : List Pg} {a : Nat} {p : Pg} (h : t[a / 256]? = some p) : loc t a = p.f.toNat * 256 + a % 256 := by
  unfold loc
  rw [pgAt_nat, h]
  simp only
  have : ((a : Int) % 256).toNat = a % 256 := by omega
  rw [this]
theorem thr_succ (t : List Pg) (right a : Int) (n : Nat) : thr t right a (n + 1) = if ch1 t right a = 0 then thr t right (a + 1) n else ch1 t right a := rfl
theorem thr_no {t : List Pg} {right a : Int} {n : Nat} {e : Int} (h : ch1 t right a = e) (he : e ≠ 0) (hn : 0 < n) : thr t right a n = e := by
  obtain ⟨k, rfl⟩ : ∃ k, n = k + 1 := ⟨n - 1, by omega⟩
  rw [thr_succ, h, if_neg he]
theorem thr_yes {t : List Pg} {right a : Int} {n : Nat} (h : ch1 t right a = 0) (hn : 0 < n) : thr t right a n = thr t right (a + 1) (n - 1) := by
  obtain ⟨k, rfl⟩ : ∃ k, n = k + 1 := ⟨n - 1, by omega⟩
  rw [thr_succ, if_pos h]
  rfl
/-- A byte is put at a place. -/
def upd (b : Nat → UInt8) (k : Nat) (c : UInt8) : Nat → UInt8 := fun j => if j = k then c else b j
theorem upd_same (b : Nat → UInt8) (k : Nat) (c : UInt8) : upd b k c k = c := if_pos rfl
theorem upd_ne {b : Nat → UInt8} {k : Nat} {c : UInt8} {j : Nat} (h : j ≠ k) : upd b k c j = b j := if_neg h
/-- Bytes are put from a place on. -/
def putL : (Nat → UInt8) → Nat → List UInt8 → (Nat → UInt8)
  | b, _, [] => b
  | b, k, c :: s => putL (upd b k c) (k + 1) s
theorem putL_out : ∀ (s : List UInt8) (b : Nat → UInt8) (k j : Nat), (j < k ∨ k + s.length ≤ j) → putL b k s j = b j := by
  intro s
  induction s with
  | nil => intro b k j _; rfl
  | cons c s ih =>
    intro b k j h
    simp only [List.length_cons] at h
    rw [putL, ih _ _ _ (by omega), upd_ne (by omega)]
theorem putL_in : ∀ (s : List UInt8) (b : Nat → UInt8) (k i : Nat) (c : UInt8), s[i]? = some c → putL b k s (k + i) = c := by
  intro s
  induction s with
  | nil => intro b k i c h; simp at h
  | cons d s ih =>
    intro b k i c h
    rw [putL]
    cases i with
    | zero =>
      simp at h
      subst h
      rw [putL_out _ _ _ _ (by omega)]
      exact upd_same _ _ _
    | succ i =>
      simp at h
      have := ih (upd b k d) (k + 1) i c h
      rw [show k + (i + 1) = k + 1 + i from by omega]
      exact this
/-- Bytes are written at an address, through a table. -/
def wrB (t : List Pg) : (Nat → UInt8) → Int → List UInt8 → (Nat → UInt8)
  | b, _, [] => b
  | b, a, c :: s => wrB t (upd b (loc t a) c) (a + 1) s
/-- A frame's bytes. -/
def frB (st : St) (f : Nat) : List UInt8 := (List.range 256).map fun i => st.b (f * 256 + i)
def frS (st : St) (f : Nat) : ByteArray := ⟨(frB st f).toArray⟩
theorem frB_len (st : St) (f : Nat) : (frB st f).length = 256 := by simp [frB]
theorem frB_at (st : St) (f i : Nat) (hi : i < 256) : (frB st f)[i]? = some (st.b (f * 256 + i)) := by simp [frB, hi]
theorem frS_size (st : St) (f : Nat) : (frS st f).size = 256 := by
  have : (frS st f).size = (frB st f).length := rfl
  rw [this, frB_len]
theorem frS_list (st : St) (f : Nat) : (frS st f).data.toList = frB st f := rfl
end Go.Proofs.Ytonongaakieciaa
namespace Go.Proofs.Ytonongaakieciaa
open Go.RowKit
set_option linter.unusedVariables false

theorem ch1_cases (t : List Pg) (right a : Int) : ch1 t right a = 0 ∨ ch1 t right a = 81 ∨ ch1 t right a = 82 := by
  unfold ch1
  split
  · simp
  · split
    · simp
    · split <;> simp
/-- A place of a byte that is there lies in the memory. -/
theorem loc_lt {n : Nat} {t : List Pg} (hT : okT n t = true) {right a : Int} (h : ch1 t right a = 0) : loc t a < n * 256 := by
  unfold ch1 at h
  unfold loc
  split at h
  · omega
  · rename_i p hp
    split at h
    · omega
    · rename_i hf
      have hm : t[(a / 256).toNat]? = some p := by
        unfold pgAt at hp
        split at hp
        · cases hp
        · exact hp
      have h1 := (okT_at hT hm).2.1
      have h2 : (a % 256).toNat < 256 := by omega
      have h3 : p.f.toNat < n := by omega
      have h4 : p.f.toNat * 256 + 256 ≤ n * 256 := by
        have : (p.f.toNat + 1) * 256 ≤ n * 256 := Nat.mul_le_mul_right _ h3
        omega
      omega
/-- What the iterator tells: a place, or an error. -/
inductive Yb (N : Nat) where
  | ok (j : Nat) (h : j < N)
  | bad (e : Int) (h : e = 81 ∨ e = 82)
def y1 (N : Nat) (t : List Pg) (right a : Int) : Yb N := if h : ch1 t right a = 0 ∧ loc t a < N then .ok (loc t a) h.2 else if ch1 t right a = 82 then .bad 82 (.inr rfl) else .bad 81 (.inl rfl)
theorem y1_ok {N : Nat} {t : List Pg} {right a : Int} (h : ch1 t right a = 0) (h2 : loc t a < N) : y1 N t right a = .ok (loc t a) h2 := by
  unfold y1
  rw [dif_pos ⟨h, h2⟩]
theorem y1_bad {N : Nat} {t : List Pg} {right a e : Int} (h : ch1 t right a = e) (he : e = 81 ∨ e = 82) : y1 N t right a = .bad e he := by
  unfold y1
  rw [dif_neg (by omega)]
  rcases he with rfl | rfl
  · rw [if_neg (by omega)]
  · rw [if_pos h]
def ytk (N : Nat) (t : List Pg) (right a : Int) (k : Nat) : List (Yb N) := (List.range k).map fun (i : Nat) => y1 N t right (a + (i : Int))
theorem ytk_succ (N : Nat) (t : List Pg) (right a : Int) (k : Nat) : ytk N t right a (k + 1) = ytk N t right a k ++ [y1 N t right (a + k)] := by
  unfold ytk
  rw [List.range_succ, List.map_append]
  rfl
theorem ytk_len (N : Nat) (t : List Pg) (right a : Int) (k : Nat) : (ytk N t right a k).length = k := by simp [ytk]
/-- The first of n bytes that is not there, as a number; n, if all are. -/
def good (t : List Pg) (right : Int) : Int → Nat → Nat
  | _, 0 => 0
  | a, n + 1 => if ch1 t right a = 0 then good t right (a + 1) n + 1 else 0
theorem good_le (t : List Pg) (right : Int) : ∀ (n : Nat) (a : Int), good t right a n ≤ n := by
  intro n
  induction n with
  | zero => intro a; exact Nat.le_refl _
  | succ n ih =>
    intro a
    rw [good]
    split
    · have := ih (a + 1); omega
    · omega
theorem good_ok (t : List Pg) (right : Int) : ∀ (n : Nat) (a : Int) (i : Nat), i < good t right a n → ch1 t right (a + i) = 0 := by
  intro n
  induction n with
  | zero => intro a i h; simp [good] at h
  | succ n ih =>
    intro a i h
    rw [good] at h
    split at h
    · cases i with
      | zero => simpa using ‹ch1 t right a = 0›
      | succ i =>
        have := ih (a + 1) i (by omega)
        rwa [show a + ((i + 1 : Nat) : Int) = a + 1 + i from by omega]
    · omega
theorem thr_good (t : List Pg) (right : Int) : ∀ (n : Nat) (a : Int), thr t right a n = if good t right a n = n then 0 else ch1 t right (a + good t right a n) := by
  intro n
  induction n with
  | zero => intro a; rfl
  | succ n ih =>
    intro a
    rw [thr_succ, good]
    by_cases h : ch1 t right a = 0
    · rw [if_pos h, if_pos h, ih (a + 1)]
      by_cases h2 : good t right (a + 1) n = n
      · rw [if_pos h2, if_pos (by omega)]
      · rw [if_neg h2, if_neg (by omega)]
        rw [show a + ((good t right (a + 1) n + 1 : Nat) : Int) = a + 1 + (good t right (a + 1) n : Nat) from by omega]
    · rw [if_neg h, if_neg h, if_neg (by omega)]
      simp
theorem good_bad (t : List Pg) (right : Int) : ∀ (n : Nat) (a : Int), good t right a n < n → ch1 t right (a + good t right a n) ≠ 0 := by
  intro n
  induction n with
  | zero => intro a h; omega
  | succ n ih =>
    intro a h
    rw [good] at h ⊢
    by_cases h1 : ch1 t right a = 0
    · rw [if_pos h1] at h ⊢
      have := ih (a + 1) (by omega)
      rwa [show a + ((good t right (a + 1) n + 1 : Nat) : Int) = a + 1 + (good t right (a + 1) n : Nat) from by omega]
    · rw [if_neg h1]
      simpa using h1
theorem good_eq {t : List Pg} {right a : Int} {n k : Nat} (hk : k < n) (h : ∀ i, i < k → ch1 t right (a + i) = 0) (hb : ch1 t right (a + k) ≠ 0) : good t right a n = k := by
  have h1 : ¬ good t right a n < k := by
    intro hlt
    exact good_bad t right n a (by omega) (h _ hlt)
  have h2 : ¬ k < good t right a n := by
    intro hlt
    exact hb (good_ok t right n a k hlt)
  omega
theorem good_full {t : List Pg} {right a : Int} {n : Nat} (h : ∀ i, i < n → ch1 t right (a + i) = 0) : good t right a n = n := by
  have := good_le t right n a
  have h1 : ¬ good t right a n < n := by
    intro hlt
    exact good_bad t right n a hlt (h _ hlt)
  omega
/-- All that the iterator tells, if nobody stops it. -/
def yl (N : Nat) (t : List Pg) (right a : Int) (n : Nat) : List (Yb N) := ytk N t right a (if good t right a n = n then n else good t right a n + 1)
theorem yl_bad {N : Nat} {t : List Pg} {right a e : Int} {n k : Nat} (hk : k < n) (h : ∀ i, i < k → ch1 t right (a + (i : Nat)) = 0) (hb : ch1 t right (a + (k : Nat)) = e) (he : e = 81 ∨ e = 82) : ytk N t right a k ++ [.bad e he] = yl N t right a n := by
  have hg := good_eq hk h (by omega)
  unfold yl
  rw [hg, if_neg (by omega), ytk_succ, y1_bad hb he]
theorem yl_ok {N : Nat} {t : List Pg} {right a : Int} {k : Nat} (h : ch1 t right (a + (k : Nat)) = 0) (h2 : loc t (a + (k : Nat)) < N) : ytk N t right a k ++ [.ok (loc t (a + (k : Nat))) h2] = ytk N t right a (k + 1) := by
  rw [ytk_succ, y1_ok h h2]
theorem ytk_pre (N : Nat) (t : List Pg) (right a : Int) : ∀ (d k : Nat), ytk N t right a k <+: ytk N t right a (k + d) := by
  intro d
  induction d with
  | zero => intro k; exact List.prefix_refl _
  | succ d ih => intro k; rw [← Nat.add_assoc, ytk_succ]; exact (ih k).trans (List.prefix_append _ _)
theorem yl_pre {N : Nat} {t : List Pg} {right a : Int} {n k : Nat} (hk : k ≤ n) (h : ∀ i, i < k → ch1 t right (a + (i : Nat)) = 0) : ytk N t right a k <+: yl N t right a n := by
  unfold yl
  have h1 := good_le t right n a
  have h2 : k ≤ good t right a n := by
    apply Nat.le_of_not_lt
    intro hlt
    exact good_bad t right n a (by omega) (h _ hlt)
  split
  · obtain ⟨d, rfl⟩ : ∃ d, n = k + d := ⟨n - k, by omega⟩
    exact ytk_pre N t right a d k
  · obtain ⟨d, hd⟩ : ∃ d, good t right a n + 1 = k + d := ⟨good t right a n + 1 - k, by omega⟩
    rw [hd]
    exact ytk_pre N t right a d k
theorem ok_succ {t : List Pg} {right a : Int} {k : Nat} (h : ∀ i, i < k → ch1 t right (a + (i : Nat)) = 0) (h2 : ch1 t right (a + (k : Nat)) = 0) : ∀ i, i < k + 1 → ch1 t right (a + (i : Nat)) = 0 := by
  intro i hi
  by_cases hik : i = k
  · rw [hik]; exact h2
  · exact h i (by omega)
end Go.Proofs.Ytonongaakieciaa
namespace Go.Proofs.Ytonongaakieciaa
open Go.RowKit
set_option linter.unusedVariables false
def allOk {N : Nat} (l : List (Yb N)) : Prop := ∀ x ∈ l, ∃ j h, x = Yb.ok j h
/-- The byte of a place. -/
def yb (b : Nat → UInt8) {N : Nat} : Yb N → UInt8
  | .ok j _ => b j
  | .bad _ _ => 0
theorem y1_of {n : Nat} {t : List Pg} (hT : okT n t = true) {r a : Int} (h : ch1 t r a = 0) : y1 (n * 256) t r a = .ok (loc t a) (loc_lt hT h) := y1_ok h _
theorem y1_no {N : Nat} {t : List Pg} {r a : Int} (h : ch1 t r a ≠ 0) : ∃ he, y1 N t r a = .bad (ch1 t r a) he := by
  have he : ch1 t r a = 81 ∨ ch1 t r a = 82 := by rcases ch1_cases t r a with h1 | h1 | h1; exact absurd h1 h; exact .inl h1; exact .inr h1
  exact ⟨he, y1_bad rfl he⟩
theorem ytk_map {n : Nat} {t : List Pg} (hT : okT n t = true) {r a : Int} {k : Nat} (h : ∀ i, i < k → ch1 t r (a + (i : Nat)) = 0) (b : Nat → UInt8) : (ytk (n * 256) t r a k).map (yb b) = (List.range k).map fun (i : Nat) => b (loc t (a + (i : Int))) := by
  unfold ytk
  rw [List.map_map]
  refine List.map_congr_left (fun i hi => ?_)
  have hi' := List.mem_range.1 hi
  show yb b (y1 (n * 256) t r (a + (i : Int))) = _
  rw [y1_of hT (h i hi')]
  rfl
theorem yl_done {n : Nat} {t : List Pg} (hT : okT n t = true) {r a : Int} {k : Nat} (h : allOk (yl (n * 256) t r a k)) : (∀ i, i < k → ch1 t r (a + (i : Nat)) = 0) ∧ yl (n * 256) t r a k = ytk (n * 256) t r a k := by
  by_cases hg : good t r a k = k
  · refine ⟨fun i hi => good_ok t r k a i (by omega), ?_⟩
    unfold yl
    rw [if_pos hg]
  · exfalso
    have h1 := good_le t r k a
    have h2 := good_bad t r k a (by omega)
    unfold yl at h
    rw [if_neg hg, ytk_succ] at h
    obtain ⟨he, h3⟩ := y1_no (N := n * 256) h2
    rw [h3] at h
    obtain ⟨j, hj, h4⟩ := h (.bad (ch1 t r (a + (good t r a k : Nat))) he) (by simp)
    cases h4
theorem thr_zero {t : List Pg} {r a : Int} {k : Nat} (h : ∀ i, i < k → ch1 t r (a + (i : Nat)) = 0) : thr t r a k = 0 := by rw [thr_good, if_pos (good_full h)]
theorem thr_of_zero {t : List Pg} {r a : Int} {k : Nat} (h : thr t r a k = 0) : ∀ i, i < k → ch1 t r (a + (i : Nat)) = 0 := by
  have h1 := good_le t r k a
  rw [thr_good] at h
  by_cases hg : good t r a k = k
  · exact fun i hi => good_ok t r k a i (by omega)
  · rw [if_neg hg] at h
    exact absurd h (good_bad t r k a (by omega))
theorem ytk_at {N : Nat} {t : List Pg} {r a : Int} {K k : Nat} (h : k < K) : (ytk N t r a K)[k]? = some (y1 N t r (a + (k : Nat))) := by simp [ytk, h]
theorem yl_stop {n : Nat} {t : List Pg} (hT : okT n t = true) {r a e : Int} {k : Nat} {pre : List (Yb (n * 256))} {he : e = 81 ∨ e = 82} (h : pre ++ [.bad e he] <+: yl (n * 256) t r a k) : thr t r a k = e := by
  obtain ⟨rest, hr⟩ := h
  have hat : (yl (n * 256) t r a k)[pre.length]? = some (.bad e he) := by rw [← hr]; simp
  have key : ∀ K, yl (n * 256) t r a k = ytk (n * 256) t r a K → pre.length < K ∧ ch1 t r (a + (pre.length : Nat)) = e := by
    intro K hK
    rw [hK] at hat
    have hlt : pre.length < K := by
      have := (List.getElem?_eq_some_iff.1 hat).1
      rwa [ytk_len] at this
    rw [ytk_at hlt] at hat
    refine ⟨hlt, ?_⟩
    injection hat with hat
    by_cases hc : ch1 t r (a + (pre.length : Nat)) = 0
    · rw [y1_of hT hc] at hat; cases hat
    · obtain ⟨he', h3⟩ := y1_no (N := n * 256) hc
      rw [h3] at hat
      injection hat
  have h1 := good_le t r k a
  rw [thr_good]
  by_cases hg : good t r a k = k
  · obtain ⟨h2, h3⟩ := key k (by unfold yl; rw [if_pos hg])
    have := good_ok t r k a pre.length (by omega)
    omega
  · obtain ⟨h2, h3⟩ := key (good t r a k + 1) (by unfold yl; rw [if_neg hg])
    rw [if_neg hg]
    by_cases h4 : pre.length < good t r a k
    · have := good_ok t r k a pre.length h4
      omega
    · rw [show good t r a k = pre.length from by omega]
      exact h3
end Go.Proofs.Ytonongaakieciaa
