/- ConsoleGuards: the states between a secure key and a level's choice. -/
import Derived.Test.YtkjahokffpihmaaDoorC21
namespace Go.Proofs.YtkjahokffpihmaaDoor
open Go.RowKit
set_option linter.unusedVariables false
set_option linter.unusedSimpArgs false
set_option maxRecDepth 100000
def reps (lv : Nat) : List ByteArray := List.replicate lv empty
/-- At the password, at the choice. -/
def g0 (lv : Nat) (lg : ByteArray) (ty : ByteArray) (sc : Sc) : Con := ⟨lv, lg, -1, false, ty, reps lv, sc⟩
def g1 (lv : Nat) (lg : ByteArray) (sc : Sc) : Con := ⟨lv, lg, -1, true, lg, reps lv, sc⟩
def pwSc : Sc := ssays sclear pwS
/-- What the console keeps of what was typed: seventeen bytes at most. -/
def t17 (s : ByteArray) : ByteArray := s.extract 0 17
theorem t17_small {s : ByteArray} (h : s.size ≤ 17) : t17 s = s := by
  unfold t17
  apply ByteArray.ext
  rw [ByteArray.data_extract]
  exact Array.extract_eq_self_of_le h
theorem t17_size (s : ByteArray) : (t17 s).size = min s.size 17 := by
  unfold t17
  rw [ByteArray.size_extract]
  omega
theorem t17_app (s : ByteArray) (b : UInt8) : t17 (s ++ ⟨#[b]⟩) = ty1 (t17 s) b := by
  unfold ty1
  rw [t17_size]
  have hz : (s ++ ⟨#[b]⟩ : ByteArray).size = s.size + 1 := appB_size s b
  split
  · next h =>
    rw [t17_small (by omega), t17_small (show s.size ≤ 17 by omega)]
    rfl
  · next h =>
    unfold t17
    apply ByteArray.ext
    rw [ByteArray.data_extract, ByteArray.data_extract, ByteArray.data_append]
    have hs : 17 ≤ s.data.size := by have : s.data.size = s.size := rfl; omega
    apply Array.ext_getElem?
    intro i
    rw [Array.getElem?_extract, Array.getElem?_extract]
    by_cases hi : i < 17
    · rw [if_pos (by simp; omega), if_pos (by omega), Array.getElem?_append_left (by omega)]
    · rw [if_neg (by simp; omega), if_neg (by omega)]
theorem t17_login {s lg : ByteArray} (h : lg.size ≤ 16) : t17 s = lg ↔ s = lg := by
  constructor
  · intro he
    have hz := t17_size s
    rw [he] at hz
    rw [t17_small (by omega)] at he
    exact he
  · rintro rfl
    exact t17_small (by omega)
section
variable {lv : Nat} {lg ty : ByteArray} {sc : Sc} {b : UInt8}
theorem g_secure_x (x : Con) (hl : x.lv = lv) (hg : x.lg = lg) (hk : x.ks = reps lv) (hb : b.toNat = 1) : key x b = g0 lv lg empty pwSc := by
  unfold key
  rw [if_pos hb]
  unfold trust g0
  rw [hl, hg, hk]
  rfl
theorem g0_letter (h1 : b.toNat ≠ 1) (h13 : b.toNat ≠ 13) : key (g0 lv lg ty sc) b = g0 lv lg (ty1 ty b) sc := by
  unfold key
  rw [if_neg h1, if_neg (by intro h; exact h rfl), if_neg (by simp [g0])]
  unfold toPass
  rw [if_pos h13]
  rfl
theorem g0_right (h13 : b.toNat = 13) : key (g0 lv lg lg sc) b = g1 lv lg (ssays sc levS) := by
  unfold key
  rw [if_neg (by omega), if_neg (by intro h; exact h rfl), if_neg (by simp [g0])]
  unfold toPass
  rw [if_neg (by simpa using h13), if_pos (show (g0 lv lg lg sc).ty = (g0 lv lg lg sc).lg from rfl)]
  rfl
theorem g0_wrong (h13 : b.toNat = 13) (hne : ty ≠ lg) : key (g0 lv lg ty sc) b = g0 lv lg empty (ssays sc noS) := by
  unfold key
  rw [if_neg (by omega), if_neg (by intro h; exact h rfl), if_neg (by simp [g0])]
  unfold toPass
  rw [if_neg (by simpa using h13), if_neg (show ¬ (g0 lv lg ty sc).ty = (g0 lv lg ty sc).lg from hne)]
  rfl
theorem g1_choice (h1 : b.toNat ≠ 1) (h48 : 48 ≤ b.toNat) (hl : (b.toNat : Int) - 48 < lv) : key (g1 lv lg sc) b = fk lv lg (b.toNat - 48) empty := by
  unfold key
  rw [if_neg h1, if_neg (by intro h; exact h rfl), if_pos (show (g1 lv lg sc).ch = true from rfl)]
  unfold toChoice
  rw [if_pos ⟨h48, hl⟩, fk_empty]
  unfold focC g1
  simp only [Con.mk.injEq, true_and, and_true]
  exact ⟨by omega, rfl⟩
theorem g1_other (h1 : b.toNat ≠ 1) (hn : ¬ (48 ≤ b.toNat ∧ (b.toNat : Int) - 48 < lv)) : key (g1 lv lg sc) b = g1 lv lg sc := by
  unfold key
  rw [if_neg h1, if_neg (by intro h; exact h rfl), if_pos (show (g1 lv lg sc).ch = true from rfl)]
  unfold toChoice
  rw [if_neg (show ¬ (48 ≤ b.toNat ∧ (b.toNat : Int) - 48 < ((g1 lv lg sc).lv : Int)) from hn)]
theorem take_reps {x : Con} (hl : x.lv = lv) (hk : x.ks = reps lv) {m : Nat} (hm : m < lv) : takeX x (m : Int) = x ∧ takeS x (m : Int) = ⟨#[]⟩ ∧ wrE x (m : Int) = 0 := by
  have hi : isL x (m : Int) = true := by
    unfold isL
    rw [Bool.and_eq_true, decide_eq_true_eq, decide_eq_true_eq, hl]
    omega
  refine ⟨?_, ?_, ?_⟩
  · unfold takeX
    rw [if_pos hi, Int.toNat_natCast, hk]
    have : (reps lv).set m empty = reps lv := set_rep lv m
    rw [this, ← hk]
  · unfold takeS
    rw [if_pos hi, Int.toNat_natCast, hk, List.getD_eq_getElem?_getD]
    unfold reps
    rw [List.getElem?_replicate, if_pos hm]
    rfl
  · unfold wrE
    rw [if_pos hi]
end
/-- Behind takes of the first m levels. -/
def tk (x : Con) : Nat → Con
  | 0 => x
  | m + 1 => takeX (tk x m) (m : Int)
theorem takeX_lv (x : Con) (l : Int) : (takeX x l).lv = x.lv ∧ (takeX x l).lg = x.lg ∧ (takeX x l).ks.length = x.ks.length := by
  unfold takeX
  split
  · exact ⟨rfl, rfl, by simp⟩
  · exact ⟨rfl, rfl, rfl⟩
theorem tk_lv (x : Con) : ∀ m, (tk x m).lv = x.lv ∧ (tk x m).lg = x.lg ∧ (tk x m).ks.length = x.ks.length
  | 0 => ⟨rfl, rfl, rfl⟩
  | m + 1 => by
    have h1 := tk_lv x m
    have h2 := takeX_lv (tk x m) (m : Int)
    exact ⟨h2.1.trans h1.1, h2.2.1.trans h1.2.1, h2.2.2.trans h1.2.2⟩
theorem tk_ks (x : Con) (hn : x.ks.length = x.lv) : ∀ m, m ≤ x.lv → ∀ i, i < m → (tk x m).ks[i]? = some empty
  | 0, _, i, hi => absurd hi (Nat.not_lt_zero i)
  | m + 1, hm, i, hi => by
    have h1 := tk_lv x m
    show (takeX (tk x m) (m : Int)).ks[i]? = some empty
    unfold takeX
    rw [if_pos (by
      unfold isL
      rw [Bool.and_eq_true, decide_eq_true_eq, decide_eq_true_eq, h1.1]
      omega)]
    simp only [Int.toNat_natCast]
    rw [List.getElem?_set]
    split
    · next h => rw [if_pos (by rw [h1.2.2, hn]; omega)]
    · next h => exact tk_ks x hn m (by omega) i (by omega)
theorem tk_all (x : Con) (hn : x.ks.length = x.lv) : (tk x x.lv).ks = reps x.lv := by
  apply List.ext_getElem?
  intro i
  by_cases hi : i < x.lv
  · rw [tk_ks x hn _ (Nat.le_refl _) i hi]
    unfold reps
    rw [List.getElem?_replicate, if_pos hi]
  · unfold reps
    rw [List.getElem?_eq_none (by rw [(tk_lv x _).2.2, hn]; omega), List.getElem?_eq_none (by simp; omega)]
theorem keysX_lv : ∀ (l : List UInt8) (x : Con), (keysX x l).lv = x.lv ∧ (keysX x l).lg = x.lg
  | [], x => ⟨rfl, rfl⟩
  | b :: l, x => by
    have h := keysX_lv l (key x b)
    have hk : (key x b).lv = x.lv ∧ (key x b).lg = x.lg := by
      unfold key
      split
      · exact ⟨rfl, rfl⟩
      · split
        · exact ⟨rfl, rfl⟩
        · split
          · unfold toChoice; split <;> exact ⟨rfl, rfl⟩
          · unfold toPass; split; exact ⟨rfl, rfl⟩; split <;> exact ⟨rfl, rfl⟩
    exact ⟨h.1.trans hk.1, h.2.trans hk.2⟩
theorem write_lv (x : Con) (l : Int) (t : List UInt8) : (write x l t).lv = x.lv ∧ (write x l t).lg = x.lg := by
  unfold write
  split
  · split <;> exact ⟨rfl, rfl⟩
  · exact ⟨rfl, rfl⟩
theorem runC_lv (x : Con) (ops : Nat → OpC) : ∀ n, (runC x ops n).lv = x.lv ∧ (runC x ops n).lg = x.lg
  | 0 => ⟨rfl, rfl⟩
  | n + 1 => by
    have h := runC_lv x ops n
    show (stepC (runC x ops n) (ops n)).lv = _ ∧ (stepC (runC x ops n) (ops n)).lg = _
    unfold stepC
    split
    · have := keysX_lv (ops n).s.data.toList (runC x ops n)
      exact ⟨this.1.trans h.1, this.2.trans h.2⟩
    · split
      · have := write_lv (runC x ops n) (ops n).a (ops n).s.data.toList
        exact ⟨this.1.trans h.1, this.2.trans h.2⟩
      · split
        · have := takeX_lv (runC x ops n) (ops n).a
          exact ⟨this.1.trans h.1, this.2.1.trans h.2⟩
        · exact h
theorem pw_rows : screenL pwSc = [r1, sp24, sp24, sp24, sp24, sp24] := by kernel_rfl
theorem clear_rows : screenL sclear = [sp24, sp24, sp24, sp24, sp24, sp24] := by kernel_rfl
end Go.Proofs.YtkjahokffpihmaaDoor
