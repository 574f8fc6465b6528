/- Fewer rights: what is read, and written, with them. -/
import Derived.Test.YtdkihajajdhpnaaW13
namespace Go.Proofs.Ytdkihajajdhpnaa
open Go.RowKit
set_option linter.unusedVariables false
theorem bits_and_bv (x y : Int) : bits .and .i64 x y = (BitVec.ofInt 64 x &&& BitVec.ofInt 64 y).toInt := by
  show IntKind.i64.wrap (((BitVec.ofInt 64 x &&& BitVec.ofInt 64 y).toNat : Nat) : Int) = _
  generalize BitVec.ofInt 64 x &&& BitVec.ofInt 64 y = v
  rw [IntKind.wrap_i64, BitVec.toInt_eq_toNat_cond]
  have := v.isLt
  split <;> omega
theorem ofInt_bits (x y : Int) : BitVec.ofInt 64 (bits .and .i64 x y) = BitVec.ofInt 64 x &&& BitVec.ofInt 64 y := by
  rw [bits_and_bv, BitVec.ofInt_toInt]
theorem bits_and_zero {x y : Int} : bits .and .i64 x y = 0 ↔ BitVec.ofInt 64 x &&& BitVec.ofInt 64 y = 0#64 := by
  rw [bits_and_bv]
  constructor
  · intro h
    exact BitVec.toInt_inj.1 (by rw [h]; rfl)
  · intro h
    rw [h]
    rfl
/-- Rights that are left, as a mask. -/
def fw (mask r : Int) : Int := bits .and .i64 (bits .and .i64 r mask) 7
theorem fw_zero {mask r q : Int} (h : bits .and .i64 r q = 0) : bits .and .i64 (fw mask r) q = 0 := by
  rw [bits_and_zero] at h ⊢
  unfold fw
  rw [ofInt_bits, ofInt_bits]
  have : BitVec.ofInt 64 r &&& BitVec.ofInt 64 mask &&& BitVec.ofInt 64 7 &&& BitVec.ofInt 64 q = (BitVec.ofInt 64 r &&& BitVec.ofInt 64 q) &&& (BitVec.ofInt 64 mask &&& BitVec.ofInt 64 7) := by
    ac_rfl
  rw [this, h, BitVec.zero_and]
theorem fw_bd (mask r : Int) : 0 ≤ fw mask r ∧ fw mask r ≤ 7 := by
  unfold fw
  rw [bits_and_bv]
  generalize BitVec.ofInt 64 (bits .and .i64 r mask) = v
  have h1 : (v &&& BitVec.ofInt 64 7).toNat ≤ 7 := by
    rw [BitVec.toNat_and]
    exact Nat.and_le_right
  rw [BitVec.toInt_eq_toNat_cond]
  split <;> omega
theorem fw_nil (mask : Int) : fw mask 0 = 0 := by
  unfold fw
  have h : bits .and .i64 0 mask = 0 := bits_and_zero.2 (by simp)
  rw [h]
  exact bits_and_zero.2 (by simp)
/-- The table with fewer rights. -/
def fewT (mask : Int) (t : List Pg) : List Pg := t.map fun p => ⟨p.f, fw mask p.r⟩
theorem fewT_len (mask : Int) (t : List Pg) : (fewT mask t).length = t.length := by simp [fewT]
theorem fewT_ok {n : Nat} {t : List Pg} (mask : Int) (h : okT n t = true) : okT n (fewT mask t) = true := by
  have h1 := okT_len h
  unfold okT
  simp only [Bool.and_eq_true, decide_eq_true_eq, List.all_eq_true]
  refine ⟨by rw [fewT_len]; exact h1, fun p hp => ?_⟩
  obtain ⟨q, hq, rfl⟩ := List.mem_map.1 hp
  obtain ⟨i, hi⟩ := List.mem_iff_getElem?.1 hq
  have h2 := okT_at h hi
  have h3 := fw_bd mask q.r
  rw [okP_iff]
  refine ⟨h2.1, h2.2.1, h3.1, h3.2, fun hf => ?_⟩
  show fw mask q.r = 0
  rw [h2.2.2.2.2 hf, fw_nil]
theorem few_pg (mask : Int) (t : List Pg) (a : Int) : pgAt (fewT mask t) a = (pgAt t a).map fun p => ⟨p.f, fw mask p.r⟩ := by
  unfold pgAt
  split
  · rfl
  · simp [fewT]
theorem few_loc (mask : Int) (t : List Pg) (a : Int) : loc (fewT mask t) a = loc t a := by
  unfold loc
  rw [few_pg]
  cases pgAt t a <;> rfl
theorem few_ch1 {mask : Int} {t : List Pg} {q a : Int} (h : ch1 (fewT mask t) q a = 0) : ch1 t q a = 0 := by
  unfold ch1 at h ⊢
  rw [few_pg] at h
  cases hp : pgAt t a with
  | none => rw [hp] at h; simp at h
  | some p =>
    rw [hp] at h
    simp only [Option.map_some] at h ⊢
    by_cases hf : p.f < 0
    · rw [if_pos hf] at h; omega
    · rw [if_neg hf] at h ⊢
      by_cases hb : bits .and .i64 p.r q = 0
      · rw [if_pos (fw_zero hb)] at h; omega
      · rw [if_neg hb]
theorem few_thr {mask : Int} {t : List Pg} {q : Int} : ∀ (n : Nat) (a : Int), thr (fewT mask t) q a n = 0 → thr t q a n = 0 := by
  intro n
  induction n with
  | zero => intro a _; rfl
  | succ n ih =>
    intro a h
    rw [thr_succ] at h ⊢
    by_cases hc : ch1 (fewT mask t) q a = 0
    · rw [if_pos hc] at h
      rw [if_pos (few_ch1 hc)]
      exact ih _ h
    · rw [if_neg hc] at h
      exact absurd h hc
theorem few_wrB (mask : Int) (t : List Pg) : ∀ (s : List UInt8) (b : Nat → UInt8) (a : Int), wrB (fewT mask t) b a s = wrB t b a s := by
  intro s
  induction s with
  | nil => intro b a; rfl
  | cons c s ih => intro b a; rw [wrB, wrB, few_loc, ih]
theorem few_rd {st : St} {mask : Int} {t : List Pg} (hT : okT st.n t = true) {a n r : Int} (h : (rdR st (fewT mask t) a n r).2 = 0) : (rdR st t a n r) = (rdR st (fewT mask t) a n r) := by
  have hT' := fewT_ok mask hT
  have n1 : ¬ okT st.n (fewT mask t) = false := by rw [hT']; simp
  have n2 : ¬ okT st.n t = false := by rw [hT]; simp
  unfold rdR at h ⊢
  simp only [if_neg n1] at h
  simp only [if_neg n1, if_neg n2]
  by_cases hs : n < 0 ∨ 4096 < n ∨ (r ≠ 1 ∧ r ≠ 4)
  · rw [if_pos hs] at h; simp at h
  · rw [if_neg hs] at h
    simp only [if_neg hs]
    simp only at h
    rw [few_thr _ _ h, h]
    simp only [few_loc]
theorem few_wr {st : St} {mask : Int} {t : List Pg} (hT : okT st.n t = true) {a : Int} {s : ByteArray} (h : wrE st (fewT mask t) a s = 0) : wrE st t a s = 0 ∧ wrS st t a s = wrS st (fewT mask t) a s := by
  have hT' := fewT_ok mask hT
  have h0 : wrE st t a s = 0 := by
    unfold wrE at h ⊢
    rw [if_neg (by rw [hT']; simp)] at h
    rw [if_neg (by rw [hT]; simp)]
    by_cases hs : 4096 < s.size
    · rw [if_pos hs] at h; omega
    · rw [if_neg hs] at h ⊢
      exact few_thr _ _ h
  refine ⟨h0, ?_⟩
  unfold wrS
  rw [h0, h, if_pos rfl, if_pos rfl, few_wrB]
end Go.Proofs.Ytdkihajajdhpnaa
