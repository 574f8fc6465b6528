/- BlockStamps: the plain part. -/
import Derived.Test.YthmnloapjdalpaaL14
namespace Go.Proofs.Ythmnloapjdalpaa
open Go.RowKit
set_option linter.unusedVariables false
set_option linter.unusedSimpArgs false
section
variable {w0 w : World} {v p : Nat} {b : Bv} {d : Dk}
theorem Dv.crash {A : Option Addr} {n cap : Nat} {l : List Int} (h : Dv w0 w v p b d) (hz : Zw w (.slice A n cap) l) : Calls Try.prog 32 #[ptr p, .slice A n cap] w fun e w' => e = .returned (.int .i64 d.crashE) ∧ Dv w0 w' v p b (d.crashS l) := by
  obtain ⟨⟨f, g, m, ha, h1, h2, h3⟩, hv, hv0, hi⟩ := h
  exact (Crash_any p g m d A n cap l w ha hz).mono fun e w' ⟨he, hT⟩ => ⟨he, Dv.disk f ha h1 h2 h3 hv hv0 (by unfold Dk.crashS; split <;> exact hi) hT⟩
theorem Dv.revive (h : Dv w0 w v p b d) : Calls Try.prog 33 #[ptr p] w fun e w' => e = .returned (.tuple #[]) ∧ Dv w0 w' v p b d.revive := by
  obtain ⟨⟨f, g, m, ha, h1, h2, h3⟩, hv, hv0, hi⟩ := h
  exact (Revive_any p g m d w ha).mono fun e w' ⟨he, hD, hf⟩ => ⟨he, Dv.disk f ha h1 h2 h3 hv hv0 hi (.of_same hD hf)⟩
theorem Dv.image (h : Dv w0 w v p b d) : Calls Try.prog 28 #[ptr p] w fun e w' => e = .returned (.string d.image) ∧ Dv w0 w' v p b d := h.dd.image.mono fun e w' ⟨he, hf⟩ => ⟨he, h.to hf⟩
theorem Dv.safe (h : Dv w0 w v p b d) : Calls Try.prog 31 #[ptr p] w fun e w' => e = .returned (.string d.safe) ∧ Dv w0 w' v p b d := h.dd.safe.mono fun e w' ⟨he, hf⟩ => ⟨he, hf ▸ h⟩
theorem Dv.fixed15 (h : Dv w0 w v p b d) : Calls Try.prog 19 #[] w fun e w' => e = .returned (.bool true) ∧ Dv w0 w' v p b d := (fixed15_any w).mono fun e w' ⟨he, hf⟩ => ⟨he, h.to hf⟩
end
/-- A sector of which so many bytes are the new ones. -/
def mix (c : Nat) (nw old : ByteArray) : ByteArray := bs (fun i => if i < c then at8 nw i else at8 old i) 0 128
theorem mix_size (c : Nat) (nw old : ByteArray) : (mix c nw old).size = 128 := bs_size _ _ _
theorem mix_all {nw old : ByteArray} (h : nw.size = 128) (c : Nat) (hc : 128 ≤ c) : mix c nw old = nw := by
  have : mix c nw old = bs (at8 nw) 0 128 := bs_congr fun i hi => by show (if _ then _ else _) = _; rw [if_pos (by omega)]
  rw [this, bs_all' h]
theorem stamp_bytes {s : ByteArray} (h : s.size = 128) : stampOf s = big (bs (at8 s) 120 8).data.toList := by
  unfold stampOf
  have e : s.extract 120 s.size = bs (at8 s) 120 8 := by
    conv => lhs; rw [← bs_all' h]
    rw [bs_size, bs_extract _ _ _ _ _ (by omega) (by omega)]
  rw [e]
theorem bs8_len (f : Nat → UInt8) (o : Nat) : (bs f o 8).data.toList.length = 8 := by show ((List.range 8).map _).length = 8; simp
/-- Of a torn block whose stamp is the new one all is new. -/
theorem mix_new {nw old : ByteArray} {c : Nat} (h1 : nw.size = 128) (h2 : old.size = 128) (hne : stampOf nw ≠ stampOf old) (hs : stampOf (mix c nw old) = stampOf nw) : mix c nw old = nw := by
  rw [stamp_bytes (mix_size _ _ _), stamp_bytes h1] at hs
  have e := list_string (big_inj 8 _ _ (bs8_len _ _) (bs8_len _ _) hs)
  have hat : ∀ i, i < 128 → at8 (mix c nw old) i = if i < c then at8 nw i else at8 old i := fun i hi => by
    unfold mix
    rw [at8_bs hi, Nat.zero_add]
  rcases Nat.lt_or_ge c 121 with hc | hc
  · exfalso
    apply hne
    rw [stamp_bytes h1, stamp_bytes h2, ← e]
    congr 1
    refine congrArg _ (congrArg _ (bs_congr fun i hi => ?_))
    rw [hat (120 + i) (by omega), if_neg (by omega)]
  · refine at8_ext (by rw [mix_size, h1]) fun i hi => ?_
    rw [mix_size] at hi
    by_cases h3 : i < 120
    · rw [hat i hi, if_pos (by omega)]
    · have := bs_inj e (i - 120) (by omega)
      rw [show 120 + (i - 120) = i by omega] at this
      exact this
theorem stampedE_bytes {t : ByteArray} {n : Int} (h : bytesE t n = 0) : stampedE (bytesV t n) = true ∧ (stampOf (bytesV t n) : Int) = n := by
  obtain ⟨h1, h2, h3⟩ := bytesE_ok h
  obtain ⟨-, -, e, -⟩ := parse_bytes h
  refine ⟨?_, by rw [e]; omega⟩
  unfold stampedE
  rw [e]
  simpa using (show n.toNat ≤ 4611686018427387904 by omega)
end Go.Proofs.Ythmnloapjdalpaa
