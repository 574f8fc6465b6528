/- A call on both memories, the program's and the reference's. -/
import Derived.Test.YtdkihajajdhpnaaW22
namespace Go.Proofs.Ytdkihajajdhpnaa
open Go.RowKit
set_option linter.unusedVariables false
set_option linter.unusedSimpArgs false
attribute [local go_sem ↓] Go.wp_at_zero Go.wp_at_succ
/-- Where all lies. -/
structure DoL where
  p : Nat
  F : Nat
  q : Nat
  G : Nat
  tb : Nat
  A : Option Addr
  m : Nat
  c : Nat
  t : List Pg
structure DoN (L : DoL) : Prop where
  f : L.p ≠ L.F ∧ L.q ≠ L.F ∧ L.G ≠ L.F ∧ L.tb ≠ L.F
  g : L.p ≠ L.G ∧ L.q ≠ L.G ∧ L.F ≠ L.G ∧ L.tb ≠ L.G
structure Do (W : World) (L : DoL) (st st' : St) : Prop where
  m : MemAt W L.p L.F st
  x : RMem W L.q L.G st'
  t : Tb W L.tb (.slice L.A L.m L.c) L.t
  h : L.tb < W.heap.size
section
variable {W W' : World} {L : DoL} {st st' : St}
theorem Do.fr (h : Do W L st st') (hf : Fr [] W W') : Do W' L st st' :=
  ⟨h.m.to hf (by simp) (by simp), h.x.to hf (by simp) (by simp), h.t.fr hf (by simp), Nat.lt_of_lt_of_le h.h hf.size⟩
theorem Do.setM (h : Do W L st st') (hn : DoN L) {st1 : St} (hm : MemAt W' L.p L.F st1) (hf : Fr [L.F] W W') : Do W' L st1 st' :=
  ⟨hm, h.x.to hf (by simpa using hn.f.2.1) (by simpa using hn.f.2.2.1), h.t.fr hf (by simpa using hn.f.2.2.2), Nat.lt_of_lt_of_le h.h hf.size⟩
theorem Do.setX (h : Do W L st st') (hn : DoN L) {st1 : St} (hm : RMem W' L.q L.G st1) (hf : Fr [L.G] W W') : Do W' L st st1 :=
  ⟨h.m.to hf (by simpa using hn.g.1) (by simpa using hn.g.2.2.1), hm, h.t.fr hf (by simpa using hn.g.2.2.2), Nat.lt_of_lt_of_le h.h hf.size⟩
def DoP (W : World) (L : DoL) (st st' : St) (F : Nat) (r : Int) (e : Ending) (w' : World) : Prop := e = .returned (.int .i64 r) ∧ Do w' L st st' ∧ Fr [F] W w'
end
/-- What a call leaves. -/
def layS (st : St) (f a : Int) (s : ByteArray) : St := if layE st.n f a s = 0 then ⟨st.n, putL st.b (f.toNat * 256 + a.toNat) s.data.toList⟩ else st
def clS (st : St) (f : Int) : St := if clE st.n f = 0 then ⟨st.n, putL st.b (f.toNat * 256) zs256⟩ else st
def doS (st : St) (t : List Pg) (k a b c : Int) (s : ByteArray) : St :=
  if k = 1 then wrS st t a s else if k = 3 then stS st t a b c else if k = 4 then layS st a b s else if k = 5 then clS st a else st
theorem layS_n (st : St) (f a : Int) (s : ByteArray) : (layS st f a s).n = st.n := by unfold layS; split <;> rfl
theorem clS_n (st : St) (f : Int) : (clS st f).n = st.n := by unfold clS; split <;> rfl
theorem doS_n (st : St) (t : List Pg) (k a b c : Int) (s : ByteArray) : (doS st t k a b c s).n = st.n := by
  unfold doS
  split
  · exact wrS_n _ _ _ _
  · split
    · exact stS_n
    · split
      · exact layS_n _ _ _ _
      · split
        · exact clS_n _ _
        · rfl
theorem Lay_all (p F : Nat) (st : St) (w : World) (f a : Int) (s : ByteArray) (h : MemAt w p F st) (hs : s.size ≤ maxLen) : Calls Try.prog 12 #[ptr p, .int .i64 f, .int .i64 a, .string s] w fun e w' => e = .returned (.int .i64 (layE st.n f a s)) ∧ MemAt w' p F (layS st f a s) ∧ Fr [F] w w' := by
  by_cases h8 : s.size ≤ 1152921504606846976
  · exact Lay_any p F st w f a s h h8
  · by_cases hf : f < 0 ∨ (st.n : Int) ≤ f
    · obtain ⟨cap, hc, -, -⟩ := h.hd.cell
      have e0 : layE st.n f a s = 83 := by unfold layE; rw [if_pos hf]
      have e1 : layS st f a s = st := by unfold layS; rw [e0, if_neg (by omega)]
      rw [e0, e1]
      have HM := Lib.hid h
      clear h e0 e1 h8 hs
      generalize st.n = M at *
      rcases hf with hf | hf
      · go_enter Try.func12, Try.ntmps12
        go_wp2
        go_ret
        exact ⟨rfl, HM.out, Fr.refl _ _⟩
      · by_cases hf' : f < 0
        · go_enter Try.func12, Try.ntmps12
          go_wp2
          go_ret
          exact ⟨rfl, HM.out, Fr.refl _ _⟩
        · go_enter Try.func12, Try.ntmps12
          go_wp2
          go_ret
          exact ⟨rfl, HM.out, Fr.refl _ _⟩
    · have e0 : layE st.n f a s = 80 := by unfold layE; rw [if_neg hf, if_pos (by omega)]
      have e1 : layS st f a s = st := by unfold layS; rw [e0, if_neg (by omega)]
      rw [e0, e1]
      obtain ⟨f', rfl⟩ := Int.eq_ofNat_of_zero_le (by omega : 0 ≤ f)
      by_cases ha : a < 0 ∨ 256 < a
      · obtain ⟨cap, hc, -, -⟩ := h.hd.cell
        have HM := Lib.hid h
        have hf2 : ¬ (st.n : Int) ≤ (f' : Int) := by omega
        have hf3 : ¬ (f' : Int) < 0 := by omega
        simp only [maxLen] at hs
        clear h e0 e1 h8 hf
        generalize st.n = M at *
        rcases ha with ha | ha
        · go_enter Try.func12, Try.ntmps12
          go_wp2
          go_ret
          exact ⟨rfl, HM.out, Fr.refl _ _⟩
        · have ha' : ¬ a < 0 := by omega
          go_enter Try.func12, Try.ntmps12
          go_wp2
          go_ret
          exact ⟨rfl, HM.out, Fr.refl _ _⟩
      · obtain ⟨a', rfl⟩ := Int.eq_ofNat_of_zero_le (by omega : 0 ≤ a)
        refine (Lay_long p F st w f' a' s h hs (by omega) (by omega) (by omega)).mono fun e w' ⟨he, hw⟩ => ?_
        subst hw
        exact ⟨he, h, Fr.refl _ _⟩
def PickP (nl : Nat) (tv : Nat → Value) (w : World) (e : Ending) (w' : World) : Prop := ((nl = 0 ∧ e = .returned (.slice none 0 0)) ∨ ∃ i, i < nl ∧ e = .returned (tv i)) ∧ w = w'
theorem pick_any (nl capl : Nat) (B : Option Addr) (on : Int) (w : World) (tv : Nat → Value) (hsl : ∀ i, i < nl → ∃ A m c, tv i = .slice A m c) (hnl : nl ≤ maxLen) (hon : -9223372036854775808 ≤ on ∧ on ≤ 9223372036854775807)
    (hB : ∀ i, i < nl → ∃ b off, B = some ⟨b, off, none⟩ ∧ w.cell? ⟨b, off + i, none⟩ = some (tv i)) :
    Calls Try.prog 20 #[.slice B nl capl, .int .i64 on] w (PickP nl tv w) := by
  simp only [maxLen] at hnl
  by_cases h0 : nl = 0
  · subst h0
    clear hB hsl
    go_enter Try.func20, Try.ntmps20
    go_wp2
    go_ret
    exact (show PickP 0 tv w _ w from ⟨.inl ⟨rfl, rfl⟩, rfl⟩)
  · have hnb : ((nl : Int) == 0) = false := by rw [beq_eq_false_iff_ne]; omega
    obtain ⟨r, hr⟩ : ∃ r, on.tmod (nl : Int) = r := ⟨_, rfl⟩
    have hlt : r < (nl : Int) := by rw [← hr]; exact Int.tmod_lt_of_pos _ (by omega)
    have hgt : -(nl : Int) < r := by
      rw [← hr]
      have := Int.lt_tmod_of_pos on (show (0 : Int) < (nl : Int) by omega)
      exact this
    have hn0 : ¬ (nl : Int) = 0 := by omega
    have HB := Lib.hid hB
    have Hs := Lib.hid hsl
    have hrw : -9223372036854775808 ≤ r ∧ r ≤ 9223372036854775807 := by omega
    clear hB h0 hsl
    by_cases hneg : r < 0
    · obtain ⟨i, hi⟩ := Int.eq_ofNat_of_zero_le (show 0 ≤ r + (nl : Int) by omega)
      obtain ⟨b, off, rfl, hc⟩ := HB.out i (by omega)
      obtain ⟨A, m, c, hv⟩ := Hs.out i (by omega)
      have hil : i < nl := by omega
      have hi0 : (0 : Int) ≤ (i : Int) := by omega
      have hi1 : (i : Int) < (nl : Int) := by omega
      have Hv := Lib.hid hv
      rw [hv] at hc
      clear hv
      go_enter Try.func20, Try.ntmps20
      go_wp2
      go_ret
      exact ⟨.inr ⟨i, hil, by rw [Hv.out]; rfl⟩, rfl⟩
    · obtain ⟨i, rfl⟩ := Int.eq_ofNat_of_zero_le (show 0 ≤ r by omega)
      obtain ⟨b, off, rfl, hc⟩ := HB.out i (by omega)
      obtain ⟨A, m, c, hv⟩ := Hs.out i (by omega)
      have hil : i < nl := by omega
      have Hv := Lib.hid hv
      rw [hv] at hc
      clear hv
      go_enter Try.func20, Try.ntmps20
      go_wp2
      go_ret
      exact ⟨.inr ⟨i, hil, by rw [Hv.out]; rfl⟩, rfl⟩
end Go.Proofs.Ytdkihajajdhpnaa
