/- Tables that came in, opened: a slice of slices of pages. -/
import Derived.Test.YtdkihajajdhpnaaOpen2
import Derived.Test.YtdkihajajdhpnaaL8
namespace Go.Proofs.Ytdkihajajdhpnaa
open Go.ChangeShapes Go.WideShapes Go.Deep Go.Joins Go.RowKit
section
variable {H : Type} {enc : TypeId × Value → H} {w : World} {base : Nat} {spare : Nat → Bool} {held : Bool}
theorem open_tabs {v : Value} {d : DataW H} {ps : List MemPlace} {r : Reach} {b0 : Nat} (hv : Value.okWide Try.prog w r b0 47 v) (h : DataW.Trod enc Try.prog w base spare held 47 v d ps) :
    ∃ (B : Option Addr) (nl cl : Nat) (tv : Nat → Value), v = .slice B nl cl ∧ nl ≤ maxLen ∧ TabsIn w B nl tv := by
  obtain ⟨a, len, cap, rfl⟩ := okWide_slice Try.underlying47 hv
  obtain ⟨fuel, hf⟩ := h
  have h1 : Try.prog.cellsOf 22 = 1 := by kernel_rfl
  rcases open_slice Try.underlying47 hf with ⟨hcs, hx⟩ | ⟨x, l, c, m, n, D, Pl, hcs, hb, hl, hm, hmm, hx, hi⟩
  · simp [Value.cells] at hcs
    obtain ⟨rfl, rfl, rfl⟩ := hcs
    exact ⟨none, 0, 0, fun _ => .slice none 0 0, rfl, Nat.zero_le _, fun i hi => by omega⟩
  · simp [Value.cells] at hcs
    obtain ⟨rfl, rfl, rfl⟩ := hcs
    have hlm : len ≤ m := by rw [hmm]; split <;> omega
    have key : ∀ i, i < len → ∃ u : Value, x.spot = none ∧ w.cell? ⟨x.block, x.off + i, none⟩ = some u ∧ ∃ A m c tb t, u = .slice A m c ∧ Tb w tb (.slice A m c) t := by
      intro i hil
      obtain ⟨cs', hc, ht'⟩ := hi i (by omega)
      rw [h1] at hc
      obtain ⟨_, hcl, hat⟩ := World.cells?_some hc
      obtain ⟨A, m', c', tb, t, rfl, ht, _⟩ := open_pages_fuel ht'
      have c0 := hat 0 (by omega)
      rw [Go.Deep.add_add] at c0
      simp at c0
      have hsp : x.spot = none := by
        obtain ⟨cs0, hc0, ht0⟩ := hi 0 (by omega)
        rw [h1] at hc0
        obtain ⟨_, hcl0, hat0⟩ := World.cells?_some hc0
        obtain ⟨A0, m0, c00, tb0, t0, rfl, _⟩ := open_pages_fuel ht0
        have c1 := hat0 0 (by omega)
        exact spot_of_cell' (a := x) (by simpa [Addr.add] using c1)
      obtain ⟨xb, xo, xs⟩ := x
      simp only at hsp
      subst hsp
      rw [addr_add] at c0
      exact ⟨_, rfl, c0, A, m', c', tb, t, rfl, ht⟩
    refine ⟨_, len, cap, fun i => if hil : i < len then (key i hil).choose else .slice none 0 0, rfl, by omega, fun i hil => ?_⟩
    have hk := (key i hil).choose_spec
    simp only [dif_pos hil]
    refine ⟨⟨x.block, x.off, ?_, hk.2.1⟩, ?_⟩
    · have hsp := hk.1
      obtain ⟨xb, xo, xs⟩ := x
      simp only at hsp
      subst hsp
      rfl
    · obtain ⟨A, m', c', tb, t, he, ht⟩ := hk.2.2
      exact ⟨A, m', c', tb, t, he, ht⟩
theorem open_ops {v : Value} {d : DataW H} {ps : List MemPlace} {r : Reach} {b0 : Nat} (hv : Value.okWide Try.prog w r b0 48 v) (h : DataW.Trod enc Try.prog w base spare held 48 v d ps) :
    ∃ (A : Option Addr) (n cap : Nat) (ops : Nat → OpM), v = .slice A n cap ∧ OpsIn w (.slice A n cap) n ops := by
  obtain ⟨a, len, cap, rfl⟩ := okWide_slice Try.underlying48 hv
  obtain ⟨fuel, hf⟩ := h
  obtain ⟨A, n, c, ops, hcs, ho⟩ := open_ops_fuel hf
  simp [Value.cells] at hcs
  obtain ⟨rfl, rfl, rfl⟩ := hcs
  exact ⟨_, _, _, ops, rfl, ho⟩
end
end Go.Proofs.Ytdkihajajdhpnaa
