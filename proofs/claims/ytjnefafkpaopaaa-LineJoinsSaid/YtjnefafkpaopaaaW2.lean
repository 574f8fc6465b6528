/- Line: Same on equal rows. -/
import Derived.Test.YtjnefafkpaopaaaW1
namespace Go.Proofs.Ytjnefafkpaopaaa
open Go.RowKit
set_option linter.unusedVariables false
set_option linter.unusedSimpArgs false

def enc (l : List (Nat × Nat)) : List Value := l.map fun p => .complex .f64 p.1 p.2
theorem enc_len (l : List (Nat × Nat)) : (enc l).length = l.length := by simp [enc]
theorem enc_at {l : List (Nat × Nat)} {i : Nat} {p : Nat × Nat} (h : l[i]? = some p) : (enc l)[i]? = some (.complex .f64 p.1 p.2) := by simp [enc, h]

theorem Sl.cx_at {w : World} {v : Value} {n : Nat} {l : List (Nat × Nat)} (h : Sl w 27 1 v n (enc l)) {i : Nat} {p : Nat × Nat} (hp : l[i]? = some p) :
    ∃ g o cap, v = .slice (some ⟨g, o, none⟩) n cap ∧ w.cell? ⟨g, o + i, none⟩ = some (.complex .f64 p.1 p.2) := by
  rcases h.form with ⟨rfl, rfl, h1⟩ | ⟨g, o, cap, rfl, h1, h2, h3, h4, h5⟩
  · have := enc_at hp
    rw [h1] at this
    simp at this
  · exact ⟨g, o, cap, rfl, by have := h5 i _ (enc_at hp); rwa [addr_add] at this⟩

set_option maxRecDepth 100000 in
set_option maxHeartbeats 1000000 in
theorem same_rows (l : List (Nat × Nat)) (v v' : Value) (n : Nat) (w : World) (h : Sl w 27 1 v n (enc l)) (h' : Sl w 27 1 v' n (enc l)) (hn : n ≤ 4096) :
    Calls Try.prog 7 #[v, v'] w fun e w' => e = .returned (.bool true) ∧ Fr [] w w' := by
  have hl : l.length = n := by have := h.1; rw [enc_len] at this; omega
  obtain ⟨A, cap, rfl, -⟩ := h.shape
  obtain ⟨A', cap', rfl, -⟩ := h'.shape
  have H := Lib.hid h
  have H' := Lib.hid h'
  have Hl := Lib.hid hl
  clear h h' hl
  go_enter Try.func7, Try.ntmps7
  go_wp2_with fail
  go_loopg [5] n (fun gg i wr => ∃ k : Nat, k + gg = n ∧ i = .int .i64 k ∧ Fr [] w wr)
  case atStart => exact ⟨0, by omega, rfl, Fr.refl _ _⟩
  case round =>
    obtain ⟨k, hk, rfl, hf⟩ := hrel
    have Hf := Lib.hid hf
    have Hk := Lib.hid hk
    by_cases hlt : k < n
    · obtain ⟨⟨x, y⟩, hp⟩ : ∃ p, l[k]? = some p := ⟨_, List.getElem?_eq_getElem (by have := Hl.out; omega)⟩
      obtain ⟨g, o, c, e1, c1⟩ := (H.out.fr hf (by simp)).cx_at hp
      obtain ⟨g', o', c', e1', c1'⟩ := (H'.out.fr hf (by simp)).cx_at hp
      injection e1 with e1 _ e2
      injection e1' with e1' _ e2'
      subst e1
      subst e1'
      subst e2
      subst e2'
      simp only at c1 c1'
      have hki : (k : Int) < (n : Int) := by omega
      have HP := Lib.hid fun x w => same_part x w
      clear hk hf hp
      go_wp2_with fail
      go_quiet ((go_at_call 11; exact Calls.quiet_of_same (same_of (HP.out _ _))))
      go_wp2
      go_roundg (n - (k + 1))
      case measure => have := Hk.out; omega
      case rel => exact ⟨k + 1, by have := Hk.out; omega, by go_num, Hf.out.drewN _⟩
    · go_wp2_with fail
      go_ret
      exact ⟨rfl, hf⟩
end Go.Proofs.Ytjnefafkpaopaaa
