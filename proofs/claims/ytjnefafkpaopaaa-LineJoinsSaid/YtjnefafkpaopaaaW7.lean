/- Line: slices.Index. -/
import Derived.Test.YtjnefafkpaopaaaW6
namespace Go.Proofs.Ytjnefafkpaopaaa
open Go.RowKit
set_option linter.unusedVariables false
set_option linter.unusedSimpArgs false

theorem index_any (l : List (Nat × Nat)) (A : Option Addr) (cap n a b j : Nat) (w : World) (h : Sl w 27 1 (.slice A n cap) n (enc l)) (hn : n ≤ 4096) (hj : j < n)
    (he : ∀ (i : Nat) (p : Nat × Nat), l[i]? = some p → i ≤ j → ((FloatKind.f64.format.order a p.1 == some .eq) && (FloatKind.f64.format.order b p.2 == some .eq)) = (i == j)) :
    Calls Try.prog 18 #[.slice A n cap, .complex .f64 a b] w fun e w' => e = .returned (.int .i64 (j : Int)) ∧ w = w' := by
  have H := Lib.hid h
  have Hl := Lib.hid (show l.length = n by have := h.1; rw [enc_len] at this; omega)
  have HE := Lib.hid he
  clear h he
  go_enter Try.func18, Try.ntmps18
  go_wp2_with fail
  go_loopg [8] n (fun gg i wr => ∃ k : Nat, k + gg = n ∧ i = .int .i64 k ∧ k ≤ j ∧ w = wr)
  case atStart => exact ⟨0, by omega, rfl, by omega, rfl⟩
  case round =>
    obtain ⟨k, hk, rfl, hkj, rfl⟩ := hrel
    have Hk := Lib.hid hk
    have hlt : k < n := by omega
    obtain ⟨⟨x, y⟩, hp⟩ : ∃ p, l[k]? = some p := ⟨_, List.getElem?_eq_getElem (by have := Hl.out; omega)⟩
    obtain ⟨g, o, c, e1, c1⟩ := H.out.cx_at hp
    injection e1 with e1 _ e2
    subst e1
    subst e2
    have hq := HE.out k _ hp hkj
    simp only at hq c1
    have hki : (k : Int) < (n : Int) := by omega
    by_cases hkk : k = j
    · subst hkk
      have hr : ((FloatKind.f64.format.order a x == some Ordering.eq) && (FloatKind.f64.format.order b y == some Ordering.eq)) = true := by rw [hq]; simp
      rw [Bool.and_eq_true] at hr
      obtain ⟨r1, r2⟩ := hr
      clear hk hp hq
      go_wp2_with fail
      go_ret
      exact ⟨rfl, rfl⟩
    · have hr : ((FloatKind.f64.format.order a x == some Ordering.eq) && (FloatKind.f64.format.order b y == some Ordering.eq)) = false := by rw [hq]; simpa using hkk
      clear hk hp hq
      go_wp2_with fail
      go_roundg (n - (k + 1))
      case measure => have := Hk.out; omega
      case rel => exact ⟨k + 1, by have := Hk.out; omega, by go_num, by omega, rfl⟩
end Go.Proofs.Ytjnefafkpaopaaa
