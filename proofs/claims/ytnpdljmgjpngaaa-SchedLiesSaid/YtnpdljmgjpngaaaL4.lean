/- SchedLies: the walk, whole. -/
import Derived.Test.YtnpdljmgjpngaaaL3
namespace Go.Proofs.Ytnpdljmgjpngaaa
open Go.RowKit
set_option linter.unusedVariables false

theorem lies_walk (A : Option Addr) (n cap : Nat) (l : List Win) (t : Int) (w : World) (h : WinsIn w (.slice A n cap) l) (hn : n ≤ 4611686018427387904) :
    Calls Try.prog 5 #[.slice A n cap, .int .i64 t] w fun e w' => e = .returned (.bool true) ∧ Fr [] w w' := by
  by_cases hb : okL l = false ∨ t < 0 ∨ 1099511627776 < t
  · exact lies_no A n cap l t w h hn hb
  · have hok : okL l = true := by cases hok : okL l with | true => rfl | false => exact absurd (.inl hok) hb
    have h1 : 0 ≤ t := by omega
    by_cases he : t = 1099511627776
    · subst he
      exact lies_edge A n cap l w h hn hok
    · have h2 : t < 1099511627776 := by omega
      have hl := okL_len hok
      have hL := tot_bd hok l.length (Nat.le_refl _)
      have ht0 : badT t = false := by unfold badT; simp; omega
      have ht1 : badT (t + 1) = false := by unfold badT; simp; omega
      obtain ⟨k, hk⟩ : ∃ k, InWin l k (t % tot l l.length) := by
        have hfl := fl_all hok
        have r0 := Int.emod_nonneg t (show tot l l.length ≠ 0 by omega)
        have r1 := Int.emod_lt_of_pos t (show 0 < tot l l.length by omega)
        obtain ⟨j, hj, _⟩ := fl_get hok (r := (t % tot l l.length).toNat) (by omega)
        rw [Int.toNat_of_nonneg r0] at hj
        exact ⟨j, hj⟩
      obtain ⟨x, hx⟩ : ∃ x, l[k]? = some x := ⟨_, List.getElem?_eq_getElem hk.1⟩
      have hxT := tot_succ hx
      have hmw := (mayW_iff x).1 (okL_at hok hx)
      have hlen := h.len
      have hk1 := hk.1
      have hk2 := hk.2
      have HL : Tells 8 #[.slice A n cap] (.tuple #[.int .i64 (tot l l.length), .int .i64 0]) A n cap l := fun w h => by
        have := Length_any A n cap l w h hn
        rw [lenT, hok, chE_ok hok] at this
        exact this
      have HC : Tells 11 #[.slice A n cap] (.int .i64 0) A n cap l := fun w h => rcheck_ok A n cap l w h hn hok
      have HA : Tells 12 #[.slice A n cap, .int .i64 t] _ A n cap l := at_good A n cap l t hn hok ht0 hk
      have core := fun M' k' o' hB hc => lies_core A n cap l t (t / tot l l.length) (t % tot l l.length - tot l k) M' k' o' (tot l l.length) k x w h HA hB HL HC hx h1 h2 (by omega) (by omega) (by omega) (by omega) (by omega) (by omega) (by omega)
        (Int.ediv_nonneg h1 (by omega)) (Int.ediv_le_self _ h1) (Int.tdiv_eq_ediv_of_nonneg h1) hc
      rcases next_tick hok hk with ⟨c1, c2, c3, c4⟩ | ⟨c1, c5, c2, c3, c4⟩ | ⟨c1, c5, c2, c3, c4⟩
      · exact core _ _ _ (at_good A n cap l (t + 1) hn hok ht1 c3) (.inl ⟨by omega, c2, rfl, c4⟩)
      · exact core _ _ _ (at_good A n cap l (t + 1) hn hok ht1 c3) (.inr (.inl ⟨by omega, by omega, c2, by simp, c4⟩))
      · exact core _ _ _ (at_good A n cap l (t + 1) hn hok ht1 c3) (.inr (.inr ⟨by omega, by omega, c2, rfl, c4⟩))
end Go.Proofs.Ytnpdljmgjpngaaa
