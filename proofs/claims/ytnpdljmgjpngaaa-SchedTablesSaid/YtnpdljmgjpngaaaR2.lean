/- The reference's Length, Tick, At. -/
import Derived.Test.YtnpdljmgjpngaaaR1
namespace Go.Proofs.Ytnpdljmgjpngaaa
open Go.RowKit
set_option linter.unusedVariables false
set_option linter.unusedSimpArgs false

theorem rcheck_ok (A : Option Addr) (n cap : Nat) (l : List Win) (w : World) (h : WinsIn w (.slice A n cap) l) (hn : n ≤ 4611686018427387904) (hok : okL l = true) :
    Calls Try.prog 11 #[.slice A n cap] w fun e w' => e = .returned (.int .i64 0) ∧ Fr [] w w' := by
  have := rcheck_any A n cap l w h hn
  rwa [chE_ok hok] at this
theorem rcheck_no (A : Option Addr) (n cap : Nat) (l : List Win) (w : World) (h : WinsIn w (.slice A n cap) l) (hn : n ≤ 4611686018427387904) (hok : okL l = false) :
    Calls Try.prog 11 #[.slice A n cap] w fun e w' => e = .returned (.int .i64 130) ∧ Fr [] w w' := by
  have := rcheck_any A n cap l w h hn
  rwa [chE_no hok] at this

set_option maxHeartbeats 400000 in
theorem rLength_any (A : Option Addr) (n cap : Nat) (l : List Win) (w : World) (h : WinsIn w (.slice A n cap) l) (hn : n ≤ 4611686018427387904) :
    Calls Try.prog 9 #[.slice A n cap] w fun e w' => e = .returned (.tuple #[.int .i64 (lenT l), .int .i64 (chE l)]) ∧ Fr [] w w' := by
  cases hok : okL l with
  | false =>
    have Hc := Lib.hid fun w h => rcheck_no A n cap l w h hn hok
    have H := Lib.hid h
    have Hok := Lib.hid hok
    clear h hok
    go_enter Try.func9, Try.ntmps9
    go_wp2_with (go_at_call 11; go_must ((with_reducible refine (Hc.out _ H.out).mono ?_); rintro e w1 ⟨rfl, hf1⟩))
    go_ret2
    refine ⟨?_, hf1⟩
    rw [chE_no Hok.out, lenT, Hok.out]
    rfl
  | true =>
    have Hc := Lib.hid fun w h => rcheck_ok A n cap l w h hn hok
    have Hl := Lib.hid fun w h => frame_any A n cap l w h hok
    have HL := Lib.hid (fl_all hok)
    have H := Lib.hid h
    have Hok := Lib.hid hok
    clear h hok
    go_enter Try.func9, Try.ntmps9
    go_wp2_with (first
      | (go_at_call 11; go_must ((with_reducible refine (Hc.out _ H.out).mono ?_); rintro e w1 ⟨rfl, hf1⟩))
      | (go_at_call 33; go_must ((with_reducible refine (Hl.out _ (H.out.fr hf1)).mono ?_); rintro e w2 ⟨v, rfl, ⟨g, cap2, rfl, hc⟩, hf2⟩; have Hcc := Lib.hid hc; clear hc)))
    go_ret2
    refine ⟨?_, hf1.trans hf2⟩
    rw [chE_ok Hok.out, lenT, Hok.out, ← HL.out]
    rfl

theorem rtick_yes (t : Int) (w : World) (h1 : 0 ≤ t) (h2 : t ≤ 1099511627776) : Calls Try.prog 40 #[.int .i64 t] w fun e w' => e = .returned (.bool true) ∧ w = w' := by
  go_enter Try.func40, Try.ntmps40
  go_wp2
  go_ret
  exact ⟨rfl, rfl⟩
theorem rtick_no (t : Int) (w : World) (h : t < 0 ∨ 1099511627776 < t) : Calls Try.prog 40 #[.int .i64 t] w fun e w' => e = .returned (.bool false) ∧ w = w' := by
  by_cases h1 : 0 ≤ t
  · have h2 : ¬ t ≤ 1099511627776 := by omega
    clear h
    go_enter Try.func40, Try.ntmps40
    go_wp2
    go_ret
    exact ⟨rfl, rfl⟩
  · clear h
    go_enter Try.func40, Try.ntmps40
    go_wp2
    go_ret
    exact ⟨rfl, rfl⟩

theorem rat_no (A : Option Addr) (n cap : Nat) (l : List Win) (w : World) (t : Int) (h : WinsIn w (.slice A n cap) l) (hn : n ≤ 4611686018427387904) (hok : okL l = false) :
    Calls Try.prog 13 #[.slice A n cap, .int .i64 t] w fun e w' => e = .returned (.tuple #[.int .i64 0, .int .i64 0, .int .i64 0, .int .i64 130]) ∧ Fr [] w w' := by
  have Hc := Lib.hid fun w h => rcheck_no A n cap l w h hn hok
  have H := Lib.hid h
  clear h hok
  go_enter Try.func13, Try.ntmps13
  go_wp2_with (go_at_call 11; go_must ((with_reducible refine (Hc.out _ H.out).mono ?_); rintro e w1 ⟨rfl, hf1⟩))
  exact bodyPost_ret (v := .tuple #[.int .i64 0, .int .i64 0, .int .i64 0, .int .i64 130]) (by simp [results, Try.results13, go_sem]) rfl ⟨rfl, hf1⟩
theorem rat_arg (A : Option Addr) (n cap : Nat) (l : List Win) (w : World) (t : Int) (h : WinsIn w (.slice A n cap) l) (hn : n ≤ 4611686018427387904) (hok : okL l = true) (ht : t < 0 ∨ 1099511627776 < t) :
    Calls Try.prog 13 #[.slice A n cap, .int .i64 t] w fun e w' => e = .returned (.tuple #[.int .i64 0, .int .i64 0, .int .i64 0, .int .i64 1]) ∧ Fr [] w w' := by
  have Hc := Lib.hid fun w h => rcheck_ok A n cap l w h hn hok
  have H := Lib.hid h
  have Ht := Lib.hid ht
  clear h hok ht
  go_enter Try.func13, Try.ntmps13
  go_wp2_with (first
    | (go_at_call 11; go_must ((with_reducible refine (Hc.out _ H.out).mono ?_); rintro e w1 ⟨rfl, hf1⟩))
    | (go_at_call 40; go_must ((with_reducible refine (rtick_no _ _ Ht.out).mono ?_); rintro e w2 ⟨rfl, rfl⟩)))
  exact bodyPost_ret (v := .tuple #[.int .i64 0, .int .i64 0, .int .i64 0, .int .i64 1]) (by simp [results, Try.results13, go_sem]) rfl ⟨rfl, hf1⟩

/-- What the reference's At tells of a tick. -/
def RatPost (w : World) (l : List Win) (t L : Int) (e : Ending) (w' : World) : Prop :=
  ∃ k, InWin l k (t % L) ∧ e = .returned (.tuple #[.int .i64 (t / L), .int .i64 k, .int .i64 (t % L - tot l k), .int .i64 0]) ∧ Fr [] w w'
set_option maxRecDepth 100000 in
set_option maxHeartbeats 1000000 in
theorem rat_ok (A : Option Addr) (n cap : Nat) (l : List Win) (w : World) (t : Int) (h : WinsIn w (.slice A n cap) l) (hn : n ≤ 4611686018427387904) (hok : okL l = true) (h1 : 0 ≤ t) (h2 : t ≤ 1099511627776) :
    Calls Try.prog 13 #[.slice A n cap, .int .i64 t] w (RatPost w l t (tot l l.length)) := by
  have Hc := Lib.hid fun w h => rcheck_ok A n cap l w h hn hok
  have Hl := Lib.hid fun w h => frame_any A n cap l w h hok
  have hbd := tot_bd hok l.length (Nat.le_refl _)
  have hl := okL_len hok
  have hL := fl_all hok
  have H := Lib.hid h
  clear h
  rw [← hL]
  have hm0 : 0 < (fl l).length := by omega
  have hm1 : (fl l).length ≤ 16320 := by omega
  obtain ⟨r, hr⟩ : ∃ r : Nat, t % ((fl l).length : Int) = r := ⟨(t % ((fl l).length : Int)).toNat, by have := Int.emod_nonneg t (show ((fl l).length : Int) ≠ 0 by omega); omega⟩
  have hrm : r < (fl l).length := by have := Int.emod_lt_of_pos t (show (0 : Int) < (fl l).length by omega); omega
  obtain ⟨k, hk, hfr⟩ := fl_get hok hrm
  have Hk := Lib.hid hk
  have Hfr := Lib.hid hfr
  have HL := Lib.hid hL
  clear hk hfr hL hbd
  generalize hmm : (fl l).length = m at *
  have HM := Lib.hid hmm
  clear hmm
  have hr2 : (r : Int) < m := by omega
  have hmod : t.tmod (m : Int) = r := by rw [Int.tmod_eq_emod_of_nonneg h1]; exact hr
  have hdiv : t.tdiv (m : Int) = t / m := Int.tdiv_eq_ediv_of_nonneg h1
  have hne : ¬ (m : Int) = 0 := by omega
  have Hr := Lib.hid hr
  have Hw : Hid (wrap64 (t / (m : Int)) = t / m) := Lib.hid (IntWalk.wrap64_in _ (by have q1 := Int.ediv_nonneg h1 (show (0 : Int) ≤ m by omega); have q2 := Int.ediv_le_self (m : Int) h1; omega))
  go_enter Try.func13, Try.ntmps13
  go_wp2_with (first
    | (go_at_call 11; go_must ((with_reducible refine (Hc.out _ H.out).mono ?_); rintro e w1 ⟨rfl, hf1⟩))
    | (go_at_call 40; go_must ((with_reducible refine (rtick_yes _ _ h1 h2).mono ?_); rintro e w2 ⟨rfl, rfl⟩))
    | (go_at_call 33; go_must ((with_reducible refine (Hl.out _ (H.out.fr hf1)).mono ?_); rintro e w3 ⟨v, rfl, ⟨g, cap2, rfl, hc⟩, hf2⟩; have hcc := hc r _ Hfr.out; have e0 := hcc.1; have e1 := hcc.2; simp only [HM.out]; clear hc hcc))
    | fail)
  have HB := Lib.hid (((hf1.trans hf2).alloc (.cells #[.int .i64 k, .int .i64 (r - tot l k)] 74)))
  go_quiet (fail)
  go_wp2
  refine bodyPost_ret (v := .tuple #[.int .i64 (t / m), .int .i64 k, .int .i64 (r - tot l k), .int .i64 0]) (by simp [results, Try.results13, go_sem]; exact Hw.out) rfl ⟨k, ?_⟩
  rw [Hr.out]
  exact ⟨Hk.out, rfl, HB.out.drewN _⟩
end Go.Proofs.Ytnpdljmgjpngaaa
