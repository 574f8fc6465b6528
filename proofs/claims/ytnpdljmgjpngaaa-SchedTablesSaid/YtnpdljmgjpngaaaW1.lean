/- Windows in memory that came in; which may be; Check, of the program and of the reference. -/
import Derived.Test.YtnpdljmgjpngaaaRows
import Derived.Test.YtnpdljmgjpngaaaLib
import Derived.WalkKit
import Derived.WalkSpells
import Derived.WalkLawsBesides
import Derived.Deep.QuietTactic
import Derived.BigQuiet
import Derived.Lib.Hide
import Derived.Deep.LoopGhost
import Derived.Deep.DeepMust
import Derived.Deep.RegionHeld3
namespace Go.Proofs.Ytnpdljmgjpngaaa
open Go.RowKit
set_option linter.unusedVariables false
set_option linter.unusedSimpArgs false

theorem ret_bool {a b : Bool} (h : a = b) : Ending.returned (.bool a) = .returned (.bool b) := by rw [h]
theorem ret_int {k : IntKind} {a b : Int} (h : a = b) : Ending.returned (.int k a) = .returned (.int k b) := by rw [h]

/-- A window. -/
structure Win where
  K : Int
  I : Int
  T : Int
/-- A slice of windows, in memory that came in. -/
def WinsIn (w : World) (v : Value) (l : List Win) : Prop :=
  l.length ≤ maxLen ∧ ∃ A cap, v = .slice A l.length cap ∧ ∀ i, i < l.length → ∃ b off x, A = some ⟨b, off, none⟩ ∧ b < w.heap.size ∧ l[i]? = some x ∧
    w.cell? ⟨b, off + i * 3, none⟩ = some (.int .i64 x.K) ∧ w.cell? ⟨b, off + i * 3 + 1, none⟩ = some (.int .i64 x.I) ∧ w.cell? ⟨b, off + i * 3 + 2, none⟩ = some (.int .i64 x.T)
theorem WinsIn.at_ {w : World} {A : Option Addr} {n cap : Nat} {l : List Win} (h : WinsIn w (.slice A n cap) l) {i : Nat} {x : Win} (hi : l[i]? = some x) : ∃ b off, A = some ⟨b, off, none⟩ ∧ b < w.heap.size ∧
    w.cell? ⟨b, off + i * 3, none⟩ = some (.int .i64 x.K) ∧ w.cell? ⟨b, off + i * 3 + 1, none⟩ = some (.int .i64 x.I) ∧ w.cell? ⟨b, off + i * 3 + 2, none⟩ = some (.int .i64 x.T) := by
  obtain ⟨_, A', cap', h1, h2⟩ := h
  injection h1 with hA _ _
  obtain ⟨b, off, y, h3, h4, h5, h6⟩ := h2 i (List.getElem?_eq_some_iff.1 hi).1
  rw [hi] at h5
  injection h5 with h5
  subst h5
  exact ⟨b, off, hA.trans h3, h4, h6⟩
theorem WinsIn.fr {w w' : World} {v : Value} {l : List Win} (h : WinsIn w v l) (hf : Fr [] w w') : WinsIn w' v l := by
  obtain ⟨h0, A, cap, h1, h2⟩ := h
  refine ⟨h0, A, cap, h1, fun i hi => ?_⟩
  obtain ⟨b, off, x, hA, hb, hx, c0, c1, c2⟩ := h2 i hi
  have hs := hf.size
  exact ⟨b, off, x, hA, by omega, hx, hf.cell_some c0 (by simp), hf.cell_some c1 (by simp), hf.cell_some c2 (by simp)⟩
theorem WinsIn.len {w : World} {A : Option Addr} {n cap : Nat} {l : List Win} (h : WinsIn w (.slice A n cap) l) : n = l.length := by
  obtain ⟨_, A', cap', h1, _⟩ := h
  injection h1

/-- May a window be? -/
def mayW (x : Win) : Bool := decide (0 ≤ x.K) && decide (x.K ≤ 4) && (decide (0 ≤ x.I) && decide (x.I ≤ 7)) && (decide (1 ≤ x.T) && decide (x.T ≤ 255)) && !((x.K == 0 || x.K == 4) && !(x.I == 0))
theorem mayW_iff (x : Win) : mayW x = true ↔ 0 ≤ x.K ∧ x.K ≤ 4 ∧ 0 ≤ x.I ∧ x.I ≤ 7 ∧ 1 ≤ x.T ∧ x.T ≤ 255 ∧ ((x.K = 0 ∨ x.K = 4) → x.I = 0) := by
  unfold mayW
  simp only [Bool.and_eq_true, decide_eq_true_eq, Bool.not_eq_true', Bool.and_eq_false_iff, Bool.or_eq_false_iff, beq_eq_false_iff_ne, Bool.not_eq_false', beq_iff_eq]
  omega
/-- May windows be a major frame? -/
def okL (l : List Win) : Bool := decide (1 ≤ l.length) && decide (l.length ≤ 64) && l.all mayW

set_option maxHeartbeats 400000 in
theorem in_any (a b c : Int) (w : World) :
    Calls Try.prog 34 #[.int .i64 a, .int .i64 b, .int .i64 c] w fun e w' => e = .returned (.bool (decide (b ≤ a) && decide (a ≤ c))) ∧ w = w' := by
  by_cases h1 : b ≤ a
  · go_enter Try.func34, Try.ntmps34
    go_wp2
    go_ret
    exact ⟨by simp [*], rfl⟩
  · go_enter Try.func34, Try.ntmps34
    go_wp2
    go_ret
    exact ⟨by simp; intro; omega, rfl⟩
theorem in_yes (a b c : Int) (w : World) (h1 : b ≤ a) (h2 : a ≤ c) :
    Calls Try.prog 34 #[.int .i64 a, .int .i64 b, .int .i64 c] w fun e w' => e = .returned (.bool true) ∧ w = w' :=
  (in_any a b c w).mono fun e w' ⟨he, hw⟩ => ⟨by rw [he]; simp [h1, h2], hw⟩
theorem in_no (a b c : Int) (w : World) (h : a < b ∨ c < a) :
    Calls Try.prog 34 #[.int .i64 a, .int .i64 b, .int .i64 c] w fun e w' => e = .returned (.bool false) ∧ w = w' :=
  (in_any a b c w).mono fun e w' ⟨he, hw⟩ => ⟨by rw [he]; apply ret_bool; rw [Bool.and_eq_false_iff]; simp; omega, hw⟩
theorem may1 {x : Win} (h : 0 ≤ x.K ∧ x.K ≤ 4 ∧ 0 ≤ x.I ∧ x.I ≤ 7 ∧ 1 ≤ x.T ∧ x.T ≤ 255 ∧ ((x.K = 0 ∨ x.K = 4) → x.I = 0)) : true = mayW x := ((mayW_iff x).2 h).symm
theorem may0 {x : Win} (h : ¬ (0 ≤ x.K ∧ x.K ≤ 4 ∧ 0 ≤ x.I ∧ x.I ≤ 7 ∧ 1 ≤ x.T ∧ x.T ≤ 255 ∧ ((x.K = 0 ∨ x.K = 4) → x.I = 0))) : false = mayW x := by
  cases hm : mayW x with
  | false => rfl
  | true => exact absurd ((mayW_iff x).1 hm) h
set_option maxHeartbeats 1000000 in
theorem may_any (x : Win) (w : World) : Calls Try.prog 37 #[.agg #[.int .i64 x.K, .int .i64 x.I, .int .i64 x.T]] w fun e w' => e = .returned (.bool (mayW x)) ∧ Fr [] w w' := by
  obtain ⟨K, I, T⟩ := x
  simp only
  by_cases h0 : K = 0
  all_goals by_cases h4 : K = 4
  all_goals by_cases hi : I = 0
  all_goals
    first
      | omega
      | (go_enter Try.func37, Try.ntmps37
         go_wp2_with (go_at_call 34; first | (refine (in_yes _ _ _ _ ?h1 ?h2).mono ?_; (case h1 => omega); (case h2 => omega); rintro e w' ⟨rfl, rfl⟩) | (refine (in_no _ _ _ _ ?h1).mono ?_; (case h1 => omega); rintro e w' ⟨rfl, rfl⟩) | (refine (in_any _ _ _ _).mono ?_; rintro e w' ⟨rfl, rfl⟩))
         all_goals
           go_ret
           refine ⟨ret_bool ?_, (Fr.refl _ _).alloc _⟩
           first | exact may1 (by first | (simp only; omega) | (simp; omega)) | exact may0 (by first | (simp only; omega) | (simp; omega)) | (rw [show (!(I != 0)) = false from by simp [hi]]; exact may0 (by first | (simp only; omega) | (simp; omega))))

set_option maxHeartbeats 400000 in
theorem bad_any (x : Win) (w : World) : Calls Try.prog 36 #[.agg #[.int .i64 x.K, .int .i64 x.I, .int .i64 x.T]] w fun e w' => e = .returned (.bool (!mayW x)) ∧ Fr [] w w' := by
  go_enter Try.func36, Try.ntmps36
  go_wp2_with (go_at_call 37; go_must ((with_reducible refine (may_any x _).mono ?_); rintro e w1 ⟨rfl, hf1⟩))
  go_ret
  exact ⟨rfl, ((Fr.refl _ _).alloc _).trans hf1⟩

/-- What IndexFunc finds: the first window that may not be. -/
def IdxPost (w : World) (l : List Win) (e : Ending) (w' : World) : Prop := ∃ n : Int, e = .returned (.int .i64 n) ∧ (decide (0 ≤ n) = !l.all mayW) ∧ Fr [] w w'
set_option maxHeartbeats 1000000 in
theorem index_any (A : Option Addr) (n cap : Nat) (l : List Win) (w : World) (h : WinsIn w (.slice A n cap) l) (hn : n ≤ 4611686018427387904) :
    Calls Try.prog 46 #[.slice A n cap, .func (.func 36) #[] #[]] w (IdxPost w l) := by
  have H := Lib.hid h
  have hl := Lib.hid h.len
  clear h
  go_enter Try.func46, Try.ntmps46
  go_wp2
  go_loopg [8] n (fun g i wr => ∃ k : Nat, k + g = n ∧ i = .int .i64 k ∧ (l.take k).all mayW = true ∧ Fr [] w wr)
  case atStart => exact ⟨0, by omega, rfl, by simp, Fr.refl _ _⟩
  case round =>
    obtain ⟨k, hk, rfl, hall, hfr⟩ := hrel
    have Hk := Lib.hid hk
    have Hall := Lib.hid hall
    clear hk hall
    by_cases hlt : k < n
    · obtain ⟨x, hx⟩ : ∃ x, l[k]? = some x := ⟨_, List.getElem?_eq_getElem (by have := hl.out; omega)⟩
      obtain ⟨b, off, hA, hbl, c0, c1, c2⟩ := (H.out.fr hfr).at_ hx
      subst hA
      have Hx := Lib.hid hx
      clear hx
      have hb := fun w => bad_any x w
      cases hm : mayW x with
      | true =>
        rw [hm] at hb
        have Hb := Lib.hid hb
        have Hm := Lib.hid hm
        clear hb hm
        go_wp2_with (first
          | (go_at_call 36; go_must ((with_reducible refine (Hb.out _).mono ?_); rintro e w1 ⟨rfl, hf1⟩))
          | fail)
        go_roundg (n - (k + 1))
        case measure => have := Hk.out; omega
        case rel => exact ⟨k + 1, by have := Hk.out; omega, by go_num, by rw [List.take_add_one, Hx.out]; simp [Hm.out]; simpa using Hall.out, hfr.trans hf1⟩
      | false =>
        rw [hm] at hb
        have Hb := Lib.hid hb
        have Hm := Lib.hid hm
        clear hb hm
        go_wp2_with (first
          | (go_at_call 36; go_must ((with_reducible refine (Hb.out _).mono ?_); rintro e w1 ⟨rfl, hf1⟩))
          | fail)
        go_ret
        refine ⟨k, rfl, ?_, hfr.trans hf1⟩
        have : l.all mayW = false := by
          rw [List.all_eq_false]
          exact ⟨x, List.mem_of_getElem? Hx.out, by simp [Hm.out]⟩
        simp [this]
    · go_wp2
      go_ret
      refine ⟨-1, rfl, ?_, hfr⟩
      have h1 := Hall.out
      rw [List.take_of_length_le (by have := hl.out; omega)] at h1
      simp [h1]

set_option maxHeartbeats 400000 in
theorem contains_any (A : Option Addr) (n cap : Nat) (l : List Win) (w : World) (h : WinsIn w (.slice A n cap) l) (hn : n ≤ 4611686018427387904) :
    Calls Try.prog 35 #[.slice A n cap, .func (.func 36) #[] #[]] w fun e w' => e = .returned (.bool (!l.all mayW)) ∧ Fr [] w w' := by
  have H := Lib.hid h
  clear h
  go_enter Try.func35, Try.ntmps35
  go_wp2_with (go_at_call 46; go_must ((with_reducible refine (index_any A n cap l _ H.out hn).mono ?_); rintro e w1 ⟨m, rfl, hm, hf1⟩; have Hm := Lib.hid hm; clear hm))
  go_ret
  exact ⟨by rw [← Hm.out]; rfl, hf1⟩

/-- What Check tells. -/
def chE (l : List Win) : Int := if okL l then 0 else 130
set_option maxHeartbeats 400000 in
theorem check_any (A : Option Addr) (n cap : Nat) (l : List Win) (w : World) (h : WinsIn w (.slice A n cap) l) (hn : n ≤ 4611686018427387904) :
    Calls Try.prog 10 #[.slice A n cap] w fun e w' => e = .returned (.int .i64 (chE l)) ∧ Fr [] w w' := by
  have H := Lib.hid h
  have hl := Lib.hid h.len
  clear h
  by_cases hb : 1 ≤ n ∧ n ≤ 64
  · cases hm : l.all mayW with
    | true =>
      have hc := fun w h => contains_any A n cap l w h hn
      rw [hm] at hc
      have Hc := Lib.hid hc
      have Hm := Lib.hid hm
      clear hc hm
      go_enter Try.func10, Try.ntmps10
      go_wp2_with (first
        | (go_at_call 34; go_must (refine (in_yes _ _ _ _ ?h1 ?h2).mono ?_; (case h1 => omega); (case h2 => omega); rintro e w' ⟨rfl, rfl⟩))
        | (go_at_call 35; go_must ((with_reducible refine (Hc.out _ H.out).mono ?_); rintro e w1 ⟨rfl, hf1⟩)))
      go_ret
      exact ⟨ret_int (by have := hl.out; simp [chE, okL, Hm.out]; omega), hf1⟩
    | false =>
      have hc := fun w h => contains_any A n cap l w h hn
      rw [hm] at hc
      have Hc := Lib.hid hc
      have Hm := Lib.hid hm
      clear hc hm
      go_enter Try.func10, Try.ntmps10
      go_wp2_with (first
        | (go_at_call 34; go_must (refine (in_yes _ _ _ _ ?h1 ?h2).mono ?_; (case h1 => omega); (case h2 => omega); rintro e w' ⟨rfl, rfl⟩))
        | (go_at_call 35; go_must ((with_reducible refine (Hc.out _ H.out).mono ?_); rintro e w1 ⟨rfl, hf1⟩)))
      go_ret
      exact ⟨ret_int (by simp [chE, okL, Hm.out]), hf1⟩
  · go_enter Try.func10, Try.ntmps10
    go_wp2_with (first
      | (go_at_call 34; go_must (refine (in_no _ _ _ _ ?h1).mono ?_; (case h1 => omega); rintro e w' ⟨rfl, rfl⟩))
      | fail)
    go_ret
    refine ⟨ret_int ?_, Fr.refl _ _⟩
    have := hl.out
    unfold chE okL
    rw [if_neg]
    simp
    omega
end Go.Proofs.Ytnpdljmgjpngaaa
