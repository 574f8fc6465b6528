/- Partitions: may they be? -/
import Derived.Test.YtonongaakieciaaS4
namespace Go.Proofs.Ytonongaakieciaa
open Go.RowKit
set_option linter.unusedVariables false
set_option linter.unusedSimpArgs false
set_option maxRecDepth 100000
/-- A partition (f: its level; r: its pages) may be. -/
def ptOk (q : Pg) : Bool := decide (1 ≤ q.r) && decide (q.r ≤ 16) && (decide (0 ≤ q.f) && decide (q.f ≤ 7))
/-- The document's and the program's answer to New. -/
def ptsE (t : List Pg) : Int := if (1 ≤ t.length ∧ t.length ≤ 8) ∧ t.all ptOk = true then 0 else 120
def inB (n a b : Int) : Bool := decide (a ≤ n) && decide (n ≤ b)
theorem in_all (n a b : Int) (w : World) : Calls Try.prog 55 #[.int .i64 n, .int .i64 a, .int .i64 b] w fun e w' => e = .returned (.bool (inB n a b)) ∧ w = w' := in_any n a b w
theorem odd_any (q : Pg) (w : World) : Calls Try.prog 54 #[.agg #[.int .i64 q.f, .int .i64 q.r]] w fun e w' => e = .returned (.bool (!ptOk q)) ∧ Fr [] w w' := by
  obtain ⟨f, r⟩ := q
  have hbx := Blk.new w 100 #[.int .i64 f, .int .i64 r]
  have k0 := hbx.cell 0
  have k1 := hbx.cell 1
  simp at k0 k1
  have hf := (Fr.refl [] w).alloc (.cells #[.int .i64 f, .int .i64 r] 100)
  have HF := Lib.hid hf
  have E : ptOk ⟨f, r⟩ = (inB r 1 16 && inB f 0 7) := rfl
  rw [E]
  clear hbx hf E
  cases h1 : inB r 1 16 with
  | false =>
    rw [Bool.false_and]
    go_enter Try.func54, Try.ntmps54
    go_wp2_with (first
      | (go_at_call 55; refine (in_all _ _ _ _).mono ?_; rintro e w1 ⟨rfl, rfl⟩))
    go_ret
    exact ⟨rfl, HF.out⟩
  | true =>
    cases h2 : inB f 0 7 with
    | false =>
      go_enter Try.func54, Try.ntmps54
      go_wp2_with (first
        | (go_at_call 55; refine (in_all _ _ _ _).mono ?_; rintro e w1 ⟨rfl, rfl⟩))
      go_ret
      exact ⟨rfl, HF.out⟩
    | true =>
      go_enter Try.func54, Try.ntmps54
      go_wp2_with (first
        | (go_at_call 55; refine (in_all _ _ _ _).mono ?_; rintro e w1 ⟨rfl, rfl⟩))
      go_ret
      exact ⟨rfl, HF.out⟩
def IdxQ (w : World) (t : List Pg) (e : Ending) (w' : World) : Prop := ∃ k : Int, e = .returned (.int .i64 k) ∧ (decide (0 ≤ k) = !t.all ptOk) ∧ Fr [] w w'
set_option maxHeartbeats 1000000 in
theorem idxQ_any (b m cap : Nat) (A : Option Addr) (t : List Pg) (w : World) (ht : Tb w b (.slice A m cap) t) (hm : m ≤ 8) :
    Calls Try.prog 89 #[.slice A m cap, .func (.func 54) #[] #[]] w (IdxQ w t) := by
  have H := Lib.hid ht
  have hl := Lib.hid ht.n_eq
  clear ht
  go_enter Try.func89, Try.ntmps89
  go_wp2
  go_loopg [8] m (fun g i wr => ∃ j : Nat, j + g = m ∧ i = .int .i64 j ∧ (t.take j).all ptOk = true ∧ Fr [] w wr)
  case atStart => exact ⟨0, by omega, rfl, by simp, Fr.refl _ _⟩
  case round =>
    obtain ⟨j, hj, rfl, hall, hfr⟩ := hrel
    have Hj := Lib.hid hj
    have Hall := Lib.hid hall
    clear hj hall
    by_cases hlt : j < m
    · obtain ⟨⟨f, r⟩, hx⟩ : ∃ x, t[j]? = some x := ⟨_, List.getElem?_eq_getElem (by have := hl.out; omega)⟩
      obtain ⟨off, hA, hbl, c0, c1⟩ := (H.out.fr hfr (by simp)).at_ hx
      subst hA
      have Hx := Lib.hid hx
      clear hx
      simp only at c0 c1
      have hb := odd_any ⟨f, r⟩ wr
      cases hm' : ptOk ⟨f, r⟩ with
      | true =>
        rw [hm'] at hb
        have Hb := Lib.hid hb
        have Hm := Lib.hid hm'
        clear hb hm'
        go_wp2_with (first
          | (go_at_call 54; go_must ((with_reducible refine (Hb.out).mono ?_); rintro e w1 ⟨rfl, hf1⟩))
          | fail)
        go_roundg (m - (j + 1))
        case measure => have := Hj.out; omega
        case rel => exact ⟨j + 1, by have := Hj.out; omega, by go_num, by rw [List.take_add_one, Hx.out]; simp [Hm.out]; simpa using Hall.out, hfr.trans hf1⟩
      | false =>
        rw [hm'] at hb
        have Hb := Lib.hid hb
        have Hm := Lib.hid hm'
        clear hb hm'
        go_wp2_with (first
          | (go_at_call 54; go_must ((with_reducible refine (Hb.out).mono ?_); rintro e w1 ⟨rfl, hf1⟩))
          | fail)
        go_ret
        refine ⟨j, rfl, ?_, hfr.trans hf1⟩
        have : t.all ptOk = false := by
          rw [List.all_eq_false]
          exact ⟨⟨f, r⟩, List.mem_of_getElem? Hx.out, by simp [Hm.out]⟩
        simp [this]
    · go_wp2
      go_ret
      refine ⟨-1, rfl, ?_, hfr⟩
      have h1 := Hall.out
      rw [List.take_of_length_le (by have := hl.out; omega)] at h1
      simp [h1]
set_option maxHeartbeats 400000 in
theorem containsQ_any (b m cap : Nat) (A : Option Addr) (t : List Pg) (w : World) (ht : Tb w b (.slice A m cap) t) (hm : m ≤ 8) :
    Calls Try.prog 56 #[.slice A m cap, .func (.func 54) #[] #[]] w fun e w' => e = .returned (.bool (!t.all ptOk)) ∧ Fr [] w w' := by
  have HI := Lib.hid (idxQ_any b m cap A t w ht hm)
  clear ht
  go_enter Try.func56, Try.ntmps56
  go_wp2_with (go_at_call 89; go_must ((with_reducible refine HI.out.mono ?_); rintro e w1 ⟨m, rfl, hm, hf1⟩; have Hm := Lib.hid hm; clear hm))
  go_ret
  exact ⟨by rw [← Hm.out]; rfl, hf1⟩
theorem SNew_bad (b m cap : Nat) (A : Option Addr) (t : List Pg) (w : World) (ht : Tb w b (.slice A m cap) t) (hE : ptsE t ≠ 0) : Calls Try.prog 13 #[.slice A m cap] w fun e w' => e = .returned (.tuple #[.pointer none, .int .i64 120]) ∧ Fr [] w w' := by
  have hl := ht.n_eq
  have hml := ht.len
  have HI := Lib.hid (fun W => in_any (m : Int) 1 8 W)
  by_cases h8 : 1 ≤ m ∧ m ≤ 8
  · have HC := Lib.hid (containsQ_any b m cap A t w ht h8.2)
    have hall : t.all ptOk = false := by
      cases h : t.all ptOk with
      | false => rfl
      | true => exact absurd (if_pos ⟨by omega, h⟩) hE
    rw [hall] at HC
    have E3 : (decide ((1 : Int) ≤ (m : Int)) && decide ((m : Int) ≤ 8)) = true := by
      rw [Bool.and_eq_true, decide_eq_true_eq, decide_eq_true_eq]
      omega
    rw [E3] at HI
    clear ht hE hall E3 hl
    go_enter Try.func13, Try.ntmps13
    go_wp2_with (first
      | (go_at_call 55; refine (HI.out _).mono ?_; rintro e w1 ⟨rfl, rfl⟩)
      | (go_at_call 56; refine HC.out.mono ?_; rintro e w1 ⟨rfl, hf1⟩))
    go_ret2
    exact ⟨rfl, hf1⟩
  · have E3 : (decide ((1 : Int) ≤ (m : Int)) && decide ((m : Int) ≤ 8)) = false := by
      rw [Bool.and_eq_false_iff, decide_eq_false_iff_not, decide_eq_false_iff_not]
      omega
    rw [E3] at HI
    clear ht hE E3 hl
    go_enter Try.func13, Try.ntmps13
    go_wp2_with (first
      | (go_at_call 55; refine (HI.out _).mono ?_; rintro e w1 ⟨rfl, rfl⟩))
    go_ret2
    exact ⟨rfl, Fr.refl _ _⟩
end Go.Proofs.Ytonongaakieciaa
