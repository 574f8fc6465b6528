/- The law's bytes, of any instructions; Low. -/
import Derived.Test.YtonongaakieciaaP2
import Derived.Test.YtonongaakieciaaLib2
import Derived.Test.YtonongaakieciaaF7
namespace Go.Proofs.Ytonongaakieciaa
open Go.RowKit
set_option linter.unusedVariables false
set_option linter.unusedSimpArgs false
set_option maxRecDepth 100000
/-- A slice of instructions. -/
def InsS (w : World) (A : Option Addr) (n : Nat) (f : Nat → In) : Prop :=
  ∀ k, k < n → ∃ g o, A = some ⟨g, o, none⟩ ∧ w.cell? ⟨g, o + k * 4, none⟩ = some (.int .i64 (f k).op) ∧ w.cell? ⟨g, o + k * 4 + 1, none⟩ = some (.int .i64 (f k).a) ∧ w.cell? ⟨g, o + k * 4 + 2, none⟩ = some (.int .i64 (f k).b) ∧ w.cell? ⟨g, o + k * 4 + 3, none⟩ = some (.int .i64 (f k).m)
theorem InsS.fr {w w' : World} {A : Option Addr} {n : Nat} {f : Nat → In} (h : InsS w A n f) (hf : Fr [] w w') : InsS w' A n f := fun k hk => by
  obtain ⟨g, o, e, c0, c1, c2, c3⟩ := h k hk
  exact ⟨g, o, e, hf.cell_some c0 (by simp), hf.cell_some c1 (by simp), hf.cell_some c2 (by simp), hf.cell_some c3 (by simp)⟩
/-- Their cells. -/
def insV (f : Nat → In) (n : Nat) : List Value := (List.range n).flatMap fun k => [.int .i64 (f k).op, .int .i64 (f k).a, .int .i64 (f k).b, .int .i64 (f k).m]
theorem insV_succ (f : Nat → In) (n : Nat) : insV f (n + 1) = insV f n ++ [.int .i64 (f n).op, .int .i64 (f n).a, .int .i64 (f n).b, .int .i64 (f n).m] := by
  unfold insV
  rw [List.range_succ, List.flatMap_append]
  rfl
theorem insV_len (f : Nat → In) : ∀ n, (insV f n).length = n * 4
  | 0 => rfl
  | n + 1 => by rw [insV_succ, List.length_append, insV_len f n]; simp; omega
theorem insV_at (f : Nat → In) : ∀ n k, k < n → (insV f n)[k * 4]? = some (.int .i64 (f k).op) ∧ (insV f n)[k * 4 + 1]? = some (.int .i64 (f k).a) ∧ (insV f n)[k * 4 + 2]? = some (.int .i64 (f k).b) ∧ (insV f n)[k * 4 + 3]? = some (.int .i64 (f k).m) := by
  intro n
  induction n with
  | zero => intro k h; omega
  | succ n ih =>
    intro k hk
    have hl := insV_len f n
    rw [insV_succ]
    by_cases h : k < n
    · rw [List.getElem?_append_left (by omega), List.getElem?_append_left (by omega), List.getElem?_append_left (by omega), List.getElem?_append_left (by omega)]
      exact ih k h
    · obtain rfl : k = n := by omega
      rw [List.getElem?_append_right (by omega), List.getElem?_append_right (by omega), List.getElem?_append_right (by omega), List.getElem?_append_right (by omega), hl]
      have e0 : k * 4 - k * 4 = 0 := by omega
      have e1 : k * 4 + 1 - k * 4 = 1 := by omega
      have e2 : k * 4 + 2 - k * 4 = 2 := by omega
      have e3 : k * 4 + 3 - k * 4 = 3 := by omega
      rw [e0, e1, e2, e3]
      exact ⟨rfl, rfl, rfl, rfl⟩
theorem InsS.of_own {w : World} {base : Nat} {A : Option Addr} {n c : Nat} {f : Nat → In} (h : w.ownsRow base 53 4 (.slice A n c) n (insV f n)) : InsS w A n f := by
  intro k hk
  obtain ⟨m, rfl⟩ : ∃ m, n = m + 1 := ⟨n - 1, by omega⟩
  obtain ⟨g, cap, e⟩ := own_succ h
  have hs := Sl.of_own h
  obtain ⟨a0, a1, a2, a3⟩ := insV_at f (m + 1) k hk
  have hc := hs.cells g 0 cap e
  injection e with e1 e2 e3
  exact ⟨g, 0, e1, hc _ _ a0, hc _ _ a1, hc _ _ a2, hc _ _ a3⟩
set_option maxHeartbeats 8000000 in
theorem lBytes_any (f : Nat → In) (n : Nat) (A : Option Addr) (cap : Nat) (w : World) (hb : InsS w A n f) (hn : n ≤ 1000) (hok : okF_ f n) :
    Calls Try.prog 32 #[.slice A n cap] w fun e w' => e = .returned (.string (catE f n)) ∧ Fr [] w w' := by
  have HE := Lib.hid (fun (j : Nat) (hj : j < n) (W : World) => (show Calls Try.prog 42 #[.agg #[.int .i64 (f j).op, .int .i64 (f j).a, .int .i64 (f j).b, .int .i64 (f j).m]] W fun e w' => e = .returned (.tuple #[.string (encB (f j)), .int .i64 0]) ∧ Fr [] W w' by
    obtain ⟨k, h1, h2, h3⟩ := hok j hj
    exact rEncode_good (f j) k h1 h2 h3 W))
  have HB := Lib.hid (fun (W : World) (hf : Fr [] w W) => hb.fr hf)
  have H0 := Lib.hid (Fr.refl [] w)
  clear hb hok
  go_enter Try.func32, Try.ntmps32
  go_wp2_with fail
  go_loopg [3, 4] n (fun gg vs vi wr => ∃ (k : Nat), k + gg = n ∧ vi = .int .i64 (k : Int) ∧ vs = .string (catE f k) ∧ Fr [] w wr)
  case atStart => exact ⟨0, by omega, rfl, rfl, H0.out⟩
  case round =>
    obtain ⟨k, hk, rfl, rfl, hf⟩ := hrel
    have Hk := Lib.hid hk
    have Hf := Lib.hid hf
    clear hk
    by_cases hlt : k < n
    · have hlt' : (k : Int) < (n : Int) := by omega
      have hk0 : (0 : Int) ≤ (k : Int) := by omega
      have hwk : IntKind.i64.wrap ((k : Int) + 1) = (k : Int) + 1 := IntWalk.i64_in _ (by omega)
      have HEk := Lib.hid (fun W => HE.out k hlt W)
      obtain ⟨g, o, rfl, k0, k1, k2, k3⟩ := HB.out wr hf k hlt
      have hcat : ¬ 9223372036854775807 < (catE f k).size + (encB (f k)).size := by
        rw [catE_size]
        unfold encB
        rw [bs4_size]
        omega
      clear hf
      go_wp2_with (first
        | (go_at_call 42; refine (HEk.out _).mono ?_; rintro e w3 ⟨rfl, hf3⟩; have H3 := Lib.hid (Hf.out.trans hf3); clear hf3)
        | fail)
      go_roundg (n - (k + 1))
      case measure => have := Hk.out; omega
      case rel => exact ⟨k + 1, by have := Hk.out; omega, by go_num, rfl, H3.out⟩
    · have hlt' : ¬ (k : Int) < (n : Int) := by omega
      obtain rfl : k = n := by have := Hk.out; omega
      have H4 := Lib.hid hf
      clear hf
      go_wp2_with fail
      go_ret
      exact ⟨rfl, H4.out⟩
set_option maxHeartbeats 2000000 in
theorem rLow_any (a : Int) (w : World) : Calls Try.prog 28 #[.int .i64 a] w fun e w' => e = .returned (.int .i64 (low a)) ∧ w = w' := by
  unfold low
  go_enter Try.func28, Try.ntmps28
  go_wp2_with fail
  · rename_i hneg
    have e1 : wrap64 (a.tmod 4294967296 + 4294967296) = a % 4294967296 := by
      rw [← tmod_place a 4294967296 (by omega), if_pos hneg]
      have := Int.lt_tmod_of_pos a (show (0 : Int) < 4294967296 by omega)
      unfold wrap64
      omega
    rw [e1]
    go_ret
    exact ⟨rfl, rfl⟩
  · rename_i hneg
    have e1 : a.tmod 4294967296 = a % 4294967296 := by
      rw [← tmod_place a 4294967296 (by omega), if_neg (by omega)]
    rw [e1]
    go_ret
    exact ⟨rfl, rfl⟩
end Go.Proofs.Ytonongaakieciaa
