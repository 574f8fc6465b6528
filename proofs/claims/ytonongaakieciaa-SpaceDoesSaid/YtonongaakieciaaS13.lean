/- A space that was made here: what its calls keep. Check, place, noughts. The document's calls: fixed. -/
import Derived.Test.YtonongaakieciaaS11
import Derived.Laws.MakeOwn
namespace Go.Proofs.Ytonongaakieciaa
open Go.RowKit
set_option linter.unusedVariables false
set_option linter.unusedSimpArgs false
set_option maxRecDepth 100000
/-- A sound space that was made since w0. -/
structure Sd (w0 w : World) (s p F g : Nat) (x : Sp) : Prop where
  at_ : SpAt w s p F g x
  ok : SpOk x
  fr : Fr [] w0 w
  gF : w0.heap.size ≤ F
  gg : w0.heap.size ≤ g
section
variable {w0 w w' : World} {s p F g : Nat} {x : Sp}
theorem Sd.to (h : Sd w0 w s p F g x) (hf : Fr [] w w') : Sd w0 w' s p F g x := ⟨h.at_.to hf, h.ok, h.fr.trans hf, h.gF, h.gg⟩
theorem Sd.turn {x' : Sp} (h : Sd w0 w s p F g x) (ht : SpT s p F g w x' w') (hok : SpOk x') : Sd w0 w' s p F g x' :=
  ⟨ht.1, hok, h.fr.step ht.2 (fun k hk => by
    simp at hk
    rcases hk with rfl | rfl
    · exact .inr h.gF
    · exact .inr h.gg), h.gF, h.gg⟩
theorem Sd.load (h : Sd w0 w s p F g x) (i : Int) (t : ByteArray) : Calls Try.prog 17 #[ptr s, .int .i64 i, .string t] w fun e w' => e = .returned (.int .i64 (ldE x i t)) ∧ Sd w0 w' s p F g (ldS x i t) :=
  (SLoad_any s p F g x i t w h.at_ h.ok.n1).mono fun e w' ⟨he, ht⟩ => ⟨he, h.turn ht (h.ok.ld i t)⟩
theorem Sd.out (h : Sd w0 w s p F g x) (i a : Int) (t : ByteArray) (ha : a ≤ 9223372036854775807) : Calls Try.prog 19 #[ptr s, .int .i64 i, .int .i64 a, .string t] w fun e w' => e = .returned (.int .i64 (outE x i a t)) ∧ Sd w0 w' s p F g (outS x i a t) :=
  (Out_any s p F g x i a t w h.at_ ha).mono fun e w' ⟨he, ht⟩ => ⟨he, h.turn ht (h.ok.out i a t)⟩
theorem Sd.in_ (h : Sd w0 w s p F g x) (i a n : Int) (ha : a ≤ 9223372036854775807) : Calls Try.prog 20 #[ptr s, .int .i64 i, .int .i64 a, .int .i64 n] w fun e w' => e = .returned (.tuple #[.string (inV x i a n), .int .i64 (inE x i a n)]) ∧ Sd w0 w' s p F g x :=
  (In_any s p F g x i a n w h.at_ ha).mono fun e w' ⟨he, hf⟩ => ⟨he, h.to hf⟩
theorem Sd.all (h : Sd w0 w s p F g x) {i : Int} (hi : hasP x i = true) : Calls Try.prog 18 #[ptr s, .int .i64 i] w fun e w' => e = .returned (.string (allS x i)) ∧ Sd w0 w' s p F g x :=
  (all_any s p F g x i w h.at_ h.ok hi).mono fun e w' ⟨he, hf⟩ => ⟨he, h.to hf⟩
theorem Sd.mem (h : Sd w0 w s p F g x) : Calls Try.prog 52 #[ptr s] w fun e w' => e = .returned (ptr p) ∧ w = w' := Memory_any s p F g x w h.at_
theorem Sd.table (h : Sd w0 w s p F g x) {i : Int} (hi : hasP x i = true) : Calls Try.prog 51 #[ptr s, .int .i64 i] w fun e w' => ∃ b, e = .returned (.slice (some ⟨b, 0, none⟩) (tbOf x i).length (tbOf x i).length) ∧ PB w' b (tbOf x i) ∧ w.heap.size ≤ b ∧ Fr [] w w' ∧ Sd w0 w' s p F g x :=
  (Table_any s p F g x i w h.at_ h.ok.n1).mono fun e w' hT => by
    rcases hT with ⟨h0, -⟩ | ⟨-, b, he, hB, hf, hb⟩
    · exact absurd (h0.symm.trans hi) (by decide)
    · exact ⟨b, he, hB, hb, hf, h.to hf⟩
end
theorem Sd.new (b m cap : Nat) (A : Option Addr) (t : List Pg) (w0 w : World) (ht : Tb w b (.slice A m cap) t) (hE : ptsE t = 0) (hf : Fr [] w0 w) : Calls Try.prog 13 #[.slice A m cap] w fun e w' => ∃ s p F g, e = .returned (.tuple #[ptr s, .int .i64 0]) ∧ Sd w0 w' s p F g (spNew t) ∧ Fr [] w w' :=
  (SNew_ok b m cap A t w ht hE).mono fun e w' ⟨s, p, F, g, he, hS, hf', h1, h2, h3, h4⟩ => ⟨s, p, F, g, he, ⟨hS, SpOk.new hE, hf.trans hf', Nat.le_trans hf.size h3, Nat.le_trans hf.size h4⟩, hf'⟩
theorem place_any (x : Int) (m : Nat) (hm : 0 < m) (hm2 : m ≤ 1000000) (hx0 : -9223372036854775808 ≤ x) (hx1 : x ≤ 9223372036854775807) (w : World) :
    Calls Try.prog 16 #[.int .i64 x, .int .i64 (m : Int)] w fun e w' => e = .returned (.int .i64 (x % (m : Int))) ∧ w = w' := by
  have hm0 : ¬ (m : Int) = 0 := by omega
  have hb := Int.emod_nonneg x hm0
  have hb2 := Int.emod_lt_of_pos x (show (0 : Int) < m by omega)
  have ht : x.tmod m = if 0 ≤ x ∨ (m : Int) ∣ x then x % m else x % m - m := by
    rw [Int.tmod_eq_emod]
    by_cases h : 0 ≤ x ∨ (m : Int) ∣ x
    · rw [if_pos h, if_pos h]; omega
    · rw [if_neg h, if_neg h]
      simp
  obtain ⟨r, hr⟩ : ∃ r, x % (m : Int) = r := ⟨_, rfl⟩
  rw [hr] at hb hb2 ht ⊢
  by_cases h : 0 ≤ x ∨ (m : Int) ∣ x
  · rw [if_pos h] at ht
    have hn : ¬ r < 0 := by omega
    clear h hr
    go_enter Try.func16, Try.ntmps16
    go_wp2
    go_ret
    exact ⟨rfl, rfl⟩
  · rw [if_neg h] at ht
    have hnz : r ≠ 0 := by
      intro e
      apply h
      right
      exact Int.dvd_of_emod_eq_zero (by rw [hr, e])
    have hn : r - (m : Int) < 0 := by omega
    have hw : IntKind.i64.wrap (r - (m : Int) + (m : Int)) = r := by
      rw [show r - (m : Int) + (m : Int) = r from by omega]
      exact IntWalk.i64_in _ (by omega)
    clear h hr
    go_enter Try.func16, Try.ntmps16
    go_wp2
    go_ret
    exact ⟨rfl, rfl⟩
theorem place_nat (x : Int) (m : Nat) (hm : 0 < m) : ∃ f : Nat, x % (m : Int) = (f : Int) ∧ f < m := by
  have h1 := Int.emod_nonneg x (show (m : Int) ≠ 0 by omega)
  have h2 := Int.emod_lt_of_pos x (show (0 : Int) < m by omega)
  exact ⟨(x % (m : Int)).toNat, by omega, by omega⟩
def zeros (n : Nat) : ByteArray := ⟨(List.replicate n 0).toArray⟩
theorem made_z (n : Nat) (hn : n ≤ 524288) : ∃ Z : Array Value, (∀ j, j < n → Z[j]? = some (.int .u8 0)) ∧ ∀ w : World, (Instr.makeSlice 118 (.int .i64 n) (.int .i64 n)).run Try.prog w = .ok (.slice (some ⟨w.heap.size, 0, none⟩) n n) (w.alloc (.cells Z 5)) := by
  obtain ⟨i0, hi0, hz0, hz1, hz2⟩ := info3 Try.info5
  refine ⟨madeCells (Value.int .u8 0).cells (n * i0.size), fun j hj => ?_, fun w => ?_⟩
  · rw [hz1]
    have h3 : (Value.int .u8 0).cells = #[.int .u8 0] := rfl
    rw [h3]
    simp [madeCells, hj, Nat.mod_one]
  · have := run_make (P := Try.prog) w 118 5 i0 _ Try.underlying118 hi0 hz0 .i64 .i64 n n (by omega) (by omega) (by rw [hz2]; omega) (by omega)
    simpa using this
theorem SNoughts_any (n : Nat) (hn : n ≤ 524288) (w : World) : Calls Try.prog 53 #[.int .i64 (n : Int)] w fun e w' => e = .returned (.string (zeros n)) ∧ Fr [] w w' := by
  obtain ⟨Z, hZ, hmk⟩ := made_z n hn
  have hcv := conv_list (w := w.alloc (.cells Z 5)) (g := w.heap.size) (o := 0) (n := n) (cap := n) (List.replicate n 0) (by simp) (fun j c hj => by
    rw [Nat.zero_add, (Blk.new w 5 Z).cell]
    have h1 := (List.getElem?_eq_some_iff.1 hj).1
    have h2 := (List.getElem?_eq_some_iff.1 hj).2
    simp at h1 h2
    subst h2
    exact hZ j h1)
  have HF := Lib.hid ((Fr.refl [] w).alloc (.cells Z 5))
  have E := Lib.hid (show (⟨(List.replicate n 0).toArray⟩ : ByteArray) = zeros n from rfl)
  have hmk := hmk w
  rw [E.out] at hcv
  clear hZ E
  generalize zeros n = V at *
  go_enter Try.func53, Try.ntmps53
  go_wp2
  go_ret
  exact ⟨rfl, HF.out⟩
theorem ptsE_bool (t : List Pg) : (decide (ptsE t = 0)) = (t.all ptOk && (decide (1 ≤ t.length) && decide (t.length ≤ 8))) := by
  unfold ptsE
  cases ha : t.all ptOk <;> by_cases h1 : 1 ≤ t.length <;> by_cases h8 : t.length ≤ 8 <;> simp [h1, h8]
set_option maxHeartbeats 2000000 in
theorem Check_pts (b m cap : Nat) (A : Option Addr) (t : List Pg) (w : World) (ht : Tb w b (.slice A m cap) t) : Calls Try.prog 14 #[.slice A m cap] w fun e w' => e = .returned (.bool (decide (ptsE t = 0))) ∧ w = w' := by
  have H := Lib.hid ht
  have hl := Lib.hid ht.n_eq
  have hml : m ≤ maxLen := by rw [ht.n_eq]; exact ht.len
  have E := Lib.hid (ptsE_bool t)
  obtain ⟨B, hB⟩ : ∃ B, decide (ptsE t = 0) = B := ⟨_, rfl⟩
  rw [hB]
  have HE : Hid (B = (t.all ptOk && (decide (1 ≤ t.length) && decide (t.length ≤ 8)))) := Lib.hid (by rw [← hB, E.out])
  simp only [maxLen] at hml
  clear ht E hB
  go_enter Try.func14, Try.ntmps14
  go_wp2_with fail
  go_loopg [3] m (fun gg i wr => ∃ j : Nat, j + gg = m ∧ i = .int .i64 (j : Int) ∧ (t.take j).all ptOk = true ∧ w = wr)
  case atStart => exact ⟨0, by omega, rfl, by simp, rfl⟩
  case round =>
    obtain ⟨j, hj, rfl, hall, rfl⟩ := hrel
    have Hj := Lib.hid hj
    have Hall := Lib.hid hall
    clear hj hall
    by_cases hlt : j < m
    · have hlt' : (j : Int) < (m : Int) := by omega
      have hwk : IntKind.i64.wrap ((j : Int) + 1) = (j : Int) + 1 := IntWalk.i64_in _ (by omega)
      obtain ⟨⟨f, r⟩, hx⟩ : ∃ x, t[j]? = some x := ⟨_, List.getElem?_eq_getElem (by have := hl.out; omega)⟩
      obtain ⟨off, hA, hbl, c0, c1⟩ := (H.out).at_ hx
      subst hA
      have Hx := Lib.hid hx
      clear hx
      simp only at c0 c1
      have HB : Hid (ptOk ⟨f, r⟩ = false → (t.all ptOk) = false) := Lib.hid (fun h => by
        rw [List.all_eq_false]
        exact ⟨⟨f, r⟩, List.mem_of_getElem? Hx.out, by simp [h]⟩)
      by_cases h1 : r < 1
      · have hb := HB.out (by unfold ptOk; simp; omega)
        have HB1 : Hid (B = false) := Lib.hid (by rw [HE.out, hb, Bool.false_and])
        clear hb
        clear HB
        go_wp2_with fail
        go_ret
        exact ⟨by rw [HB1.out]; rfl, rfl⟩
      · by_cases h2 : 16 < r
        · have hb := HB.out (by unfold ptOk; simp; omega)
          have HB1 : Hid (B = false) := Lib.hid (by rw [HE.out, hb, Bool.false_and])
          clear hb
          clear HB
          go_wp2_with fail
          go_ret
          exact ⟨by rw [HB1.out]; rfl, rfl⟩
        · by_cases h3 : f < 0
          · have hb := HB.out (by unfold ptOk; simp; omega)
            have HB1 : Hid (B = false) := Lib.hid (by rw [HE.out, hb, Bool.false_and])
            clear hb
            clear HB
            go_wp2_with fail
            go_ret
            exact ⟨by rw [HB1.out]; rfl, rfl⟩
          · by_cases h4 : 7 < f
            · have hb := HB.out (by unfold ptOk; simp; omega)
              have HB1 : Hid (B = false) := Lib.hid (by rw [HE.out, hb, Bool.false_and])
              clear hb
              clear HB
              go_wp2_with fail
              go_ret
              exact ⟨by rw [HB1.out]; rfl, rfl⟩
            · have Hm : Hid (ptOk ⟨f, r⟩ = true) := Lib.hid (by unfold ptOk; simp; omega)
              clear HB
              go_wp2_with fail
              go_roundg (m - (j + 1))
              case measure => have := Hj.out; omega
              case rel => exact ⟨j + 1, by have := Hj.out; omega, by go_num, by rw [List.take_add_one, Hx.out]; simp [Hm.out]; simpa using Hall.out, rfl⟩
    · have hlt' : ¬ (j : Int) < (m : Int) := by omega
      have hall : t.all ptOk = true := by
        have h1 := Hall.out
        rwa [List.take_of_length_le (by have := hl.out; omega)] at h1
      have e := hl.out
      have E := HE.out
      rw [hall, Bool.true_and] at E
      by_cases h1 : 1 ≤ m
      · by_cases h8 : m ≤ 8
        · rw [decide_eq_true (by omega), decide_eq_true (by omega)] at E
          clear hall
          have HB1 := Lib.hid E
          have h1' : (1 : Int) ≤ (m : Int) := by omega
          have h8' : (m : Int) ≤ 8 := by omega
          clear e E
          go_wp2_with fail
          go_ret
          exact ⟨by rw [HB1.out]; rfl, rfl⟩
        · rw [decide_eq_true (by omega), decide_eq_false (by omega)] at E
          clear hall
          have HB1 := Lib.hid E
          have h1' : (1 : Int) ≤ (m : Int) := by omega
          have h8' : ¬ (m : Int) ≤ 8 := by omega
          clear e E
          go_wp2_with fail
          go_ret
          exact ⟨by rw [HB1.out]; rfl, rfl⟩
      · rw [decide_eq_false (by omega), Bool.false_and] at E
        clear hall
        have HB1 := Lib.hid E
        have h1' : ¬ (1 : Int) ≤ (m : Int) := by omega
        clear e E
        go_wp2_with fail
        go_ret
        exact ⟨by rw [HB1.out]; rfl, rfl⟩
end Go.Proofs.Ytonongaakieciaa
namespace Go.Proofs.Ytonongaakieciaa
open Go.RowKit
set_option linter.unusedVariables false
set_option linter.unusedSimpArgs false
set_option maxRecDepth 100000
def ptF : List Pg := [⟨0, 2⟩, ⟨0, 1⟩]
def s4F : ByteArray := ⟨#[97, 98, 99, 100]⟩
def s2F : ByteArray := ⟨#[97, 98]⟩
def s1F : ByteArray := ⟨#[120]⟩
def xA : Sp := spNew ptF
def xB : Sp := ldS xA 0 s4F
def xC : Sp := ldS xB 1 (zeros 257)
def xD : Sp := outS xC 0 256 s2F
def xE : Sp := outS xD 0 255 s1F
theorem g0 : ptsE ptF = 0 := by kernel_rfl
theorem g1 : ldE xA 0 s4F = 0 := by kernel_rfl
theorem g2 : ldE xB 1 (zeros 257) = 122 := by kernel_rfl
theorem g3 : outE xC 0 256 s2F = 0 := by kernel_rfl
theorem g4 : outE xD 0 255 s1F = 121 := by kernel_rfl
theorem g5 : inE xE 0 255 3 = 0 := by kernel_rfl
theorem g5' : inV xE 0 255 3 = ⟨#[0, 97, 98]⟩ := by kernel_rfl
theorem g6 : inE xE 0 511 2 = 121 := by kernel_rfl
theorem g7 : inE xE 2 0 0 = 120 := by kernel_rfl
theorem g8 : hasP xE 0 = true := by kernel_rfl
theorem g9 : hasP xE 1 = true := by kernel_rfl
theorem g10 : tbOf xE 0 = [⟨0, 5⟩, ⟨1, 3⟩] := by kernel_rfl
theorem g11 : tbOf xE 1 = [⟨2, 3⟩] := by kernel_rfl
/-- Which of the steps has been made. -/
structure Sf (w0 w : World) (s p F g : Nat) (x : Sp) (k : Nat) : Prop where
  d : Sd w0 w s p F g x
theorem Sf.to {w0 w w' : World} {s p F g : Nat} {x : Sp} {k : Nat} (h : Sf w0 w s p F g x k) (hf : Fr [] w w') : Sf w0 w' s p F g x k := ⟨h.d.to hf⟩
theorem parts_at (w : World) : Tb (w.alloc (.cells #[.int .i64 0, .int .i64 2, .int .i64 0, .int .i64 1] 100)) w.heap.size (.slice (some ⟨w.heap.size, 0, none⟩) 2 2) ptF := by
  have hb := Blk.new w 100 #[.int .i64 0, .int .i64 2, .int .i64 0, .int .i64 1]
  refine ⟨by simp only [maxLen]; decide, _, 2, rfl, fun i p hi => ?_⟩
  refine ⟨0, rfl, by simp, ?_⟩
  rw [hb.cell, hb.cell]
  match i, hi with
  | 0, hi => cases hi; exact ⟨rfl, rfl⟩
  | 1, hi => cases hi; exact ⟨rfl, rfl⟩
  | i + 2, hi => cases hi
set_option maxHeartbeats 4000000 in
theorem fixed_any (w : World) : Calls Try.prog 15 #[] w fun e w' => e = .returned (.bool true) ∧ Fr [] w w' := by
  have H13 : Hid (Calls Try.prog 13 #[.slice (some ⟨w.heap.size, 0, none⟩) 2 2] (w.alloc (.cells #[.int .i64 0, .int .i64 2, .int .i64 0, .int .i64 1] 100)) fun e w' => ∃ s p F g, e = .returned (.tuple #[ptr s, .int .i64 0]) ∧ Sf w w' s p F g xA 0) := Lib.hid ((Sd.new w.heap.size 2 2 _ ptF w _ (parts_at w) g0 ((Fr.refl [] w).alloc _)).mono fun e w' ⟨s, p, F, g, he, hS, _⟩ => ⟨s, p, F, g, he, ⟨hS⟩⟩)
  have H17a : Hid (∀ s p F g W, Sf w W s p F g xA 0 → Calls Try.prog 17 #[ptr s, .int .i64 0, .string s4F] W fun e w' => e = .returned (.int .i64 0) ∧ Sf w w' s p F g xB 1) := Lib.hid fun s p F g W h => (h.d.load 0 s4F).mono fun e w' ⟨he, hd⟩ => ⟨by rw [he, g1], ⟨hd⟩⟩
  have H53 : Hid (∀ W, Calls Try.prog 53 #[.int .i64 257] W fun e w' => e = .returned (.string (zeros 257)) ∧ Fr [] W w') := Lib.hid fun W => SNoughts_any 257 (by omega) W
  have H17b : Hid (∀ s p F g W, Sf w W s p F g xB 1 → Calls Try.prog 17 #[ptr s, .int .i64 1, .string (zeros 257)] W fun e w' => e = .returned (.int .i64 122) ∧ Sf w w' s p F g xC 2) := Lib.hid fun s p F g W h => (h.d.load 1 (zeros 257)).mono fun e w' ⟨he, hd⟩ => ⟨by rw [he, g2], ⟨hd⟩⟩
  have H19a : Hid (∀ s p F g W, Sf w W s p F g xC 2 → Calls Try.prog 19 #[ptr s, .int .i64 0, .int .i64 256, .string s2F] W fun e w' => e = .returned (.int .i64 0) ∧ Sf w w' s p F g xD 3) := Lib.hid fun s p F g W h => (h.d.out 0 256 s2F (by omega)).mono fun e w' ⟨he, hd⟩ => ⟨by rw [he, g3], ⟨hd⟩⟩
  have H19b : Hid (∀ s p F g W, Sf w W s p F g xD 3 → Calls Try.prog 19 #[ptr s, .int .i64 0, .int .i64 255, .string s1F] W fun e w' => e = .returned (.int .i64 121) ∧ Sf w w' s p F g xE 4) := Lib.hid fun s p F g W h => (h.d.out 0 255 s1F (by omega)).mono fun e w' ⟨he, hd⟩ => ⟨by rw [he, g4], ⟨hd⟩⟩
  have H20a : Hid (∀ s p F g W, Sf w W s p F g xE 4 → Calls Try.prog 20 #[ptr s, .int .i64 0, .int .i64 255, .int .i64 3] W fun e w' => e = .returned (.tuple #[.string ⟨#[0, 97, 98]⟩, .int .i64 0]) ∧ Sf w w' s p F g xE 5) := Lib.hid fun s p F g W h => (h.d.in_ 0 255 3 (by omega)).mono fun e w' ⟨he, hd⟩ => ⟨by rw [he, g5, g5'], ⟨hd⟩⟩
  have H20b : Hid (∀ s p F g W, Sf w W s p F g xE 5 → Calls Try.prog 20 #[ptr s, .int .i64 0, .int .i64 511, .int .i64 2] W fun e w' => (∃ S, e = .returned (.tuple #[.string S, .int .i64 121])) ∧ Sf w w' s p F g xE 6) := Lib.hid fun s p F g W h => (h.d.in_ 0 511 2 (by omega)).mono fun e w' ⟨he, hd⟩ => ⟨⟨inV xE 0 511 2, by rw [he, g6]⟩, ⟨hd⟩⟩
  have H20c : Hid (∀ s p F g W, Sf w W s p F g xE 6 → Calls Try.prog 20 #[ptr s, .int .i64 2, .int .i64 0, .int .i64 0] W fun e w' => (∃ S, e = .returned (.tuple #[.string S, .int .i64 120])) ∧ Sf w w' s p F g xE 7) := Lib.hid fun s p F g W h => (h.d.in_ 2 0 0 (by omega)).mono fun e w' ⟨he, hd⟩ => ⟨⟨inV xE 2 0 0, by rw [he, g7]⟩, ⟨hd⟩⟩
  have H51a : Hid (∀ s p F g W, Sf w W s p F g xE 7 → Calls Try.prog 51 #[ptr s, .int .i64 0] W fun e w' => (∃ b, e = .returned (.slice (some ⟨b, 0, none⟩) 2 2) ∧ PB w' b [⟨0, 5⟩, ⟨1, 3⟩]) ∧ Sf w w' s p F g xE 8) := Lib.hid fun s p F g W h => (h.d.table g8).mono fun e w' ⟨b, he, hB, _, _, hd⟩ => by rw [g10] at he hB; exact ⟨⟨b, he, hB⟩, ⟨hd⟩⟩
  have H51b : Hid (∀ s p F g W, Sf w W s p F g xE 8 → Calls Try.prog 51 #[ptr s, .int .i64 1] W fun e w' => (∃ b, e = .returned (.slice (some ⟨b, 0, none⟩) 1 1) ∧ PB w' b [⟨2, 3⟩]) ∧ Fr [] W w' ∧ Sf w w' s p F g xE 9) := Lib.hid fun s p F g W h => (h.d.table g9).mono fun e w' ⟨b, he, hB, _, hf, hd⟩ => by rw [g11] at he hB; exact ⟨⟨b, he, hB⟩, hf, ⟨hd⟩⟩
  have H52 : Hid (∀ s p F g W, Sf w W s p F g xE 9 → Calls Try.prog 52 #[ptr s] W fun e w' => e = .returned (ptr p) ∧ W = w') := Lib.hid fun s p F g W h => h.d.mem
  unfold s4F s2F s1F at *
  generalize zeros 257 = Z at *
  generalize xA = A at *
  generalize xB = B at *
  generalize xC = C at *
  generalize xD = D at *
  generalize xE = E at *
  go_enter Try.func15, Try.ntmps15
  go_wp2_with (first
    | (go_at_call 13; refine H13.out.mono ?_; clear H13; rintro e w1 ⟨s, p, F, g, rfl, hd⟩)
    | (go_at_call 17; refine (H17a.out _ _ _ _ _ hd).mono ?_; clear hd H17a; rintro e w1 ⟨rfl, hd⟩)
    | (go_at_call 17; refine (H17b.out _ _ _ _ _ hd).mono ?_; clear hd H17b; rintro e w1 ⟨rfl, hd⟩)
    | (go_at_call 53; refine (H53.out _).mono ?_; clear H53; rintro e w1 ⟨rfl, hf⟩; have hd := hd.to hf; clear hf)
    | (go_at_call 19; refine (H19a.out _ _ _ _ _ hd).mono ?_; clear hd H19a; rintro e w1 ⟨rfl, hd⟩)
    | (go_at_call 19; refine (H19b.out _ _ _ _ _ hd).mono ?_; clear hd H19b; rintro e w1 ⟨rfl, hd⟩)
    | (go_at_call 20; refine (H20a.out _ _ _ _ _ hd).mono ?_; clear hd H20a; rintro e w1 ⟨rfl, hd⟩)
    | (go_at_call 20; refine (H20b.out _ _ _ _ _ hd).mono ?_; clear hd H20b; rintro e w1 ⟨⟨S1, rfl⟩, hd⟩)
    | (go_at_call 20; refine (H20c.out _ _ _ _ _ hd).mono ?_; clear hd H20c; rintro e w1 ⟨⟨S2, rfl⟩, hd⟩)
    | (go_at_call 51; refine (H51a.out _ _ _ _ _ hd).mono ?_; clear hd H51a; rintro e w1 ⟨⟨b1, rfl, hB1⟩, hd⟩)
    | (go_at_call 51; refine (H51b.out _ _ _ _ _ hd).mono ?_; clear hd H51b; rintro e w2 ⟨⟨b2, rfl, hB2⟩, hf, hd⟩; have x0 := ((hB1.fr hf (by simp)).cells (j := 0) rfl).1; have x1 := ((hB1.fr hf (by simp)).cells (j := 0) rfl).2; have x2 := ((hB1.fr hf (by simp)).cells (j := 1) rfl).1; have x3 := ((hB1.fr hf (by simp)).cells (j := 1) rfl).2; have x4 := (hB2.cells (j := 0) rfl).1; have x5 := (hB2.cells (j := 0) rfl).2; simp only [Nat.zero_mul, Nat.one_mul, Nat.zero_add, Nat.reduceAdd] at x0 x1 x2 x3 x4 x5; clear hB1 hB2 hf)
    | (go_at_call 52; refine (H52.out _ _ _ _ _ hd).mono ?_; clear H52; rintro e w3 ⟨rfl, rfl⟩)
    | fail)
  go_ret
  exact ⟨rfl, hd.d.fr⟩
end Go.Proofs.Ytonongaakieciaa
