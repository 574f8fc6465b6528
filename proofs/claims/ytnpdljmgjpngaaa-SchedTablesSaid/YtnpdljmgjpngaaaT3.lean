/- Tables: New of the reference, Clone, Copy, place. -/
import Derived.Test.YtnpdljmgjpngaaaT2
import Derived.Deep.RegionHeld3
namespace Go.Proofs.Ytnpdljmgjpngaaa
open Go.RowKit
set_option linter.unusedVariables false
set_option linter.unusedSimpArgs false

def bools0 (n : Nat) : Array Value := (List.replicate n (Value.bool false)).toArray
def ints0 (n : Nat) : Array Value := (List.replicate n (Value.int .i64 0)).toArray
theorem mk82 : ∀ (n : Nat), n ≤ 8 → ∀ w : World, (Instr.makeSlice 82 (.int .i64 (n : Int)) (.int .i64 (n : Int))).run Try.prog w = .ok (.slice (some ⟨w.heap.size, 0, none⟩) n n) (w.alloc (.cells (bools0 n) 4))
  | 0, _ => fun _ => by kernel_rfl
  | 1, _ => fun _ => by kernel_rfl
  | 2, _ => fun _ => by kernel_rfl
  | 3, _ => fun _ => by kernel_rfl
  | 4, _ => fun _ => by kernel_rfl
  | 5, _ => fun _ => by kernel_rfl
  | 6, _ => fun _ => by kernel_rfl
  | 7, _ => fun _ => by kernel_rfl
  | 8, _ => fun _ => by kernel_rfl
  | _ + 9, h => absurd h (by omega)
theorem mk83 : ∀ (n : Nat), n ≤ 8 → ∀ w : World, (Instr.makeSlice 83 (.int .i64 (n : Int)) (.int .i64 (n : Int))).run Try.prog w = .ok (.slice (some ⟨w.heap.size, 0, none⟩) n n) (w.alloc (.cells (ints0 n) 3))
  | 0, _ => fun _ => by kernel_rfl
  | 1, _ => fun _ => by kernel_rfl
  | 2, _ => fun _ => by kernel_rfl
  | 3, _ => fun _ => by kernel_rfl
  | 4, _ => fun _ => by kernel_rfl
  | 5, _ => fun _ => by kernel_rfl
  | 6, _ => fun _ => by kernel_rfl
  | 7, _ => fun _ => by kernel_rfl
  | 8, _ => fun _ => by kernel_rfl
  | _ + 9, h => absurd h (by omega)
def RNewPost (w : World) (n : Nat) (e : Ending) (w' : World) : Prop := ∃ q g h, e = .returned (.tuple #[.pointer (some ⟨q, 0, none⟩), .int .i64 0]) ∧ RTab w' q g h (new0 n) ∧ Fr [] w w' ∧ w.heap.size ≤ q ∧ w.heap.size ≤ g ∧ w.heap.size ≤ h
theorem RTab.new {w : World} {q g h n : Nat} (h1 : Blk w q 85 #[.slice (some ⟨g, 0, none⟩) n n, .slice (some ⟨h, 0, none⟩) n n]) (h2 : Blk w g 4 (bools0 n)) (h3 : Blk w h 3 (ints0 n)) : RTab w q g h (new0 n) := by
  refine ⟨n, n, _, _, by simp [new0], by simp [new0], by simpa [new0] using h1, h2, h3, fun j x hx => ?_⟩
  unfold new0 at hx
  rw [List.getElem?_replicate] at hx
  split at hx
  · injection hx with hx
    subst hx
    rename_i hj
    simp [bools0, ints0, hj]
  · cases hx
theorem rNew_no (n : Int) (w : World) (h : n < 0 ∨ 8 < n) : Calls Try.prog 24 #[.int .i64 n] w fun e w' => e = .returned (.tuple #[.pointer none, .int .i64 1]) ∧ w = w' := by
  rcases h with h | h
  · go_enter Try.func24, Try.ntmps24
    go_wp2
    go_ret2
    exact ⟨rfl, rfl⟩
  · go_enter Try.func24, Try.ntmps24
    go_wp2
    go_ret2
    exact ⟨rfl, rfl⟩
set_option maxHeartbeats 400000 in
theorem rNew_ok (n : Nat) (w : World) (h : n ≤ 8) : Calls Try.prog 24 #[.int .i64 (n : Int)] w (RNewPost w n) := by
  have hmk := mk82 n h
  have hmk' := mk83 n h
  obtain ⟨cs, hcs⟩ : ∃ cs, cs = bools0 n := ⟨_, rfl⟩
  obtain ⟨cs', hcs'⟩ : ∃ cs', cs' = ints0 n := ⟨_, rfl⟩
  rw [← hcs] at hmk
  rw [← hcs'] at hmk'
  have Hcs := Lib.hid hcs
  have Hcs' := Lib.hid hcs'
  clear hcs hcs'
  go_enter Try.func24, Try.ntmps24
  go_wp2
  go_region
  all_goals go_wp2
  all_goals go_ret2
  all_goals
    have e1 := Hcs.out
    have e2 := Hcs'.out
    subst e1
    subst e2
  · exact ⟨w.heap.size + 1 + 1, w.heap.size, w.heap.size + 1, rfl, (RTab.new (Blk.new' (by simp)) (((Blk.new w 4 (bools0 n)).alloc _).alloc _) ((Blk.new' (by simp)).alloc _)).fr (Fr.refl [] _).drew (by simp) (by simp) (by simp), ((((Fr.refl _ _).alloc _).alloc _).alloc _).drew, by omega, by omega, by omega⟩
  · exact ⟨w.heap.size + 1 + 1, w.heap.size + 1, w.heap.size, rfl, (RTab.new (Blk.new' (by simp)) ((Blk.new' (by simp)).alloc _) (((Blk.new w 3 (ints0 n)).alloc _).alloc _)).fr (Fr.refl [] _).drew (by simp) (by simp) (by simp), ((((Fr.refl _ _).alloc _).alloc _).alloc _).drew, by omega, by omega, by omega⟩

theorem place_eq (n m : Int) (hm : 0 < m) : n % m = if n.tmod m < 0 then n.tmod m + m else n.tmod m := by
  have e := Int.tmod_eq_emod (a := n) (b := m)
  have e0 := Int.emod_nonneg n (by omega : m ≠ 0)
  have e1 := Int.emod_lt_of_pos n hm
  by_cases h : 0 ≤ n ∨ m ∣ n
  · rw [if_pos h] at e
    rw [if_neg (by omega)]
    omega
  · rw [if_neg h] at e
    rw [if_pos (by omega)]
    omega
set_option maxHeartbeats 400000 in
theorem place_any (n m : Int) (w : World) (hm : 0 < m) (hm2 : m ≤ 9000000000000) (h1 : -9223372036854775808 ≤ n) (h2 : n ≤ 9223372036854775807) : Calls Try.prog 25 #[.int .i64 n, .int .i64 m] w fun e w' => e = .returned (.int .i64 (n % m)) ∧ w = w' := by
  have E := Lib.hid (place_eq n m hm)
  have hb : n.tmod m < m := by have := Int.tmod_lt_of_pos n hm; omega
  have hb2 : -m ≤ n.tmod m := by have e1 := Int.emod_nonneg n (by omega : m ≠ 0); have := E.out; split at this <;> omega
  by_cases h : n.tmod m < 0
  · by_cases h0 : 0 ≤ n
    · have e3 : n.tmod m = n % m := Int.tmod_eq_emod_of_nonneg h0
      have e4 := Int.emod_nonneg n (by omega : m ≠ 0)
      omega
    · have Hn := Lib.hid h
      go_enter Try.func25, Try.ntmps25
      go_wp2
      go_ret
      exact ⟨by rw [E.out, if_pos (by have := Hn.out; omega)]; rfl, rfl⟩
  · by_cases h0 : 0 ≤ n
    · have e3 : n.tmod m = n % m := Int.tmod_eq_emod_of_nonneg h0
      have e4 : 0 ≤ n % m := by omega
      clear hb hb2 h e3
      go_enter Try.func25, Try.ntmps25
      go_wp2
      go_ret
      exact ⟨rfl, rfl⟩
    · have h' : 0 ≤ n.tmod m := by omega
      have Hn := Lib.hid h
      go_enter Try.func25, Try.ntmps25
      go_wp2
      go_ret
      exact ⟨by rw [E.out, if_neg (by have := Hn.out; omega)]; rfl, rfl⟩

theorem Try.info81 : (Try.prog.info? 81).map (fun i => (i.zero, i.size, i.bytes)) = some (some (.agg #[.bool false, .int .i64 0]), 2, 16) := by kernel_rfl
theorem Try.info4' : (Try.prog.info? 4).map (fun i => (i.zero, i.size, i.bytes)) = some (some (.bool false), 1, 1) := by kernel_rfl
theorem Try.info3' : (Try.prog.info? 3).map (fun i => (i.zero, i.size, i.bytes)) = some (some (.int .i64 0), 1, 8) := by kernel_rfl
theorem encP_one (l : List (Bool × Int)) : ∀ u ∈ encP l, u.oneCell' = true := by
  induction l with
  | nil => intro u hu; simp [encP] at hu
  | cons m r ih =>
    intro u hu
    simp [encP] at hu
    rcases hu with rfl | rfl | hu
    · rfl
    · rfl
    · exact ih u hu
/-- An own row that is not nil. -/
theorem own_some {w : World} {base : Nat} {e : TypeId} {size : Nat} {v : Value} {n : Nat} {xs : List Value} (h : w.ownsRow base e size v n xs) (hv : v ≠ .slice none 0 0) :
    ∃ g cap cs, v = .slice (some ⟨g, 0, none⟩) n cap ∧ base ≤ g ∧ n ≤ cap ∧ Blk w g e cs ∧ ∀ (j : Nat) (u : Value), xs[j]? = some u → cs[j]? = some u := by
  rcases h.2 with ⟨h1, h2⟩ | ⟨g, cap, cur, rfl, hb, hh, h3, h4, h5, h6⟩
  · exact absurd h1 hv
  · refine ⟨g, cap, cur, rfl, hb, h3, hh, fun j u hu => ?_⟩
    rw [← h6, List.getElem?_take] at hu
    split at hu
    · simpa using hu
    · cases hu
def ClonePost (w : World) (s : List (Bool × Int)) (e : Ending) (w' : World) : Prop := ∃ p g, e = .returned (.pointer (some ⟨p, 0, none⟩)) ∧ TabAt w' p g s ∧ Fr [] w w' ∧ w.heap.size ≤ p ∧ w.heap.size ≤ g
def SCl (w : World) (s : List (Bool × Int)) (e : Ending) (w' : World) : Prop := ∃ g cap cs, e = .returned (.slice (some ⟨g, 0, none⟩) s.length cap) ∧ Blk w' g 81 cs ∧ (∀ (j : Nat) (u : Value), (encP s)[j]? = some u → cs[j]? = some u) ∧ Fr [] w w' ∧ w.heap.size ≤ g
set_option maxHeartbeats 400000 in
theorem sclone_any (g cap : Nat) (s : List (Bool × Int)) (cs : Array Value) (w : World) (hb : Blk w g 81 cs) (hc : ∀ (j : Nat) (u : Value), (encP s)[j]? = some u → cs[j]? = some u) (hn : s.length ≤ 8) :
    Calls Try.prog 45 #[.slice (some ⟨g, 0, none⟩) s.length cap] w (SCl w s) := by
  obtain ⟨i0, hi0, hz0, hz1, hz2⟩ := info3 Try.info81
  have hnil := fun w => Lib.run_eql_slice_nil (P := Try.prog) w 76 81 (some ⟨g, 0, none⟩) s.length cap 0 0 Try.underlying76
  have Hf0 := Lib.hid ((Fr.refl [] w).alloc (.cells #[] 81))
  have hm0 : (w.alloc (.cells #[] 81)).ownsRow w.heap.size 81 2 (.slice (some ⟨w.heap.size, 0, none⟩) 0 0) 0 [] := World.ownsRow_made w #[] 0 (Nat.le_refl _) (by simp [maxLen]) (by simp)
  have Hm0 := Lib.hid hm0
  have hcell : ∀ (j : Nat) (u : Value), (encP s)[j]? = some u → (w.alloc (.cells #[] 81)).cell? ((⟨g, 0, none⟩ : Addr).add j) = some u := by
    intro j u hu
    rw [addr_add, (hb.alloc (.cells #[] 81)).cell, Nat.zero_add]
    exact hc j u hu
  have Hcell := Lib.hid hcell
  clear hm0 hb hc hcell
  go_enter Try.func45, Try.ntmps45
  go_wp2_with (at_builtin; go_must (refine wpList_append_own _ rfl (.tmp 5) (.tmp 6) 76 rfl w.heap.size 81 i0 (.agg #[.bool false, .int .i64 0]) 2 16 Try.underlying76 hi0 hz0 hz1 hz2 rfl (by decide) _ _ _ rfl Hm0.out _ s.length cap (encP s) rfl (encP_len s) Hcell.out (encP_one _) (by simp only [maxLen]; omega) (by omega) (by simp) ?_; intro v1 w1 hown1 hgrow1 hnn; have hf1 := Hf0.out.own Hm0.out hgrow1))
  go_ret
  have hv : v1 ≠ .slice none 0 0 := fun h => by have := (hnn.1 h).1; cases this
  obtain ⟨g1, cap1, cs1, rfl, h1, h2, h3, h4⟩ := own_some hown1 hv
  refine ⟨g1, cap1, cs1, ?_, h3, by simpa using h4, hf1, h1⟩
  simp
set_option maxHeartbeats 400000 in
theorem Clone_any (p g : Nat) (s : List (Bool × Int)) (w : World) (h : TabAt w p g s) (hn : s.length ≤ 8) : Calls Try.prog 28 #[.pointer (some ⟨p, 0, none⟩)] w (ClonePost w s) := by
  obtain ⟨cap, cs, h1, h2, h3⟩ := h
  have c0 := h1.cell 0
  simp at c0
  have HC := Lib.hid (sclone_any g cap s cs w h2 h3 hn)
  clear h1 h2 h3
  go_enter Try.func28, Try.ntmps28
  go_wp2_with (go_at_call 45; go_must ((with_reducible refine (HC.out).mono ?_); rintro e w1 ⟨g1, cap1, cs1, rfl, hb1, hc1, hf1, hg1⟩))
  go_ret
  exact ⟨w1.heap.size, g1, rfl, ⟨cap1, cs1, Blk.new _ _ _, hb1.alloc _, hc1⟩, hf1.alloc _, hf1.size, hg1⟩
end Go.Proofs.Ytnpdljmgjpngaaa
