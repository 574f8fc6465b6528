/- Tables: the program's methods. -/
import Derived.Test.YtnpdljmgjpngaaaL0
namespace Go.Proofs.Ytnpdljmgjpngaaa
open Go.RowKit
set_option linter.unusedVariables false
set_option linter.unusedSimpArgs false

/-- What a table knows: of each partition whether it runs, and how often it was started. -/
def encP : List (Bool × Int) → List Value
  | [] => []
  | x :: l => .bool x.1 :: .int .i64 x.2 :: encP l
theorem encP_get : ∀ {l : List (Bool × Int)} {i : Nat} {x : Bool × Int}, l[i]? = some x → (encP l)[i * 2]? = some (.bool x.1) ∧ (encP l)[i * 2 + 1]? = some (.int .i64 x.2) := by
  intro l
  induction l with
  | nil => intro i x h; simp at h
  | cons y l ih =>
    intro i x h
    cases i with
    | zero => simp at h; subst h; simp [encP]
    | succ i =>
      simp at h
      have := ih h
      rw [show (i + 1) * 2 = i * 2 + 1 + 1 by omega]
      simpa [encP] using this
theorem encP_len (l : List (Bool × Int)) : (encP l).length = l.length * 2 := by
  induction l with
  | nil => rfl
  | cons x l ih => simp [encP, ih]; omega
theorem encP_set : ∀ {l : List (Bool × Int)} {i : Nat} {x : Bool × Int}, encP (l.set i x) = ((encP l).set (i * 2) (.bool x.1)).set (i * 2 + 1) (.int .i64 x.2) := by
  intro l
  induction l with
  | nil => intro i x; simp [encP]
  | cons y l ih =>
    intro i x
    cases i with
    | zero => simp [encP]
    | succ i =>
      rw [show (i + 1) * 2 = i * 2 + 1 + 1 by omega]
      simp [encP, ih]
/-- A table in memory: its own block p, and its parts' block g. -/
def TabAt (w : World) (p g : Nat) (s : List (Bool × Int)) : Prop :=
  ∃ (cap : Nat) (cs : Array Value), Blk w p 78 #[.slice (some ⟨g, 0, none⟩) s.length cap] ∧ Blk w g 81 cs ∧ ∀ (j : Nat) (u : Value), (encP s)[j]? = some u → cs[j]? = some u
theorem TabAt.fr {w w' : World} {p g : Nat} {s : List (Bool × Int)} {S : List Nat} (h : TabAt w p g s) (hf : Fr S w w') (hp : p ∉ S) (hg : g ∉ S) : TabAt w' p g s := by
  obtain ⟨cap, cs, h1, h2, h3⟩ := h
  exact ⟨cap, cs, h1.fr hf hp, h2.fr hf hg, h3⟩
theorem TabAt.ne {w : World} {p g p' g' : Nat} {s s' : List (Bool × Int)} (h : TabAt w p g s) (h' : TabAt w p' g' s') : p ≠ g' := by
  obtain ⟨cap, cs, h1, h2, h3⟩ := h
  obtain ⟨cap', cs', h1', h2', h3'⟩ := h'
  exact h1.ne_ h2' (by decide)
theorem TabAt.lt {w : World} {p g : Nat} {s : List (Bool × Int)} (h : TabAt w p g s) : p < w.heap.size ∧ g < w.heap.size := by
  obtain ⟨cap, cs, h1, h2, h3⟩ := h
  exact ⟨h1.lt, h2.lt⟩
theorem TabAt.cells {w : World} {p g : Nat} {s : List (Bool × Int)} (h : TabAt w p g s) : ∃ cap, w.cell? ⟨p, 0, none⟩ = some (.slice (some ⟨g, 0, none⟩) s.length cap) ∧ (∀ i, w.frozen? ⟨g, i, none⟩ = false) ∧
    ∀ i x, s[i]? = some x → w.cell? ⟨g, i * 2, none⟩ = some (.bool x.1) ∧ w.cell? ⟨g, i * 2 + 1, none⟩ = some (.int .i64 x.2) := by
  obtain ⟨cap, cs, h1, h2, h3⟩ := h
  refine ⟨cap, by rw [h1.cell]; rfl, h2.frozen, fun i x hx => ?_⟩
  have := encP_get hx
  exact ⟨by rw [h2.cell]; exact h3 _ _ this.1, by rw [h2.cell]; exact h3 _ _ this.2⟩
/-- One part's flag is stored. -/
theorem TabAt.setR {w : World} {p g : Nat} {s : List (Bool × Int)} {i : Nat} {x : Bool × Int} (h : TabAt w p g s) (hx : s[i]? = some x) (b : Bool) : TabAt (w.setCell ⟨g, i * 2, none⟩ (.bool b)) p g (s.set i (b, x.2)) := by
  obtain ⟨cap, cs, h1, h2, h3⟩ := h
  have hpg : p ≠ g := h1.ne_ h2 (by decide)
  refine ⟨cap, _, by rw [List.length_set]; exact h1.far hpg _, h2.set_ _ _, fun j u hu => ?_⟩
  have he := encP_get hx
  rw [encP_set] at hu
  have hl := encP_len s
  have hil : i < s.length := (List.getElem?_eq_some_iff.1 hx).1
  simp only [List.getElem?_set, List.length_set] at hu
  by_cases h5 : i * 2 + 1 = j
  · subst h5
    rw [if_pos rfl, if_pos (by omega)] at hu
    rw [Array.getElem?_setIfInBounds_ne (by omega)]
    rw [← hu]
    exact h3 _ _ he.2
  · rw [if_neg h5] at hu
    by_cases h6 : i * 2 = j
    · subst h6
      rw [if_pos rfl, if_pos (by omega)] at hu
      have := h3 _ _ he.1
      rw [Array.getElem?_setIfInBounds_self_of_lt (Array.getElem?_eq_some_iff.1 this).1]
      exact hu
    · rw [if_neg h6] at hu
      rw [Array.getElem?_setIfInBounds_ne h6]
      exact h3 _ _ hu
theorem TabAt.setS {w : World} {p g : Nat} {s : List (Bool × Int)} {i : Nat} {x : Bool × Int} (h : TabAt w p g s) (hx : s[i]? = some x) (z : Int) : TabAt (w.setCell ⟨g, i * 2 + 1, none⟩ (.int .i64 z)) p g (s.set i (x.1, z)) := by
  obtain ⟨cap, cs, h1, h2, h3⟩ := h
  have hpg : p ≠ g := h1.ne_ h2 (by decide)
  refine ⟨cap, _, by rw [List.length_set]; exact h1.far hpg _, h2.set_ _ _, fun j u hu => ?_⟩
  have he := encP_get hx
  rw [encP_set] at hu
  have hl := encP_len s
  have hil : i < s.length := (List.getElem?_eq_some_iff.1 hx).1
  simp only [List.getElem?_set, List.length_set] at hu
  by_cases h5 : i * 2 + 1 = j
  · subst h5
    rw [if_pos rfl, if_pos (by omega)] at hu
    have := h3 _ _ he.2
    rw [Array.getElem?_setIfInBounds_self_of_lt (Array.getElem?_eq_some_iff.1 this).1]
    exact hu
  · rw [if_neg h5] at hu
    rw [Array.getElem?_setIfInBounds_ne h5]
    by_cases h6 : i * 2 = j
    · subst h6
      rw [if_pos rfl, if_pos (by omega)] at hu
      rw [← hu]
      exact h3 _ _ he.1
    · rw [if_neg h6] at hu
      exact h3 _ _ hu

theorem is_yes (p g : Nat) (s : List (Bool × Int)) (w : World) (i : Int) (h : TabAt w p g s) (hl : s.length ≤ 8) (h1 : 0 ≤ i) (h2 : i < s.length) :
    Calls Try.prog 43 #[.pointer (some ⟨p, 0, none⟩), .int .i64 i] w fun e w' => e = .returned (.bool true) ∧ w = w' := by
  obtain ⟨cap, c0, -, -⟩ := h.cells
  go_enter Try.func43, Try.ntmps43
  go_wp2_with (go_at_call 34; go_must (refine (in_yes _ _ _ _ ?h1 ?h2).mono ?_; (case h1 => exact h1); (case h2 => omega); rintro e w' ⟨rfl, rfl⟩))
  go_ret
  exact ⟨rfl, rfl⟩
theorem is_no (p g : Nat) (s : List (Bool × Int)) (w : World) (i : Int) (h : TabAt w p g s) (hl : s.length ≤ 8) (h1 : i < 0 ∨ (s.length : Int) ≤ i) :
    Calls Try.prog 43 #[.pointer (some ⟨p, 0, none⟩), .int .i64 i] w fun e w' => e = .returned (.bool false) ∧ w = w' := by
  obtain ⟨cap, c0, -, -⟩ := h.cells
  have H1 := Lib.hid h1
  clear h1
  go_enter Try.func43, Try.ntmps43
  go_wp2_with (go_at_call 34; go_must (refine (in_no _ _ _ _ ?h1).mono ?_; (case h1 => have := H1.out; omega); rintro e w' ⟨rfl, rfl⟩))
  go_ret
  exact ⟨rfl, rfl⟩

/-- Is there such a partition? -/
def has (s : List (Bool × Int)) (i : Int) : Bool := decide (0 ≤ i) && decide (i < s.length)
theorem has_yes {s : List (Bool × Int)} {i : Int} (h : has s i = true) : ∃ j : Nat, i = j ∧ j < s.length ∧ ∃ x, s[j]? = some x := by
  unfold has at h
  simp at h
  exact ⟨i.toNat, by omega, by omega, _, List.getElem?_eq_getElem (by omega)⟩
theorem has_no {s : List (Bool × Int)} {i : Int} (h : has s i = false) : i < 0 ∨ (s.length : Int) ≤ i := by
  unfold has at h
  rw [Bool.and_eq_false_iff, decide_eq_false_iff_not, decide_eq_false_iff_not] at h
  omega
def entB (s : List (Bool × Int)) (i : Int) : Bool := has s i && !((s.getD i.toNat (true, 0)).1)
def argE (s : List (Bool × Int)) (i : Int) : Int := if has s i then 0 else 1
def entS (s : List (Bool × Int)) (i : Int) : List (Bool × Int) := if entB s i then s.set i.toNat (true, (s.getD i.toNat (true, 0)).2 + 1) else s
def trapS (s : List (Bool × Int)) (i : Int) : List (Bool × Int) := if has s i then s.set i.toNat (false, (s.getD i.toNat (true, 0)).2) else s
def runsV (s : List (Bool × Int)) (i : Int) : Bool := has s i && (s.getD i.toNat (true, 0)).1
def startsV (s : List (Bool × Int)) (i : Int) : Int := if has s i then (s.getD i.toNat (true, 0)).2 else 0
theorem getD_some {s : List (Bool × Int)} {j : Nat} {x : Bool × Int} (h : s[j]? = some x) : s.getD ((j : Int)).toNat (true, 0) = x := by simp [List.getD_eq_getElem?_getD, h]

set_option maxHeartbeats 400000 in
theorem Enter_any (p g : Nat) (s : List (Bool × Int)) (w : World) (i : Int) (h : TabAt w p g s) (hl : s.length ≤ 8) (hs : ∀ x, x ∈ s → 0 ≤ x.2 ∧ x.2 ≤ 4611686018427387904) :
    Calls Try.prog 20 #[.pointer (some ⟨p, 0, none⟩), .int .i64 i] w fun e w' => e = .returned (.tuple #[.bool (entB s i), .int .i64 (argE s i)]) ∧ TabAt w' p g (entS s i) ∧ Fr [g] w w' := by
  cases hh : has s i with
  | false =>
    have Hn := Lib.hid (is_no p g s w i h hl (has_no hh))
    have H := Lib.hid h
    have Hh := Lib.hid hh
    clear h hh
    go_enter Try.func20, Try.ntmps20
    go_wp2_with (go_at_call 43; go_must ((with_reducible refine (Hn.out).mono ?_); rintro e w1 ⟨rfl, rfl⟩))
    go_ret2
    refine ⟨?_, ?_, Fr.refl _ _⟩
    · rw [entB, argE, Hh.out]; rfl
    · rw [entS, entB, Hh.out]; exact H.out
  | true =>
    obtain ⟨j, rfl, hj, ⟨r, z⟩, hx⟩ := has_yes hh
    have Hy := Lib.hid (is_yes p g s w (j : Int) h hl (by omega) (by omega))
    obtain ⟨cap, c0, cf, cc⟩ := h.cells
    obtain ⟨c1, c2⟩ := cc j _ hx
    have hz := hs _ (List.mem_of_getElem? hx)
    have hzb : z ≤ 4611686018427387904 := hz.2
    have hz0 : 0 ≤ z := hz.1
    have hjl : (j : Int) < s.length := by omega
    have H := Lib.hid h
    have Hh := Lib.hid hh
    have Hx := Lib.hid hx
    have hgd := getD_some hx
    have Hgd := Lib.hid hgd
    have hpn := (h.ne h)
    clear h hh hx hgd cc hz
    simp only at c1 c2
    cases r with
    | true =>
      go_enter Try.func20, Try.ntmps20
      go_wp2_with (go_at_call 43; go_must ((with_reducible refine (Hy.out).mono ?_); rintro e w1 ⟨rfl, rfl⟩))
      go_ret2
      refine ⟨?_, ?_, Fr.refl _ _⟩
      · rw [entB, argE, Hh.out, Hgd.out]; rfl
      · rw [entS, entB, Hh.out, Hgd.out]; exact H.out
    | false =>
      have hfin := (H.out.setR Hx.out true).setS (i := j) (x := (true, z)) (by simp [hj]) (z + 1)
      rw [List.set_set] at hfin
      have Hfin := Lib.hid hfin
      clear hfin
      go_enter Try.func20, Try.ntmps20
      go_wp2_with (go_at_call 43; go_must ((with_reducible refine (Hy.out).mono ?_); rintro e w1 ⟨rfl, rfl⟩))
      go_ret2
      refine ⟨?_, ?_, ((Fr.refl _ _).setCell (.inl (by simp)) _).setCell (.inl (by simp)) _⟩
      · rw [entB, argE, Hh.out, Hgd.out]; rfl
      · rw [entS, entB, Hh.out, Hgd.out]
        exact Hfin.out

set_option maxHeartbeats 400000 in
theorem Trap_any (p g : Nat) (s : List (Bool × Int)) (w : World) (i : Int) (h : TabAt w p g s) (hl : s.length ≤ 8) :
    Calls Try.prog 21 #[.pointer (some ⟨p, 0, none⟩), .int .i64 i] w fun e w' => e = .returned (.int .i64 (argE s i)) ∧ TabAt w' p g (trapS s i) ∧ Fr [g] w w' := by
  cases hh : has s i with
  | false =>
    have Hn := Lib.hid (is_no p g s w i h hl (has_no hh))
    have H := Lib.hid h
    have Hh := Lib.hid hh
    clear h hh
    go_enter Try.func21, Try.ntmps21
    go_wp2_with (go_at_call 43; go_must ((with_reducible refine (Hn.out).mono ?_); rintro e w1 ⟨rfl, rfl⟩))
    go_ret
    refine ⟨?_, ?_, Fr.refl _ _⟩
    · rw [argE, Hh.out]; rfl
    · rw [trapS, Hh.out]; exact H.out
  | true =>
    obtain ⟨j, rfl, hj, ⟨r, z⟩, hx⟩ := has_yes hh
    have Hy := Lib.hid (is_yes p g s w (j : Int) h hl (by omega) (by omega))
    obtain ⟨cap, c0, cf, cc⟩ := h.cells
    obtain ⟨c1, c2⟩ := cc j _ hx
    have hjl : (j : Int) < s.length := by omega
    have Hfin := Lib.hid (h.setR hx false)
    have Hh := Lib.hid hh
    have Hgd := Lib.hid (getD_some hx)
    clear h hh hx cc
    simp only at c1 c2
    go_enter Try.func21, Try.ntmps21
    go_wp2_with (go_at_call 43; go_must ((with_reducible refine (Hy.out).mono ?_); rintro e w1 ⟨rfl, rfl⟩))
    go_ret
    refine ⟨?_, ?_, (Fr.refl _ _).setCell (.inl (by simp)) _⟩
    · rw [argE, Hh.out]; rfl
    · rw [trapS, Hh.out, Hgd.out]
      exact Hfin.out

theorem Runs_any (p g : Nat) (s : List (Bool × Int)) (w : World) (i : Int) (h : TabAt w p g s) (hl : s.length ≤ 8) :
    Calls Try.prog 22 #[.pointer (some ⟨p, 0, none⟩), .int .i64 i] w fun e w' => e = .returned (.bool (runsV s i)) ∧ w = w' := by
  cases hh : has s i with
  | false =>
    have Hn := Lib.hid (is_no p g s w i h hl (has_no hh))
    have Hh := Lib.hid hh
    clear h hh
    go_enter Try.func22, Try.ntmps22
    go_wp2_with (go_at_call 43; go_must ((with_reducible refine (Hn.out).mono ?_); rintro e w1 ⟨rfl, rfl⟩))
    go_ret
    refine ⟨?_, rfl⟩
    rw [runsV, Hh.out]; rfl
  | true =>
    obtain ⟨j, rfl, hj, ⟨r, z⟩, hx⟩ := has_yes hh
    have Hy := Lib.hid (is_yes p g s w (j : Int) h hl (by omega) (by omega))
    obtain ⟨cap, c0, cf, cc⟩ := h.cells
    obtain ⟨c1, c2⟩ := cc j _ hx
    have hjl : (j : Int) < s.length := by omega
    have Hh := Lib.hid hh
    have Hgd := Lib.hid (getD_some hx)
    clear h hh hx cc
    simp only at c1 c2
    go_enter Try.func22, Try.ntmps22
    go_wp2_with (go_at_call 43; go_must ((with_reducible refine (Hy.out).mono ?_); rintro e w1 ⟨rfl, rfl⟩))
    go_ret
    refine ⟨?_, rfl⟩
    rw [runsV, Hh.out, Hgd.out]; rfl
theorem Starts_any (p g : Nat) (s : List (Bool × Int)) (w : World) (i : Int) (h : TabAt w p g s) (hl : s.length ≤ 8) :
    Calls Try.prog 23 #[.pointer (some ⟨p, 0, none⟩), .int .i64 i] w fun e w' => e = .returned (.int .i64 (startsV s i)) ∧ w = w' := by
  cases hh : has s i with
  | false =>
    have Hn := Lib.hid (is_no p g s w i h hl (has_no hh))
    have Hh := Lib.hid hh
    clear h hh
    go_enter Try.func23, Try.ntmps23
    go_wp2_with (go_at_call 43; go_must ((with_reducible refine (Hn.out).mono ?_); rintro e w1 ⟨rfl, rfl⟩))
    go_ret
    refine ⟨?_, rfl⟩
    rw [startsV, Hh.out]; rfl
  | true =>
    obtain ⟨j, rfl, hj, ⟨r, z⟩, hx⟩ := has_yes hh
    have Hy := Lib.hid (is_yes p g s w (j : Int) h hl (by omega) (by omega))
    obtain ⟨cap, c0, cf, cc⟩ := h.cells
    obtain ⟨c1, c2⟩ := cc j _ hx
    have hjl : (j : Int) < s.length := by omega
    have Hh := Lib.hid hh
    have Hgd := Lib.hid (getD_some hx)
    clear h hh hx cc
    simp only at c1 c2
    go_enter Try.func23, Try.ntmps23
    go_wp2_with (go_at_call 43; go_must ((with_reducible refine (Hy.out).mono ?_); rintro e w1 ⟨rfl, rfl⟩))
    go_ret
    refine ⟨?_, rfl⟩
    rw [startsV, Hh.out, Hgd.out]; rfl

def new0 (n : Nat) : List (Bool × Int) := List.replicate n (false, 0)
def NewPost (w : World) (n : Int) (e : Ending) (w' : World) : Prop := ∃ p g, e = .returned (.tuple #[.pointer (some ⟨p, 0, none⟩), .int .i64 0]) ∧ TabAt w' p g (new0 n.toNat) ∧ Fr [] w w' ∧ w.heap.size ≤ p ∧ w.heap.size ≤ g
theorem New_no (n : Int) (w : World) (h : n < 0 ∨ 8 < n) : Calls Try.prog 19 #[.int .i64 n] w fun e w' => e = .returned (.tuple #[.pointer none, .int .i64 1]) ∧ w = w' := by
  go_enter Try.func19, Try.ntmps19
  go_wp2_with (go_at_call 34; go_must (refine (in_no _ _ _ _ ?h1).mono ?_; (case h1 => exact h); rintro e w' ⟨rfl, rfl⟩))
  go_ret2
  exact ⟨rfl, rfl⟩
theorem mk76 : ∀ (n : Nat), n ≤ 8 → ∀ w : World, (Instr.makeSlice 76 (.int .i64 (n : Int)) (.int .i64 (n : Int))).run Try.prog w = .ok (.slice (some ⟨w.heap.size, 0, none⟩) n n) (w.alloc (.cells (encP (new0 n)).toArray 81))
  | 0, _ => fun _ => by kernel_rfl
  | 1, _ => fun _ => by kernel_rfl
  | 2, _ => fun _ => by kernel_rfl
  | 3, _ => fun _ => by kernel_rfl
  | 4, _ => fun _ => by kernel_rfl
  | 5, _ => fun _ => by kernel_rfl
  | 6, _ => fun _ => by kernel_rfl
  | 7, _ => fun _ => by kernel_rfl
  | 8, _ => fun _ => by kernel_rfl
  | _ + 9, h => absurd h (by omega)
theorem New_ok (n : Nat) (w : World) (h : n ≤ 8) : Calls Try.prog 19 #[.int .i64 (n : Int)] w fun e w' => NewPost w n e w' := by
  have hmk := mk76 n h
  obtain ⟨cs, hcs⟩ : ∃ cs, cs = (encP (new0 n)).toArray := ⟨_, rfl⟩
  rw [← hcs] at hmk
  have Hcs := Lib.hid hcs
  clear hcs
  go_enter Try.func19, Try.ntmps19
  go_wp2_with (go_at_call 34; go_must (refine (in_yes _ _ _ _ ?h1 ?h2).mono ?_; (case h1 => omega); (case h2 => omega); rintro e w' ⟨rfl, rfl⟩))
  go_ret2
  refine ⟨w.heap.size + 1, w.heap.size, rfl, ⟨n, cs, ?_, (Blk.new _ _ _).alloc _, ?_⟩, ((Fr.refl _ _).alloc _).alloc _, ?_, ?_⟩
  · simp only [Int.toNat_natCast, new0, List.length_replicate]
    exact Blk.new' (by simp)
  · intro j u hu
    rw [Hcs.out, List.getElem?_toArray]
    exact hu
  · simp
  · simp
end Go.Proofs.Ytnpdljmgjpngaaa
