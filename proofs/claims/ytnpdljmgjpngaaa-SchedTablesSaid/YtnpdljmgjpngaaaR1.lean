/- The reference's frame: each tick's window and place. -/
import Derived.Test.YtnpdljmgjpngaaaW9
import Derived.Test.YtnpdljmgjpngaaaLib2
namespace Go.Proofs.Ytnpdljmgjpngaaa
open Go.RowKit
set_option linter.unusedVariables false
set_option linter.unusedSimpArgs false

/-- The ticks of one window. -/
def rowOf (i : Nat) (T : Nat) : List (Int × Int) := (List.range T).map fun (k : Nat) => ((i : Int), (k : Int))
/-- The ticks of the windows from number i on. -/
def flF : Nat → List Win → List (Int × Int)
  | _, [] => []
  | i, x :: l => rowOf i x.T.toNat ++ flF (i + 1) l
def fl (l : List Win) : List (Int × Int) := flF 0 l
theorem flF_snoc (x : Win) : ∀ (l : List Win) (i : Nat), flF i (l ++ [x]) = flF i l ++ rowOf (i + l.length) x.T.toNat := by
  intro l
  induction l with
  | nil => intro i; simp [flF]
  | cons y l ih => intro i; simp [flF, ih, List.append_assoc, Nat.add_assoc, Nat.add_comm 1]
theorem fl_take_succ {l : List Win} {k : Nat} {x : Win} (h : l[k]? = some x) : fl (l.take (k + 1)) = fl (l.take k) ++ rowOf k x.T.toNat := by
  have hk : k < l.length := (List.getElem?_eq_some_iff.1 h).1
  rw [List.take_add_one, h]
  show flF 0 (l.take k ++ [x]) = _
  rw [flF_snoc, List.length_take, Nat.zero_add, Nat.min_eq_left (by omega)]
  rfl
theorem rowOf_succ (i T : Nat) : rowOf i (T + 1) = rowOf i T ++ [((i : Int), (T : Int))] := by simp [rowOf, List.range_succ]
theorem rowOf_len (i T : Nat) : (rowOf i T).length = T := by simp [rowOf]
theorem fl_len {l : List Win} (h : okL l = true) : ∀ k, k ≤ l.length → ((fl (l.take k)).length : Int) = tot l k := by
  intro k
  induction k with
  | zero => intro _; simp [fl, flF, tot]
  | succ k ih =>
    intro hk
    have hx : l[k]? = some l[k] := List.getElem?_eq_getElem (by omega)
    have hm := (mayW_iff _).1 (okL_at h hx)
    rw [fl_take_succ hx, List.length_append, rowOf_len, tot_succ hx, ← ih (by omega)]
    omega
theorem fl_all {l : List Win} (h : okL l = true) : ((fl l).length : Int) = tot l l.length := by
  have := fl_len h l.length (Nat.le_refl _)
  rwa [List.take_length] at this
/-- What stands at a place of the frame. -/
theorem fl_get {l : List Win} (h : okL l = true) {r : Nat} (hr : r < (fl l).length) : ∃ k, InWin l k r ∧ (fl l)[r]? = some ((k : Int), (r : Int) - tot l k) := by
  have key : ∀ m, m ≤ l.length → ∀ r : Nat, (r : Int) < tot l m → ∃ k, k < m ∧ tot l k ≤ r ∧ (r : Int) < tot l (k + 1) ∧ (fl (l.take m))[r]? = some ((k : Int), (r : Int) - tot l k) := by
    intro m
    induction m with
    | zero => intro _ r hr; simp [tot] at hr; omega
    | succ m ih =>
      intro hm r hr
      have hx : l[m]? = some l[m] := List.getElem?_eq_getElem (by omega)
      have hmw := (mayW_iff _).1 (okL_at h hx)
      have hlen := fl_len h m (by omega)
      rw [fl_take_succ hx]
      by_cases hlt : (r : Int) < tot l m
      · obtain ⟨k, h1, h2, h3, h4⟩ := ih (by omega) r hlt
        refine ⟨k, by omega, h2, h3, ?_⟩
        rw [List.getElem?_append_left (by omega)]
        exact h4
      · refine ⟨m, by omega, by omega, hr, ?_⟩
        rw [tot_succ hx] at hr
        rw [List.getElem?_append_right (by omega)]
        simp only [rowOf, List.getElem?_map]
        rw [List.getElem?_range (by omega)]
        simp
        omega
  have h1 := fl_all h
  obtain ⟨k, h2, h3, h4, h5⟩ := key l.length (Nat.le_refl _) r (by omega)
  rw [List.take_length] at h5
  exact ⟨k, ⟨h2, h3, h4⟩, h5⟩
theorem inWin_uniq {l : List Win} (h : okL l = true) {j k : Nat} {r : Int} (h1 : InWin l j r) (h2 : InWin l k r) : j = k := by
  obtain ⟨a1, a2, a3⟩ := h1
  obtain ⟨b1, b2, b3⟩ := h2
  rcases Nat.lt_trichotomy j k with hlt | rfl | hlt
  · exfalso
    have : tot l (j + 1) ≤ tot l k := by
      rcases Nat.lt_or_ge (j + 1) k with h3 | h3
      · have := tot_lt h h3 (by omega); omega
      · have : j + 1 = k := by omega
        subst this; omega
    omega
  · rfl
  · exfalso
    have : tot l (k + 1) ≤ tot l j := by
      rcases Nat.lt_or_ge (k + 1) j with h3 | h3
      · have := tot_lt h h3 (by omega); omega
      · have : k + 1 = j := by omega
        subst this; omega
    omega

/-- The cells of rows of two numbers. -/
def enc2 : List (Int × Int) → List Value
  | [] => []
  | p :: l => .int .i64 p.1 :: .int .i64 p.2 :: enc2 l
theorem enc2_len (l : List (Int × Int)) : (enc2 l).length = l.length * 2 := by
  induction l with
  | nil => rfl
  | cons p l ih => simp [enc2, ih]; omega
theorem enc2_app (l m : List (Int × Int)) : enc2 (l ++ m) = enc2 l ++ enc2 m := by
  induction l with
  | nil => rfl
  | cons p l ih => simp [enc2, ih]
theorem enc2_get {l : List (Int × Int)} : ∀ {i : Nat} {p : Int × Int}, l[i]? = some p → (enc2 l)[i * 2]? = some (.int .i64 p.1) ∧ (enc2 l)[i * 2 + 1]? = some (.int .i64 p.2) := by
  induction l with
  | nil => intro i p h; simp at h
  | cons q l ih =>
    intro i p h
    cases i with
    | zero => simp at h; subst h; simp [enc2]
    | succ i =>
      simp at h
      have := ih h
      rw [show (i + 1) * 2 = i * 2 + 1 + 1 by omega]
      simpa [enc2] using this
/-- A frame in memory. -/
def FrIn (w : World) (v : Value) (f : List (Int × Int)) : Prop :=
  ∃ g cap, v = .slice (some ⟨g, 0, none⟩) f.length cap ∧ ∀ i p, f[i]? = some p → w.cell? ⟨g, i * 2, none⟩ = some (.int .i64 p.1) ∧ w.cell? ⟨g, i * 2 + 1, none⟩ = some (.int .i64 p.2)
theorem FrIn.fr {w w' : World} {v : Value} {f : List (Int × Int)} (h : FrIn w v f) (hf : Fr [] w w') : FrIn w' v f := by
  obtain ⟨g, cap, h1, h2⟩ := h
  exact ⟨g, cap, h1, fun i p hi => ⟨hf.cell_some (h2 i p hi).1 (by simp), hf.cell_some (h2 i p hi).2 (by simp)⟩⟩
theorem FrIn.of_own {w : World} {base : Nat} {v : Value} {f : List (Int × Int)} (h : w.ownsRow base 74 2 v f.length (enc2 f)) (hl : 0 < f.length) : FrIn w v f := by
  rcases h.2 with ⟨_, h2⟩ | ⟨g, cap, cur, rfl, hb, hh, h3, h4, h5, h6⟩
  · omega
  · refine ⟨g, cap, rfl, fun i p hi => ?_⟩
    have hb : Blk w g 74 cur := hh
    have key : ∀ j u, (enc2 f)[j]? = some u → w.cell? ⟨g, j, none⟩ = some u := by
      intro j u hu
      rw [hb.cell]
      rw [← h6, List.getElem?_take] at hu
      split at hu
      · simpa using hu
      · cases hu
    exact ⟨key _ _ (enc2_get hi).1, key _ _ (enc2_get hi).2⟩

theorem Try.info74 : (Try.prog.info? 74).map (fun i => (i.zero, i.size, i.bytes)) = some (some (.agg #[.int .i64 0, .int .i64 0]), 2, 16) := by kernel_rfl

/-- What has been collected. -/
def FrRel (w : World) (f : List (Int × Int)) (v : Value) (wr : World) : Prop := wr.ownsRow w.heap.size 74 2 v f.length (enc2 f) ∧ Fr [] w wr
theorem FrRel.push {w W w' : World} {f : List (Int × Int)} {v v' : Value} {a b : Int} {o : Obj} {m : Nat} (h : FrRel w f v W) (h1 : w'.ownsRow w.heap.size 74 2 v' m (enc2 f ++ [.int .i64 a, .int .i64 b])) (hm : m = f.length + 1) (h2 : (W.alloc o).grownBy w' v.ownBlock) : FrRel w (f ++ [(a, b)]) v' w' := by
  subst hm
  refine ⟨?_, (h.2.alloc o).own (h.1.alloc o) h2⟩
  rw [enc2_app, List.length_append]
  exact h1
theorem FrRel.start (w : World) : FrRel w (fl ([] : List Win)) (.slice (some ⟨w.heap.size, 0, none⟩) 0 0) (w.alloc (.cells #[] 74)) :=
  ⟨⟨rfl, .inr ⟨w.heap.size, 0, #[], rfl, Nat.le_refl _, Blk.new w 74 #[], Nat.le_refl _, by simp [maxLen], rfl, rfl⟩⟩, (Fr.refl _ _).alloc _⟩

set_option maxRecDepth 100000 in
set_option maxHeartbeats 2000000 in
theorem frame_any (A : Option Addr) (n cap : Nat) (l : List Win) (w : World) (h : WinsIn w (.slice A n cap) l) (hok : okL l = true) :
    Calls Try.prog 33 #[.slice A n cap] w fun e w' => ∃ v, e = .returned v ∧ FrIn w' v (fl l) ∧ Fr [] w w' := by
  obtain ⟨i0, hi0, hz0, hz1, hz2⟩ := info3 Try.info74
  have hl := okL_len hok
  have hlen := h.len
  have hn : n ≤ 64 := by omega
  have Hlen := Lib.hid hlen
  have H := Lib.hid h
  clear h hlen
  go_enter Try.func33, Try.ntmps33
  go_wp2
  go_loopg [3, 4] n (fun g v i wr => ∃ (k m gb cap' : Nat), k + g = n ∧ i = .int .i64 k ∧ v = .slice (some ⟨gb, 0, none⟩) m cap' ∧ m = (fl (l.take k)).length ∧ FrRel w (fl (l.take k)) (.slice (some ⟨gb, 0, none⟩) m cap') wr)
  case atStart => exact ⟨0, 0, w.heap.size, 0, by omega, rfl, rfl, rfl, FrRel.start w⟩
  case round =>
    obtain ⟨k, m, gb, cap', hk, rfl, rfl, hm, hF⟩ := hrel
    have Hk := Lib.hid hk
    have HF := Lib.hid hF
    have Hm := Lib.hid hm
    have hfr := hF.2
    by_cases hlt : k < n
    · obtain ⟨x, hx⟩ : ∃ x, l[k]? = some x := ⟨_, List.getElem?_eq_getElem (by have := Hlen.out; omega)⟩
      have hmw := (mayW_iff x).1 (okL_at hok hx)
      have hmb : m ≤ 255 * 64 := by
        have h0 := Hlen.out
        have h1 := fl_len hok k (by omega)
        have h2 := tot_bd hok k (by omega)
        omega
      have HT := Lib.hid (fl_take_succ hx)
      have Hx := Lib.hid hx
      clear hx hm hF
      obtain ⟨wo, rfl⟩ : ∃ wo : World, wo = wr := ⟨_, rfl⟩
      go_wp2
      go_loopg [3, 5] x.T.toNat (fun g v i wr => ∃ (j m' gb' cap'' : Nat), j + g = x.T.toNat ∧ i = .int .i64 j ∧ v = .slice (some ⟨gb', 0, none⟩) m' cap'' ∧ m' = m + j ∧ FrRel w (fl (l.take k) ++ rowOf k j) (.slice (some ⟨gb', 0, none⟩) m' cap'') wr)
      case atStart => exact ⟨0, m, gb, cap', by omega, rfl, rfl, rfl, by simpa [rowOf] using HF.out⟩
      case round =>
        obtain ⟨j, m', gb', cap'', hj, rfl, rfl, hm', hF'⟩ := hrel
        have Hj := Lib.hid hj
        have HF' := Lib.hid hF'
        have Hm' := Lib.hid hm'
        obtain ⟨b, off, hA, hbl, c0, c1, c2⟩ := (H.out.fr hF'.2).at_ Hx.out
        subst hA
        have hmb' : m' ≤ 255 * 64 + 255 := by omega
        have hws := hF'.2.size
        by_cases hjt : (j : Int) < x.T
        · clear hk hj hm' hF'
          have hX := HF'.out.1.alloc (.cells #[.int .i64 k, .int .i64 j] 74)
          rw [show (fl (l.take k) ++ rowOf k j).length = m' by rw [List.length_append, rowOf_len, Hm'.out, Hm.out]] at hX
          have HX := Lib.hid hX
          clear hX
          go_wp2_with (first
            | (at_builtin
               refine wpList_append_own _ rfl _ _ 64 rfl w.heap.size 74 i0 (.agg #[.int .i64 0, .int .i64 0]) 2 16 Try.underlying64 hi0 hz0 hz1 hz2 rfl (by decide) _ _ _ rfl HX.out ⟨wr.heap.size, 0, none⟩ 1 1 [.int .i64 k, .int .i64 j] rfl rfl (news2 (by simp [go_sem]) (by simp [go_sem])) (by simp [Value.oneCell']) (by simp only [maxLen]; omega) (by omega) (by simp; omega) ?_
               go_must (intro v' w4 hown4 hgrow4 _; obtain ⟨kx, px, rfl⟩ := own_succ hown4))
            | fail)
          go_roundg (x.T.toNat - (j + 1))
          case measure => have := Hj.out; omega
          case rel => exact ⟨j + 1, m' + 1, kx, px, by have := Hj.out; omega, by go_num, rfl, by have := Hm'.out; omega, by rw [rowOf_succ, ← List.append_assoc]; exact HF'.out.push hown4 (by rw [List.length_append, rowOf_len, ← Hm.out, Hm'.out]) hgrow4⟩
        · have hje : j = x.T.toNat := by omega
          have HE := Lib.hid hje
          clear hk hj hm' hF' hje
          go_wp2
          go_roundg (n - (k + 1))
          case measure => have := Hk.out; omega
          case rel => exact ⟨k + 1, m', gb', cap'', by have := Hk.out; omega, by go_num, rfl, by rw [HT.out, List.length_append, rowOf_len, ← Hm.out, Hm'.out, HE.out], by rw [HT.out, ← HE.out]; exact HF'.out⟩
    · have hkl : k = l.length := by have := Hlen.out; omega
      have hne : 0 < (fl l).length := by have := fl_all hok; have := tot_bd hok l.length (Nat.le_refl _); omega
      have hfin := hF
      rw [hkl, List.take_length] at hfin
      rw [hkl, List.take_length] at hm
      have Hfin := Lib.hid hfin
      have HM := Lib.hid hm
      clear hk hm hF hkl hfin
      go_wp2
      go_ret
      exact ⟨_, rfl, FrIn.of_own Hfin.out.1 hne, Hfin.out.2⟩
end Go.Proofs.Ytnpdljmgjpngaaa
